import Derived.Test.YtbldhkgfeolhnaaH19b
import Derived.Test.YtbldhkgfeolhnaaGD29
namespace Go.Proofs.Ytbldhkgfeolhnaa.D
open Go Go.GD Go.Proofs Go.RowKit Go.Shelf

abbrev ckTy : Ty := .pair (.sl (.int .i64)) (.pair (.int .i64) (.sl (.pair (.int .i64) (.pair (.int .i64) (.int .i64)))))
abbrev sgTy : Ty := .pair (.int .i64) (.pair (.int .i64) (.int .i64))
def lastD (x : (List Int × Int × List Sg) × Int × Int) : Option (Sg × Bool) := bif Nat.ble x.1.2.2.length 9223372036854775807 then some (lastV x.1.2.2 x.2.1 x.2.2) else none

theorem does_last : Does Try.prog 17 [ckTy, .int .i64, .int .i64] [sgTy, .bool] true lastD := by
  intro w Ok cs x y hX hy
  obtain ⟨⟨items, every, zs⟩, item, t⟩ := x
  simp only [lastD] at hy
  cases hle : Nat.ble zs.length 9223372036854775807 with
  | false => rw [hle] at hy; cases hy
  | true =>
  rw [hle, cond_true] at hy
  have hy := Option.some.inj hy
  subst hy
  have hreach : zs.length ≤ maxLen := Nat.le_of_ble_eq_true hle
  obtain ⟨c1, c2, rfl, ⟨k1, k2, rfl, hi, k3, k4, rfl, he, hs⟩, c3, c4, rfl, h3, h4⟩ := hX
  obtain ⟨ia, il, ic, rfl, _⟩ := hi
  obtain rfl : k3 = [.int .i64 every] := he
  obtain ⟨a, len, cap, rfl, hsh⟩ := hs
  obtain rfl : c3 = [.int .i64 item] := h3
  obtain rfl : c4 = [.int .i64 t] := h4
  have hI : Signs w.heap.size w a len cap zs := by
    obtain ⟨q1, q2, q3⟩ := hsh
    refine ⟨q1, q2, q3.imp id ?_⟩
    rintro ⟨⟨b, off, sp⟩, rfl, rfl, hlt, _, hr⟩
    refine ⟨b, off, rfl, hlt, fun j hj => ?_⟩
    obtain ⟨us, hu, hc, a1, a2, rfl, r1, b1, b2, rfl, r2, r3⟩ := hr j hj
    obtain rfl : a1 = [.int .i64 zs[j].1] := r1
    obtain rfl : b1 = [.int .i64 zs[j].2.1] := r2
    obtain rfl : b2 = [.int .i64 zs[j].2.2] := r3
    exact ⟨hc 0 (by decide), hc 1 (by decide), hc 2 (by decide)⟩
  have hL := callsIn_wide.1 (last_in Fence.wide 4 trivial trivial trivial rfl (Nat.le_refl _) (.slice ia il ic) every a len cap zs hreach item t w hI)
  show Calls Try.prog 17 #[.agg #[.slice ia il ic, .int .i64 every, .slice a len cap], .int .i64 item, .int .i64 t] w _
  refine hL.mono ?_
  rintro e w' ⟨rfl, hB⟩
  rcases lastV zs item t with ⟨⟨s0, s1, s2⟩, ok⟩
  exact ⟨[.int .i64 s0, .int .i64 s1, .int .i64 s2, .bool ok], fun _ => none, rfl,
    ⟨[.int .i64 s0, .int .i64 s1, .int .i64 s2], [.bool ok], _, _, rfl, rfl, ⟨[.int .i64 s0], [.int .i64 s1, .int .i64 s2], [.shr], [.shr, .shr], rfl, rfl, ⟨_, rfl, rfl⟩, [.int .i64 s1], [.int .i64 s2], [.shr], [.shr], rfl, rfl, ⟨_, rfl, rfl⟩, _, rfl, rfl⟩, _, rfl, rfl⟩,
    hB.size, hB.block, fun b h => absurd rfl h, hB.os, hB.tape, hB.output⟩
end Go.Proofs.Ytbldhkgfeolhnaa.D
