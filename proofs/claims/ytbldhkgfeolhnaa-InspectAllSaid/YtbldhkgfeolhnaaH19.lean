import Derived.RangeFuncNested
import Derived.RangeFuncBox
import Derived.RangeFuncLeaves
import Derived.Shelf.Abstract
import Derived.WalkKit
import Derived.OwnWalkIn
import Derived.TacticsInMore
import Derived.LoopNIn
import Derived.LoopIn
import Derived.Test.YtbldhkgfeolhnaaProg
import Derived.Test.YtbldhkgfeolhnaaChecked
import Derived.Test.YtbldhkgfeolhnaaGDC
namespace Go.Proofs.Ytbldhkgfeolhnaa.D
open Go Go.GD Go.Proofs Go.RowKit Go.Shelf

attribute [local go_sem] Oper.semAt_some

set_option maxHeartbeats 1000000 in
theorem back_in (F : Fence) (n : Nat) (h5 : F.fn 32) (hro : F.round = none) (a : Option Addr) (len cap : Nat) (w : World) :
    CallsIn F n Try.prog 32 #[.slice a len cap] w fun e w' => e = .returned (.func (.func 38) #[] #[.pointer (some ⟨w.heap.size, 0, none⟩)]) ∧ w' = w.alloc (.cells #[.slice a len cap] 23) := by
  refine callsIn_of_wp Try.func32 rfl h5 ?_ hro
  simp only [Try.ntmps32, List.size_toArray, List.length_cons, List.length_nil, Nat.reduceAdd, Nat.reduceSub, Array.replicate_succ, Array.replicate_zero, List.push_toArray, List.append_toArray, List.nil_append, List.cons_append]
  gi_wp2
  go_ret
  exact ⟨rfl, rfl⟩

abbrev Sg := Int × Int × Int
abbrev sgV (s : Sg) : Value := .agg #[.int .i64 s.1, .int .i64 s.2.1, .int .i64 s.2.2]
/-- what has come when k rounds are over -/
def downto (zs : List Sg) (k : Nat) : List (Int × Sg) := (List.range k).map fun j => (((zs.length - 1 - j : Nat) : Int), zs[zs.length - 1 - j]?.getD (0, 0, 0))
theorem downto_succ (zs : List Sg) (k : Nat) : downto zs (k + 1) = downto zs k ++ [(((zs.length - 1 - k : Nat) : Int), zs[zs.length - 1 - k]?.getD (0, 0, 0))] := by simp [downto, List.range_succ]
theorem downto_length (zs : List Sg) (k : Nat) : (downto zs k).length = k := by simp [downto]

set_option maxRecDepth 100000 in
set_option maxHeartbeats 2000000 in
theorem back1_in (F : Fence) (n : Nat) (h7 : F.fn 38) (hro : F.round = none) (hn : 1 ≤ n) (l Bs b off cap : Nat) (zs : List Sg) (hreach : zs.length ≤ maxLen) (hb : b ≤ Bs) (J Jx : List (Int × Sg) → World → Prop)
    (hY : ∀ pre x W, J pre W → pre.length < zs.length → YieldAt F (n - 1) Try.prog l #[.int .i64 x.1, sgV x.2] W fun e W' =>
      (e = .returned (.bool true) ∧ J (pre ++ [x]) W' ∧ Below (Bs + 1) W W') ∨ (e = .returned (.bool false) ∧ Jx (pre ++ [x]) W'))
    (W : World) (hBs : W.cell? ⟨Bs, 0, none⟩ = some (.slice (some ⟨b, off, none⟩) zs.length cap))
    (hc : ∀ j (h : j < zs.length), W.cell? ⟨b, off + j * 3, none⟩ = some (.int .i64 zs[j].1) ∧ W.cell? ⟨b, off + j * 3 + 1, none⟩ = some (.int .i64 zs[j].2.1) ∧ W.cell? ⟨b, off + j * 3 + 2, none⟩ = some (.int .i64 zs[j].2.2)) (h0 : J [] W) :
    CallsIn F n Try.prog 38 #[.func (.yield l) #[] #[], .pointer (some ⟨Bs, 0, none⟩)] W fun e W' => (∃ v, e = .returned v) ∧
      ((∃ ys, ys = downto zs zs.length ∧ J ys W') ∨ (∃ pre, (∃ k, k ≤ zs.length ∧ pre = downto zs k) ∧ Jx pre W')) := by
  refine callsIn_of_wp Try.func38 rfl h7 ?_ hro
  simp only [Try.ntmps38, List.size_toArray, List.length_cons, List.length_nil, Nat.reduceAdd, Nat.reduceSub, Array.replicate_succ, Array.replicate_zero, List.push_toArray, List.append_toArray, List.nil_append, List.cons_append]
  gi_wp2
  have hw : wrap64 ((zs.length : Int) - 1) = (zs.length : Int) - 1 := IntWalk.wrap64_in _ ⟨by omega, by rw [show maxLen = 9223372036854775807 from rfl] at hreach; omega⟩
  rw [hw]
  gi_loopw [3] (fun i wr => ∃ k : Nat, k ≤ zs.length ∧ i = .int .i64 ((zs.length : Int) - 1 - k) ∧ J (downto zs k) wr ∧ Below (Bs + 1) W wr)
    (fun i _ => (intOf i + 1).toNat)
  case atStart => exact ⟨0, Nat.zero_le _, by simp, h0, Below.refl _ _⟩
  case round =>
    obtain ⟨k, hk, rfl, hJs, hnx⟩ := hrel
    have hbx : wr.cell? ⟨Bs, 0, none⟩ = some (.slice (some ⟨b, off, none⟩) zs.length cap) := (hnx.cell (p := ⟨Bs, 0, none⟩) (Nat.lt_succ_self _)).trans hBs
    by_cases hlt : k < zs.length
    · obtain ⟨fn, tmps, assign, body, hy, hR⟩ := hY _ (((zs.length - 1 - k : Nat) : Int), zs[zs.length - 1 - k]?.getD (0, 0, 0)) wr hJs (by rw [downto_length]; exact hlt)
      have hk1 : zs.length - 1 - k < zs.length := by omega
      rw [List.getElem?_eq_getElem hk1, Option.getD_some] at hy hR
      dsimp only [sgV] at hy
      obtain ⟨c0, c1, c2⟩ := hc _ hk1
      have c0 := (hnx.cell (p := ⟨b, off + (zs.length - 1 - k) * 3, none⟩) (by show b < Bs + 1; omega)).trans c0
      have c1 := (hnx.cell (p := ⟨b, off + (zs.length - 1 - k) * 3 + 1, none⟩) (by show b < Bs + 1; omega)).trans c1
      have c2 := (hnx.cell (p := ⟨b, off + (zs.length - 1 - k) * 3 + 2, none⟩) (by show b < Bs + 1; omega)).trans c2
      have hi : (zs.length : Int) - 1 - k = ((zs.length - 1 - k : Nat) : Int) := by omega
      rw [hi]
      gi_wp2
      refine hR.mono ?_
      rintro e W3 (⟨rfl, hJ3, hk3⟩ | ⟨rfl, hJx3⟩)
      · gi_wp2
        go_roundw
        case rel =>
          refine ⟨k + 1, by omega, ?_, by rw [downto_succ, List.getElem?_eq_getElem hk1, Option.getD_some]; exact hJ3, hnx.trans hk3⟩
          congr 1
          rw [IntWalk.wrap64_in _ ⟨by omega, by rw [show maxLen = 9223372036854775807 from rfl] at hreach; omega⟩]
          omega
        case measure =>
          rw [IntWalk.wrap64_in _ ⟨by omega, by rw [show maxLen = 9223372036854775807 from rfl] at hreach; omega⟩]
          simp only [intOf]
          omega
      · gi_wp2
        refine bodyPost_ret (results_none rfl _ _ _) rfl ?_
        exact ⟨⟨_, rfl⟩, .inr ⟨_, ⟨k + 1, by omega, by rw [downto_succ, List.getElem?_eq_getElem hk1, Option.getD_some]⟩, hJx3⟩⟩
    · obtain rfl : k = zs.length := by omega
      gi_wp2
      go_end0
      exact ⟨⟨_, rfl⟩, .inl ⟨_, rfl, hJs⟩⟩

set_option maxRecDepth 100000 in
set_option maxHeartbeats 1000000 in
theorem back1_nil_in (F : Fence) (n : Nat) (h7 : F.fn 38) (hro : F.round = none) (l Bs : Nat) (a : Option Addr) (cap : Nat) (J : List (Int × Sg) → World → Prop) (W : World) (hBs : W.cell? ⟨Bs, 0, none⟩ = some (.slice a 0 cap)) (h0 : J [] W) :
    CallsIn F n Try.prog 38 #[.func (.yield l) #[] #[], .pointer (some ⟨Bs, 0, none⟩)] W fun e W' => (∃ v, e = .returned v) ∧ J [] W' := by
  refine callsIn_of_wp Try.func38 rfl h7 ?_ hro
  simp only [Try.ntmps38, List.size_toArray, List.length_cons, List.length_nil, Nat.reduceAdd, Nat.reduceSub, Array.replicate_succ, Array.replicate_zero, List.push_toArray, List.append_toArray, List.nil_append, List.cons_append]
  gi_wp2
  gi_loopw [3] (fun i wr => i = .int .i64 (-1) ∧ J [] wr) (fun _ _ => 0)
  case atStart => exact ⟨rfl, h0⟩
  case round =>
    obtain ⟨rfl, hJs⟩ := hrel
    gi_wp2
    go_end0
    exact ⟨⟨_, rfl⟩, hJs⟩

/-- the slice's rows -/
def Signs (n₀ : Nat) (W : World) (a : Option Addr) (len cap : Nat) (zs : List Sg) : Prop :=
  zs.length = len ∧ len ≤ cap ∧ (len = 0 ∨ ∃ b off, a = some ⟨b, off, none⟩ ∧ b < n₀ ∧
    ∀ j (h : j < zs.length), W.cell? ⟨b, off + j * 3, none⟩ = some (.int .i64 zs[j].1) ∧ W.cell? ⟨b, off + j * 3 + 1, none⟩ = some (.int .i64 zs[j].2.1) ∧ W.cell? ⟨b, off + j * 3 + 2, none⟩ = some (.int .i64 zs[j].2.2))
theorem Signs.below {n₀ n₁ : Nat} {A B : World} (h : Below n₁ A B) (hn : n₀ ≤ n₁) {a : Option Addr} {len cap : Nat} {zs : List Sg} (hs : Signs n₀ A a len cap zs) : Signs n₀ B a len cap zs := by
  obtain ⟨h1, h2, h3⟩ := hs
  refine ⟨h1, h2, h3.imp id ?_⟩
  rintro ⟨b, off, e, hb, hc⟩
  have hb' : b < n₁ := Nat.lt_of_lt_of_le hb hn
  refine ⟨b, off, e, hb, fun j hj => ?_⟩
  obtain ⟨c0, c1, c2⟩ := hc j hj
  exact ⟨(h.cell (p := ⟨b, _, none⟩) hb').trans c0, (h.cell (p := ⟨b, _, none⟩) hb').trans c1, (h.cell (p := ⟨b, _, none⟩) hb').trans c2⟩

theorem back_stops (F : Fence) (n : Nat) (h7 : F.fn 38) (hro : F.round = none) (hn : 1 ≤ n) (Bs : Nat) (a : Option Addr) (len cap : Nat) (zs : List Sg) (hreach : zs.length ≤ maxLen) (w : World) (hBs : Bs < w.heap.size)
    (hc : w.cell? ⟨Bs, 0, none⟩ = some (.slice a len cap)) (hI : Signs (Bs + 1) w a len cap zs) :
    SeqStopsK F n Try.prog 38 #[.pointer (some ⟨Bs, 0, none⟩)] (fun x : Int × Sg => #[Value.int .i64 x.1, sgV x.2]) (Below (Bs + 1)) (fun ys => ys = downto zs zs.length)
      (fun pre => ∃ k, k ≤ zs.length ∧ pre = downto zs k) zs.length w := fun l J Jx W hW _ _ hY h0 => by
  have hc' := (hW.cell (p := ⟨Bs, 0, none⟩) hBs).trans hc
  obtain ⟨h1, h2, h3⟩ := hI.below hW (by omega)
  subst h1
  rcases h3 with h3 | ⟨b, off, rfl, hb, hcs⟩
  · rw [h3] at hc'
    refine (back1_nil_in F n h7 hro l Bs a cap J W hc' h0).mono fun e W' ⟨he, hj⟩ => ⟨he, .inl ⟨_, ?_, hj⟩⟩
    rw [h3]; rfl
  · exact back1_in F n h7 hro hn l Bs b off cap zs hreach (by omega) J Jx hY W hc' hcs h0
end Go.Proofs.Ytbldhkgfeolhnaa.D
