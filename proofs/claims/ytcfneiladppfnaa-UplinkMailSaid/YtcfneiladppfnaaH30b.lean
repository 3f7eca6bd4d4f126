import Derived.Test.YtcfneiladppfnaaH30
import Derived.Test.YtcfneiladppfnaaGD25
namespace Go.Proofs.Ytcfneiladppfnaa.D
open Go Go.GD Go.Proofs Go.RowKit Go.Shelf Go.Lib Go.Sort

set_option linter.unusedVariables false in
set_option maxHeartbeats 4000000 in
set_option maxRecDepth 1000000 in
/-- no room: a new row -/
theorem insB (b off len cap i g gcap : Nat) (v : Option Addr) (vcap : Nat) (w W1 W2 W3 : World) (r1 r2 : Value) (hi : i < len) (hlc : len ≤ cap) (hg : len + 1 ≤ gcap) (hn : len + 1 ≤ maxLen) (hcap : cap < len + 1)
    (hap : ∀ ty cs, (builtin .append #[22, 3] ty cs #[.slice (some ⟨b, off, none⟩) i cap, .int .i64 ((len : Int) + 1 - i)]).run Try.prog w = .ok (.value (.slice (some ⟨g, 0, none⟩) (len + 1) gcap)) W1)
    (hc1 : ∀ ty cs, (builtin .copy #[22, 22] ty cs #[.slice (some ⟨g, i * 7, none⟩) (len + 1 - i) (gcap - i), .slice v 1 vcap]).run Try.prog W1 = .ok (.value r1) W2)
    (hc2 : ∀ ty cs, (builtin .copy #[22, 22] ty cs #[.slice (some ⟨g, (i + 1) * 7, none⟩) (len - i) (gcap - (i + 1)), .slice (some ⟨b, off + i * 7, none⟩) (len - i) (cap - i)]).run Try.prog W2.drew = .ok (.value r2) W3) :
    Calls Try.prog 36 #[.slice (some ⟨b, off, none⟩) len cap, .int .i64 i, .slice v 1 vcap] w fun e w' => e = .returned (.slice (some ⟨g, 0, none⟩) (len + 1) gcap) ∧ w' = W3 := by
  have hap2 : Hid _ := hap
  have hc12 : Hid _ := hc1
  have hc22 : Hid _ := hc2
  clear hap hc1 hc2
  have hM : maxLen = 9223372036854775807 := rfl
  have w1 : wrap64 ((len : Int) + 1) = (len : Int) + 1 := IntWalk.wrap64_in _ ⟨by omega, by omega⟩
  have w2 : wrap64 ((len : Int) + 1 - (i : Int)) = (len : Int) + 1 - i := IntWalk.wrap64_in _ ⟨by omega, by omega⟩
  have w3 : wrap64 ((i : Int) + 1) = (i : Int) + 1 := IntWalk.wrap64_in _ ⟨by omega, by omega⟩
  have w4 : IntKind.i64.wrap ((i : Int) + 1) = (i : Int) + 1 := wrap_i64 (by omega) (by omega)
  have t1 : ((i : Int) + 1).toNat = i + 1 := by omega
  have t2 : ((i : Int) + 1 ≤ (len : Int) + 1) := by omega
  have t3 : ((0 : Int) ≤ (i : Int) + 1) := by omega
  have mixed : Try.prog.follows .mixedOrders = true := Checked.mixed Try.checked
  have n1 : ¬ (cap = i) := by omega
  have n2 : ¬ (gcap = i) := by omega
  have n3 : ¬ (gcap = i + 1) := by omega
  have n4 : ¬ (len = i) := by omega
  have n5 : i ≤ cap := by omega
  have n6 : i ≤ gcap := by omega
  have n7 : i + 1 ≤ gcap := by omega
  have n9 : i ≤ len := by omega
  go_enter Try.func36, Try.ntmps36
  go_wp2_with (first | (refine wpList_builtin rfl .append _ _ _ _ rfl _ _ _ rfl rfl hap2.out ?_) | (refine wpList_builtin rfl .copy _ _ _ _ rfl _ _ _ rfl rfl hc12.out ?_))
  go_region_law_o (refine step_builtin rfl .copy (.tmp 50) (.tmp 53) 22 22 rfl _ _ _ (by simp [Act.eval, Act.put]) (by simp [Act.eval, Act.put]) hc22.out ?_)
  go_wp2
  go_ret
  exact ⟨rfl, rfl⟩
end Go.Proofs.Ytcfneiladppfnaa.D
