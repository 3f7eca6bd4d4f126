import Derived.Test.YtcfneiladppfnaaH30
import Derived.Test.YtcfneiladppfnaaGD25
namespace Go.Proofs.Ytcfneiladppfnaa.D
open Go Go.GD Go.Proofs Go.RowKit Go.Shelf Go.Lib Go.Sort

set_option linter.unusedVariables false in
set_option maxHeartbeats 4000000 in
set_option maxRecDepth 1000000 in
/-- room: in place -/
theorem insC (b off len cap i : Nat) (v : Option Addr) (vcap : Nat) (w W2 W3 : World) (r1 r2 : Value) (hi : i < len) (hn : len + 1 ≤ maxLen) (hcap : len + 1 ≤ cap)
    (hov : (callFunc 43 #[.slice v 1 vcap, .slice (some ⟨b, off + (i + 1) * 7, none⟩) (len - i) (cap - (i + 1))]).run Try.prog w = .ok (.value (.bool false)) w)
    (hc1 : ∀ ty cs, (builtin .copy #[22, 22] ty cs #[.slice (some ⟨b, off + (i + 1) * 7, none⟩) (len - i) (cap - (i + 1)), .slice (some ⟨b, off + i * 7, none⟩) (len + 1 - i) (cap - i)]).run Try.prog w.drew = .ok (.value r1) W2)
    (hc2 : ∀ ty cs, (builtin .copy #[22, 22] ty cs #[.slice (some ⟨b, off + i * 7, none⟩) (len + 1 - i) (cap - i), .slice v 1 vcap]).run Try.prog W2 = .ok (.value r2) W3) :
    Calls Try.prog 36 #[.slice (some ⟨b, off, none⟩) len cap, .int .i64 i, .slice v 1 vcap] w fun e w' => e = .returned (.slice (some ⟨b, off, none⟩) (len + 1) cap) ∧ w' = W3 := by
  have hc12 : Hid _ := hc1
  have hc22 : Hid _ := hc2
  clear hc1 hc2
  have hM : maxLen = 9223372036854775807 := rfl
  have w1 : wrap64 ((len : Int) + 1) = (len : Int) + 1 := IntWalk.wrap64_in _ ⟨by omega, by omega⟩
  have w3 : wrap64 ((i : Int) + 1) = (i : Int) + 1 := IntWalk.wrap64_in _ ⟨by omega, by omega⟩
  have w4 : IntKind.i64.wrap ((i : Int) + 1) = (i : Int) + 1 := wrap_i64 (by omega) (by omega)
  have t1 : ((i : Int) + 1).toNat = i + 1 := by omega
  have t2 : ((i : Int) + 1 ≤ (len : Int) + 1) := by omega
  have t3 : ((0 : Int) ≤ (i : Int) + 1) := by omega
  have mixed : Try.prog.follows .mixedOrders = true := Checked.mixed Try.checked
  have n0 : ¬ (cap < len + 1) := by omega
  have n1 : ¬ (cap = i) := by omega
  have n3 : ¬ (cap = i + 1) := by omega
  have n4 : ¬ (len = i) := by omega
  have n5 : i ≤ cap := by omega
  have n6 : i ≤ len := by omega
  have n7 : i + 1 ≤ cap := by omega
  have n8 : i ≤ len + 1 := by omega
  have n9 : (i : Int) ≤ (len : Int) + 1 := by omega
  go_enter Try.func36, Try.ntmps36
  go_wp2_with (first | (refine wpList_builtin rfl .copy _ _ _ _ rfl _ _ _ rfl rfl hc22.out ?_) | simp only [hov])
  go_region_law_o (refine step_builtin rfl .copy (.tmp 73) (.tmp 76) 22 22 rfl _ _ _ (by simp [Act.eval, Act.put]) (by simp [Act.eval, Act.put]) hc12.out ?_)
  go_wp2_with (first | (refine wpList_builtin rfl .copy _ _ _ _ rfl _ _ _ rfl rfl hc22.out ?_) | simp only [hov])
  go_ret
  exact ⟨rfl, rfl⟩
end Go.Proofs.Ytcfneiladppfnaa.D
