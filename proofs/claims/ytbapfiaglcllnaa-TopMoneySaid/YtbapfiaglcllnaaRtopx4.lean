/- PROVED: Rows.TopMoneySaid: for every input the law TopMoney returns true, and the arguments read behind the call as they read before. No conditions beyond the row's own. -/
import Derived.Test.YtbapfiaglcllnaaRows
import Derived.Test.YtbapfiaglcllnaaXMall
open Go Go.GD Go.Proofs
namespace Go.Proofs.Ytbapfiaglcllnaa.D
theorem ownK : ownKnob Try.prog.godebug = none := by kernel_rfl
theorem laid : laidOutB Try.prog = true := by kernel_rfl
theorem isBool : Try.prog.underlying 4 = some .bool := by kernel_rfl
theorem resT4 : Try.f4.resultTypes = #[4] := by kernel_rfl
theorem read4 : (Try.f4.params.toList.all fun t => Try.prog.readableRec t && decide (t < Try.prog.types.size)) = true := by kernel_rfl
theorem ok4 : readParams Try.prog 8 Try.f4.params.toList ps4 = true := by kernel_rfl
theorem len4 : Try.f4.params.toList.length = 6 := by kernel_rfl
theorem lifted4 (os : Os) (started : os.Started) (H : Type) (enc : TypeId × Value → H) :
    ReturnsInHanded {} Try.checked os 4 .any (Rows.topMoneySpec.pre6 enc Try.prog Try.f4 Rows.topMoneyRow.domain false) (Rows.topMoneySpec.post enc Try.prog Try.f4 false true false false) :=
  law_lifted (C := Try.checked) (n := 8) ownK started (by kernel_rfl) Try.func4
    (ChangeSpec.witness6 (enc := enc) (C := Try.checked) false ⟨#[], #[.slice none 0 0, .slice none 0 0, .slice none 0 0, .slice none 0 0, .slice none 0 0, .slice none 0 0], []⟩ 8 (by kernel_rfl) (by kernel_rfl) (by kernel_rfl) (by kernel_rfl))
    rfl (fun ds h => by
      rw [len4] at h
      match ds, h with
      | [d1, d2, d3, d4, d5, d6], _ => rfl) resT4 isBool laid read4 ok4 does4 law4
theorem topMoney : Rows.TopMoneySaid :=
  OpenClaim.holds_of_wide 4 Try.f4 rfl rfl rfl rfl rfl rfl rfl ⟨rfl, rfl, rfl, rfl, rfl⟩ rfl rfl rfl rfl rfl (by kernel_rfl) Try.func4 (by kernel_rfl)
    (of_decide_eq_true (by kernel_rfl)) (by unfold Func.isWrapper; first | (rw [if_pos (by decide +kernel)]; kernel_rfl) | (rw [if_neg (by decide +kernel)]; exact ⟨rfl, rfl⟩))
    (fun os started H enc _ => lifted4 os started H enc)
#print axioms topMoney
end Go.Proofs.Ytbapfiaglcllnaa.D
