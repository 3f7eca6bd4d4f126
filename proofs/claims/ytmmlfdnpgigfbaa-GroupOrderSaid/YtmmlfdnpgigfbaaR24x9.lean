/- PROVED: Rows.GroupOrderSaid: for every input the law GroupOrder returns true, and the arguments read behind the call as they read before. No conditions beyond the row's own. -/
import Derived.Test.YtmmlfdnpgigfbaaRows
import Derived.Test.YtmmlfdnpgigfbaaL24all
open Go Go.GD Go.Proofs
namespace Go.Proofs.Ytmmlfdnpgigfbaa.D
theorem ownK : ownKnob Try.prog.godebug = none := by kernel_rfl
theorem laid : laidOutB Try.prog = true := by kernel_rfl
theorem isBool : Try.prog.underlying 4 = some .bool := by kernel_rfl
theorem resT9 : Try.f9.resultTypes = #[4] := by kernel_rfl
theorem read9 : (Try.f9.params.toList.all fun t => Try.prog.readableRec t && decide (t < Try.prog.types.size)) = true := by kernel_rfl
theorem ok9 : readParams Try.prog 8 Try.f9.params.toList ps9 = true := by kernel_rfl
theorem len9 : Try.f9.params.toList.length = 1 := by kernel_rfl
theorem lifted9 (os : Os) (started : os.Started) (H : Type) (enc : TypeId × Value → H) :
    ReturnsInHanded {} Try.checked os 9 .any (Rows.groupOrderSpec.pre6 enc Try.prog Try.f9 Rows.groupOrderRow.domain false) (Rows.groupOrderSpec.post enc Try.prog Try.f9 false true false false) :=
  law_lifted (C := Try.checked) (n := 8) ownK started (by kernel_rfl) Try.func9
    (ChangeSpec.witness6 (enc := enc) (C := Try.checked) false ⟨#[], #[.agg #[.slice none 0 0, .slice none 0 0, .slice none 0 0]], []⟩ 8 (by kernel_rfl) (by kernel_rfl) (by kernel_rfl) (by kernel_rfl))
    rfl (fun ds h => by
      rw [len9] at h
      match ds, h with
      | [d1], _ => rfl) resT9 isBool laid read9 ok9 does9 law9
theorem groupOrder : Rows.GroupOrderSaid :=
  OpenClaim.holds_of_wide 9 Try.f9 rfl rfl rfl rfl rfl rfl rfl ⟨rfl, rfl, rfl, rfl, rfl⟩ rfl rfl rfl rfl rfl (by kernel_rfl) Try.func9 (by kernel_rfl)
    (of_decide_eq_true (by kernel_rfl)) (by unfold Func.isWrapper; first | (rw [if_pos (by decide +kernel)]; kernel_rfl) | (rw [if_neg (by decide +kernel)]; exact ⟨rfl, rfl⟩))
    (fun os started H enc _ => lifted9 os started H enc)
#print axioms groupOrder
end Go.Proofs.Ytmmlfdnpgigfbaa.D
