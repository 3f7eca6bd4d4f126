/- PROVED: Rows.GroupBestsSaid: for every input the law GroupBests returns true, and the arguments read behind the call as they read before. No conditions beyond the row's own. -/
import Derived.Test.YtmmlfdnpgigfbaaRows
import Derived.Test.YtmmlfdnpgigfbaaL24all
open Go Go.GD Go.Proofs
namespace Go.Proofs.Ytmmlfdnpgigfbaa.D
theorem ownK : ownKnob Try.prog.godebug = none := by kernel_rfl
theorem laid : laidOutB Try.prog = true := by kernel_rfl
theorem isBool : Try.prog.underlying 4 = some .bool := by kernel_rfl
theorem resT5 : Try.f5.resultTypes = #[4] := by kernel_rfl
theorem read5 : (Try.f5.params.toList.all fun t => Try.prog.readableRec t && decide (t < Try.prog.types.size)) = true := by kernel_rfl
theorem ok5 : readParams Try.prog 8 Try.f5.params.toList ps5 = true := by kernel_rfl
theorem len5 : Try.f5.params.toList.length = 1 := by kernel_rfl
theorem lifted5 (os : Os) (started : os.Started) (H : Type) (enc : TypeId × Value → H) :
    ReturnsInHanded {} Try.checked os 5 .any (Rows.groupBestsSpec.pre6 enc Try.prog Try.f5 Rows.groupBestsRow.domain false) (Rows.groupBestsSpec.post enc Try.prog Try.f5 false true false false) :=
  law_lifted (C := Try.checked) (n := 8) ownK started (by kernel_rfl) Try.func5
    (ChangeSpec.witness6 (enc := enc) (C := Try.checked) false ⟨#[], #[.agg #[.slice none 0 0, .slice none 0 0, .slice none 0 0]], []⟩ 8 (by kernel_rfl) (by kernel_rfl) (by kernel_rfl) (by kernel_rfl))
    rfl (fun ds h => by
      rw [len5] at h
      match ds, h with
      | [d1], _ => rfl) resT5 isBool laid read5 ok5 does5 law5
theorem groupBests : Rows.GroupBestsSaid :=
  OpenClaim.holds_of_wide 5 Try.f5 rfl rfl rfl rfl rfl rfl rfl ⟨rfl, rfl, rfl, rfl, rfl⟩ rfl rfl rfl rfl rfl (by kernel_rfl) Try.func5 (by kernel_rfl)
    (of_decide_eq_true (by kernel_rfl)) (by unfold Func.isWrapper; first | (rw [if_pos (by decide +kernel)]; kernel_rfl) | (rw [if_neg (by decide +kernel)]; exact ⟨rfl, rfl⟩))
    (fun os started H enc _ => lifted5 os started H enc)
#print axioms groupBests
end Go.Proofs.Ytmmlfdnpgigfbaa.D
