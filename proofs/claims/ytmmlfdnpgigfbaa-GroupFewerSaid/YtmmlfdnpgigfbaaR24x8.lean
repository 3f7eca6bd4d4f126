/- PROVED: Rows.GroupFewerSaid: for every input the law GroupFewer returns true, and the arguments read behind the call as they read before. No conditions beyond the row's own. -/
import Derived.Test.YtmmlfdnpgigfbaaRows
import Derived.Test.YtmmlfdnpgigfbaaL24all
open Go Go.GD Go.Proofs
namespace Go.Proofs.Ytmmlfdnpgigfbaa.D
theorem ownK : ownKnob Try.prog.godebug = none := by kernel_rfl
theorem laid : laidOutB Try.prog = true := by kernel_rfl
theorem isBool : Try.prog.underlying 4 = some .bool := by kernel_rfl
theorem resT8 : Try.f8.resultTypes = #[4] := by kernel_rfl
theorem read8 : (Try.f8.params.toList.all fun t => Try.prog.readableRec t && decide (t < Try.prog.types.size)) = true := by kernel_rfl
theorem ok8 : readParams Try.prog 8 Try.f8.params.toList ps8 = true := by kernel_rfl
theorem len8 : Try.f8.params.toList.length = 2 := by kernel_rfl
theorem lifted8 (os : Os) (started : os.Started) (H : Type) (enc : TypeId × Value → H) :
    ReturnsInHanded {} Try.checked os 8 .any (Rows.groupFewerSpec.pre6 enc Try.prog Try.f8 Rows.groupFewerRow.domain false) (Rows.groupFewerSpec.post enc Try.prog Try.f8 false true false false) :=
  law_lifted (C := Try.checked) (n := 8) ownK started (by kernel_rfl) Try.func8
    (ChangeSpec.witness6 (enc := enc) (C := Try.checked) false ⟨#[], #[.agg #[.slice none 0 0, .slice none 0 0, .slice none 0 0], .int .i64 0], []⟩ 8 (by kernel_rfl) (by kernel_rfl) (by kernel_rfl) (by kernel_rfl))
    rfl (fun ds h => by
      rw [len8] at h
      match ds, h with
      | [d1, d2], _ => rfl) resT8 isBool laid read8 ok8 does8 law8
theorem groupFewer : Rows.GroupFewerSaid :=
  OpenClaim.holds_of_wide 8 Try.f8 rfl rfl rfl rfl rfl rfl rfl ⟨rfl, rfl, rfl, rfl, rfl⟩ rfl rfl rfl rfl rfl (by kernel_rfl) Try.func8 (by kernel_rfl)
    (of_decide_eq_true (by kernel_rfl)) (by unfold Func.isWrapper; first | (rw [if_pos (by decide +kernel)]; kernel_rfl) | (rw [if_neg (by decide +kernel)]; exact ⟨rfl, rfl⟩))
    (fun os started H enc _ => lifted8 os started H enc)
#print axioms groupFewer
end Go.Proofs.Ytmmlfdnpgigfbaa.D
