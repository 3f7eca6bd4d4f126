/- PROVED: Rows.GroupCheapestSaid: for every input the law GroupCheapest returns true, and the arguments read behind the call as they read before. No conditions beyond the row's own. -/
import Derived.Test.YtmmlfdnpgigfbaaRows
import Derived.Test.YtmmlfdnpgigfbaaL24all
open Go Go.GD Go.Proofs
namespace Go.Proofs.Ytmmlfdnpgigfbaa.D
theorem ownK : ownKnob Try.prog.godebug = none := by kernel_rfl
theorem laid : laidOutB Try.prog = true := by kernel_rfl
theorem isBool : Try.prog.underlying 4 = some .bool := by kernel_rfl
theorem resT6 : Try.f6.resultTypes = #[4] := by kernel_rfl
theorem read6 : (Try.f6.params.toList.all fun t => Try.prog.readableRec t && decide (t < Try.prog.types.size)) = true := by kernel_rfl
theorem ok6 : readParams Try.prog 8 Try.f6.params.toList ps6 = true := by kernel_rfl
theorem len6 : Try.f6.params.toList.length = 2 := by kernel_rfl
theorem lifted6 (os : Os) (started : os.Started) (H : Type) (enc : TypeId × Value → H) :
    ReturnsInHanded {} Try.checked os 6 .any (Rows.groupCheapestSpec.pre6 enc Try.prog Try.f6 Rows.groupCheapestRow.domain false) (Rows.groupCheapestSpec.post enc Try.prog Try.f6 false true false false) :=
  law_lifted (C := Try.checked) (n := 8) ownK started (by kernel_rfl) Try.func6
    (ChangeSpec.witness6 (enc := enc) (C := Try.checked) false ⟨#[], #[.agg #[.slice none 0 0, .slice none 0 0, .slice none 0 0], .slice none 0 0], []⟩ 8 (by kernel_rfl) (by kernel_rfl) (by kernel_rfl) (by kernel_rfl))
    rfl (fun ds h => by
      rw [len6] at h
      match ds, h with
      | [d1, d2], _ => rfl) resT6 isBool laid read6 ok6 does6 law6
theorem groupCheapest : Rows.GroupCheapestSaid :=
  OpenClaim.holds_of_wide 6 Try.f6 rfl rfl rfl rfl rfl rfl rfl ⟨rfl, rfl, rfl, rfl, rfl⟩ rfl rfl rfl rfl rfl (by kernel_rfl) Try.func6 (by kernel_rfl)
    (of_decide_eq_true (by kernel_rfl)) (by unfold Func.isWrapper; first | (rw [if_pos (by decide +kernel)]; kernel_rfl) | (rw [if_neg (by decide +kernel)]; exact ⟨rfl, rfl⟩))
    (fun os started H enc _ => lifted6 os started H enc)
#print axioms groupCheapest
end Go.Proofs.Ytmmlfdnpgigfbaa.D
