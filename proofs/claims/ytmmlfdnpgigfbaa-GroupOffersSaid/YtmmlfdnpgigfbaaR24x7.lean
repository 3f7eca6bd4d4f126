/- PROVED: Rows.GroupOffersSaid: for every input the law GroupOffers returns true, and the arguments read behind the call as they read before. No conditions beyond the row's own. -/
import Derived.Test.YtmmlfdnpgigfbaaRows
import Derived.Test.YtmmlfdnpgigfbaaL24all
open Go Go.GD Go.Proofs
namespace Go.Proofs.Ytmmlfdnpgigfbaa.D
theorem ownK : ownKnob Try.prog.godebug = none := by kernel_rfl
theorem laid : laidOutB Try.prog = true := by kernel_rfl
theorem isBool : Try.prog.underlying 4 = some .bool := by kernel_rfl
theorem resT7 : Try.f7.resultTypes = #[4] := by kernel_rfl
theorem read7 : (Try.f7.params.toList.all fun t => Try.prog.readableRec t && decide (t < Try.prog.types.size)) = true := by kernel_rfl
theorem ok7 : readParams Try.prog 8 Try.f7.params.toList ps7 = true := by kernel_rfl
theorem len7 : Try.f7.params.toList.length = 2 := by kernel_rfl
theorem lifted7 (os : Os) (started : os.Started) (H : Type) (enc : TypeId × Value → H) :
    ReturnsInHanded {} Try.checked os 7 .any (Rows.groupOffersSpec.pre6 enc Try.prog Try.f7 Rows.groupOffersRow.domain false) (Rows.groupOffersSpec.post enc Try.prog Try.f7 false true false false) :=
  law_lifted (C := Try.checked) (n := 8) ownK started (by kernel_rfl) Try.func7
    (ChangeSpec.witness6 (enc := enc) (C := Try.checked) false ⟨#[], #[.agg #[.slice none 0 0, .slice none 0 0, .slice none 0 0], .agg #[.int .i64 0, .int .i64 0, .int .i64 0, .int .i64 0]], []⟩ 8 (by kernel_rfl) (by kernel_rfl) (by kernel_rfl) (by kernel_rfl))
    rfl (fun ds h => by
      rw [len7] at h
      match ds, h with
      | [d1, d2], _ => rfl) resT7 isBool laid read7 ok7 does7 law7
theorem groupOffers : Rows.GroupOffersSaid :=
  OpenClaim.holds_of_wide 7 Try.f7 rfl rfl rfl rfl rfl rfl rfl ⟨rfl, rfl, rfl, rfl, rfl⟩ rfl rfl rfl rfl rfl (by kernel_rfl) Try.func7 (by kernel_rfl)
    (of_decide_eq_true (by kernel_rfl)) (by unfold Func.isWrapper; first | (rw [if_pos (by decide +kernel)]; kernel_rfl) | (rw [if_neg (by decide +kernel)]; exact ⟨rfl, rfl⟩))
    (fun os started H enc _ => lifted7 os started H enc)
#print axioms groupOffers
end Go.Proofs.Ytmmlfdnpgigfbaa.D
