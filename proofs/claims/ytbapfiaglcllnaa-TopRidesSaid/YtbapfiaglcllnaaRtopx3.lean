/- PROVED: Rows.TopRidesSaid: for every input the law TopRides returns true, and the arguments read behind the call as they read before. No conditions beyond the row's own. -/
import Derived.Test.YtbapfiaglcllnaaRows
import Derived.Test.YtbapfiaglcllnaaXPbb
open Go Go.GD Go.Proofs
namespace Go.Proofs.Ytbapfiaglcllnaa.D
theorem ownK : ownKnob Try.prog.godebug = none := by kernel_rfl
theorem laid : laidOutB Try.prog = true := by kernel_rfl
theorem isBool : Try.prog.underlying 4 = some .bool := by kernel_rfl
theorem resT3 : Try.f3.resultTypes = #[4] := by kernel_rfl
theorem read3 : (Try.f3.params.toList.all fun t => Try.prog.readableRec t && decide (t < Try.prog.types.size)) = true := by kernel_rfl
theorem ok3 : readParams Try.prog 8 Try.f3.params.toList ps3 = true := by kernel_rfl
theorem len3 : Try.f3.params.toList.length = 4 := by kernel_rfl
theorem lifted3 (os : Os) (started : os.Started) (H : Type) (enc : TypeId × Value → H) :
    ReturnsInHanded {} Try.checked os 3 .any (Rows.topRidesSpec.pre6 enc Try.prog Try.f3 Rows.topRidesRow.domain false) (Rows.topRidesSpec.post enc Try.prog Try.f3 false true false false) :=
  law_lifted (C := Try.checked) (n := 8) ownK started (by kernel_rfl) Try.func3
    (ChangeSpec.witness6 (enc := enc) (C := Try.checked) false ⟨#[], #[.int .i64 0, .int .i64 0, .slice none 0 0, .int .i64 0], []⟩ 8 (by kernel_rfl) (by kernel_rfl) (by kernel_rfl) (by kernel_rfl))
    rfl (fun ds h => by
      rw [len3] at h
      match ds, h with
      | [d1, d2, d3, d4], _ => rfl) resT3 isBool laid read3 ok3 does3 law3
theorem topRides : Rows.TopRidesSaid :=
  OpenClaim.holds_of_wide 3 Try.f3 rfl rfl rfl rfl rfl rfl rfl ⟨rfl, rfl, rfl, rfl, rfl⟩ rfl rfl rfl rfl rfl (by kernel_rfl) Try.func3 (by kernel_rfl)
    (of_decide_eq_true (by kernel_rfl)) (by unfold Func.isWrapper; first | (rw [if_pos (by decide +kernel)]; kernel_rfl) | (rw [if_neg (by decide +kernel)]; exact ⟨rfl, rfl⟩))
    (fun os started H enc _ => lifted3 os started H enc)
#print axioms topRides
end Go.Proofs.Ytbapfiaglcllnaa.D
