/- PROVED: Rows.InspectAllSaid: for every input the law InspectAll returns true, and the arguments read behind the call as they read before. No conditions beyond the row's own. -/
import Derived.Test.YtbldhkgfeolhnaaRows
import Derived.Test.YtbldhkgfeolhnaaL19e
open Go Go.GD Go.Proofs
namespace Go.Proofs.Ytbldhkgfeolhnaa.D
theorem ownK : ownKnob Try.prog.godebug = none := by kernel_rfl
theorem laid : laidOutB Try.prog = true := by kernel_rfl
theorem isBool : Try.prog.underlying 4 = some .bool := by kernel_rfl
theorem resT10 : Try.f10.resultTypes = #[4] := by kernel_rfl
theorem read10 : (Try.f10.params.toList.all fun t => Try.prog.readableRec t && decide (t < Try.prog.types.size)) = true := by kernel_rfl
theorem ok10 : readParams Try.prog 8 Try.f10.params.toList ps10 = true := by kernel_rfl
theorem len10 : Try.f10.params.toList.length = 3 := by kernel_rfl
theorem lifted10 (os : Os) (started : os.Started) (H : Type) (enc : TypeId × Value → H) :
    ReturnsInHanded {} Try.checked os 10 .any (Rows.inspectAllSpec.pre6 enc Try.prog Try.f10 Rows.inspectAllRow.domain false) (Rows.inspectAllSpec.post enc Try.prog Try.f10 false true false false) :=
  law_lifted (C := Try.checked) (n := 8) ownK started (by kernel_rfl) Try.func10
    (ChangeSpec.witness6 (enc := enc) (C := Try.checked) false ⟨#[], #[.agg #[.slice none 0 0, .int .i64 0, .slice none 0 0], .int .i64 0, .int .i64 0], []⟩ 8 (by kernel_rfl) (by kernel_rfl) (by kernel_rfl) (by kernel_rfl))
    rfl (fun ds h => by
      rw [len10] at h
      match ds, h with
      | [d1, d2, d3], _ => rfl) resT10 isBool laid read10 ok10 does10 law10
theorem inspectAll : Rows.InspectAllSaid :=
  OpenClaim.holds_of_wide 10 Try.f10 rfl rfl rfl rfl rfl rfl rfl ⟨rfl, rfl, rfl, rfl, rfl⟩ rfl rfl rfl rfl rfl (by kernel_rfl) Try.func10 (by kernel_rfl)
    (of_decide_eq_true (by kernel_rfl)) (by unfold Func.isWrapper; first | (rw [if_pos (by decide +kernel)]; kernel_rfl) | (rw [if_neg (by decide +kernel)]; exact ⟨rfl, rfl⟩))
    (fun os started H enc _ => lifted10 os started H enc)
#print axioms inspectAll
end Go.Proofs.Ytbldhkgfeolhnaa.D
