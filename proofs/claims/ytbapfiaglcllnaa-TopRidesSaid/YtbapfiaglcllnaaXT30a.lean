import Derived.Test.YtbapfiaglcllnaaXT24a
open Go Go.GD Go.Proofs
namespace Go.Proofs.Ytbapfiaglcllnaa.D
def env30 : Nat → Option Sig := fun _ => none
def ann30 : List LoopAnn := [{ id := 2, live := [0, 1, 7, 8], frz := [] }]
abbrev ps30 : List Ty := [.sl (.pair (.int .i64) (.pair (.int .i64) (.pair (.int .i64) (.pair (.int .i64) (.pair (.int .i64) (.pair (.int .i64) (.int .i64))))))), .fn (.pair (.int .i64) (.pair (.int .i64) (.pair (.int .i64) (.pair (.int .i64) (.pair (.int .i64) (.pair (.int .i64) (.int .i64))))))) (.bool)]
abbrev rs30 : List Ty := [.int .i64]
noncomputable def d30 : (pk ps30).den → Option (pk rs30).den := fnK tab env30 6 ann30 big Try.f30 [] ps30 rs30 true
noncomputable def sg30 : Sig := { ps := ps30, rs := rs30, own := true, φ := d30 }
theorem envOk30 : ∀ f sg, env30 f = some sg → Contract Try.prog f sg := by
  intro f sg h
  unfold env30 at h
  cases h
theorem l30 : ps30.length ≤ Try.f30.ntmps := of_decide_eq_true (by kernel_rfl)
theorem h30 : ∀ x y, d30 x = some y → fnD tab env30 6 ann30 big Try.f30 [] ps30 rs30 true x = some y := fun x y h => by rw [d30, ← fnK_eq l30] at h; exact h
theorem r30 : resOK tab Try.f30.results.toList rs30 = true := by kernel_rfl
theorem n30 : nodupB (Try.f30.results.toList.map rSlot) = true := by kernel_rfl
theorem does30 : Does Try.prog 30 ps30 rs30 true d30 := fn_does mixed tabOK envOk30 Try.func30 r30 n30 l30 h30
theorem k30 : Callable Try.prog 30 := ⟨Try.f30, Try.func30, by kernel_rfl, by kernel_rfl⟩
theorem c30 : Contract Try.prog 30 sg30 := by rw [sg30]; exact Contract.of k30 does30
end Go.Proofs.Ytbapfiaglcllnaa.D
