import Derived.Test.YtbapfiaglcllnaaXRall
open Go Go.GD Go.Proofs
namespace Go.Proofs.Ytbapfiaglcllnaa.D
noncomputable def env3 : Nat → Option Sig := fun n => match n with
  | 5 => some sg5
  | 6 => some sg6
  | 7 => some sg7
  | 8 => some sg8
  | 9 => some sg9
  | 10 => some sg10
  | 11 => some sg11
  | 12 => some sg12
  | 13 => some sg13
  | 14 => some sg14
  | 15 => some sg15
  | _ => none
def ann3 : List LoopAnn := [{ id := 17, live := [0, 1, 2, 9, 10, 16, 18, 19, 20, 21], frz := [16, 18, 19] }, { id := 41, live := [9, 10, 19, 20, 27], frz := [19] }, { id := 45, live := [9, 10, 19, 20, 27, 28, 29], frz := [19] }]
abbrev ps3 : List Ty := [.int .i64, .int .i64, .sl (.int .i64), .int .i64]
abbrev rs3 : List Ty := [.bool]
noncomputable def d3 : (pk ps3).den → Option (pk rs3).den := fnK tab env3 31 ann3 big Try.f3 [] ps3 rs3 true
theorem envOk3 : ∀ f sg, env3 f = some sg → Contract Try.prog f sg := by
  intro f sg h
  unfold env3 at h
  split at h
  · injection h with h; subst h; exact c5
  · injection h with h; subst h; exact c6
  · injection h with h; subst h; exact c7
  · injection h with h; subst h; exact c8
  · injection h with h; subst h; exact c9
  · injection h with h; subst h; exact c10
  · injection h with h; subst h; exact c11
  · injection h with h; subst h; exact c12
  · injection h with h; subst h; exact c13
  · injection h with h; subst h; exact c14
  · injection h with h; subst h; exact c15
  · cases h
theorem l3 : ps3.length ≤ Try.f3.ntmps := of_decide_eq_true (by kernel_rfl)
theorem h3 : ∀ x y, d3 x = some y → fnD tab env3 31 ann3 big Try.f3 [] ps3 rs3 true x = some y := fun x y h => by rw [d3, ← fnK_eq l3] at h; exact h
theorem r3 : resOK tab Try.f3.results.toList rs3 = true := by kernel_rfl
theorem n3 : nodupB (Try.f3.results.toList.map rSlot) = true := by kernel_rfl
theorem does3 : Does Try.prog 3 ps3 rs3 true d3 := fn_does mixed tabOK envOk3 Try.func3 r3 n3 l3 h3
end Go.Proofs.Ytbapfiaglcllnaa.D
