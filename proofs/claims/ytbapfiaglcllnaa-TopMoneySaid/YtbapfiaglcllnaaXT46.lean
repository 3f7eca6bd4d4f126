import Derived.Test.YtbapfiaglcllnaaXN2
open Go Go.GD Go.Proofs
namespace Go.Proofs.Ytbapfiaglcllnaa.D
abbrev ps87 : List Ty := [.sl Nt.shTy, .fn Nt.shTy .bool]
abbrev rs87 : List Ty := [.sl Nt.shTy]
def d87 : (pk ps87).den → Option (pk rs87).den := Nt.dfD
def sg87 : Sig := { ps := ps87, rs := rs87, own := true, eat := true, φ := d87 }
theorem k87 : Callable Try.prog 87 := ⟨Try.f87, Try.func87, by kernel_rfl, by kernel_rfl⟩
theorem c87 : Contract Try.prog 87 sg87 := Contract.ofEat k87 Nt.df_eats
def env89 : Nat → Option Sig := fun _ => none
def ann89 : List LoopAnn := []
abbrev ps89 : List Ty := [.pair (.int .i64) (.int .i64)]
abbrev rs89 : List Ty := [.bool]
noncomputable def d89 : (pk ps89).den → Option (pk rs89).den := fnK tab env89 3 ann89 big Try.f89 [] ps89 rs89 true
noncomputable def sg89 : Sig := { ps := ps89, rs := rs89, own := true, φ := d89 }
theorem envOk89 : ∀ f sg, env89 f = some sg → Contract Try.prog f sg := by
  intro f sg h
  unfold env89 at h
  cases h
theorem l89 : ps89.length ≤ Try.f89.ntmps := of_decide_eq_true (by kernel_rfl)
theorem h89 : ∀ x y, d89 x = some y → fnD tab env89 3 ann89 big Try.f89 [] ps89 rs89 true x = some y := fun x y h => by rw [d89, ← fnK_eq l89] at h; exact h
theorem r89 : resOK tab Try.f89.results.toList rs89 = true := by kernel_rfl
theorem n89 : nodupB (Try.f89.results.toList.map rSlot) = true := by kernel_rfl
theorem does89 : Does Try.prog 89 ps89 rs89 true d89 := fn_does mixed tabOK envOk89 Try.func89 r89 n89 l89 h89
theorem k89 : Callable Try.prog 89 := ⟨Try.f89, Try.func89, by kernel_rfl, by kernel_rfl⟩
theorem c89 : Contract Try.prog 89 sg89 := by rw [sg89]; exact Contract.of k89 does89
noncomputable def env46 : Nat → Option Sig := fun n => match n with
  | 53 => some sg53
  | 87 => some sg87
  | 88 => some sg88
  | 89 => some sg89
  | _ => none
def ann46 : List LoopAnn := []
abbrev ps46 : List Ty := [.sl (.pair (.int .i64) (.int .i64))]
abbrev rs46 : List Ty := [.sl (.pair (.int .i64) (.int .i64))]
noncomputable def d46 : (pk ps46).den → Option (pk rs46).den := fnK tab env46 3 ann46 big Try.f46 [] ps46 rs46 true
noncomputable def sg46 : Sig := { ps := ps46, rs := rs46, own := true, φ := d46 }
theorem envOk46 : ∀ f sg, env46 f = some sg → Contract Try.prog f sg := by
  intro f sg h
  unfold env46 at h
  split at h
  · injection h with h; subst h; exact c53
  · injection h with h; subst h; exact c87
  · injection h with h; subst h; exact c88
  · injection h with h; subst h; exact c89
  · cases h
theorem l46 : ps46.length ≤ Try.f46.ntmps := of_decide_eq_true (by kernel_rfl)
theorem h46 : ∀ x y, d46 x = some y → fnD tab env46 3 ann46 big Try.f46 [] ps46 rs46 true x = some y := fun x y h => by rw [d46, ← fnK_eq l46] at h; exact h
theorem r46 : resOK tab Try.f46.results.toList rs46 = true := by kernel_rfl
theorem n46 : nodupB (Try.f46.results.toList.map rSlot) = true := by kernel_rfl
theorem does46 : Does Try.prog 46 ps46 rs46 true d46 := fn_does mixed tabOK envOk46 Try.func46 r46 n46 l46 h46
theorem k46 : Callable Try.prog 46 := ⟨Try.f46, Try.func46, by kernel_rfl, by kernel_rfl⟩
theorem c46 : Contract Try.prog 46 sg46 := by rw [sg46]; exact Contract.of k46 does46
end Go.Proofs.Ytbapfiaglcllnaa.D
