import Derived.Test.YtbapfiaglcllnaaXGall
import Derived.Test.YtbapfiaglcllnaaXJbb
section
open Go Go.GD Go.Proofs
namespace Go.Proofs.Ytbapfiaglcllnaa.D
abbrev ps28 : List Ty := [.sl (.int .u8)]
abbrev rs28 : List Ty := [.sl Up.rideTy, .int .i64, .int .u64]
noncomputable def d28 : (pk ps28).den → Option (pk rs28).den := Sc.scanH big
noncomputable def sg28 : Sig := { ps := ps28, rs := rs28, own := true, φ := d28 }
theorem c28 : Contract Try.prog 28 sg28 := by rw [sg28]; exact Contract.of Sc.k28 Sc.scan_does
noncomputable def env8 : Nat → Option Sig := fun n => match n with
  | 28 => some sg28
  | _ => none
def ann8 : List LoopAnn := []
abbrev ps8 : List Ty := [.sl (.int .u8)]
abbrev rs8 : List Ty := [.sl (.pair (.int .i64) (.pair (.int .i64) (.pair (.int .i64) (.pair (.int .i64) (.pair (.int .i64) (.pair (.int .i64) (.int .i64))))))), .int .i64]
noncomputable def d8 : (pk ps8).den → Option (pk rs8).den := fnK tab env8 7 ann8 big Try.f8 [] ps8 rs8 true
noncomputable def sg8 : Sig := { ps := ps8, rs := rs8, own := true, φ := d8 }
theorem envOk8 : ∀ f sg, env8 f = some sg → Contract Try.prog f sg := by
  intro f sg h
  unfold env8 at h
  split at h
  · injection h with h; subst h; exact c28
  · cases h
theorem l8 : ps8.length ≤ Try.f8.ntmps := of_decide_eq_true (by kernel_rfl)
theorem h8 : ∀ x y, d8 x = some y → fnD tab env8 7 ann8 big Try.f8 [] ps8 rs8 true x = some y := fun x y h => by rw [d8, ← fnK_eq l8] at h; exact h
theorem r8 : resOK tab Try.f8.results.toList rs8 = true := by kernel_rfl
theorem n8 : nodupB (Try.f8.results.toList.map rSlot) = true := by kernel_rfl
theorem does8 : Does Try.prog 8 ps8 rs8 true d8 := fn_does mixed tabOK envOk8 Try.func8 r8 n8 l8 h8
theorem k8 : Callable Try.prog 8 := ⟨Try.f8, Try.func8, by kernel_rfl, by kernel_rfl⟩
theorem c8 : Contract Try.prog 8 sg8 := by rw [sg8]; exact Contract.of k8 does8
abbrev ps15 : List Ty := [.sl Up.rideTy, .sl Up.rideTy]
abbrev rs15 : List Ty := [.sl Up.rideTy, .int .i64]
noncomputable def d15 : (pk ps15).den → Option (pk rs15).den := Mg.mergeD
noncomputable def sg15 : Sig := { ps := ps15, rs := rs15, own := true, φ := d15 }
theorem c15 : Contract Try.prog 15 sg15 := by rw [sg15]; exact Contract.of Mg.k15 Mg.merge_does
noncomputable def env12 : Nat → Option Sig := fun n => match n with
  | 15 => some sg15
  | 37 => some sg37
  | _ => none
def ann12 : List LoopAnn := []
abbrev ps12 : List Ty := [.sl (.pair (.int .i64) (.pair (.int .i64) (.pair (.int .i64) (.pair (.int .i64) (.pair (.int .i64) (.pair (.int .i64) (.int .i64))))))), .pair (.int .i64) (.pair (.int .i64) (.pair (.int .i64) (.pair (.int .i64) (.pair (.int .i64) (.pair (.int .i64) (.int .i64))))))]
abbrev rs12 : List Ty := [.sl (.pair (.int .i64) (.pair (.int .i64) (.pair (.int .i64) (.pair (.int .i64) (.pair (.int .i64) (.pair (.int .i64) (.int .i64))))))), .bool, .int .i64]
noncomputable def d12 : (pk ps12).den → Option (pk rs12).den := fnK tab env12 9 ann12 big Try.f12 [] ps12 rs12 true
noncomputable def sg12 : Sig := { ps := ps12, rs := rs12, own := true, φ := d12 }
theorem envOk12 : ∀ f sg, env12 f = some sg → Contract Try.prog f sg := by
  intro f sg h
  unfold env12 at h
  split at h
  · injection h with h; subst h; exact c15
  · injection h with h; subst h; exact c37
  · cases h
theorem l12 : ps12.length ≤ Try.f12.ntmps := of_decide_eq_true (by kernel_rfl)
theorem h12 : ∀ x y, d12 x = some y → fnD tab env12 9 ann12 big Try.f12 [] ps12 rs12 true x = some y := fun x y h => by rw [d12, ← fnK_eq l12] at h; exact h
theorem r12 : resOK tab Try.f12.results.toList rs12 = true := by kernel_rfl
theorem n12 : nodupB (Try.f12.results.toList.map rSlot) = true := by kernel_rfl
theorem does12 : Does Try.prog 12 ps12 rs12 true d12 := fn_does mixed tabOK envOk12 Try.func12 r12 n12 l12 h12
theorem k12 : Callable Try.prog 12 := ⟨Try.f12, Try.func12, by kernel_rfl, by kernel_rfl⟩
theorem c12 : Contract Try.prog 12 sg12 := by rw [sg12]; exact Contract.of k12 does12
noncomputable def env5 : Nat → Option Sig := fun n => match n with
  | 10 => some sg10
  | 11 => some sg11
  | 12 => some sg12
  | 24 => some sg24
  | 25 => some sg25
  | _ => none
def ann5 : List LoopAnn := []
abbrev ps5 : List Ty := []
abbrev rs5 : List Ty := [.bool]
noncomputable def d5 : (pk ps5).den → Option (pk rs5).den := fnK tab env5 11 ann5 big Try.f5 [] ps5 rs5 true
noncomputable def sg5 : Sig := { ps := ps5, rs := rs5, own := true, φ := d5 }
theorem envOk5 : ∀ f sg, env5 f = some sg → Contract Try.prog f sg := by
  intro f sg h
  unfold env5 at h
  split at h
  · injection h with h; subst h; exact c10
  · injection h with h; subst h; exact c11
  · injection h with h; subst h; exact c12
  · injection h with h; subst h; exact c24
  · injection h with h; subst h; exact c25
  · cases h
theorem l5 : ps5.length ≤ Try.f5.ntmps := of_decide_eq_true (by kernel_rfl)
theorem h5 : ∀ x y, d5 x = some y → fnD tab env5 11 ann5 big Try.f5 [] ps5 rs5 true x = some y := fun x y h => by rw [d5, ← fnK_eq l5] at h; exact h
theorem r5 : resOK tab Try.f5.results.toList rs5 = true := by kernel_rfl
theorem n5 : nodupB (Try.f5.results.toList.map rSlot) = true := by kernel_rfl
theorem does5 : Does Try.prog 5 ps5 rs5 true d5 := fn_does mixed tabOK envOk5 Try.func5 r5 n5 l5 h5
theorem k5 : Callable Try.prog 5 := ⟨Try.f5, Try.func5, by kernel_rfl, by kernel_rfl⟩
theorem c5 : Contract Try.prog 5 sg5 := by rw [sg5]; exact Contract.of k5 does5
end Go.Proofs.Ytbapfiaglcllnaa.D
end
