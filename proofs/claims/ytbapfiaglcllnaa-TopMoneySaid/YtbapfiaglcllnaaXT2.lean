import Derived.Test.YtbapfiaglcllnaaXN4
import Derived.Test.YtbapfiaglcllnaaXVall
import Derived.Test.YtbapfiaglcllnaaXAall
import Derived.Test.YtbapfiaglcllnaaXRall
import Derived.Test.YtbapfiaglcllnaaXH47all
import Derived.Test.YtbapfiaglcllnaaXH24all
import Derived.Test.YtbapfiaglcllnaaXT46
open Go Go.GD Go.Proofs
namespace Go.Proofs.Ytbapfiaglcllnaa.D
noncomputable def env20 : Nat → Option Sig := fun n => match n with
  | 46 => some sg46
  | 47 => some sg47
  | _ => none
def ann20 : List LoopAnn := []
abbrev ps20 : List Ty := [.sl (.pair (.int .i64) (.int .i64))]
abbrev rs20 : List Ty := [.int .i64]
noncomputable def d20 : (pk ps20).den → Option (pk rs20).den := fnK tab env20 5 ann20 big Try.f20 [] ps20 rs20 true
noncomputable def sg20 : Sig := { ps := ps20, rs := rs20, own := true, φ := d20 }
theorem envOk20 : ∀ f sg, env20 f = some sg → Contract Try.prog f sg := by
  intro f sg h
  unfold env20 at h
  split at h
  · injection h with h; subst h; exact c46
  · injection h with h; subst h; exact c47
  · cases h
theorem l20 : ps20.length ≤ Try.f20.ntmps := of_decide_eq_true (by kernel_rfl)
theorem h20 : ∀ x y, d20 x = some y → fnD tab env20 5 ann20 big Try.f20 [] ps20 rs20 true x = some y := fun x y h => by rw [d20, ← fnK_eq l20] at h; exact h
theorem r20 : resOK tab Try.f20.results.toList rs20 = true := by kernel_rfl
theorem n20 : nodupB (Try.f20.results.toList.map rSlot) = true := by kernel_rfl
theorem does20 : Does Try.prog 20 ps20 rs20 true d20 := fn_does mixed tabOK envOk20 Try.func20 r20 n20 l20 h20
theorem k20 : Callable Try.prog 20 := ⟨Try.f20, Try.func20, by kernel_rfl, by kernel_rfl⟩
theorem c20 : Contract Try.prog 20 sg20 := by rw [sg20]; exact Contract.of k20 does20
abbrev ps42 : List Ty := [.sl Rt.taskTy, .sl .bool]
abbrev rs42 : List Ty := [.sl Rt.shiftTy]
noncomputable def d42 : (pk ps42).den → Option (pk rs42).den := Rt.best20
noncomputable def sg42 : Sig := { ps := ps42, rs := rs42, own := true, φ := d42 }
theorem k42 : Callable Try.prog 42 := ⟨Try.f42, Try.func42, by kernel_rfl, by kernel_rfl⟩
theorem c42 : Contract Try.prog 42 sg42 := by rw [sg42]; exact Contract.of k42 Rt.best_does
noncomputable def env45 : Nat → Option Sig := fun n => match n with
  | 42 => some sg42
  | 86 => some sg86
  | _ => none
def ann45 : List LoopAnn := []
abbrev ps45 : List Ty := [.sl (.pair (.int .i64) (.pair (.int .i64) (.pair (.bool) (.sl (.int .i64))))), .sl (.bool)]
abbrev rs45 : List Ty := [.int .i64]
noncomputable def d45 : (pk ps45).den → Option (pk rs45).den := fnK tab env45 5 ann45 big Try.f45 [] ps45 rs45 true
noncomputable def sg45 : Sig := { ps := ps45, rs := rs45, own := true, φ := d45 }
theorem envOk45 : ∀ f sg, env45 f = some sg → Contract Try.prog f sg := by
  intro f sg h
  unfold env45 at h
  split at h
  · injection h with h; subst h; exact c42
  · injection h with h; subst h; exact c86
  · cases h
theorem l45 : ps45.length ≤ Try.f45.ntmps := of_decide_eq_true (by kernel_rfl)
theorem h45 : ∀ x y, d45 x = some y → fnD tab env45 5 ann45 big Try.f45 [] ps45 rs45 true x = some y := fun x y h => by rw [d45, ← fnK_eq l45] at h; exact h
theorem r45 : resOK tab Try.f45.results.toList rs45 = true := by kernel_rfl
theorem n45 : nodupB (Try.f45.results.toList.map rSlot) = true := by kernel_rfl
theorem does45 : Does Try.prog 45 ps45 rs45 true d45 := fn_does mixed tabOK envOk45 Try.func45 r45 n45 l45 h45
theorem k45 : Callable Try.prog 45 := ⟨Try.f45, Try.func45, by kernel_rfl, by kernel_rfl⟩
theorem c45 : Contract Try.prog 45 sg45 := by rw [sg45]; exact Contract.of k45 does45
abbrev ps81 : List Ty := [.sl Rs.secTy, .int .i64]
abbrev rs81 : List Ty := [.sl (.int .i64), .int .i64]
noncomputable def d81 : (pk ps81).den → Option (pk rs81).den := Rs.assignR
noncomputable def sg81 : Sig := { ps := ps81, rs := rs81, own := false, φ := d81 }
theorem c81 : Contract Try.prog 81 sg81 := by rw [sg81]; exact Contract.of Rs.k81 Rs.assign_does
noncomputable def env43 : Nat → Option Sig := fun n => match n with
  | 80 => some sg80
  | 81 => some sg81
  | _ => none
def ann43 : List LoopAnn := [{ id := 8, live := [8, 9, 10, 11, 30, 31, 32], frz := [] }]
abbrev ps43 : List Ty := [.sl (.pair (.int .i64) (.pair (.int .i64) (.int .i64))), .int .i64]
abbrev rs43 : List Ty := [.sl (.pair (.int .i64) (.pair (.int .i64) (.pair (.int .i64) (.int .i64)))), .int .i64, .int .i64]
noncomputable def d43 : (pk ps43).den → Option (pk rs43).den := fnK tab env43 16 ann43 big Try.f43 [] ps43 rs43 true
noncomputable def sg43 : Sig := { ps := ps43, rs := rs43, own := true, φ := d43 }
theorem envOk43 : ∀ f sg, env43 f = some sg → Contract Try.prog f sg := by
  intro f sg h
  unfold env43 at h
  split at h
  · injection h with h; subst h; exact c80
  · injection h with h; subst h; exact c81
  · cases h
theorem l43 : ps43.length ≤ Try.f43.ntmps := of_decide_eq_true (by kernel_rfl)
theorem h43 : ∀ x y, d43 x = some y → fnD tab env43 16 ann43 big Try.f43 [] ps43 rs43 true x = some y := fun x y h => by rw [d43, ← fnK_eq l43] at h; exact h
theorem r43 : resOK tab Try.f43.results.toList rs43 = true := by kernel_rfl
theorem n43 : nodupB (Try.f43.results.toList.map rSlot) = true := by kernel_rfl
theorem does43 : Does Try.prog 43 ps43 rs43 true d43 := fn_does mixed tabOK envOk43 Try.func43 r43 n43 l43 h43
theorem k43 : Callable Try.prog 43 := ⟨Try.f43, Try.func43, by kernel_rfl, by kernel_rfl⟩
theorem c43 : Contract Try.prog 43 sg43 := by rw [sg43]; exact Contract.of k43 does43
abbrev ps44 : List Ty := [.sl (.sl (.int .i64))]
abbrev rs44 : List Ty := [.sl (.int .i64), .int .i64, .int .i64]
noncomputable def d44 : (pk ps44).den → Option (pk rs44).den := As.bestA
noncomputable def sg44 : Sig := { ps := ps44, rs := rs44, own := false, φ := d44 }
theorem c44 : Contract Try.prog 44 sg44 := by rw [sg44]; exact Contract.of As.k44 As.best_does
noncomputable def env16 : Nat → Option Sig := fun n => match n with
  | 42 => some sg42
  | 43 => some sg43
  | 44 => some sg44
  | 45 => some sg45
  | _ => none
def ann16 : List LoopAnn := []
abbrev ps16 : List Ty := []
abbrev rs16 : List Ty := [.bool]
noncomputable def d16 : (pk ps16).den → Option (pk rs16).den := fnK tab env16 9 ann16 big Try.f16 [] ps16 rs16 true
noncomputable def sg16 : Sig := { ps := ps16, rs := rs16, own := true, φ := d16 }
theorem envOk16 : ∀ f sg, env16 f = some sg → Contract Try.prog f sg := by
  intro f sg h
  unfold env16 at h
  split at h
  · injection h with h; subst h; exact c42
  · injection h with h; subst h; exact c43
  · injection h with h; subst h; exact c44
  · injection h with h; subst h; exact c45
  · cases h
theorem l16 : ps16.length ≤ Try.f16.ntmps := of_decide_eq_true (by kernel_rfl)
theorem h16 : ∀ x y, d16 x = some y → fnD tab env16 9 ann16 big Try.f16 [] ps16 rs16 true x = some y := fun x y h => by rw [d16, ← fnK_eq l16] at h; exact h
theorem r16 : resOK tab Try.f16.results.toList rs16 = true := by kernel_rfl
theorem n16 : nodupB (Try.f16.results.toList.map rSlot) = true := by kernel_rfl
theorem does16 : Does Try.prog 16 ps16 rs16 true d16 := fn_does mixed tabOK envOk16 Try.func16 r16 n16 l16 h16
theorem k16 : Callable Try.prog 16 := ⟨Try.f16, Try.func16, by kernel_rfl, by kernel_rfl⟩
theorem c16 : Contract Try.prog 16 sg16 := by rw [sg16]; exact Contract.of k16 does16
noncomputable def env23 : Nat → Option Sig := fun n => match n with
  | 62 => some sg62
  | 63 => some sg63
  | _ => none
def ann23 : List LoopAnn := [{ id := 4, live := [0, 1, 2, 10, 11, 22, 23, 24], frz := [] }, { id := 8, live := [0, 1, 2, 10, 11, 13, 14, 22, 23, 24, 29, 30, 31], frz := [] }]
abbrev ps23 : List Ty := [.sl (.int .i64), .sl (.int .i64), .sl (.pair (.int .i64) (.pair (.int .i64) (.pair (.int .i64) (.int .i64)))), .sl (.pair (.int .i64) (.sl (.int .i64)))]
abbrev rs23 : List Ty := [.int .i64, .bool]
noncomputable def d23 : (pk ps23).den → Option (pk rs23).den := fnK tab env23 19 ann23 big Try.f23 [] ps23 rs23 true
noncomputable def sg23 : Sig := { ps := ps23, rs := rs23, own := true, φ := d23 }
theorem envOk23 : ∀ f sg, env23 f = some sg → Contract Try.prog f sg := by
  intro f sg h
  unfold env23 at h
  split at h
  · injection h with h; subst h; exact c62
  · injection h with h; subst h; exact c63
  · cases h
theorem l23 : ps23.length ≤ Try.f23.ntmps := of_decide_eq_true (by kernel_rfl)
theorem h23 : ∀ x y, d23 x = some y → fnD tab env23 19 ann23 big Try.f23 [] ps23 rs23 true x = some y := fun x y h => by rw [d23, ← fnK_eq l23] at h; exact h
theorem r23 : resOK tab Try.f23.results.toList rs23 = true := by kernel_rfl
theorem n23 : nodupB (Try.f23.results.toList.map rSlot) = true := by kernel_rfl
theorem does23 : Does Try.prog 23 ps23 rs23 true d23 := fn_does mixed tabOK envOk23 Try.func23 r23 n23 l23 h23
theorem k23 : Callable Try.prog 23 := ⟨Try.f23, Try.func23, by kernel_rfl, by kernel_rfl⟩
theorem c23 : Contract Try.prog 23 sg23 := by rw [sg23]; exact Contract.of k23 does23
abbrev ps18 : List Ty := [.sl Nt.shTy]
abbrev rs18 : List Ty := [.sl Nt.trTy]
noncomputable def d18 : (pk ps18).den → Option (pk rs18).den := Nt.netD
noncomputable def sg18 : Sig := { ps := ps18, rs := rs18, own := true, φ := d18 }
theorem c18 : Contract Try.prog 18 sg18 := by rw [sg18]; exact Contract.of Nt.k18 Nt.net_does
abbrev ps19 : List Ty := [.sl Nt.shTy, .sl Nt.trTy]
abbrev rs19 : List Ty := [.bool]
noncomputable def d19 : (pk ps19).den → Option (pk rs19).den := Nt.validD
noncomputable def sg19 : Sig := { ps := ps19, rs := rs19, own := true, φ := d19 }
theorem c19 : Contract Try.prog 19 sg19 := by rw [sg19]; exact Contract.of Nt.k19 Nt.valid_does
abbrev ps21 : List Ty := [.sl (.int .i64), .sl (.int .i64), .sl ofTy]
abbrev rs21 : List Ty := [.sl bdTy, .int .i64, .int .i64]
noncomputable def d21 : (pk ps21).den → Option (pk rs21).den := bestD
noncomputable def sg21 : Sig := { ps := ps21, rs := rs21, own := false, φ := d21 }
theorem c21 : Contract Try.prog 21 sg21 := by rw [sg21]; exact Contract.of k21 best_does
noncomputable def env4 : Nat → Option Sig := fun n => match n with
  | 16 => some sg16
  | 17 => some sg17
  | 18 => some sg18
  | 19 => some sg19
  | 20 => some sg20
  | 21 => some sg21
  | 22 => some sg22
  | 23 => some sg23
  | _ => none
def ann4 : List LoopAnn := [{ id := 9, live := [2, 3, 4, 5, 14], frz := [] }]
abbrev ps4 : List Ty := [.sl (.pair (.int .i64) (.int .i64)), .sl (.pair (.int .i64) (.pair (.int .i64) (.int .i64))), .sl (.int .i64), .sl (.int .i64), .sl (.pair (.int .i64) (.pair (.int .i64) (.pair (.int .i64) (.int .i64)))), .sl (.pair (.int .i64) (.sl (.int .i64)))]
abbrev rs4 : List Ty := [.bool]
noncomputable def d4 : (pk ps4).den → Option (pk rs4).den := fnK tab env4 22 ann4 big Try.f4 [] ps4 rs4 true
theorem envOk4 : ∀ f sg, env4 f = some sg → Contract Try.prog f sg := by
  intro f sg h
  unfold env4 at h
  split at h
  · injection h with h; subst h; exact c16
  · injection h with h; subst h; exact c17
  · injection h with h; subst h; exact c18
  · injection h with h; subst h; exact c19
  · injection h with h; subst h; exact c20
  · injection h with h; subst h; exact c21
  · injection h with h; subst h; exact c22
  · injection h with h; subst h; exact c23
  · cases h
theorem l4 : ps4.length ≤ Try.f4.ntmps := of_decide_eq_true (by kernel_rfl)
theorem h4 : ∀ x y, d4 x = some y → fnD tab env4 22 ann4 big Try.f4 [] ps4 rs4 true x = some y := fun x y h => by rw [d4, ← fnK_eq l4] at h; exact h
theorem r4 : resOK tab Try.f4.results.toList rs4 = true := by kernel_rfl
theorem n4 : nodupB (Try.f4.results.toList.map rSlot) = true := by kernel_rfl
theorem does4 : Does Try.prog 4 ps4 rs4 true d4 := fn_does mixed tabOK envOk4 Try.func4 r4 n4 l4 h4
end Go.Proofs.Ytbapfiaglcllnaa.D
