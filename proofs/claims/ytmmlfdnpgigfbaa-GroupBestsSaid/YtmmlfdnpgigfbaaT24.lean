import Derived.Test.YtmmlfdnpgigfbaaProg
import Derived.Test.YtmmlfdnpgigfbaaChecked
import Derived.Test.YtmmlfdnpgigfbaaGD29
import Derived.Test.YtmmlfdnpgigfbaaGDD
import Derived.Test.YtmmlfdnpgigfbaaGDW
import Derived.Test.YtmmlfdnpgigfbaaGDK
import Derived.Test.YtmmlfdnpgigfbaaH24all
open Go Go.GD Go.Proofs
namespace Go.Proofs.Ytmmlfdnpgigfbaa.D


/-! skiarea/group.charge -/
noncomputable def env34 : Nat → Option Sig := fun n => match n with
  | 38 => some sg38
  | _ => none

def ann34 : List LoopAnn := [{ id := 6, live := [0, 7, 26, 27, 28], frz := [] }]
abbrev ps34 : List Ty := [.sl (.int .i64), .sl (.int .i64), .sl (.pair (.int .i64) (.pair (.int .i64) (.pair (.int .i64) (.int .i64)))), .pair (.int .i64) (.sl (.int .i64))]
abbrev rs34 : List Ty := [.int .i64, .bool]
noncomputable def d34 : (pk ps34).den → Option (pk rs34).den := fnK tab env34 12 ann34 big Try.f34 [] ps34 rs34 true
noncomputable def sg34 : Sig := { ps := ps34, rs := rs34, own := true, φ := d34 }

theorem envOk34 : ∀ f sg, env34 f = some sg → Contract Try.prog f sg := by
  intro f sg h
  unfold env34 at h
  split at h
  · injection h with h; subst h; exact c38
  · cases h
theorem l34 : ps34.length ≤ Try.f34.ntmps := of_decide_eq_true (by kernel_rfl)
theorem h34 : ∀ x y, d34 x = some y → fnD tab env34 12 ann34 big Try.f34 [] ps34 rs34 true x = some y := fun x y h => by rw [d34, ← fnK_eq l34] at h; exact h
theorem r34 : resOK tab Try.f34.results.toList rs34 = true := by kernel_rfl
theorem n34 : nodupB (Try.f34.results.toList.map rSlot) = true := by kernel_rfl
theorem does34 : Does Try.prog 34 ps34 rs34 true d34 := fn_does mixed tabOK envOk34 Try.func34 r34 n34 l34 h34
theorem k34 : Callable Try.prog 34 := ⟨Try.f34, Try.func34, by kernel_rfl, by kernel_rfl⟩
theorem c34 : Contract Try.prog 34 sg34 := by rw [sg34]; exact Contract.of k34 does34

/-! slices.Index[[]bool,bool] -/
def env39 : Nat → Option Sig := fun _ => none

def ann39 : List LoopAnn := [{ id := 2, live := [0, 1, 7, 8], frz := [] }]
abbrev ps39 : List Ty := [.sl (.bool), .bool]
abbrev rs39 : List Ty := [.int .i64]
noncomputable def d39 : (pk ps39).den → Option (pk rs39).den := fnK tab env39 6 ann39 big Try.f39 [] ps39 rs39 true
noncomputable def sg39 : Sig := { ps := ps39, rs := rs39, own := true, φ := d39 }

theorem envOk39 : ∀ f sg, env39 f = some sg → Contract Try.prog f sg := by
  intro f sg h
  unfold env39 at h
  cases h
theorem l39 : ps39.length ≤ Try.f39.ntmps := of_decide_eq_true (by kernel_rfl)
theorem h39 : ∀ x y, d39 x = some y → fnD tab env39 6 ann39 big Try.f39 [] ps39 rs39 true x = some y := fun x y h => by rw [d39, ← fnK_eq l39] at h; exact h
theorem r39 : resOK tab Try.f39.results.toList rs39 = true := by kernel_rfl
theorem n39 : nodupB (Try.f39.results.toList.map rSlot) = true := by kernel_rfl
theorem does39 : Does Try.prog 39 ps39 rs39 true d39 := fn_does mixed tabOK envOk39 Try.func39 r39 n39 l39 h39
theorem k39 : Callable Try.prog 39 := ⟨Try.f39, Try.func39, by kernel_rfl, by kernel_rfl⟩
theorem c39 : Contract Try.prog 39 sg39 := by rw [sg39]; exact Contract.of k39 does39

/-! slices.Contains[[]bool,bool] -/
noncomputable def env35 : Nat → Option Sig := fun n => match n with
  | 39 => some sg39
  | _ => none

def ann35 : List LoopAnn := []
abbrev ps35 : List Ty := [.sl (.bool), .bool]
abbrev rs35 : List Ty := [.bool]
noncomputable def d35 : (pk ps35).den → Option (pk rs35).den := fnK tab env35 5 ann35 big Try.f35 [] ps35 rs35 true
noncomputable def sg35 : Sig := { ps := ps35, rs := rs35, own := true, φ := d35 }

theorem envOk35 : ∀ f sg, env35 f = some sg → Contract Try.prog f sg := by
  intro f sg h
  unfold env35 at h
  split at h
  · injection h with h; subst h; exact c39
  · cases h
theorem l35 : ps35.length ≤ Try.f35.ntmps := of_decide_eq_true (by kernel_rfl)
theorem h35 : ∀ x y, d35 x = some y → fnD tab env35 5 ann35 big Try.f35 [] ps35 rs35 true x = some y := fun x y h => by rw [d35, ← fnK_eq l35] at h; exact h
theorem r35 : resOK tab Try.f35.results.toList rs35 = true := by kernel_rfl
theorem n35 : nodupB (Try.f35.results.toList.map rSlot) = true := by kernel_rfl
theorem does35 : Does Try.prog 35 ps35 rs35 true d35 := fn_does mixed tabOK envOk35 Try.func35 r35 n35 l35 h35
theorem k35 : Callable Try.prog 35 := ⟨Try.f35, Try.func35, by kernel_rfl, by kernel_rfl⟩
theorem c35 : Contract Try.prog 35 sg35 := by rw [sg35]; exact Contract.of k35 does35

/-! skiarea/group.Cost -/
noncomputable def env27 : Nat → Option Sig := fun n => match n with
  | 34 => some sg34
  | 35 => some sg35
  | _ => none

def ann27 : List LoopAnn := [{ id := 4, live := [0, 1, 2, 10, 11, 22, 23, 24], frz := [] }, { id := 8, live := [0, 1, 2, 10, 11, 13, 14, 22, 23, 24, 29, 30, 31], frz := [] }]
abbrev ps27 : List Ty := [.sl (.int .i64), .sl (.int .i64), .sl (.pair (.int .i64) (.pair (.int .i64) (.pair (.int .i64) (.int .i64)))), .sl (.pair (.int .i64) (.sl (.int .i64)))]
abbrev rs27 : List Ty := [.int .i64, .bool]
noncomputable def d27 : (pk ps27).den → Option (pk rs27).den := fnK tab env27 19 ann27 big Try.f27 [] ps27 rs27 true
noncomputable def sg27 : Sig := { ps := ps27, rs := rs27, own := true, φ := d27 }

theorem envOk27 : ∀ f sg, env27 f = some sg → Contract Try.prog f sg := by
  intro f sg h
  unfold env27 at h
  split at h
  · injection h with h; subst h; exact c34
  · injection h with h; subst h; exact c35
  · cases h
theorem l27 : ps27.length ≤ Try.f27.ntmps := of_decide_eq_true (by kernel_rfl)
theorem h27 : ∀ x y, d27 x = some y → fnD tab env27 19 ann27 big Try.f27 [] ps27 rs27 true x = some y := fun x y h => by rw [d27, ← fnK_eq l27] at h; exact h
theorem r27 : resOK tab Try.f27.results.toList rs27 = true := by kernel_rfl
theorem n27 : nodupB (Try.f27.results.toList.map rSlot) = true := by kernel_rfl
theorem does27 : Does Try.prog 27 ps27 rs27 true d27 := fn_does mixed tabOK envOk27 Try.func27 r27 n27 l27 h27
theorem k27 : Callable Try.prog 27 := ⟨Try.f27, Try.func27, by kernel_rfl, by kernel_rfl⟩
theorem c27 : Contract Try.prog 27 sg27 := by rw [sg27]; exact Contract.of k27 does27

/-! skiarea/skiarealaw24.cost -/
noncomputable def env16 : Nat → Option Sig := fun n => match n with
  | 27 => some sg27
  | _ => none

def ann16 : List LoopAnn := []
abbrev ps16 : List Ty := [.pair (.sl (.int .i64)) (.pair (.sl (.int .i64)) (.sl (.pair (.int .i64) (.pair (.int .i64) (.pair (.int .i64) (.int .i64)))))), .sl (.pair (.int .i64) (.sl (.int .i64)))]
abbrev rs16 : List Ty := [.int .i64, .bool]
noncomputable def d16 : (pk ps16).den → Option (pk rs16).den := fnK tab env16 6 ann16 big Try.f16 [] ps16 rs16 true
noncomputable def sg16 : Sig := { ps := ps16, rs := rs16, own := true, φ := d16 }

theorem envOk16 : ∀ f sg, env16 f = some sg → Contract Try.prog f sg := by
  intro f sg h
  unfold env16 at h
  split at h
  · injection h with h; subst h; exact c27
  · cases h
theorem l16 : ps16.length ≤ Try.f16.ntmps := of_decide_eq_true (by kernel_rfl)
theorem h16 : ∀ x y, d16 x = some y → fnD tab env16 6 ann16 big Try.f16 [] ps16 rs16 true x = some y := fun x y h => by rw [d16, ← fnK_eq l16] at h; exact h
theorem r16 : resOK tab Try.f16.results.toList rs16 = true := by kernel_rfl
theorem n16 : nodupB (Try.f16.results.toList.map rSlot) = true := by kernel_rfl
theorem does16 : Does Try.prog 16 ps16 rs16 true d16 := fn_does mixed tabOK envOk16 Try.func16 r16 n16 l16 h16
theorem k16 : Callable Try.prog 16 := ⟨Try.f16, Try.func16, by kernel_rfl, by kernel_rfl⟩
theorem c16 : Contract Try.prog 16 sg16 := by rw [sg16]; exact Contract.of k16 does16

/-! skiarea/group.Best -/
abbrev ps22 : List Ty := [.sl (.int .i64), .sl (.int .i64), .sl ofTy]
abbrev rs22 : List Ty := [.sl bdTy, .int .i64, .int .i64]
noncomputable def d22 : (pk ps22).den → Option (pk rs22).den := bestD
noncomputable def sg22 : Sig := { ps := ps22, rs := rs22, own := false, φ := d22 }
theorem c22 : Contract Try.prog 22 sg22 := by rw [sg22]; exact Contract.of k22 best_does

/-! skiarea/skiarealaw24.best -/
noncomputable def env18 : Nat → Option Sig := fun n => match n with
  | 22 => some sg22
  | _ => none

def ann18 : List LoopAnn := []
abbrev ps18 : List Ty := [.pair (.sl (.int .i64)) (.pair (.sl (.int .i64)) (.sl (.pair (.int .i64) (.pair (.int .i64) (.pair (.int .i64) (.int .i64))))))]
abbrev rs18 : List Ty := [.sl (.pair (.int .i64) (.sl (.int .i64))), .int .i64, .int .i64]
noncomputable def d18 : (pk ps18).den → Option (pk rs18).den := fnK tab env18 5 ann18 big Try.f18 [] ps18 rs18 false
noncomputable def sg18 : Sig := { ps := ps18, rs := rs18, own := false, φ := d18 }

theorem envOk18 : ∀ f sg, env18 f = some sg → Contract Try.prog f sg := by
  intro f sg h
  unfold env18 at h
  split at h
  · injection h with h; subst h; exact c22
  · cases h
theorem l18 : ps18.length ≤ Try.f18.ntmps := of_decide_eq_true (by kernel_rfl)
theorem h18 : ∀ x y, d18 x = some y → fnD tab env18 5 ann18 big Try.f18 [] ps18 rs18 false x = some y := fun x y h => by rw [d18, ← fnK_eq l18] at h; exact h
theorem r18 : resOK tab Try.f18.results.toList rs18 = true := by kernel_rfl
theorem n18 : nodupB (Try.f18.results.toList.map rSlot) = true := by kernel_rfl
theorem does18 : Does Try.prog 18 ps18 rs18 false d18 := fn_does mixed tabOK envOk18 Try.func18 r18 n18 l18 h18
theorem k18 : Callable Try.prog 18 := ⟨Try.f18, Try.func18, by kernel_rfl, by kernel_rfl⟩
theorem c18 : Contract Try.prog 18 sg18 := by rw [sg18]; exact Contract.of k18 does18

/-! skiarea/group.Saving -/
noncomputable def env19 : Nat → Option Sig := fun n => match n with
  | 22 => some sg22
  | _ => none

def ann19 : List LoopAnn := [{ id := 6, live := [9, 11, 25, 26, 27], frz := [] }]
abbrev ps19 : List Ty := [.sl (.int .i64), .sl (.int .i64), .sl (.pair (.int .i64) (.pair (.int .i64) (.pair (.int .i64) (.int .i64))))]
abbrev rs19 : List Ty := [.int .i64, .int .i64]
noncomputable def d19 : (pk ps19).den → Option (pk rs19).den := fnK tab env19 14 ann19 big Try.f19 [] ps19 rs19 true
noncomputable def sg19 : Sig := { ps := ps19, rs := rs19, own := true, φ := d19 }

theorem envOk19 : ∀ f sg, env19 f = some sg → Contract Try.prog f sg := by
  intro f sg h
  unfold env19 at h
  split at h
  · injection h with h; subst h; exact c22
  · cases h
theorem l19 : ps19.length ≤ Try.f19.ntmps := of_decide_eq_true (by kernel_rfl)
theorem h19 : ∀ x y, d19 x = some y → fnD tab env19 14 ann19 big Try.f19 [] ps19 rs19 true x = some y := fun x y h => by rw [d19, ← fnK_eq l19] at h; exact h
theorem r19 : resOK tab Try.f19.results.toList rs19 = true := by kernel_rfl
theorem n19 : nodupB (Try.f19.results.toList.map rSlot) = true := by kernel_rfl
theorem does19 : Does Try.prog 19 ps19 rs19 true d19 := fn_does mixed tabOK envOk19 Try.func19 r19 n19 l19 h19
theorem k19 : Callable Try.prog 19 := ⟨Try.f19, Try.func19, by kernel_rfl, by kernel_rfl⟩
theorem c19 : Contract Try.prog 19 sg19 := by rw [sg19]; exact Contract.of k19 does19

/-! skiarea/skiarealaw24.sample -/
def env23 : Nat → Option Sig := fun _ => none

def ann23 : List LoopAnn := []
abbrev ps23 : List Ty := []
abbrev rs23 : List Ty := [.pair (.sl (.int .i64)) (.pair (.sl (.int .i64)) (.sl (.pair (.int .i64) (.pair (.int .i64) (.pair (.int .i64) (.int .i64))))))]
noncomputable def d23 : (pk ps23).den → Option (pk rs23).den := fnK tab env23 1 ann23 big Try.f23 [] ps23 rs23 true
noncomputable def sg23 : Sig := { ps := ps23, rs := rs23, own := true, φ := d23 }

theorem envOk23 : ∀ f sg, env23 f = some sg → Contract Try.prog f sg := by
  intro f sg h
  unfold env23 at h
  cases h
theorem l23 : ps23.length ≤ Try.f23.ntmps := of_decide_eq_true (by kernel_rfl)
theorem h23 : ∀ x y, d23 x = some y → fnD tab env23 1 ann23 big Try.f23 [] ps23 rs23 true x = some y := fun x y h => by rw [d23, ← fnK_eq l23] at h; exact h
theorem r23 : resOK tab Try.f23.results.toList rs23 = true := by kernel_rfl
theorem n23 : nodupB (Try.f23.results.toList.map rSlot) = true := by kernel_rfl
theorem does23 : Does Try.prog 23 ps23 rs23 true d23 := fn_does mixed tabOK envOk23 Try.func23 r23 n23 l23 h23
theorem k23 : Callable Try.prog 23 := ⟨Try.f23, Try.func23, by kernel_rfl, by kernel_rfl⟩
theorem c23 : Contract Try.prog 23 sg23 := by rw [sg23]; exact Contract.of k23 does23

/-! skiarea/skiarealaw24.alive -/
noncomputable def env10 : Nat → Option Sig := fun n => match n with
  | 12 => some sg12
  | 16 => some sg16
  | 18 => some sg18
  | 19 => some sg19
  | 23 => some sg23
  | _ => none

def ann10 : List LoopAnn := []
abbrev ps10 : List Ty := []
abbrev rs10 : List Ty := [.bool]
noncomputable def d10 : (pk ps10).den → Option (pk rs10).den := fnK tab env10 14 ann10 big Try.f10 [] ps10 rs10 true
noncomputable def sg10 : Sig := { ps := ps10, rs := rs10, own := true, φ := d10 }

theorem envOk10 : ∀ f sg, env10 f = some sg → Contract Try.prog f sg := by
  intro f sg h
  unfold env10 at h
  split at h
  · injection h with h; subst h; exact c12
  · injection h with h; subst h; exact c16
  · injection h with h; subst h; exact c18
  · injection h with h; subst h; exact c19
  · injection h with h; subst h; exact c23
  · cases h
theorem l10 : ps10.length ≤ Try.f10.ntmps := of_decide_eq_true (by kernel_rfl)
theorem h10 : ∀ x y, d10 x = some y → fnD tab env10 14 ann10 big Try.f10 [] ps10 rs10 true x = some y := fun x y h => by rw [d10, ← fnK_eq l10] at h; exact h
theorem r10 : resOK tab Try.f10.results.toList rs10 = true := by kernel_rfl
theorem n10 : nodupB (Try.f10.results.toList.map rSlot) = true := by kernel_rfl
theorem does10 : Does Try.prog 10 ps10 rs10 true d10 := fn_does mixed tabOK envOk10 Try.func10 r10 n10 l10 h10
theorem k10 : Callable Try.prog 10 := ⟨Try.f10, Try.func10, by kernel_rfl, by kernel_rfl⟩
theorem c10 : Contract Try.prog 10 sg10 := by rw [sg10]; exact Contract.of k10 does10

/-! skiarea/skiarealaw24.few -/
def env11 : Nat → Option Sig := fun _ => none

def ann11 : List LoopAnn := []
abbrev ps11 : List Ty := [.pair (.sl (.int .i64)) (.pair (.sl (.int .i64)) (.sl (.pair (.int .i64) (.pair (.int .i64) (.pair (.int .i64) (.int .i64))))))]
abbrev rs11 : List Ty := [.bool]
noncomputable def d11 : (pk ps11).den → Option (pk rs11).den := fnK tab env11 3 ann11 big Try.f11 [] ps11 rs11 true
noncomputable def sg11 : Sig := { ps := ps11, rs := rs11, own := true, φ := d11 }

theorem envOk11 : ∀ f sg, env11 f = some sg → Contract Try.prog f sg := by
  intro f sg h
  unfold env11 at h
  cases h
theorem l11 : ps11.length ≤ Try.f11.ntmps := of_decide_eq_true (by kernel_rfl)
theorem h11 : ∀ x y, d11 x = some y → fnD tab env11 3 ann11 big Try.f11 [] ps11 rs11 true x = some y := fun x y h => by rw [d11, ← fnK_eq l11] at h; exact h
theorem r11 : resOK tab Try.f11.results.toList rs11 = true := by kernel_rfl
theorem n11 : nodupB (Try.f11.results.toList.map rSlot) = true := by kernel_rfl
theorem does11 : Does Try.prog 11 ps11 rs11 true d11 := fn_does mixed tabOK envOk11 Try.func11 r11 n11 l11 h11
theorem k11 : Callable Try.prog 11 := ⟨Try.f11, Try.func11, by kernel_rfl, by kernel_rfl⟩
theorem c11 : Contract Try.prog 11 sg11 := by rw [sg11]; exact Contract.of k11 does11

/-! skiarea/skiarearef24.price -/
def env26 : Nat → Option Sig := fun _ => none

def ann26 : List LoopAnn := []
abbrev ps26 : List Ty := [.int .i64]
abbrev rs26 : List Ty := [.bool]
noncomputable def d26 : (pk ps26).den → Option (pk rs26).den := fnK tab env26 3 ann26 big Try.f26 [] ps26 rs26 true
noncomputable def sg26 : Sig := { ps := ps26, rs := rs26, own := true, φ := d26 }

theorem envOk26 : ∀ f sg, env26 f = some sg → Contract Try.prog f sg := by
  intro f sg h
  unfold env26 at h
  cases h
theorem l26 : ps26.length ≤ Try.f26.ntmps := of_decide_eq_true (by kernel_rfl)
theorem h26 : ∀ x y, d26 x = some y → fnD tab env26 3 ann26 big Try.f26 [] ps26 rs26 true x = some y := fun x y h => by rw [d26, ← fnK_eq l26] at h; exact h
theorem r26 : resOK tab Try.f26.results.toList rs26 = true := by kernel_rfl
theorem n26 : nodupB (Try.f26.results.toList.map rSlot) = true := by kernel_rfl
theorem does26 : Does Try.prog 26 ps26 rs26 true d26 := fn_does mixed tabOK envOk26 Try.func26 r26 n26 l26 h26
theorem k26 : Callable Try.prog 26 := ⟨Try.f26, Try.func26, by kernel_rfl, by kernel_rfl⟩
theorem c26 : Contract Try.prog 26 sg26 := by rw [sg26]; exact Contract.of k26 does26

/-! skiarea/skiarearef24.Right -/
noncomputable def env13 : Nat → Option Sig := fun n => match n with
  | 26 => some sg26
  | _ => none

def ann13 : List LoopAnn := [{ id := 6, live := [0, 1, 2, 7], frz := [] }, { id := 11, live := [2, 8], frz := [] }, { id := 17, live := [2, 8, 9, 10], frz := [] }]
abbrev ps13 : List Ty := [.sl (.int .i64), .sl (.int .i64), .sl (.pair (.int .i64) (.pair (.int .i64) (.pair (.int .i64) (.int .i64))))]
abbrev rs13 : List Ty := [.int .i64]
noncomputable def d13 : (pk ps13).den → Option (pk rs13).den := fnK tab env13 11 ann13 big Try.f13 [] ps13 rs13 true
noncomputable def sg13 : Sig := { ps := ps13, rs := rs13, own := true, φ := d13 }

theorem envOk13 : ∀ f sg, env13 f = some sg → Contract Try.prog f sg := by
  intro f sg h
  unfold env13 at h
  split at h
  · injection h with h; subst h; exact c26
  · cases h
theorem l13 : ps13.length ≤ Try.f13.ntmps := of_decide_eq_true (by kernel_rfl)
theorem h13 : ∀ x y, d13 x = some y → fnD tab env13 11 ann13 big Try.f13 [] ps13 rs13 true x = some y := fun x y h => by rw [d13, ← fnK_eq l13] at h; exact h
theorem r13 : resOK tab Try.f13.results.toList rs13 = true := by kernel_rfl
theorem n13 : nodupB (Try.f13.results.toList.map rSlot) = true := by kernel_rfl
theorem does13 : Does Try.prog 13 ps13 rs13 true d13 := fn_does mixed tabOK envOk13 Try.func13 r13 n13 l13 h13
theorem k13 : Callable Try.prog 13 := ⟨Try.f13, Try.func13, by kernel_rfl, by kernel_rfl⟩
theorem c13 : Contract Try.prog 13 sg13 := by rw [sg13]; exact Contract.of k13 does13

/-! skiarea/skiarealaw24.GroupRights -/
noncomputable def env3 : Nat → Option Sig := fun n => match n with
  | 10 => some sg10
  | 11 => some sg11
  | 12 => some sg12
  | 13 => some sg13
  | _ => none

def ann3 : List LoopAnn := []
abbrev ps3 : List Ty := [.pair (.sl (.int .i64)) (.pair (.sl (.int .i64)) (.sl (.pair (.int .i64) (.pair (.int .i64) (.pair (.int .i64) (.int .i64))))))]
abbrev rs3 : List Ty := [.bool]
noncomputable def d3 : (pk ps3).den → Option (pk rs3).den := fnK tab env3 3 ann3 big Try.f3 [] ps3 rs3 true
noncomputable def sg3 : Sig := { ps := ps3, rs := rs3, own := true, φ := d3 }

theorem envOk3 : ∀ f sg, env3 f = some sg → Contract Try.prog f sg := by
  intro f sg h
  unfold env3 at h
  split at h
  · injection h with h; subst h; exact c10
  · injection h with h; subst h; exact c11
  · injection h with h; subst h; exact c12
  · injection h with h; subst h; exact c13
  · cases h
theorem l3 : ps3.length ≤ Try.f3.ntmps := of_decide_eq_true (by kernel_rfl)
theorem h3 : ∀ x y, d3 x = some y → fnD tab env3 3 ann3 big Try.f3 [] ps3 rs3 true x = some y := fun x y h => by rw [d3, ← fnK_eq l3] at h; exact h
theorem r3 : resOK tab Try.f3.results.toList rs3 = true := by kernel_rfl
theorem n3 : nodupB (Try.f3.results.toList.map rSlot) = true := by kernel_rfl
theorem does3 : Does Try.prog 3 ps3 rs3 true d3 := fn_does mixed tabOK envOk3 Try.func3 r3 n3 l3 h3
theorem k3 : Callable Try.prog 3 := ⟨Try.f3, Try.func3, by kernel_rfl, by kernel_rfl⟩
theorem c3 : Contract Try.prog 3 sg3 := by rw [sg3]; exact Contract.of k3 does3

/-! skiarea/skiarealaw24.right -/
noncomputable def env14 : Nat → Option Sig := fun n => match n with
  | 13 => some sg13
  | _ => none

def ann14 : List LoopAnn := []
abbrev ps14 : List Ty := [.pair (.sl (.int .i64)) (.pair (.sl (.int .i64)) (.sl (.pair (.int .i64) (.pair (.int .i64) (.pair (.int .i64) (.int .i64))))))]
abbrev rs14 : List Ty := [.bool]
noncomputable def d14 : (pk ps14).den → Option (pk rs14).den := fnK tab env14 3 ann14 big Try.f14 [] ps14 rs14 true
noncomputable def sg14 : Sig := { ps := ps14, rs := rs14, own := true, φ := d14 }

theorem envOk14 : ∀ f sg, env14 f = some sg → Contract Try.prog f sg := by
  intro f sg h
  unfold env14 at h
  split at h
  · injection h with h; subst h; exact c13
  · cases h
theorem l14 : ps14.length ≤ Try.f14.ntmps := of_decide_eq_true (by kernel_rfl)
theorem h14 : ∀ x y, d14 x = some y → fnD tab env14 3 ann14 big Try.f14 [] ps14 rs14 true x = some y := fun x y h => by rw [d14, ← fnK_eq l14] at h; exact h
theorem r14 : resOK tab Try.f14.results.toList rs14 = true := by kernel_rfl
theorem n14 : nodupB (Try.f14.results.toList.map rSlot) = true := by kernel_rfl
theorem does14 : Does Try.prog 14 ps14 rs14 true d14 := fn_does mixed tabOK envOk14 Try.func14 r14 n14 l14 h14
theorem k14 : Callable Try.prog 14 := ⟨Try.f14, Try.func14, by kernel_rfl, by kernel_rfl⟩
theorem c14 : Contract Try.prog 14 sg14 := by rw [sg14]; exact Contract.of k14 does14

/-! skiarea/skiarealaw24.short -/
def env15 : Nat → Option Sig := fun _ => none

def ann15 : List LoopAnn := [{ id := 4, live := [0, 3], frz := [] }]
abbrev ps15 : List Ty := [.sl (.pair (.int .i64) (.sl (.int .i64)))]
abbrev rs15 : List Ty := [.bool]
noncomputable def d15 : (pk ps15).den → Option (pk rs15).den := fnK tab env15 4 ann15 big Try.f15 [] ps15 rs15 true
noncomputable def sg15 : Sig := { ps := ps15, rs := rs15, own := true, φ := d15 }

theorem envOk15 : ∀ f sg, env15 f = some sg → Contract Try.prog f sg := by
  intro f sg h
  unfold env15 at h
  cases h
theorem l15 : ps15.length ≤ Try.f15.ntmps := of_decide_eq_true (by kernel_rfl)
theorem h15 : ∀ x y, d15 x = some y → fnD tab env15 4 ann15 big Try.f15 [] ps15 rs15 true x = some y := fun x y h => by rw [d15, ← fnK_eq l15] at h; exact h
theorem r15 : resOK tab Try.f15.results.toList rs15 = true := by kernel_rfl
theorem n15 : nodupB (Try.f15.results.toList.map rSlot) = true := by kernel_rfl
theorem does15 : Does Try.prog 15 ps15 rs15 true d15 := fn_does mixed tabOK envOk15 Try.func15 r15 n15 l15 h15
theorem k15 : Callable Try.prog 15 := ⟨Try.f15, Try.func15, by kernel_rfl, by kernel_rfl⟩
theorem c15 : Contract Try.prog 15 sg15 := by rw [sg15]; exact Contract.of k15 does15

/-! skiarea/skiarearef24.find -/
def env36 : Nat → Option Sig := fun _ => none

def ann36 : List LoopAnn := [{ id := 2, live := [0, 1, 4, 6], frz := [] }]
abbrev ps36 : List Ty := [.sl (.pair (.int .i64) (.pair (.int .i64) (.pair (.int .i64) (.int .i64)))), .int .i64]
abbrev rs36 : List Ty := [.pair (.int .i64) (.pair (.int .i64) (.pair (.int .i64) (.int .i64))), .bool]
noncomputable def d36 : (pk ps36).den → Option (pk rs36).den := fnK tab env36 7 ann36 big Try.f36 [] ps36 rs36 true
noncomputable def sg36 : Sig := { ps := ps36, rs := rs36, own := true, φ := d36 }

theorem envOk36 : ∀ f sg, env36 f = some sg → Contract Try.prog f sg := by
  intro f sg h
  unfold env36 at h
  cases h
theorem l36 : ps36.length ≤ Try.f36.ntmps := of_decide_eq_true (by kernel_rfl)
theorem h36 : ∀ x y, d36 x = some y → fnD tab env36 7 ann36 big Try.f36 [] ps36 rs36 true x = some y := fun x y h => by rw [d36, ← fnK_eq l36] at h; exact h
theorem r36 : resOK tab Try.f36.results.toList rs36 = true := by kernel_rfl
theorem n36 : nodupB (Try.f36.results.toList.map rSlot) = true := by kernel_rfl
theorem does36 : Does Try.prog 36 ps36 rs36 true d36 := fn_does mixed tabOK envOk36 Try.func36 r36 n36 l36 h36
theorem k36 : Callable Try.prog 36 := ⟨Try.f36, Try.func36, by kernel_rfl, by kernel_rfl⟩
theorem c36 : Contract Try.prog 36 sg36 := by rw [sg36]; exact Contract.of k36 does36

/-! skiarea/skiarearef24.one -/
noncomputable def env28 : Nat → Option Sig := fun n => match n with
  | 36 => some sg36
  | _ => none

def ann28 : List LoopAnn := [{ id := 3, live := [0, 1, 2, 7, 10, 11, 12], frz := [] }]
abbrev ps28 : List Ty := [.sl (.int .i64), .sl (.int .i64), .sl (.pair (.int .i64) (.pair (.int .i64) (.pair (.int .i64) (.int .i64)))), .pair (.int .i64) (.sl (.int .i64))]
abbrev rs28 : List Ty := [.int .i64, .bool]
noncomputable def d28 : (pk ps28).den → Option (pk rs28).den := fnK tab env28 16 ann28 big Try.f28 [] ps28 rs28 true
noncomputable def sg28 : Sig := { ps := ps28, rs := rs28, own := true, φ := d28 }

theorem envOk28 : ∀ f sg, env28 f = some sg → Contract Try.prog f sg := by
  intro f sg h
  unfold env28 at h
  split at h
  · injection h with h; subst h; exact c36
  · cases h
theorem l28 : ps28.length ≤ Try.f28.ntmps := of_decide_eq_true (by kernel_rfl)
theorem h28 : ∀ x y, d28 x = some y → fnD tab env28 16 ann28 big Try.f28 [] ps28 rs28 true x = some y := fun x y h => by rw [d28, ← fnK_eq l28] at h; exact h
theorem r28 : resOK tab Try.f28.results.toList rs28 = true := by kernel_rfl
theorem n28 : nodupB (Try.f28.results.toList.map rSlot) = true := by kernel_rfl
theorem does28 : Does Try.prog 28 ps28 rs28 true d28 := fn_does mixed tabOK envOk28 Try.func28 r28 n28 l28 h28
theorem k28 : Callable Try.prog 28 := ⟨Try.f28, Try.func28, by kernel_rfl, by kernel_rfl⟩
theorem c28 : Contract Try.prog 28 sg28 := by rw [sg28]; exact Contract.of k28 does28

/-! skiarea/skiarearef24.Cost -/
noncomputable def env17 : Nat → Option Sig := fun n => match n with
  | 28 => some sg28
  | _ => none

def ann17 : List LoopAnn := [{ id := 5, live := [0, 1, 2, 3, 10, 11, 12, 13], frz := [] }, { id := 12, live := [0, 1, 2, 3, 10, 11, 12, 13, 16], frz := [] }]
abbrev ps17 : List Ty := [.sl (.int .i64), .sl (.int .i64), .sl (.pair (.int .i64) (.pair (.int .i64) (.pair (.int .i64) (.int .i64)))), .sl (.pair (.int .i64) (.sl (.int .i64)))]
abbrev rs17 : List Ty := [.int .i64, .bool]
noncomputable def d17 : (pk ps17).den → Option (pk rs17).den := fnK tab env17 17 ann17 big Try.f17 [] ps17 rs17 true
noncomputable def sg17 : Sig := { ps := ps17, rs := rs17, own := true, φ := d17 }

theorem envOk17 : ∀ f sg, env17 f = some sg → Contract Try.prog f sg := by
  intro f sg h
  unfold env17 at h
  split at h
  · injection h with h; subst h; exact c28
  · cases h
theorem l17 : ps17.length ≤ Try.f17.ntmps := of_decide_eq_true (by kernel_rfl)
theorem h17 : ∀ x y, d17 x = some y → fnD tab env17 17 ann17 big Try.f17 [] ps17 rs17 true x = some y := fun x y h => by rw [d17, ← fnK_eq l17] at h; exact h
theorem r17 : resOK tab Try.f17.results.toList rs17 = true := by kernel_rfl
theorem n17 : nodupB (Try.f17.results.toList.map rSlot) = true := by kernel_rfl
theorem does17 : Does Try.prog 17 ps17 rs17 true d17 := fn_does mixed tabOK envOk17 Try.func17 r17 n17 l17 h17
theorem k17 : Callable Try.prog 17 := ⟨Try.f17, Try.func17, by kernel_rfl, by kernel_rfl⟩
theorem c17 : Contract Try.prog 17 sg17 := by rw [sg17]; exact Contract.of k17 does17

/-! skiarea/skiarealaw24.GroupCosts -/
noncomputable def env4 : Nat → Option Sig := fun n => match n with
  | 10 => some sg10
  | 14 => some sg14
  | 15 => some sg15
  | 16 => some sg16
  | 17 => some sg17
  | _ => none

def ann4 : List LoopAnn := []
abbrev ps4 : List Ty := [.pair (.sl (.int .i64)) (.pair (.sl (.int .i64)) (.sl (.pair (.int .i64) (.pair (.int .i64) (.pair (.int .i64) (.int .i64)))))), .sl (.pair (.int .i64) (.sl (.int .i64)))]
abbrev rs4 : List Ty := [.bool]
noncomputable def d4 : (pk ps4).den → Option (pk rs4).den := fnK tab env4 9 ann4 big Try.f4 [] ps4 rs4 true
noncomputable def sg4 : Sig := { ps := ps4, rs := rs4, own := true, φ := d4 }

theorem envOk4 : ∀ f sg, env4 f = some sg → Contract Try.prog f sg := by
  intro f sg h
  unfold env4 at h
  split at h
  · injection h with h; subst h; exact c10
  · injection h with h; subst h; exact c14
  · injection h with h; subst h; exact c15
  · injection h with h; subst h; exact c16
  · injection h with h; subst h; exact c17
  · cases h
theorem l4 : ps4.length ≤ Try.f4.ntmps := of_decide_eq_true (by kernel_rfl)
theorem h4 : ∀ x y, d4 x = some y → fnD tab env4 9 ann4 big Try.f4 [] ps4 rs4 true x = some y := fun x y h => by rw [d4, ← fnK_eq l4] at h; exact h
theorem r4 : resOK tab Try.f4.results.toList rs4 = true := by kernel_rfl
theorem n4 : nodupB (Try.f4.results.toList.map rSlot) = true := by kernel_rfl
theorem does4 : Does Try.prog 4 ps4 rs4 true d4 := fn_does mixed tabOK envOk4 Try.func4 r4 n4 l4 h4
theorem k4 : Callable Try.prog 4 := ⟨Try.f4, Try.func4, by kernel_rfl, by kernel_rfl⟩
theorem c4 : Contract Try.prog 4 sg4 := by rw [sg4]; exact Contract.of k4 does4

/-! skiarea/skiarearef24.persons -/
def env37 : Nat → Option Sig := fun _ => none

def ann37 : List LoopAnn := [{ id := 3, live := [0, 3, 4], frz := [] }]
abbrev ps37 : List Ty := [.int .i64]
abbrev rs37 : List Ty := [.sl (.int .i64)]
noncomputable def d37 : (pk ps37).den → Option (pk rs37).den := fnK tab env37 5 ann37 big Try.f37 [] ps37 rs37 true
noncomputable def sg37 : Sig := { ps := ps37, rs := rs37, own := true, φ := d37 }

theorem envOk37 : ∀ f sg, env37 f = some sg → Contract Try.prog f sg := by
  intro f sg h
  unfold env37 at h
  cases h
theorem l37 : ps37.length ≤ Try.f37.ntmps := of_decide_eq_true (by kernel_rfl)
theorem h37 : ∀ x y, d37 x = some y → fnD tab env37 5 ann37 big Try.f37 [] ps37 rs37 true x = some y := fun x y h => by rw [d37, ← fnK_eq l37] at h; exact h
theorem r37 : resOK tab Try.f37.results.toList rs37 = true := by kernel_rfl
theorem n37 : nodupB (Try.f37.results.toList.map rSlot) = true := by kernel_rfl
theorem does37 : Does Try.prog 37 ps37 rs37 true d37 := fn_does mixed tabOK envOk37 Try.func37 r37 n37 l37 h37
theorem k37 : Callable Try.prog 37 := ⟨Try.f37, Try.func37, by kernel_rfl, by kernel_rfl⟩
theorem c37 : Contract Try.prog 37 sg37 := by rw [sg37]; exact Contract.of k37 does37

/-! skiarea/skiarearef24.cheapest -/
noncomputable def env29 : Nat → Option Sig := fun n => match n with
  | 28 => some sg28
  | 37 => some sg37
  | _ => none

def ann29 : List LoopAnn := [{ id := 6, live := [0, 1, 2, 9, 10, 12], frz := [] }]
abbrev ps29 : List Ty := [.sl (.int .i64), .sl (.int .i64), .sl (.pair (.int .i64) (.pair (.int .i64) (.pair (.int .i64) (.int .i64)))), .int .i64]
abbrev rs29 : List Ty := [.int .i64]
noncomputable def d29 : (pk ps29).den → Option (pk rs29).den := fnK tab env29 15 ann29 big Try.f29 [] ps29 rs29 true
noncomputable def sg29 : Sig := { ps := ps29, rs := rs29, own := true, φ := d29 }

theorem envOk29 : ∀ f sg, env29 f = some sg → Contract Try.prog f sg := by
  intro f sg h
  unfold env29 at h
  split at h
  · injection h with h; subst h; exact c28
  · injection h with h; subst h; exact c37
  · cases h
theorem l29 : ps29.length ≤ Try.f29.ntmps := of_decide_eq_true (by kernel_rfl)
theorem h29 : ∀ x y, d29 x = some y → fnD tab env29 15 ann29 big Try.f29 [] ps29 rs29 true x = some y := fun x y h => by rw [d29, ← fnK_eq l29] at h; exact h
theorem r29 : resOK tab Try.f29.results.toList rs29 = true := by kernel_rfl
theorem n29 : nodupB (Try.f29.results.toList.map rSlot) = true := by kernel_rfl
theorem does29 : Does Try.prog 29 ps29 rs29 true d29 := fn_does mixed tabOK envOk29 Try.func29 r29 n29 l29 h29
theorem k29 : Callable Try.prog 29 := ⟨Try.f29, Try.func29, by kernel_rfl, by kernel_rfl⟩
theorem c29 : Contract Try.prog 29 sg29 := by rw [sg29]; exact Contract.of k29 does29

/-! skiarea/skiarearef24.Least -/
noncomputable def env21 : Nat → Option Sig := fun n => match n with
  | 29 => some sg29
  | _ => none

def ann21 : List LoopAnn := [{ id := 4, live := [0, 1, 2, 8, 9, 10], frz := [] }, { id := 9, live := [8, 9, 11, 12, 13], frz := [] }, { id := 13, live := [8, 9, 11, 12, 13, 14], frz := [] }]
abbrev ps21 : List Ty := [.sl (.int .i64), .sl (.int .i64), .sl (.pair (.int .i64) (.pair (.int .i64) (.pair (.int .i64) (.int .i64))))]
abbrev rs21 : List Ty := [.int .i64, .int .i64]
noncomputable def d21 : (pk ps21).den → Option (pk rs21).den := fnK tab env21 17 ann21 big Try.f21 [] ps21 rs21 true
noncomputable def sg21 : Sig := { ps := ps21, rs := rs21, own := true, φ := d21 }

theorem envOk21 : ∀ f sg, env21 f = some sg → Contract Try.prog f sg := by
  intro f sg h
  unfold env21 at h
  split at h
  · injection h with h; subst h; exact c29
  · cases h
theorem l21 : ps21.length ≤ Try.f21.ntmps := of_decide_eq_true (by kernel_rfl)
theorem h21 : ∀ x y, d21 x = some y → fnD tab env21 17 ann21 big Try.f21 [] ps21 rs21 true x = some y := fun x y h => by rw [d21, ← fnK_eq l21] at h; exact h
theorem r21 : resOK tab Try.f21.results.toList rs21 = true := by kernel_rfl
theorem n21 : nodupB (Try.f21.results.toList.map rSlot) = true := by kernel_rfl
theorem does21 : Does Try.prog 21 ps21 rs21 true d21 := fn_does mixed tabOK envOk21 Try.func21 r21 n21 l21 h21
theorem k21 : Callable Try.prog 21 := ⟨Try.f21, Try.func21, by kernel_rfl, by kernel_rfl⟩
theorem c21 : Contract Try.prog 21 sg21 := by rw [sg21]; exact Contract.of k21 does21

/-! skiarea/skiarearef24.Saving -/
noncomputable def env20 : Nat → Option Sig := fun n => match n with
  | 13 => some sg13
  | 21 => some sg21
  | _ => none

def ann20 : List LoopAnn := [{ id := 6, live := [0, 1, 2, 9, 10], frz := [] }]
abbrev ps20 : List Ty := [.sl (.int .i64), .sl (.int .i64), .sl (.pair (.int .i64) (.pair (.int .i64) (.pair (.int .i64) (.int .i64))))]
abbrev rs20 : List Ty := [.int .i64, .int .i64]
noncomputable def d20 : (pk ps20).den → Option (pk rs20).den := fnK tab env20 13 ann20 big Try.f20 [] ps20 rs20 true
noncomputable def sg20 : Sig := { ps := ps20, rs := rs20, own := true, φ := d20 }

theorem envOk20 : ∀ f sg, env20 f = some sg → Contract Try.prog f sg := by
  intro f sg h
  unfold env20 at h
  split at h
  · injection h with h; subst h; exact c13
  · injection h with h; subst h; exact c21
  · cases h
theorem l20 : ps20.length ≤ Try.f20.ntmps := of_decide_eq_true (by kernel_rfl)
theorem h20 : ∀ x y, d20 x = some y → fnD tab env20 13 ann20 big Try.f20 [] ps20 rs20 true x = some y := fun x y h => by rw [d20, ← fnK_eq l20] at h; exact h
theorem r20 : resOK tab Try.f20.results.toList rs20 = true := by kernel_rfl
theorem n20 : nodupB (Try.f20.results.toList.map rSlot) = true := by kernel_rfl
theorem does20 : Does Try.prog 20 ps20 rs20 true d20 := fn_does mixed tabOK envOk20 Try.func20 r20 n20 l20 h20
theorem k20 : Callable Try.prog 20 := ⟨Try.f20, Try.func20, by kernel_rfl, by kernel_rfl⟩
theorem c20 : Contract Try.prog 20 sg20 := by rw [sg20]; exact Contract.of k20 does20

/-! skiarea/skiarealaw24.GroupBests -/
noncomputable def env5 : Nat → Option Sig := fun n => match n with
  | 10 => some sg10
  | 11 => some sg11
  | 13 => some sg13
  | 17 => some sg17
  | 18 => some sg18
  | 19 => some sg19
  | 20 => some sg20
  | 21 => some sg21
  | _ => none

def ann5 : List LoopAnn := [{ id := 15, live := [3, 4, 10, 11, 12, 13, 14], frz := [] }]
abbrev ps5 : List Ty := [.pair (.sl (.int .i64)) (.pair (.sl (.int .i64)) (.sl (.pair (.int .i64) (.pair (.int .i64) (.pair (.int .i64) (.int .i64))))))]
abbrev rs5 : List Ty := [.bool]
noncomputable def d5 : (pk ps5).den → Option (pk rs5).den := fnK tab env5 15 ann5 big Try.f5 [] ps5 rs5 true
noncomputable def sg5 : Sig := { ps := ps5, rs := rs5, own := true, φ := d5 }

theorem envOk5 : ∀ f sg, env5 f = some sg → Contract Try.prog f sg := by
  intro f sg h
  unfold env5 at h
  split at h
  · injection h with h; subst h; exact c10
  · injection h with h; subst h; exact c11
  · injection h with h; subst h; exact c13
  · injection h with h; subst h; exact c17
  · injection h with h; subst h; exact c18
  · injection h with h; subst h; exact c19
  · injection h with h; subst h; exact c20
  · injection h with h; subst h; exact c21
  · cases h
theorem l5 : ps5.length ≤ Try.f5.ntmps := of_decide_eq_true (by kernel_rfl)
theorem h5 : ∀ x y, d5 x = some y → fnD tab env5 15 ann5 big Try.f5 [] ps5 rs5 true x = some y := fun x y h => by rw [d5, ← fnK_eq l5] at h; exact h
theorem r5 : resOK tab Try.f5.results.toList rs5 = true := by kernel_rfl
theorem n5 : nodupB (Try.f5.results.toList.map rSlot) = true := by kernel_rfl
theorem does5 : Does Try.prog 5 ps5 rs5 true d5 := fn_does mixed tabOK envOk5 Try.func5 r5 n5 l5 h5
theorem k5 : Callable Try.prog 5 := ⟨Try.f5, Try.func5, by kernel_rfl, by kernel_rfl⟩
theorem c5 : Contract Try.prog 5 sg5 := by rw [sg5]; exact Contract.of k5 does5

/-! skiarea/skiarealaw24.GroupCheapest -/
noncomputable def env6 : Nat → Option Sig := fun n => match n with
  | 10 => some sg10
  | 14 => some sg14
  | 15 => some sg15
  | 16 => some sg16
  | 17 => some sg17
  | 18 => some sg18
  | _ => none

def ann6 : List LoopAnn := []
abbrev ps6 : List Ty := [.pair (.sl (.int .i64)) (.pair (.sl (.int .i64)) (.sl (.pair (.int .i64) (.pair (.int .i64) (.pair (.int .i64) (.int .i64)))))), .sl (.pair (.int .i64) (.sl (.int .i64)))]
abbrev rs6 : List Ty := [.bool]
noncomputable def d6 : (pk ps6).den → Option (pk rs6).den := fnK tab env6 12 ann6 big Try.f6 [] ps6 rs6 true
noncomputable def sg6 : Sig := { ps := ps6, rs := rs6, own := true, φ := d6 }

theorem envOk6 : ∀ f sg, env6 f = some sg → Contract Try.prog f sg := by
  intro f sg h
  unfold env6 at h
  split at h
  · injection h with h; subst h; exact c10
  · injection h with h; subst h; exact c14
  · injection h with h; subst h; exact c15
  · injection h with h; subst h; exact c16
  · injection h with h; subst h; exact c17
  · injection h with h; subst h; exact c18
  · cases h
theorem l6 : ps6.length ≤ Try.f6.ntmps := of_decide_eq_true (by kernel_rfl)
theorem h6 : ∀ x y, d6 x = some y → fnD tab env6 12 ann6 big Try.f6 [] ps6 rs6 true x = some y := fun x y h => by rw [d6, ← fnK_eq l6] at h; exact h
theorem r6 : resOK tab Try.f6.results.toList rs6 = true := by kernel_rfl
theorem n6 : nodupB (Try.f6.results.toList.map rSlot) = true := by kernel_rfl
theorem does6 : Does Try.prog 6 ps6 rs6 true d6 := fn_does mixed tabOK envOk6 Try.func6 r6 n6 l6 h6
theorem k6 : Callable Try.prog 6 := ⟨Try.f6, Try.func6, by kernel_rfl, by kernel_rfl⟩
theorem c6 : Contract Try.prog 6 sg6 := by rw [sg6]; exact Contract.of k6 does6

/-! skiarea/skiarealaw24.GroupOffers -/
noncomputable def env7 : Nat → Option Sig := fun n => match n with
  | 10 => some sg10
  | 14 => some sg14
  | 18 => some sg18
  | 22 => some sg22
  | _ => none

def ann7 : List LoopAnn := [{ id := 14, live := [2, 7, 8, 10, 11, 12, 13, 14, 15, 16], frz := [] }]
abbrev ps7 : List Ty := [.pair (.sl (.int .i64)) (.pair (.sl (.int .i64)) (.sl (.pair (.int .i64) (.pair (.int .i64) (.pair (.int .i64) (.int .i64)))))), .pair (.int .i64) (.pair (.int .i64) (.pair (.int .i64) (.int .i64)))]
abbrev rs7 : List Ty := [.bool]
noncomputable def d7 : (pk ps7).den → Option (pk rs7).den := fnK tab env7 17 ann7 big Try.f7 [] ps7 rs7 true
noncomputable def sg7 : Sig := { ps := ps7, rs := rs7, own := true, φ := d7 }

theorem envOk7 : ∀ f sg, env7 f = some sg → Contract Try.prog f sg := by
  intro f sg h
  unfold env7 at h
  split at h
  · injection h with h; subst h; exact c10
  · injection h with h; subst h; exact c14
  · injection h with h; subst h; exact c18
  · injection h with h; subst h; exact c22
  · cases h
theorem l7 : ps7.length ≤ Try.f7.ntmps := of_decide_eq_true (by kernel_rfl)
theorem h7 : ∀ x y, d7 x = some y → fnD tab env7 17 ann7 big Try.f7 [] ps7 rs7 true x = some y := fun x y h => by rw [d7, ← fnK_eq l7] at h; exact h
theorem r7 : resOK tab Try.f7.results.toList rs7 = true := by kernel_rfl
theorem n7 : nodupB (Try.f7.results.toList.map rSlot) = true := by kernel_rfl
theorem does7 : Does Try.prog 7 ps7 rs7 true d7 := fn_does mixed tabOK envOk7 Try.func7 r7 n7 l7 h7
theorem k7 : Callable Try.prog 7 := ⟨Try.f7, Try.func7, by kernel_rfl, by kernel_rfl⟩
theorem c7 : Contract Try.prog 7 sg7 := by rw [sg7]; exact Contract.of k7 does7

/-! skiarea/skiarealaw24.GroupFewer -/
noncomputable def env8 : Nat → Option Sig := fun n => match n with
  | 10 => some sg10
  | 14 => some sg14
  | 18 => some sg18
  | _ => none

def ann8 : List LoopAnn := [{ id := 7, live := [1, 2, 5, 6], frz := [] }]
abbrev ps8 : List Ty := [.pair (.sl (.int .i64)) (.pair (.sl (.int .i64)) (.sl (.pair (.int .i64) (.pair (.int .i64) (.pair (.int .i64) (.int .i64)))))), .int .i64]
abbrev rs8 : List Ty := [.bool]
noncomputable def d8 : (pk ps8).den → Option (pk rs8).den := fnK tab env8 13 ann8 big Try.f8 [] ps8 rs8 true
noncomputable def sg8 : Sig := { ps := ps8, rs := rs8, own := true, φ := d8 }

theorem envOk8 : ∀ f sg, env8 f = some sg → Contract Try.prog f sg := by
  intro f sg h
  unfold env8 at h
  split at h
  · injection h with h; subst h; exact c10
  · injection h with h; subst h; exact c14
  · injection h with h; subst h; exact c18
  · cases h
theorem l8 : ps8.length ≤ Try.f8.ntmps := of_decide_eq_true (by kernel_rfl)
theorem h8 : ∀ x y, d8 x = some y → fnD tab env8 13 ann8 big Try.f8 [] ps8 rs8 true x = some y := fun x y h => by rw [d8, ← fnK_eq l8] at h; exact h
theorem r8 : resOK tab Try.f8.results.toList rs8 = true := by kernel_rfl
theorem n8 : nodupB (Try.f8.results.toList.map rSlot) = true := by kernel_rfl
theorem does8 : Does Try.prog 8 ps8 rs8 true d8 := fn_does mixed tabOK envOk8 Try.func8 r8 n8 l8 h8
theorem k8 : Callable Try.prog 8 := ⟨Try.f8, Try.func8, by kernel_rfl, by kernel_rfl⟩
theorem c8 : Contract Try.prog 8 sg8 := by rw [sg8]; exact Contract.of k8 does8

/-! skiarea/skiarealaw24.GroupOrder -/
noncomputable def env9 : Nat → Option Sig := fun n => match n with
  | 10 => some sg10
  | 14 => some sg14
  | 18 => some sg18
  | _ => none

def ann9 : List LoopAnn := [{ id := 7, live := [1, 3, 4], frz := [] }, { id := 12, live := [1, 3, 5], frz := [] }]
abbrev ps9 : List Ty := [.pair (.sl (.int .i64)) (.pair (.sl (.int .i64)) (.sl (.pair (.int .i64) (.pair (.int .i64) (.pair (.int .i64) (.int .i64))))))]
abbrev rs9 : List Ty := [.bool]
noncomputable def d9 : (pk ps9).den → Option (pk rs9).den := fnK tab env9 12 ann9 big Try.f9 [] ps9 rs9 true
noncomputable def sg9 : Sig := { ps := ps9, rs := rs9, own := true, φ := d9 }

theorem envOk9 : ∀ f sg, env9 f = some sg → Contract Try.prog f sg := by
  intro f sg h
  unfold env9 at h
  split at h
  · injection h with h; subst h; exact c10
  · injection h with h; subst h; exact c14
  · injection h with h; subst h; exact c18
  · cases h
theorem l9 : ps9.length ≤ Try.f9.ntmps := of_decide_eq_true (by kernel_rfl)
theorem h9 : ∀ x y, d9 x = some y → fnD tab env9 12 ann9 big Try.f9 [] ps9 rs9 true x = some y := fun x y h => by rw [d9, ← fnK_eq l9] at h; exact h
theorem r9 : resOK tab Try.f9.results.toList rs9 = true := by kernel_rfl
theorem n9 : nodupB (Try.f9.results.toList.map rSlot) = true := by kernel_rfl
theorem does9 : Does Try.prog 9 ps9 rs9 true d9 := fn_does mixed tabOK envOk9 Try.func9 r9 n9 l9 h9
theorem k9 : Callable Try.prog 9 := ⟨Try.f9, Try.func9, by kernel_rfl, by kernel_rfl⟩
theorem c9 : Contract Try.prog 9 sg9 := by rw [sg9]; exact Contract.of k9 does9

theorem alive : d10 () = some true := by kernel_rfl
end Go.Proofs.Ytmmlfdnpgigfbaa.D
