import Derived.Test.YtaipbppgebjdeaaProg
import Derived.Test.YtaipbppgebjdeaaChecked
import Derived.Test.YtaipbppgebjdeaaGD29
import Derived.Test.YtaipbppgebjdeaaGDD
import Derived.Test.YtaipbppgebjdeaaGDW
import Derived.Test.YtaipbppgebjdeaaGDK
open Go Go.GD Go.Proofs
namespace Go.Proofs.Ytaipbppgebjdeaa.D
def tab : List TE := [
  { id := 2, ty := .int .i64, flds := [], elem := 0, arr := false, bytes := 8 },
  { id := 3, ty := .int .i64, flds := [], elem := 0, arr := false, bytes := 8 },
  { id := 4, ty := .bool, flds := [], elem := 0, arr := false, bytes := 1, eqs := true },
  { id := 5, ty := .int .u8, flds := [], elem := 0, arr := false, bytes := 1 },
  { id := 6, ty := .int .u8, flds := [], elem := 0, arr := false, bytes := 1 },
  { id := 7, ty := .pair (.int .i64) (.pair (.int .i64) (.pair (.bool) (.int .u8))), flds := [(0, 2), (1, 3), (2, 4), (3, 6)], elem := 0, arr := false, bytes := 24 },
  { id := 8, ty := .pair (.int .i64) (.pair (.int .i64) (.pair (.bool) (.int .u8))), flds := [(0, 2), (1, 3), (2, 4), (3, 6)], elem := 0, arr := false, bytes := 24 },
  { id := 9, ty := .str, flds := [], elem := 0, arr := false, bytes := 16 },
  { id := 10, ty := .str, flds := [], elem := 0, arr := false, bytes := 16 },
  { id := 11, ty := .str, flds := [], elem := 0, arr := false, bytes := 16 },
  { id := 12, ty := .int .u64, flds := [], elem := 0, arr := false, bytes := 8 },
  { id := 13, ty := .pair (.str) (.int .u64), flds := [(0, 9), (1, 12)], elem := 0, arr := false, bytes := 24 },
  { id := 14, ty := .pair (.str) (.int .u64), flds := [(0, 9), (1, 12)], elem := 0, arr := false, bytes := 24 },
  { id := 21, ty := .int .i32, flds := [], elem := 0, arr := false, bytes := 4 },
  { id := 22, ty := .sl (.pair (.int .i64) (.pair (.sl (.int .i64)) (.pair (.int .i64) (.sl (.pair (.int .i64) (.pair (.int .i64) (.int .i64))))))), flds := [], elem := 49, arr := false, bytes := 24 },
  { id := 23, ty := .sl (.pair (.int .i64) (.pair (.int .i64) (.int .i64))), flds := [], elem := 37, arr := false, bytes := 24 },
  { id := 24, ty := .pair (.sl (.pair (.int .i64) (.pair (.sl (.int .i64)) (.pair (.int .i64) (.sl (.pair (.int .i64) (.pair (.int .i64) (.int .i64)))))))) (.sl (.pair (.int .i64) (.pair (.int .i64) (.int .i64)))), flds := [(0, 22), (1, 23)], elem := 0, arr := false, bytes := 48 },
  { id := 25, ty := .pair (.sl (.pair (.int .i64) (.pair (.sl (.int .i64)) (.pair (.int .i64) (.sl (.pair (.int .i64) (.pair (.int .i64) (.int .i64)))))))) (.sl (.pair (.int .i64) (.pair (.int .i64) (.int .i64)))), flds := [(0, 22), (1, 23)], elem := 0, arr := false, bytes := 48 },
  { id := 28, ty := .int .i64, flds := [], elem := 0, arr := false, bytes := 8 },
  { id := 30, ty := .pair (.int .i64) (.pair (.int .i64) (.int .i64)), flds := [(0, 3), (1, 3), (2, 3)], elem := 0, arr := false, bytes := 24 },
  { id := 31, ty := .pair (.int .i64) (.pair (.int .i64) (.int .i64)), flds := [(0, 3), (1, 3), (2, 3)], elem := 0, arr := false, bytes := 24, eqs := true },
  { id := 36, ty := .pair (.int .i64) (.pair (.int .i64) (.int .i64)), flds := [(0, 3), (1, 3), (2, 3)], elem := 0, arr := false, bytes := 24 },
  { id := 37, ty := .pair (.int .i64) (.pair (.int .i64) (.int .i64)), flds := [(0, 3), (1, 3), (2, 3)], elem := 0, arr := false, bytes := 24, eqs := true },
  { id := 43, ty := .sl (.int .i64), flds := [], elem := 3, arr := false, bytes := 24 },
  { id := 45, ty := .sl (.pair (.int .i64) (.pair (.int .i64) (.int .i64))), flds := [], elem := 31, arr := false, bytes := 24 },
  { id := 46, ty := .pair (.sl (.int .i64)) (.pair (.int .i64) (.sl (.pair (.int .i64) (.pair (.int .i64) (.int .i64))))), flds := [(0, 43), (1, 3), (2, 45)], elem := 0, arr := false, bytes := 56 },
  { id := 47, ty := .pair (.sl (.int .i64)) (.pair (.int .i64) (.sl (.pair (.int .i64) (.pair (.int .i64) (.int .i64))))), flds := [(0, 43), (1, 3), (2, 45)], elem := 0, arr := false, bytes := 56 },
  { id := 48, ty := .pair (.int .i64) (.pair (.sl (.int .i64)) (.pair (.int .i64) (.sl (.pair (.int .i64) (.pair (.int .i64) (.int .i64)))))), flds := [(0, 3), (1, 47)], elem := 0, arr := false, bytes := 64 },
  { id := 49, ty := .pair (.int .i64) (.pair (.sl (.int .i64)) (.pair (.int .i64) (.sl (.pair (.int .i64) (.pair (.int .i64) (.int .i64)))))), flds := [(0, 3), (1, 47)], elem := 0, arr := false, bytes := 64 },
  { id := 85, ty := .int .u32, flds := [], elem := 0, arr := false, bytes := 4 },
  { id := 86, ty := .int .u8, flds := [], elem := 0, arr := false, bytes := 1 },
  { id := 87, ty := .int .u8, flds := [], elem := 0, arr := false, bytes := 1 },
  { id := 90, ty := .int .i32, flds := [], elem := 0, arr := false, bytes := 4 },
  { id := 91, ty := .int .i32, flds := [], elem := 0, arr := false, bytes := 4 }]

def big : Nat := 18446744073709551616
theorem tabOK : TabOK Try.prog tab := by
  show tab.all (checkTE Try.prog tab) = true
  kernel_rfl
theorem mixed : Try.prog.follows .mixedOrders = true := Checked.mixed Try.checked
/-! slices.Index[[]int,int] -/
def env60 : Nat → Option Sig := fun _ => none

def ann60 : List LoopAnn := [{ id := 2, live := [0, 1, 7, 8], frz := [] }]
abbrev ps60 : List Ty := [.sl (.int .i64), .int .i64]
abbrev rs60 : List Ty := [.int .i64]
noncomputable def d60 : (pk ps60).den → Option (pk rs60).den := fnK tab env60 6 ann60 big Try.f60 [] ps60 rs60 true
noncomputable def sg60 : Sig := { ps := ps60, rs := rs60, own := true, φ := d60 }

theorem envOk60 : ∀ f sg, env60 f = some sg → Contract Try.prog f sg := by
  intro f sg h
  unfold env60 at h
  cases h
theorem l60 : ps60.length ≤ Try.f60.ntmps := of_decide_eq_true (by kernel_rfl)
theorem h60 : ∀ x y, d60 x = some y → fnD tab env60 6 ann60 big Try.f60 [] ps60 rs60 true x = some y := fun x y h => by rw [d60, ← fnK_eq l60] at h; exact h
theorem r60 : resOK tab Try.f60.results.toList rs60 = true := by kernel_rfl
theorem n60 : nodupB (Try.f60.results.toList.map rSlot) = true := by kernel_rfl
theorem does60 : Does Try.prog 60 ps60 rs60 true d60 := fn_does mixed tabOK envOk60 Try.func60 r60 n60 l60 h60
theorem k60 : Callable Try.prog 60 := ⟨Try.f60, Try.func60, by kernel_rfl, by kernel_rfl⟩
theorem c60 : Contract Try.prog 60 sg60 := by rw [sg60]; exact Contract.of k60 does60

/-! slices.Contains[[]int,int] -/
noncomputable def env47 : Nat → Option Sig := fun n => match n with
  | 60 => some sg60
  | _ => none

def ann47 : List LoopAnn := []
abbrev ps47 : List Ty := [.sl (.int .i64), .int .i64]
abbrev rs47 : List Ty := [.bool]
noncomputable def d47 : (pk ps47).den → Option (pk rs47).den := fnK tab env47 5 ann47 big Try.f47 [] ps47 rs47 true
noncomputable def sg47 : Sig := { ps := ps47, rs := rs47, own := true, φ := d47 }

theorem envOk47 : ∀ f sg, env47 f = some sg → Contract Try.prog f sg := by
  intro f sg h
  unfold env47 at h
  split at h
  · injection h with h; subst h; exact c60
  · cases h
theorem l47 : ps47.length ≤ Try.f47.ntmps := of_decide_eq_true (by kernel_rfl)
theorem h47 : ∀ x y, d47 x = some y → fnD tab env47 5 ann47 big Try.f47 [] ps47 rs47 true x = some y := fun x y h => by rw [d47, ← fnK_eq l47] at h; exact h
theorem r47 : resOK tab Try.f47.results.toList rs47 = true := by kernel_rfl
theorem n47 : nodupB (Try.f47.results.toList.map rSlot) = true := by kernel_rfl
theorem does47 : Does Try.prog 47 ps47 rs47 true d47 := fn_does mixed tabOK envOk47 Try.func47 r47 n47 l47 h47
theorem k47 : Callable Try.prog 47 := ⟨Try.f47, Try.func47, by kernel_rfl, by kernel_rfl⟩
theorem c47 : Contract Try.prog 47 sg47 := by rw [sg47]; exact Contract.of k47 does47

/-! skiarea/inspect.Right -/
noncomputable def env32 : Nat → Option Sig := fun n => match n with
  | 47 => some sg47
  | _ => none

def ann32 : List LoopAnn := [{ id := 6, live := [1, 26, 27, 28], frz := [] }, { id := 14, live := [1, 47, 48, 49], frz := [] }]
abbrev ps32 : List Ty := [.pair (.sl (.int .i64)) (.pair (.int .i64) (.sl (.pair (.int .i64) (.pair (.int .i64) (.int .i64)))))]
abbrev rs32 : List Ty := [.int .i64]
noncomputable def d32 : (pk ps32).den → Option (pk rs32).den := fnK tab env32 7 ann32 big Try.f32 [] ps32 rs32 true
noncomputable def sg32 : Sig := { ps := ps32, rs := rs32, own := true, φ := d32 }

theorem envOk32 : ∀ f sg, env32 f = some sg → Contract Try.prog f sg := by
  intro f sg h
  unfold env32 at h
  split at h
  · injection h with h; subst h; exact c47
  · cases h
theorem l32 : ps32.length ≤ Try.f32.ntmps := of_decide_eq_true (by kernel_rfl)
theorem h32 : ∀ x y, d32 x = some y → fnD tab env32 7 ann32 big Try.f32 [] ps32 rs32 true x = some y := fun x y h => by rw [d32, ← fnK_eq l32] at h; exact h
theorem r32 : resOK tab Try.f32.results.toList rs32 = true := by kernel_rfl
theorem n32 : nodupB (Try.f32.results.toList.map rSlot) = true := by kernel_rfl
theorem does32 : Does Try.prog 32 ps32 rs32 true d32 := fn_does mixed tabOK envOk32 Try.func32 r32 n32 l32 h32
theorem k32 : Callable Try.prog 32 := ⟨Try.f32, Try.func32, by kernel_rfl, by kernel_rfl⟩
theorem c32 : Contract Try.prog 32 sg32 := by rw [sg32]; exact Contract.of k32 does32

/-! slices.IndexFunc[[]skiarea/api.Hazard,skiarea/api.Hazard] -/
def env48 : Nat → Option Sig := fun _ => none

def ann48 : List LoopAnn := [{ id := 2, live := [0, 1, 7, 8], frz := [] }]
abbrev ps48 : List Ty := [.sl (.pair (.int .i64) (.pair (.int .i64) (.int .i64))), .fn (.pair (.int .i64) (.pair (.int .i64) (.int .i64))) (.bool)]
abbrev rs48 : List Ty := [.int .i64]
noncomputable def d48 : (pk ps48).den → Option (pk rs48).den := fnK tab env48 6 ann48 big Try.f48 [] ps48 rs48 true
noncomputable def sg48 : Sig := { ps := ps48, rs := rs48, own := true, φ := d48 }

theorem envOk48 : ∀ f sg, env48 f = some sg → Contract Try.prog f sg := by
  intro f sg h
  unfold env48 at h
  cases h
theorem l48 : ps48.length ≤ Try.f48.ntmps := of_decide_eq_true (by kernel_rfl)
theorem h48 : ∀ x y, d48 x = some y → fnD tab env48 6 ann48 big Try.f48 [] ps48 rs48 true x = some y := fun x y h => by rw [d48, ← fnK_eq l48] at h; exact h
theorem r48 : resOK tab Try.f48.results.toList rs48 = true := by kernel_rfl
theorem n48 : nodupB (Try.f48.results.toList.map rSlot) = true := by kernel_rfl
theorem does48 : Does Try.prog 48 ps48 rs48 true d48 := fn_does mixed tabOK envOk48 Try.func48 r48 n48 l48 h48
theorem k48 : Callable Try.prog 48 := ⟨Try.f48, Try.func48, by kernel_rfl, by kernel_rfl⟩
theorem c48 : Contract Try.prog 48 sg48 := by rw [sg48]; exact Contract.of k48 does48

/-! skiarea/patrol.hazard$1 -/
def env49 : Nat → Option Sig := fun _ => none

def ann49 : List LoopAnn := []
abbrev ps49 : List Ty := [.pair (.int .i64) (.pair (.int .i64) (.int .i64)), .ptr (.int .i64)]
abbrev rs49 : List Ty := [.bool]
noncomputable def d49 : (pk ps49).den → Option (pk rs49).den := fnK tab env49 4 ann49 big Try.f49 [] ps49 rs49 true
noncomputable def sg49 : Sig := { ps := ps49, rs := rs49, own := true, φ := d49 }

theorem envOk49 : ∀ f sg, env49 f = some sg → Contract Try.prog f sg := by
  intro f sg h
  unfold env49 at h
  cases h
theorem l49 : ps49.length ≤ Try.f49.ntmps := of_decide_eq_true (by kernel_rfl)
theorem h49 : ∀ x y, d49 x = some y → fnD tab env49 4 ann49 big Try.f49 [] ps49 rs49 true x = some y := fun x y h => by rw [d49, ← fnK_eq l49] at h; exact h
theorem r49 : resOK tab Try.f49.results.toList rs49 = true := by kernel_rfl
theorem n49 : nodupB (Try.f49.results.toList.map rSlot) = true := by kernel_rfl
theorem does49 : Does Try.prog 49 ps49 rs49 true d49 := fn_does mixed tabOK envOk49 Try.func49 r49 n49 l49 h49
theorem k49 : Callable Try.prog 49 := ⟨Try.f49, Try.func49, by kernel_rfl, by kernel_rfl⟩
theorem c49 : Contract Try.prog 49 sg49 := by rw [sg49]; exact Contract.of k49 does49

/-! skiarea/patrol.hazard -/
noncomputable def env33 : Nat → Option Sig := fun n => match n with
  | 48 => some sg48
  | 49 => some sg49
  | _ => none

def ann33 : List LoopAnn := []
abbrev ps33 : List Ty := [.sl (.pair (.int .i64) (.pair (.int .i64) (.int .i64))), .int .i64]
abbrev rs33 : List Ty := [.int .i64]
noncomputable def d33 : (pk ps33).den → Option (pk rs33).den := fnK tab env33 5 ann33 big Try.f33 [] ps33 rs33 true
noncomputable def sg33 : Sig := { ps := ps33, rs := rs33, own := true, φ := d33 }

theorem envOk33 : ∀ f sg, env33 f = some sg → Contract Try.prog f sg := by
  intro f sg h
  unfold env33 at h
  split at h
  · injection h with h; subst h; exact c48
  · injection h with h; subst h; exact c49
  · cases h
theorem l33 : ps33.length ≤ Try.f33.ntmps := of_decide_eq_true (by kernel_rfl)
theorem h33 : ∀ x y, d33 x = some y → fnD tab env33 5 ann33 big Try.f33 [] ps33 rs33 true x = some y := fun x y h => by rw [d33, ← fnK_eq l33] at h; exact h
theorem r33 : resOK tab Try.f33.results.toList rs33 = true := by kernel_rfl
theorem n33 : nodupB (Try.f33.results.toList.map rSlot) = true := by kernel_rfl
theorem does33 : Does Try.prog 33 ps33 rs33 true d33 := fn_does mixed tabOK envOk33 Try.func33 r33 n33 l33 h33
theorem k33 : Callable Try.prog 33 := ⟨Try.f33, Try.func33, by kernel_rfl, by kernel_rfl⟩
theorem c33 : Contract Try.prog 33 sg33 := by rw [sg33]; exact Contract.of k33 does33

/-! slices.IndexFunc[[]skiarea/api.RunList,skiarea/api.RunList] -/
def env50 : Nat → Option Sig := fun _ => none

def ann50 : List LoopAnn := [{ id := 2, live := [0, 1, 7, 8], frz := [] }]
abbrev ps50 : List Ty := [.sl (.pair (.int .i64) (.pair (.sl (.int .i64)) (.pair (.int .i64) (.sl (.pair (.int .i64) (.pair (.int .i64) (.int .i64))))))), .fn (.pair (.int .i64) (.pair (.sl (.int .i64)) (.pair (.int .i64) (.sl (.pair (.int .i64) (.pair (.int .i64) (.int .i64))))))) (.bool)]
abbrev rs50 : List Ty := [.int .i64]
noncomputable def d50 : (pk ps50).den → Option (pk rs50).den := fnK tab env50 6 ann50 big Try.f50 [] ps50 rs50 true
noncomputable def sg50 : Sig := { ps := ps50, rs := rs50, own := true, φ := d50 }

theorem envOk50 : ∀ f sg, env50 f = some sg → Contract Try.prog f sg := by
  intro f sg h
  unfold env50 at h
  cases h
theorem l50 : ps50.length ≤ Try.f50.ntmps := of_decide_eq_true (by kernel_rfl)
theorem h50 : ∀ x y, d50 x = some y → fnD tab env50 6 ann50 big Try.f50 [] ps50 rs50 true x = some y := fun x y h => by rw [d50, ← fnK_eq l50] at h; exact h
theorem r50 : resOK tab Try.f50.results.toList rs50 = true := by kernel_rfl
theorem n50 : nodupB (Try.f50.results.toList.map rSlot) = true := by kernel_rfl
theorem does50 : Does Try.prog 50 ps50 rs50 true d50 := fn_does mixed tabOK envOk50 Try.func50 r50 n50 l50 h50
theorem k50 : Callable Try.prog 50 := ⟨Try.f50, Try.func50, by kernel_rfl, by kernel_rfl⟩
theorem c50 : Contract Try.prog 50 sg50 := by rw [sg50]; exact Contract.of k50 does50

/-! skiarea/patrol.list$1 -/
def env51 : Nat → Option Sig := fun _ => none

def ann51 : List LoopAnn := []
abbrev ps51 : List Ty := [.pair (.int .i64) (.pair (.sl (.int .i64)) (.pair (.int .i64) (.sl (.pair (.int .i64) (.pair (.int .i64) (.int .i64)))))), .ptr (.int .i64)]
abbrev rs51 : List Ty := [.bool]
noncomputable def d51 : (pk ps51).den → Option (pk rs51).den := fnK tab env51 4 ann51 big Try.f51 [] ps51 rs51 true
noncomputable def sg51 : Sig := { ps := ps51, rs := rs51, own := true, φ := d51 }

theorem envOk51 : ∀ f sg, env51 f = some sg → Contract Try.prog f sg := by
  intro f sg h
  unfold env51 at h
  cases h
theorem l51 : ps51.length ≤ Try.f51.ntmps := of_decide_eq_true (by kernel_rfl)
theorem h51 : ∀ x y, d51 x = some y → fnD tab env51 4 ann51 big Try.f51 [] ps51 rs51 true x = some y := fun x y h => by rw [d51, ← fnK_eq l51] at h; exact h
theorem r51 : resOK tab Try.f51.results.toList rs51 = true := by kernel_rfl
theorem n51 : nodupB (Try.f51.results.toList.map rSlot) = true := by kernel_rfl
theorem does51 : Does Try.prog 51 ps51 rs51 true d51 := fn_does mixed tabOK envOk51 Try.func51 r51 n51 l51 h51
theorem k51 : Callable Try.prog 51 := ⟨Try.f51, Try.func51, by kernel_rfl, by kernel_rfl⟩
theorem c51 : Contract Try.prog 51 sg51 := by rw [sg51]; exact Contract.of k51 does51

/-! skiarea/patrol.list -/
noncomputable def env34 : Nat → Option Sig := fun n => match n with
  | 50 => some sg50
  | 51 => some sg51
  | _ => none

def ann34 : List LoopAnn := []
abbrev ps34 : List Ty := [.pair (.sl (.pair (.int .i64) (.pair (.sl (.int .i64)) (.pair (.int .i64) (.sl (.pair (.int .i64) (.pair (.int .i64) (.int .i64)))))))) (.sl (.pair (.int .i64) (.pair (.int .i64) (.int .i64)))), .int .i64]
abbrev rs34 : List Ty := [.int .i64]
noncomputable def d34 : (pk ps34).den → Option (pk rs34).den := fnK tab env34 5 ann34 big Try.f34 [] ps34 rs34 true
noncomputable def sg34 : Sig := { ps := ps34, rs := rs34, own := true, φ := d34 }

theorem envOk34 : ∀ f sg, env34 f = some sg → Contract Try.prog f sg := by
  intro f sg h
  unfold env34 at h
  split at h
  · injection h with h; subst h; exact c50
  · injection h with h; subst h; exact c51
  · cases h
theorem l34 : ps34.length ≤ Try.f34.ntmps := of_decide_eq_true (by kernel_rfl)
theorem h34 : ∀ x y, d34 x = some y → fnD tab env34 5 ann34 big Try.f34 [] ps34 rs34 true x = some y := fun x y h => by rw [d34, ← fnK_eq l34] at h; exact h
theorem r34 : resOK tab Try.f34.results.toList rs34 = true := by kernel_rfl
theorem n34 : nodupB (Try.f34.results.toList.map rSlot) = true := by kernel_rfl
theorem does34 : Does Try.prog 34 ps34 rs34 true d34 := fn_does mixed tabOK envOk34 Try.func34 r34 n34 l34 h34
theorem k34 : Callable Try.prog 34 := ⟨Try.f34, Try.func34, by kernel_rfl, by kernel_rfl⟩
theorem c34 : Contract Try.prog 34 sg34 := by rw [sg34]; exact Contract.of k34 does34

/-! skiarea/patrol.Right -/
noncomputable def env12 : Nat → Option Sig := fun n => match n with
  | 32 => some sg32
  | 33 => some sg33
  | 34 => some sg34
  | _ => none

def ann12 : List LoopAnn := [{ id := 4, live := [1, 19, 20, 21], frz := [] }, { id := 15, live := [1, 56, 57, 58], frz := [] }]
abbrev ps12 : List Ty := [.pair (.sl (.pair (.int .i64) (.pair (.sl (.int .i64)) (.pair (.int .i64) (.sl (.pair (.int .i64) (.pair (.int .i64) (.int .i64)))))))) (.sl (.pair (.int .i64) (.pair (.int .i64) (.int .i64))))]
abbrev rs12 : List Ty := [.int .i64]
noncomputable def d12 : (pk ps12).den → Option (pk rs12).den := fnK tab env12 8 ann12 big Try.f12 [] ps12 rs12 true
noncomputable def sg12 : Sig := { ps := ps12, rs := rs12, own := true, φ := d12 }

theorem envOk12 : ∀ f sg, env12 f = some sg → Contract Try.prog f sg := by
  intro f sg h
  unfold env12 at h
  split at h
  · injection h with h; subst h; exact c32
  · injection h with h; subst h; exact c33
  · injection h with h; subst h; exact c34
  · cases h
theorem l12 : ps12.length ≤ Try.f12.ntmps := of_decide_eq_true (by kernel_rfl)
theorem h12 : ∀ x y, d12 x = some y → fnD tab env12 8 ann12 big Try.f12 [] ps12 rs12 true x = some y := fun x y h => by rw [d12, ← fnK_eq l12] at h; exact h
theorem r12 : resOK tab Try.f12.results.toList rs12 = true := by kernel_rfl
theorem n12 : nodupB (Try.f12.results.toList.map rSlot) = true := by kernel_rfl
theorem does12 : Does Try.prog 12 ps12 rs12 true d12 := fn_does mixed tabOK envOk12 Try.func12 r12 n12 l12 h12
theorem k12 : Callable Try.prog 12 := ⟨Try.f12, Try.func12, by kernel_rfl, by kernel_rfl⟩
theorem c12 : Contract Try.prog 12 sg12 := by rw [sg12]; exact Contract.of k12 does12

/-! slices.Clone[[]int,int] -/
def env54 : Nat → Option Sig := fun _ => none
def ann54 : List LoopAnn := []
abbrev ps54 : List Ty := [.sl (.int .i64)]
abbrev rs54 : List Ty := [.sl (.int .i64)]
noncomputable def d54r : (pk ps54).den → Option (pk rs54).den := fnK tab env54 3 ann54 big Try.f54 [] ps54 rs54 true
theorem envOk54 : ∀ f sg, env54 f = some sg → Contract Try.prog f sg := by
  intro f sg h
  unfold env54 at h
  cases h
theorem l54 : ps54.length ≤ Try.f54.ntmps := of_decide_eq_true (by kernel_rfl)
theorem h54r : ∀ x y, d54r x = some y → fnD tab env54 3 ann54 big Try.f54 [] ps54 rs54 true x = some y := fun x y h => by rw [d54r, ← fnK_eq l54] at h; exact h
theorem r54 : resOK tab Try.f54.results.toList rs54 = true := by kernel_rfl
theorem n54 : nodupB (Try.f54.results.toList.map rSlot) = true := by kernel_rfl
theorem does54r : Does Try.prog 54 ps54 rs54 true d54r := fn_does mixed tabOK envOk54 Try.func54 r54 n54 l54 h54r
theorem raw54 (s : List (Int)) : d54r s = (
  bif List.isEmpty s then (
    bothO (some ([] : List (Int))) (bif (Nat.ble ((List.length ([] : List (Int)) + List.length s) * 8) appendLimit && Nat.ble (List.length ([] : List (Int)) + List.length s) 9223372036854775807) then some (([] : List (Int)) ++ s)
    else none))
  else bif (Nat.ble ((List.length ([] : List (Int)) + List.length s) * 8) appendLimit && Nat.ble (List.length ([] : List (Int)) + List.length s) 9223372036854775807) then some (([] : List (Int)) ++ s)
  else none : Option (List (Int))) := by kernel_rfl
def d54 : (pk ps54).den → Option (pk rs54).den := fun (s : List (Int)) => bif (Nat.ble ((List.length ([] : List (Int)) + List.length s) * 8) appendLimit && Nat.ble (List.length ([] : List (Int)) + List.length s) 9223372036854775807) then some (([] : List (Int)) ++ s) else none
def sg54 : Sig := { ps := ps54, rs := rs54, own := true, φ := d54 }
theorem le54 : ∀ x y, d54 x = some y → d54r x = some y := by
  intro x y h
  refine (raw54 x).trans ?_
  cases x with
  | nil =>
    have e : d54 ([] : List (Int)) = some ([] : List (Int)) := by kernel_rfl
    have e2 : y = ([] : List (Int)) := (Option.some.inj (e.symm.trans h)).symm
    subst e2
    show bothO (some ([] : List (Int))) (d54 ([] : List (Int))) = _
    rw [e]
    unfold bothO
    rw [if_pos rfl]
  | cons a l => exact h
theorem does54 : Does Try.prog 54 ps54 rs54 true d54 := fun w Ok cs x y hx hy => does54r w Ok cs x y hx (le54 x y hy)
theorem k54 : Callable Try.prog 54 := ⟨Try.f54, Try.func54, by kernel_rfl, by kernel_rfl⟩
theorem c54 : Contract Try.prog 54 sg54 := Contract.of k54 does54

/-! skiarea/inspect.Sign -/
noncomputable def env37 : Nat → Option Sig := fun n => match n with
  | 32 => some sg32
  | 54 => some sg54
  | _ => none

def ann37 : List LoopAnn := [{ id := 3, live := [1, 2, 3, 8, 10, 21, 22, 23], frz := [] }]
abbrev ps37 : List Ty := [.pair (.sl (.int .i64)) (.pair (.int .i64) (.sl (.pair (.int .i64) (.pair (.int .i64) (.int .i64))))), .int .i64, .int .i64, .int .i64]
abbrev rs37 : List Ty := [.pair (.sl (.int .i64)) (.pair (.int .i64) (.sl (.pair (.int .i64) (.pair (.int .i64) (.int .i64))))), .int .i64]
noncomputable def d37 : (pk ps37).den → Option (pk rs37).den := fnK tab env37 14 ann37 big Try.f37 [] ps37 rs37 true
noncomputable def sg37 : Sig := { ps := ps37, rs := rs37, own := true, φ := d37 }

theorem envOk37 : ∀ f sg, env37 f = some sg → Contract Try.prog f sg := by
  intro f sg h
  unfold env37 at h
  split at h
  · injection h with h; subst h; exact c32
  · injection h with h; subst h; exact c54
  · cases h
theorem l37 : ps37.length ≤ Try.f37.ntmps := of_decide_eq_true (by kernel_rfl)
theorem h37 : ∀ x y, d37 x = some y → fnD tab env37 14 ann37 big Try.f37 [] ps37 rs37 true x = some y := fun x y h => by rw [d37, ← fnK_eq l37] at h; exact h
theorem r37 : resOK tab Try.f37.results.toList rs37 = true := by kernel_rfl
theorem n37 : nodupB (Try.f37.results.toList.map rSlot) = true := by kernel_rfl
theorem does37 : Does Try.prog 37 ps37 rs37 true d37 := fn_does mixed tabOK envOk37 Try.func37 r37 n37 l37 h37
theorem k37 : Callable Try.prog 37 := ⟨Try.f37, Try.func37, by kernel_rfl, by kernel_rfl⟩
theorem c37 : Contract Try.prog 37 sg37 := by rw [sg37]; exact Contract.of k37 does37

/-! slices.Clone[[]skiarea/api.Sign,skiarea/api.Sign] -/
def env55 : Nat → Option Sig := fun _ => none
def ann55 : List LoopAnn := []
abbrev ps55 : List Ty := [.sl (.pair (.int .i64) (.pair (.int .i64) (.int .i64)))]
abbrev rs55 : List Ty := [.sl (.pair (.int .i64) (.pair (.int .i64) (.int .i64)))]
noncomputable def d55r : (pk ps55).den → Option (pk rs55).den := fnK tab env55 3 ann55 big Try.f55 [] ps55 rs55 true
theorem envOk55 : ∀ f sg, env55 f = some sg → Contract Try.prog f sg := by
  intro f sg h
  unfold env55 at h
  cases h
theorem l55 : ps55.length ≤ Try.f55.ntmps := of_decide_eq_true (by kernel_rfl)
theorem h55r : ∀ x y, d55r x = some y → fnD tab env55 3 ann55 big Try.f55 [] ps55 rs55 true x = some y := fun x y h => by rw [d55r, ← fnK_eq l55] at h; exact h
theorem r55 : resOK tab Try.f55.results.toList rs55 = true := by kernel_rfl
theorem n55 : nodupB (Try.f55.results.toList.map rSlot) = true := by kernel_rfl
theorem does55r : Does Try.prog 55 ps55 rs55 true d55r := fn_does mixed tabOK envOk55 Try.func55 r55 n55 l55 h55r
theorem raw55 (s : List ((Int) × ((Int) × (Int)))) : d55r s = (
  bif List.isEmpty s then (
    bothO (some ([] : List ((Int) × ((Int) × (Int))))) (bif (Nat.ble ((List.length ([] : List ((Int) × ((Int) × (Int)))) + List.length s) * 24) appendLimit && Nat.ble (List.length ([] : List ((Int) × ((Int) × (Int)))) + List.length s) 9223372036854775807) then some (([] : List ((Int) × ((Int) × (Int)))) ++ s)
    else none))
  else bif (Nat.ble ((List.length ([] : List ((Int) × ((Int) × (Int)))) + List.length s) * 24) appendLimit && Nat.ble (List.length ([] : List ((Int) × ((Int) × (Int)))) + List.length s) 9223372036854775807) then some (([] : List ((Int) × ((Int) × (Int)))) ++ s)
  else none : Option (List ((Int) × ((Int) × (Int))))) := by kernel_rfl
def d55 : (pk ps55).den → Option (pk rs55).den := fun (s : List ((Int) × ((Int) × (Int)))) => bif (Nat.ble ((List.length ([] : List ((Int) × ((Int) × (Int)))) + List.length s) * 24) appendLimit && Nat.ble (List.length ([] : List ((Int) × ((Int) × (Int)))) + List.length s) 9223372036854775807) then some (([] : List ((Int) × ((Int) × (Int)))) ++ s) else none
def sg55 : Sig := { ps := ps55, rs := rs55, own := true, φ := d55 }
theorem le55 : ∀ x y, d55 x = some y → d55r x = some y := by
  intro x y h
  refine (raw55 x).trans ?_
  cases x with
  | nil =>
    have e : d55 ([] : List ((Int) × ((Int) × (Int)))) = some ([] : List ((Int) × ((Int) × (Int)))) := by kernel_rfl
    have e2 : y = ([] : List ((Int) × ((Int) × (Int)))) := (Option.some.inj (e.symm.trans h)).symm
    subst e2
    show bothO (some ([] : List ((Int) × ((Int) × (Int))))) (d55 ([] : List ((Int) × ((Int) × (Int))))) = _
    rw [e]
    unfold bothO
    rw [if_pos rfl]
  | cons a l => exact h
theorem does55 : Does Try.prog 55 ps55 rs55 true d55 := fun w Ok cs x y hx hy => does55r w Ok cs x y hx (le55 x y hy)
theorem k55 : Callable Try.prog 55 := ⟨Try.f55, Try.func55, by kernel_rfl, by kernel_rfl⟩
theorem c55 : Contract Try.prog 55 sg55 := Contract.of k55 does55

/-! slices.Clone[[]skiarea/api.Hazard,skiarea/api.Hazard] -/
def env56 : Nat → Option Sig := fun _ => none
def ann56 : List LoopAnn := []
abbrev ps56 : List Ty := [.sl (.pair (.int .i64) (.pair (.int .i64) (.int .i64)))]
abbrev rs56 : List Ty := [.sl (.pair (.int .i64) (.pair (.int .i64) (.int .i64)))]
noncomputable def d56r : (pk ps56).den → Option (pk rs56).den := fnK tab env56 3 ann56 big Try.f56 [] ps56 rs56 true
theorem envOk56 : ∀ f sg, env56 f = some sg → Contract Try.prog f sg := by
  intro f sg h
  unfold env56 at h
  cases h
theorem l56 : ps56.length ≤ Try.f56.ntmps := of_decide_eq_true (by kernel_rfl)
theorem h56r : ∀ x y, d56r x = some y → fnD tab env56 3 ann56 big Try.f56 [] ps56 rs56 true x = some y := fun x y h => by rw [d56r, ← fnK_eq l56] at h; exact h
theorem r56 : resOK tab Try.f56.results.toList rs56 = true := by kernel_rfl
theorem n56 : nodupB (Try.f56.results.toList.map rSlot) = true := by kernel_rfl
theorem does56r : Does Try.prog 56 ps56 rs56 true d56r := fn_does mixed tabOK envOk56 Try.func56 r56 n56 l56 h56r
theorem raw56 (s : List ((Int) × ((Int) × (Int)))) : d56r s = (
  bif List.isEmpty s then (
    bothO (some ([] : List ((Int) × ((Int) × (Int))))) (bif (Nat.ble ((List.length ([] : List ((Int) × ((Int) × (Int)))) + List.length s) * 24) appendLimit && Nat.ble (List.length ([] : List ((Int) × ((Int) × (Int)))) + List.length s) 9223372036854775807) then some (([] : List ((Int) × ((Int) × (Int)))) ++ s)
    else none))
  else bif (Nat.ble ((List.length ([] : List ((Int) × ((Int) × (Int)))) + List.length s) * 24) appendLimit && Nat.ble (List.length ([] : List ((Int) × ((Int) × (Int)))) + List.length s) 9223372036854775807) then some (([] : List ((Int) × ((Int) × (Int)))) ++ s)
  else none : Option (List ((Int) × ((Int) × (Int))))) := by kernel_rfl
def d56 : (pk ps56).den → Option (pk rs56).den := fun (s : List ((Int) × ((Int) × (Int)))) => bif (Nat.ble ((List.length ([] : List ((Int) × ((Int) × (Int)))) + List.length s) * 24) appendLimit && Nat.ble (List.length ([] : List ((Int) × ((Int) × (Int)))) + List.length s) 9223372036854775807) then some (([] : List ((Int) × ((Int) × (Int)))) ++ s) else none
def sg56 : Sig := { ps := ps56, rs := rs56, own := true, φ := d56 }
theorem le56 : ∀ x y, d56 x = some y → d56r x = some y := by
  intro x y h
  refine (raw56 x).trans ?_
  cases x with
  | nil =>
    have e : d56 ([] : List ((Int) × ((Int) × (Int)))) = some ([] : List ((Int) × ((Int) × (Int)))) := by kernel_rfl
    have e2 : y = ([] : List ((Int) × ((Int) × (Int)))) := (Option.some.inj (e.symm.trans h)).symm
    subst e2
    show bothO (some ([] : List ((Int) × ((Int) × (Int))))) (d56 ([] : List ((Int) × ((Int) × (Int))))) = _
    rw [e]
    unfold bothO
    rw [if_pos rfl]
  | cons a l => exact h
theorem does56 : Does Try.prog 56 ps56 rs56 true d56 := fun w Ok cs x y hx hy => does56r w Ok cs x y hx (le56 x y hy)
theorem k56 : Callable Try.prog 56 := ⟨Try.f56, Try.func56, by kernel_rfl, by kernel_rfl⟩
theorem c56 : Contract Try.prog 56 sg56 := Contract.of k56 does56

/-! skiarea/patrol.copied -/
noncomputable def env38 : Nat → Option Sig := fun n => match n with
  | 54 => some sg54
  | 55 => some sg55
  | 56 => some sg56
  | _ => none

def ann38 : List LoopAnn := [{ id := 3, live := [1, 2, 3, 11, 12, 13], frz := [] }]
abbrev ps38 : List Ty := [.pair (.sl (.pair (.int .i64) (.pair (.sl (.int .i64)) (.pair (.int .i64) (.sl (.pair (.int .i64) (.pair (.int .i64) (.int .i64)))))))) (.sl (.pair (.int .i64) (.pair (.int .i64) (.int .i64))))]
abbrev rs38 : List Ty := [.pair (.sl (.pair (.int .i64) (.pair (.sl (.int .i64)) (.pair (.int .i64) (.sl (.pair (.int .i64) (.pair (.int .i64) (.int .i64)))))))) (.sl (.pair (.int .i64) (.pair (.int .i64) (.int .i64))))]
noncomputable def d38 : (pk ps38).den → Option (pk rs38).den := fnK tab env38 6 ann38 big Try.f38 [] ps38 rs38 true
noncomputable def sg38 : Sig := { ps := ps38, rs := rs38, own := true, φ := d38 }

theorem envOk38 : ∀ f sg, env38 f = some sg → Contract Try.prog f sg := by
  intro f sg h
  unfold env38 at h
  split at h
  · injection h with h; subst h; exact c54
  · injection h with h; subst h; exact c55
  · injection h with h; subst h; exact c56
  · cases h
theorem l38 : ps38.length ≤ Try.f38.ntmps := of_decide_eq_true (by kernel_rfl)
theorem h38 : ∀ x y, d38 x = some y → fnD tab env38 6 ann38 big Try.f38 [] ps38 rs38 true x = some y := fun x y h => by rw [d38, ← fnK_eq l38] at h; exact h
theorem r38 : resOK tab Try.f38.results.toList rs38 = true := by kernel_rfl
theorem n38 : nodupB (Try.f38.results.toList.map rSlot) = true := by kernel_rfl
theorem does38 : Does Try.prog 38 ps38 rs38 true d38 := fn_does mixed tabOK envOk38 Try.func38 r38 n38 l38 h38
theorem k38 : Callable Try.prog 38 := ⟨Try.f38, Try.func38, by kernel_rfl, by kernel_rfl⟩
theorem c38 : Contract Try.prog 38 sg38 := by rw [sg38]; exact Contract.of k38 does38

/-! skiarea/patrol.Sign -/
noncomputable def env15 : Nat → Option Sig := fun n => match n with
  | 34 => some sg34
  | 37 => some sg37
  | 38 => some sg38
  | _ => none

def ann15 : List LoopAnn := []
abbrev ps15 : List Ty := [.pair (.sl (.pair (.int .i64) (.pair (.sl (.int .i64)) (.pair (.int .i64) (.sl (.pair (.int .i64) (.pair (.int .i64) (.int .i64)))))))) (.sl (.pair (.int .i64) (.pair (.int .i64) (.int .i64)))), .int .i64, .int .i64, .int .i64, .int .i64]
abbrev rs15 : List Ty := [.pair (.sl (.pair (.int .i64) (.pair (.sl (.int .i64)) (.pair (.int .i64) (.sl (.pair (.int .i64) (.pair (.int .i64) (.int .i64)))))))) (.sl (.pair (.int .i64) (.pair (.int .i64) (.int .i64)))), .int .i64]
noncomputable def d15 : (pk ps15).den → Option (pk rs15).den := fnK tab env15 16 ann15 big Try.f15 [] ps15 rs15 true
noncomputable def sg15 : Sig := { ps := ps15, rs := rs15, own := true, φ := d15 }

theorem envOk15 : ∀ f sg, env15 f = some sg → Contract Try.prog f sg := by
  intro f sg h
  unfold env15 at h
  split at h
  · injection h with h; subst h; exact c34
  · injection h with h; subst h; exact c37
  · injection h with h; subst h; exact c38
  · cases h
theorem l15 : ps15.length ≤ Try.f15.ntmps := of_decide_eq_true (by kernel_rfl)
theorem h15 : ∀ x y, d15 x = some y → fnD tab env15 16 ann15 big Try.f15 [] ps15 rs15 true x = some y := fun x y h => by rw [d15, ← fnK_eq l15] at h; exact h
theorem r15 : resOK tab Try.f15.results.toList rs15 = true := by kernel_rfl
theorem n15 : nodupB (Try.f15.results.toList.map rSlot) = true := by kernel_rfl
theorem does15 : Does Try.prog 15 ps15 rs15 true d15 := fn_does mixed tabOK envOk15 Try.func15 r15 n15 l15 h15
theorem k15 : Callable Try.prog 15 := ⟨Try.f15, Try.func15, by kernel_rfl, by kernel_rfl⟩
theorem c15 : Contract Try.prog 15 sg15 := by rw [sg15]; exact Contract.of k15 does15

/-! skiarea/patrol.Report -/
noncomputable def env18 : Nat → Option Sig := fun n => match n with
  | 12 => some sg12
  | 38 => some sg38
  | _ => none

def ann18 : List LoopAnn := []
abbrev ps18 : List Ty := [.pair (.sl (.pair (.int .i64) (.pair (.sl (.int .i64)) (.pair (.int .i64) (.sl (.pair (.int .i64) (.pair (.int .i64) (.int .i64)))))))) (.sl (.pair (.int .i64) (.pair (.int .i64) (.int .i64)))), .pair (.int .i64) (.pair (.int .i64) (.int .i64))]
abbrev rs18 : List Ty := [.pair (.sl (.pair (.int .i64) (.pair (.sl (.int .i64)) (.pair (.int .i64) (.sl (.pair (.int .i64) (.pair (.int .i64) (.int .i64)))))))) (.sl (.pair (.int .i64) (.pair (.int .i64) (.int .i64)))), .int .i64]
noncomputable def d18 : (pk ps18).den → Option (pk rs18).den := fnK tab env18 8 ann18 big Try.f18 [] ps18 rs18 true
noncomputable def sg18 : Sig := { ps := ps18, rs := rs18, own := true, φ := d18 }

theorem envOk18 : ∀ f sg, env18 f = some sg → Contract Try.prog f sg := by
  intro f sg h
  unfold env18 at h
  split at h
  · injection h with h; subst h; exact c12
  · injection h with h; subst h; exact c38
  · cases h
theorem l18 : ps18.length ≤ Try.f18.ntmps := of_decide_eq_true (by kernel_rfl)
theorem h18 : ∀ x y, d18 x = some y → fnD tab env18 8 ann18 big Try.f18 [] ps18 rs18 true x = some y := fun x y h => by rw [d18, ← fnK_eq l18] at h; exact h
theorem r18 : resOK tab Try.f18.results.toList rs18 = true := by kernel_rfl
theorem n18 : nodupB (Try.f18.results.toList.map rSlot) = true := by kernel_rfl
theorem does18 : Does Try.prog 18 ps18 rs18 true d18 := fn_does mixed tabOK envOk18 Try.func18 r18 n18 l18 h18
theorem k18 : Callable Try.prog 18 := ⟨Try.f18, Try.func18, by kernel_rfl, by kernel_rfl⟩
theorem c18 : Contract Try.prog 18 sg18 := by rw [sg18]; exact Contract.of k18 does18

/-! slices.Delete[[]skiarea/api.Hazard,skiarea/api.Hazard] -/
abbrev ps41 : List Ty := [.sl (.pair (.int .i64) (.pair (.int .i64) (.int .i64))), .int .i64, .int .i64]
abbrev rs41 : List Ty := [.sl (.pair (.int .i64) (.pair (.int .i64) (.int .i64)))]
def d41 : (pk ps41).den → Option (pk rs41).den := delD (.pair (.int .i64) (.pair (.int .i64) (.int .i64)))
def sg41 : Sig := { ps := ps41, rs := rs41, own := true, eat := true, φ := d41 }
theorem k41 : Callable Try.prog 41 := ⟨Try.f41, Try.func41, by kernel_rfl, by kernel_rfl⟩
theorem c41 : Contract Try.prog 41 sg41 :=
  del_contract (f := 41) (T := 23) (El := 37) mixed "slices.Delete[[]skiarea/api.Hazard,skiarea/api.Hazard]" (by rw [Try.func41]; kernel_rfl) (by kernel_rfl) (by kernel_rfl) (by kernel_rfl) (by kernel_rfl) (by kernel_rfl) (by kernel_rfl) (by kernel_rfl) (by kernel_rfl) (by kernel_rfl) (by kernel_rfl) (by kernel_rfl) (by kernel_rfl) tabOK (.pair (.int .i64) (.pair (.int .i64) (.int .i64))) (by kernel_rfl) (by kernel_rfl) (by kernel_rfl) k41

/-! skiarea/patrol.Remove -/
noncomputable def env20 : Nat → Option Sig := fun n => match n with
  | 33 => some sg33
  | 38 => some sg38
  | 41 => some sg41
  | _ => none

def ann20 : List LoopAnn := []
abbrev ps20 : List Ty := [.pair (.sl (.pair (.int .i64) (.pair (.sl (.int .i64)) (.pair (.int .i64) (.sl (.pair (.int .i64) (.pair (.int .i64) (.int .i64)))))))) (.sl (.pair (.int .i64) (.pair (.int .i64) (.int .i64)))), .int .i64]
abbrev rs20 : List Ty := [.pair (.sl (.pair (.int .i64) (.pair (.sl (.int .i64)) (.pair (.int .i64) (.sl (.pair (.int .i64) (.pair (.int .i64) (.int .i64)))))))) (.sl (.pair (.int .i64) (.pair (.int .i64) (.int .i64)))), .int .i64]
noncomputable def d20 : (pk ps20).den → Option (pk rs20).den := fnK tab env20 8 ann20 big Try.f20 [] ps20 rs20 true
noncomputable def sg20 : Sig := { ps := ps20, rs := rs20, own := true, φ := d20 }

theorem envOk20 : ∀ f sg, env20 f = some sg → Contract Try.prog f sg := by
  intro f sg h
  unfold env20 at h
  split at h
  · injection h with h; subst h; exact c33
  · injection h with h; subst h; exact c38
  · injection h with h; subst h; exact c41
  · cases h
theorem l20 : ps20.length ≤ Try.f20.ntmps := of_decide_eq_true (by kernel_rfl)
theorem h20 : ∀ x y, d20 x = some y → fnD tab env20 8 ann20 big Try.f20 [] ps20 rs20 true x = some y := fun x y h => by rw [d20, ← fnK_eq l20] at h; exact h
theorem r20 : resOK tab Try.f20.results.toList rs20 = true := by kernel_rfl
theorem n20 : nodupB (Try.f20.results.toList.map rSlot) = true := by kernel_rfl
theorem does20 : Does Try.prog 20 ps20 rs20 true d20 := fn_does mixed tabOK envOk20 Try.func20 r20 n20 l20 h20
theorem k20 : Callable Try.prog 20 := ⟨Try.f20, Try.func20, by kernel_rfl, by kernel_rfl⟩
theorem c20 : Contract Try.prog 20 sg20 := by rw [sg20]; exact Contract.of k20 does20

/-! skiarea/inspect.Open$1 -/
def env58 : Nat → Option Sig := fun _ => none

def ann58 : List LoopAnn := []
abbrev ps58 : List Ty := [.pair (.int .i64) (.pair (.int .i64) (.int .i64)), .ptr (.int .i64), .ptr (.int .i64), .ptr (.pair (.sl (.int .i64)) (.pair (.int .i64) (.sl (.pair (.int .i64) (.pair (.int .i64) (.int .i64))))))]
abbrev rs58 : List Ty := [.bool]
noncomputable def d58 : (pk ps58).den → Option (pk rs58).den := fnK tab env58 6 ann58 big Try.f58 [] ps58 rs58 true
noncomputable def sg58 : Sig := { ps := ps58, rs := rs58, own := true, φ := d58 }

theorem envOk58 : ∀ f sg, env58 f = some sg → Contract Try.prog f sg := by
  intro f sg h
  unfold env58 at h
  cases h
theorem l58 : ps58.length ≤ Try.f58.ntmps := of_decide_eq_true (by kernel_rfl)
theorem h58 : ∀ x y, d58 x = some y → fnD tab env58 6 ann58 big Try.f58 [] ps58 rs58 true x = some y := fun x y h => by rw [d58, ← fnK_eq l58] at h; exact h
theorem r58 : resOK tab Try.f58.results.toList rs58 = true := by kernel_rfl
theorem n58 : nodupB (Try.f58.results.toList.map rSlot) = true := by kernel_rfl
theorem does58 : Does Try.prog 58 ps58 rs58 true d58 := fn_does mixed tabOK envOk58 Try.func58 r58 n58 l58 h58
theorem k58 : Callable Try.prog 58 := ⟨Try.f58, Try.func58, by kernel_rfl, by kernel_rfl⟩
theorem c58 : Contract Try.prog 58 sg58 := by rw [sg58]; exact Contract.of k58 does58

/-! slices.IndexFunc[[]skiarea/api.Sign,skiarea/api.Sign] -/
def env62 : Nat → Option Sig := fun _ => none

def ann62 : List LoopAnn := [{ id := 2, live := [0, 1, 7, 8], frz := [] }]
abbrev ps62 : List Ty := [.sl (.pair (.int .i64) (.pair (.int .i64) (.int .i64))), .fn (.pair (.int .i64) (.pair (.int .i64) (.int .i64))) (.bool)]
abbrev rs62 : List Ty := [.int .i64]
noncomputable def d62 : (pk ps62).den → Option (pk rs62).den := fnK tab env62 6 ann62 big Try.f62 [] ps62 rs62 true
noncomputable def sg62 : Sig := { ps := ps62, rs := rs62, own := true, φ := d62 }

theorem envOk62 : ∀ f sg, env62 f = some sg → Contract Try.prog f sg := by
  intro f sg h
  unfold env62 at h
  cases h
theorem l62 : ps62.length ≤ Try.f62.ntmps := of_decide_eq_true (by kernel_rfl)
theorem h62 : ∀ x y, d62 x = some y → fnD tab env62 6 ann62 big Try.f62 [] ps62 rs62 true x = some y := fun x y h => by rw [d62, ← fnK_eq l62] at h; exact h
theorem r62 : resOK tab Try.f62.results.toList rs62 = true := by kernel_rfl
theorem n62 : nodupB (Try.f62.results.toList.map rSlot) = true := by kernel_rfl
theorem does62 : Does Try.prog 62 ps62 rs62 true d62 := fn_does mixed tabOK envOk62 Try.func62 r62 n62 l62 h62
theorem k62 : Callable Try.prog 62 := ⟨Try.f62, Try.func62, by kernel_rfl, by kernel_rfl⟩
theorem c62 : Contract Try.prog 62 sg62 := by rw [sg62]; exact Contract.of k62 does62

/-! slices.ContainsFunc[[]skiarea/api.Sign,skiarea/api.Sign] -/
noncomputable def env59 : Nat → Option Sig := fun n => match n with
  | 62 => some sg62
  | _ => none

def ann59 : List LoopAnn := []
abbrev ps59 : List Ty := [.sl (.pair (.int .i64) (.pair (.int .i64) (.int .i64))), .fn (.pair (.int .i64) (.pair (.int .i64) (.int .i64))) (.bool)]
abbrev rs59 : List Ty := [.bool]
noncomputable def d59 : (pk ps59).den → Option (pk rs59).den := fnK tab env59 5 ann59 big Try.f59 [] ps59 rs59 true
noncomputable def sg59 : Sig := { ps := ps59, rs := rs59, own := true, φ := d59 }

theorem envOk59 : ∀ f sg, env59 f = some sg → Contract Try.prog f sg := by
  intro f sg h
  unfold env59 at h
  split at h
  · injection h with h; subst h; exact c62
  · cases h
theorem l59 : ps59.length ≤ Try.f59.ntmps := of_decide_eq_true (by kernel_rfl)
theorem h59 : ∀ x y, d59 x = some y → fnD tab env59 5 ann59 big Try.f59 [] ps59 rs59 true x = some y := fun x y h => by rw [d59, ← fnK_eq l59] at h; exact h
theorem r59 : resOK tab Try.f59.results.toList rs59 = true := by kernel_rfl
theorem n59 : nodupB (Try.f59.results.toList.map rSlot) = true := by kernel_rfl
theorem does59 : Does Try.prog 59 ps59 rs59 true d59 := fn_does mixed tabOK envOk59 Try.func59 r59 n59 l59 h59
theorem k59 : Callable Try.prog 59 := ⟨Try.f59, Try.func59, by kernel_rfl, by kernel_rfl⟩
theorem c59 : Contract Try.prog 59 sg59 := by rw [sg59]; exact Contract.of k59 does59

/-! skiarea/inspect.Open -/
noncomputable def env45 : Nat → Option Sig := fun n => match n with
  | 58 => some sg58
  | 59 => some sg59
  | _ => none

def ann45 : List LoopAnn := [{ id := 3, live := [2, 3, 5, 10, 11, 12], frz := [] }]
abbrev ps45 : List Ty := [.pair (.sl (.int .i64)) (.pair (.int .i64) (.sl (.pair (.int .i64) (.pair (.int .i64) (.int .i64))))), .int .i64]
abbrev rs45 : List Ty := [.sl (.int .i64)]
noncomputable def d45 : (pk ps45).den → Option (pk rs45).den := fnK tab env45 9 ann45 big Try.f45 [] ps45 rs45 true
noncomputable def sg45 : Sig := { ps := ps45, rs := rs45, own := true, φ := d45 }

theorem envOk45 : ∀ f sg, env45 f = some sg → Contract Try.prog f sg := by
  intro f sg h
  unfold env45 at h
  split at h
  · injection h with h; subst h; exact c58
  · injection h with h; subst h; exact c59
  · cases h
theorem l45 : ps45.length ≤ Try.f45.ntmps := of_decide_eq_true (by kernel_rfl)
theorem h45 : ∀ x y, d45 x = some y → fnD tab env45 9 ann45 big Try.f45 [] ps45 rs45 true x = some y := fun x y h => by rw [d45, ← fnK_eq l45] at h; exact h
theorem r45 : resOK tab Try.f45.results.toList rs45 = true := by kernel_rfl
theorem n45 : nodupB (Try.f45.results.toList.map rSlot) = true := by kernel_rfl
theorem does45 : Does Try.prog 45 ps45 rs45 true d45 := fn_does mixed tabOK envOk45 Try.func45 r45 n45 l45 h45
theorem k45 : Callable Try.prog 45 := ⟨Try.f45, Try.func45, by kernel_rfl, by kernel_rfl⟩
theorem c45 : Contract Try.prog 45 sg45 := by rw [sg45]; exact Contract.of k45 does45

/-! skiarea/inspect.Done -/
noncomputable def env27 : Nat → Option Sig := fun n => match n with
  | 45 => some sg45
  | _ => none

def ann27 : List LoopAnn := []
abbrev ps27 : List Ty := [.pair (.sl (.int .i64)) (.pair (.int .i64) (.sl (.pair (.int .i64) (.pair (.int .i64) (.int .i64))))), .int .i64]
abbrev rs27 : List Ty := [.bool]
noncomputable def d27 : (pk ps27).den → Option (pk rs27).den := fnK tab env27 5 ann27 big Try.f27 [] ps27 rs27 true
noncomputable def sg27 : Sig := { ps := ps27, rs := rs27, own := true, φ := d27 }

theorem envOk27 : ∀ f sg, env27 f = some sg → Contract Try.prog f sg := by
  intro f sg h
  unfold env27 at h
  split at h
  · injection h with h; subst h; exact c45
  · cases h
theorem l27 : ps27.length ≤ Try.f27.ntmps := of_decide_eq_true (by kernel_rfl)
theorem h27 : ∀ x y, d27 x = some y → fnD tab env27 5 ann27 big Try.f27 [] ps27 rs27 true x = some y := fun x y h => by rw [d27, ← fnK_eq l27] at h; exact h
theorem r27 : resOK tab Try.f27.results.toList rs27 = true := by kernel_rfl
theorem n27 : nodupB (Try.f27.results.toList.map rSlot) = true := by kernel_rfl
theorem does27 : Does Try.prog 27 ps27 rs27 true d27 := fn_does mixed tabOK envOk27 Try.func27 r27 n27 l27 h27
theorem k27 : Callable Try.prog 27 := ⟨Try.f27, Try.func27, by kernel_rfl, by kernel_rfl⟩
theorem c27 : Contract Try.prog 27 sg27 := by rw [sg27]; exact Contract.of k27 does27

/-! slices.ContainsFunc[[]skiarea/api.Hazard,skiarea/api.Hazard] -/
noncomputable def env42 : Nat → Option Sig := fun n => match n with
  | 48 => some sg48
  | _ => none

def ann42 : List LoopAnn := []
abbrev ps42 : List Ty := [.sl (.pair (.int .i64) (.pair (.int .i64) (.int .i64))), .fn (.pair (.int .i64) (.pair (.int .i64) (.int .i64))) (.bool)]
abbrev rs42 : List Ty := [.bool]
noncomputable def d42 : (pk ps42).den → Option (pk rs42).den := fnK tab env42 5 ann42 big Try.f42 [] ps42 rs42 true
noncomputable def sg42 : Sig := { ps := ps42, rs := rs42, own := true, φ := d42 }

theorem envOk42 : ∀ f sg, env42 f = some sg → Contract Try.prog f sg := by
  intro f sg h
  unfold env42 at h
  split at h
  · injection h with h; subst h; exact c48
  · cases h
theorem l42 : ps42.length ≤ Try.f42.ntmps := of_decide_eq_true (by kernel_rfl)
theorem h42 : ∀ x y, d42 x = some y → fnD tab env42 5 ann42 big Try.f42 [] ps42 rs42 true x = some y := fun x y h => by rw [d42, ← fnK_eq l42] at h; exact h
theorem r42 : resOK tab Try.f42.results.toList rs42 = true := by kernel_rfl
theorem n42 : nodupB (Try.f42.results.toList.map rSlot) = true := by kernel_rfl
theorem does42 : Does Try.prog 42 ps42 rs42 true d42 := fn_does mixed tabOK envOk42 Try.func42 r42 n42 l42 h42
theorem k42 : Callable Try.prog 42 := ⟨Try.f42, Try.func42, by kernel_rfl, by kernel_rfl⟩
theorem c42 : Contract Try.prog 42 sg42 := by rw [sg42]; exact Contract.of k42 does42

/-! skiarea/patrol.Ready$1 -/
def env43 : Nat → Option Sig := fun _ => none

def ann43 : List LoopAnn := []
abbrev ps43 : List Ty := [.pair (.int .i64) (.pair (.int .i64) (.int .i64)), .ptr (.int .i64)]
abbrev rs43 : List Ty := [.bool]
noncomputable def d43 : (pk ps43).den → Option (pk rs43).den := fnK tab env43 4 ann43 big Try.f43 [] ps43 rs43 true
noncomputable def sg43 : Sig := { ps := ps43, rs := rs43, own := true, φ := d43 }

theorem envOk43 : ∀ f sg, env43 f = some sg → Contract Try.prog f sg := by
  intro f sg h
  unfold env43 at h
  cases h
theorem l43 : ps43.length ≤ Try.f43.ntmps := of_decide_eq_true (by kernel_rfl)
theorem h43 : ∀ x y, d43 x = some y → fnD tab env43 4 ann43 big Try.f43 [] ps43 rs43 true x = some y := fun x y h => by rw [d43, ← fnK_eq l43] at h; exact h
theorem r43 : resOK tab Try.f43.results.toList rs43 = true := by kernel_rfl
theorem n43 : nodupB (Try.f43.results.toList.map rSlot) = true := by kernel_rfl
theorem does43 : Does Try.prog 43 ps43 rs43 true d43 := fn_does mixed tabOK envOk43 Try.func43 r43 n43 l43 h43
theorem k43 : Callable Try.prog 43 := ⟨Try.f43, Try.func43, by kernel_rfl, by kernel_rfl⟩
theorem c43 : Contract Try.prog 43 sg43 := by rw [sg43]; exact Contract.of k43 does43

/-! skiarea/patrol.Ready -/
noncomputable def env22 : Nat → Option Sig := fun n => match n with
  | 27 => some sg27
  | 34 => some sg34
  | 42 => some sg42
  | 43 => some sg43
  | _ => none

def ann22 : List LoopAnn := []
abbrev ps22 : List Ty := [.pair (.sl (.pair (.int .i64) (.pair (.sl (.int .i64)) (.pair (.int .i64) (.sl (.pair (.int .i64) (.pair (.int .i64) (.int .i64)))))))) (.sl (.pair (.int .i64) (.pair (.int .i64) (.int .i64)))), .int .i64, .int .i64]
abbrev rs22 : List Ty := [.bool]
noncomputable def d22 : (pk ps22).den → Option (pk rs22).den := fnK tab env22 8 ann22 big Try.f22 [] ps22 rs22 true
noncomputable def sg22 : Sig := { ps := ps22, rs := rs22, own := true, φ := d22 }

theorem envOk22 : ∀ f sg, env22 f = some sg → Contract Try.prog f sg := by
  intro f sg h
  unfold env22 at h
  split at h
  · injection h with h; subst h; exact c27
  · injection h with h; subst h; exact c34
  · injection h with h; subst h; exact c42
  · injection h with h; subst h; exact c43
  · cases h
theorem l22 : ps22.length ≤ Try.f22.ntmps := of_decide_eq_true (by kernel_rfl)
theorem h22 : ∀ x y, d22 x = some y → fnD tab env22 8 ann22 big Try.f22 [] ps22 rs22 true x = some y := fun x y h => by rw [d22, ← fnK_eq l22] at h; exact h
theorem r22 : resOK tab Try.f22.results.toList rs22 = true := by kernel_rfl
theorem n22 : nodupB (Try.f22.results.toList.map rSlot) = true := by kernel_rfl
theorem does22 : Does Try.prog 22 ps22 rs22 true d22 := fn_does mixed tabOK envOk22 Try.func22 r22 n22 l22 h22
theorem k22 : Callable Try.prog 22 := ⟨Try.f22, Try.func22, by kernel_rfl, by kernel_rfl⟩
theorem c22 : Contract Try.prog 22 sg22 := by rw [sg22]; exact Contract.of k22 does22

/-! skiarea/skiarearef53.SameInts -/
def env24 : Nat → Option Sig := fun _ => none

def ann24 : List LoopAnn := [{ id := 4, live := [0, 1, 5], frz := [] }]
abbrev ps24 : List Ty := [.sl (.int .i64), .sl (.int .i64)]
abbrev rs24 : List Ty := [.bool]
noncomputable def d24 : (pk ps24).den → Option (pk rs24).den := fnK tab env24 6 ann24 big Try.f24 [] ps24 rs24 true
noncomputable def sg24 : Sig := { ps := ps24, rs := rs24, own := true, φ := d24 }

theorem envOk24 : ∀ f sg, env24 f = some sg → Contract Try.prog f sg := by
  intro f sg h
  unfold env24 at h
  cases h
theorem l24 : ps24.length ≤ Try.f24.ntmps := of_decide_eq_true (by kernel_rfl)
theorem h24 : ∀ x y, d24 x = some y → fnD tab env24 6 ann24 big Try.f24 [] ps24 rs24 true x = some y := fun x y h => by rw [d24, ← fnK_eq l24] at h; exact h
theorem r24 : resOK tab Try.f24.results.toList rs24 = true := by kernel_rfl
theorem n24 : nodupB (Try.f24.results.toList.map rSlot) = true := by kernel_rfl
theorem does24 : Does Try.prog 24 ps24 rs24 true d24 := fn_does mixed tabOK envOk24 Try.func24 r24 n24 l24 h24
theorem k24 : Callable Try.prog 24 := ⟨Try.f24, Try.func24, by kernel_rfl, by kernel_rfl⟩
theorem c24 : Contract Try.prog 24 sg24 := by rw [sg24]; exact Contract.of k24 does24

/-! skiarea/patrol.Open -/
noncomputable def env25 : Nat → Option Sig := fun n => match n with
  | 22 => some sg22
  | _ => none

def ann25 : List LoopAnn := [{ id := 3, live := [1, 2, 5, 9, 10, 11], frz := [] }]
abbrev ps25 : List Ty := [.pair (.sl (.pair (.int .i64) (.pair (.sl (.int .i64)) (.pair (.int .i64) (.sl (.pair (.int .i64) (.pair (.int .i64) (.int .i64)))))))) (.sl (.pair (.int .i64) (.pair (.int .i64) (.int .i64)))), .int .i64]
abbrev rs25 : List Ty := [.sl (.int .i64)]
noncomputable def d25 : (pk ps25).den → Option (pk rs25).den := fnK tab env25 8 ann25 big Try.f25 [] ps25 rs25 true
noncomputable def sg25 : Sig := { ps := ps25, rs := rs25, own := true, φ := d25 }

theorem envOk25 : ∀ f sg, env25 f = some sg → Contract Try.prog f sg := by
  intro f sg h
  unfold env25 at h
  split at h
  · injection h with h; subst h; exact c22
  · cases h
theorem l25 : ps25.length ≤ Try.f25.ntmps := of_decide_eq_true (by kernel_rfl)
theorem h25 : ∀ x y, d25 x = some y → fnD tab env25 8 ann25 big Try.f25 [] ps25 rs25 true x = some y := fun x y h => by rw [d25, ← fnK_eq l25] at h; exact h
theorem r25 : resOK tab Try.f25.results.toList rs25 = true := by kernel_rfl
theorem n25 : nodupB (Try.f25.results.toList.map rSlot) = true := by kernel_rfl
theorem does25 : Does Try.prog 25 ps25 rs25 true d25 := fn_does mixed tabOK envOk25 Try.func25 r25 n25 l25 h25
theorem k25 : Callable Try.prog 25 := ⟨Try.f25, Try.func25, by kernel_rfl, by kernel_rfl⟩
theorem c25 : Contract Try.prog 25 sg25 := by rw [sg25]; exact Contract.of k25 does25

/-! skiarea/skiarealaw53.known -/
def env31 : Nat → Option Sig := fun _ => none

def ann31 : List LoopAnn := []
abbrev ps31 : List Ty := []
abbrev rs31 : List Ty := [.pair (.sl (.pair (.int .i64) (.pair (.sl (.int .i64)) (.pair (.int .i64) (.sl (.pair (.int .i64) (.pair (.int .i64) (.int .i64)))))))) (.sl (.pair (.int .i64) (.pair (.int .i64) (.int .i64))))]
noncomputable def d31 : (pk ps31).den → Option (pk rs31).den := fnK tab env31 1 ann31 big Try.f31 [] ps31 rs31 true
noncomputable def sg31 : Sig := { ps := ps31, rs := rs31, own := true, φ := d31 }

theorem envOk31 : ∀ f sg, env31 f = some sg → Contract Try.prog f sg := by
  intro f sg h
  unfold env31 at h
  cases h
theorem l31 : ps31.length ≤ Try.f31.ntmps := of_decide_eq_true (by kernel_rfl)
theorem h31 : ∀ x y, d31 x = some y → fnD tab env31 1 ann31 big Try.f31 [] ps31 rs31 true x = some y := fun x y h => by rw [d31, ← fnK_eq l31] at h; exact h
theorem r31 : resOK tab Try.f31.results.toList rs31 = true := by kernel_rfl
theorem n31 : nodupB (Try.f31.results.toList.map rSlot) = true := by kernel_rfl
theorem does31 : Does Try.prog 31 ps31 rs31 true d31 := fn_does mixed tabOK envOk31 Try.func31 r31 n31 l31 h31
theorem k31 : Callable Try.prog 31 := ⟨Try.f31, Try.func31, by kernel_rfl, by kernel_rfl⟩
theorem c31 : Contract Try.prog 31 sg31 := by rw [sg31]; exact Contract.of k31 does31

/-! skiarea/skiarealaw53.alive -/
noncomputable def env10 : Nat → Option Sig := fun n => match n with
  | 12 => some sg12
  | 15 => some sg15
  | 18 => some sg18
  | 20 => some sg20
  | 22 => some sg22
  | 24 => some sg24
  | 25 => some sg25
  | 31 => some sg31
  | _ => none

def ann10 : List LoopAnn := []
abbrev ps10 : List Ty := []
abbrev rs10 : List Ty := [.bool]
noncomputable def d10 : (pk ps10).den → Option (pk rs10).den := fnK tab env10 10 ann10 big Try.f10 [] ps10 rs10 true
noncomputable def sg10 : Sig := { ps := ps10, rs := rs10, own := true, φ := d10 }

theorem envOk10 : ∀ f sg, env10 f = some sg → Contract Try.prog f sg := by
  intro f sg h
  unfold env10 at h
  split at h
  · injection h with h; subst h; exact c12
  · injection h with h; subst h; exact c15
  · injection h with h; subst h; exact c18
  · injection h with h; subst h; exact c20
  · injection h with h; subst h; exact c22
  · injection h with h; subst h; exact c24
  · injection h with h; subst h; exact c25
  · injection h with h; subst h; exact c31
  · cases h
theorem l10 : ps10.length ≤ Try.f10.ntmps := of_decide_eq_true (by kernel_rfl)
theorem h10 : ∀ x y, d10 x = some y → fnD tab env10 10 ann10 big Try.f10 [] ps10 rs10 true x = some y := fun x y h => by rw [d10, ← fnK_eq l10] at h; exact h
theorem r10 : resOK tab Try.f10.results.toList rs10 = true := by kernel_rfl
theorem n10 : nodupB (Try.f10.results.toList.map rSlot) = true := by kernel_rfl
theorem does10 : Does Try.prog 10 ps10 rs10 true d10 := fn_does mixed tabOK envOk10 Try.func10 r10 n10 l10 h10
theorem k10 : Callable Try.prog 10 := ⟨Try.f10, Try.func10, by kernel_rfl, by kernel_rfl⟩
theorem c10 : Contract Try.prog 10 sg10 := by rw [sg10]; exact Contract.of k10 does10

/-! skiarea/skiarealaw53.small -/
def env11 : Nat → Option Sig := fun _ => none

def ann11 : List LoopAnn := [{ id := 2, live := [1, 3], frz := [] }]
abbrev ps11 : List Ty := [.pair (.sl (.pair (.int .i64) (.pair (.sl (.int .i64)) (.pair (.int .i64) (.sl (.pair (.int .i64) (.pair (.int .i64) (.int .i64)))))))) (.sl (.pair (.int .i64) (.pair (.int .i64) (.int .i64))))]
abbrev rs11 : List Ty := [.bool]
noncomputable def d11 : (pk ps11).den → Option (pk rs11).den := fnK tab env11 4 ann11 big Try.f11 [] ps11 rs11 true
noncomputable def sg11 : Sig := { ps := ps11, rs := rs11, own := true, φ := d11 }

theorem envOk11 : ∀ f sg, env11 f = some sg → Contract Try.prog f sg := by
  intro f sg h
  unfold env11 at h
  cases h
theorem l11 : ps11.length ≤ Try.f11.ntmps := of_decide_eq_true (by kernel_rfl)
theorem h11 : ∀ x y, d11 x = some y → fnD tab env11 4 ann11 big Try.f11 [] ps11 rs11 true x = some y := fun x y h => by rw [d11, ← fnK_eq l11] at h; exact h
theorem r11 : resOK tab Try.f11.results.toList rs11 = true := by kernel_rfl
theorem n11 : nodupB (Try.f11.results.toList.map rSlot) = true := by kernel_rfl
theorem does11 : Does Try.prog 11 ps11 rs11 true d11 := fn_does mixed tabOK envOk11 Try.func11 r11 n11 l11 h11
theorem k11 : Callable Try.prog 11 := ⟨Try.f11, Try.func11, by kernel_rfl, by kernel_rfl⟩
theorem c11 : Contract Try.prog 11 sg11 := by rw [sg11]; exact Contract.of k11 does11

/-! skiarea/skiarearef19.in -/
def env52 : Nat → Option Sig := fun _ => none

def ann52 : List LoopAnn := []
abbrev ps52 : List Ty := [.int .i64, .int .i64, .int .i64]
abbrev rs52 : List Ty := [.bool]
noncomputable def d52 : (pk ps52).den → Option (pk rs52).den := fnK tab env52 7 ann52 big Try.f52 [] ps52 rs52 true
noncomputable def sg52 : Sig := { ps := ps52, rs := rs52, own := true, φ := d52 }

theorem envOk52 : ∀ f sg, env52 f = some sg → Contract Try.prog f sg := by
  intro f sg h
  unfold env52 at h
  cases h
theorem l52 : ps52.length ≤ Try.f52.ntmps := of_decide_eq_true (by kernel_rfl)
theorem h52 : ∀ x y, d52 x = some y → fnD tab env52 7 ann52 big Try.f52 [] ps52 rs52 true x = some y := fun x y h => by rw [d52, ← fnK_eq l52] at h; exact h
theorem r52 : resOK tab Try.f52.results.toList rs52 = true := by kernel_rfl
theorem n52 : nodupB (Try.f52.results.toList.map rSlot) = true := by kernel_rfl
theorem does52 : Does Try.prog 52 ps52 rs52 true d52 := fn_does mixed tabOK envOk52 Try.func52 r52 n52 l52 h52
theorem k52 : Callable Try.prog 52 := ⟨Try.f52, Try.func52, by kernel_rfl, by kernel_rfl⟩
theorem c52 : Contract Try.prog 52 sg52 := by rw [sg52]; exact Contract.of k52 does52

/-! skiarea/skiarearef19.Has -/
def env53 : Nat → Option Sig := fun _ => none

def ann53 : List LoopAnn := [{ id := 2, live := [0, 1, 5], frz := [] }]
abbrev ps53 : List Ty := [.sl (.int .i64), .int .i64]
abbrev rs53 : List Ty := [.bool]
noncomputable def d53 : (pk ps53).den → Option (pk rs53).den := fnK tab env53 6 ann53 big Try.f53 [] ps53 rs53 true
noncomputable def sg53 : Sig := { ps := ps53, rs := rs53, own := true, φ := d53 }

theorem envOk53 : ∀ f sg, env53 f = some sg → Contract Try.prog f sg := by
  intro f sg h
  unfold env53 at h
  cases h
theorem l53 : ps53.length ≤ Try.f53.ntmps := of_decide_eq_true (by kernel_rfl)
theorem h53 : ∀ x y, d53 x = some y → fnD tab env53 6 ann53 big Try.f53 [] ps53 rs53 true x = some y := fun x y h => by rw [d53, ← fnK_eq l53] at h; exact h
theorem r53 : resOK tab Try.f53.results.toList rs53 = true := by kernel_rfl
theorem n53 : nodupB (Try.f53.results.toList.map rSlot) = true := by kernel_rfl
theorem does53 : Does Try.prog 53 ps53 rs53 true d53 := fn_does mixed tabOK envOk53 Try.func53 r53 n53 l53 h53
theorem k53 : Callable Try.prog 53 := ⟨Try.f53, Try.func53, by kernel_rfl, by kernel_rfl⟩
theorem c53 : Contract Try.prog 53 sg53 := by rw [sg53]; exact Contract.of k53 does53

/-! skiarea/skiarearef19.Right -/
noncomputable def env35 : Nat → Option Sig := fun n => match n with
  | 52 => some sg52
  | 53 => some sg53
  | _ => none

def ann35 : List LoopAnn := [{ id := 6, live := [1, 3], frz := [] }, { id := 13, live := [1, 4], frz := [] }]
abbrev ps35 : List Ty := [.pair (.sl (.int .i64)) (.pair (.int .i64) (.sl (.pair (.int .i64) (.pair (.int .i64) (.int .i64)))))]
abbrev rs35 : List Ty := [.int .i64]
noncomputable def d35 : (pk ps35).den → Option (pk rs35).den := fnK tab env35 6 ann35 big Try.f35 [] ps35 rs35 true
noncomputable def sg35 : Sig := { ps := ps35, rs := rs35, own := true, φ := d35 }

theorem envOk35 : ∀ f sg, env35 f = some sg → Contract Try.prog f sg := by
  intro f sg h
  unfold env35 at h
  split at h
  · injection h with h; subst h; exact c52
  · injection h with h; subst h; exact c53
  · cases h
theorem l35 : ps35.length ≤ Try.f35.ntmps := of_decide_eq_true (by kernel_rfl)
theorem h35 : ∀ x y, d35 x = some y → fnD tab env35 6 ann35 big Try.f35 [] ps35 rs35 true x = some y := fun x y h => by rw [d35, ← fnK_eq l35] at h; exact h
theorem r35 : resOK tab Try.f35.results.toList rs35 = true := by kernel_rfl
theorem n35 : nodupB (Try.f35.results.toList.map rSlot) = true := by kernel_rfl
theorem does35 : Does Try.prog 35 ps35 rs35 true d35 := fn_does mixed tabOK envOk35 Try.func35 r35 n35 l35 h35
theorem k35 : Callable Try.prog 35 := ⟨Try.f35, Try.func35, by kernel_rfl, by kernel_rfl⟩
theorem c35 : Contract Try.prog 35 sg35 := by rw [sg35]; exact Contract.of k35 does35

/-! skiarea/skiarearef53.at -/
def env36 : Nat → Option Sig := fun _ => none

def ann36 : List LoopAnn := [{ id := 2, live := [1, 2, 5], frz := [] }]
abbrev ps36 : List Ty := [.pair (.sl (.pair (.int .i64) (.pair (.sl (.int .i64)) (.pair (.int .i64) (.sl (.pair (.int .i64) (.pair (.int .i64) (.int .i64)))))))) (.sl (.pair (.int .i64) (.pair (.int .i64) (.int .i64)))), .int .i64]
abbrev rs36 : List Ty := [.int .i64]
noncomputable def d36 : (pk ps36).den → Option (pk rs36).den := fnK tab env36 6 ann36 big Try.f36 [] ps36 rs36 true
noncomputable def sg36 : Sig := { ps := ps36, rs := rs36, own := true, φ := d36 }

theorem envOk36 : ∀ f sg, env36 f = some sg → Contract Try.prog f sg := by
  intro f sg h
  unfold env36 at h
  cases h
theorem l36 : ps36.length ≤ Try.f36.ntmps := of_decide_eq_true (by kernel_rfl)
theorem h36 : ∀ x y, d36 x = some y → fnD tab env36 6 ann36 big Try.f36 [] ps36 rs36 true x = some y := fun x y h => by rw [d36, ← fnK_eq l36] at h; exact h
theorem r36 : resOK tab Try.f36.results.toList rs36 = true := by kernel_rfl
theorem n36 : nodupB (Try.f36.results.toList.map rSlot) = true := by kernel_rfl
theorem does36 : Does Try.prog 36 ps36 rs36 true d36 := fn_does mixed tabOK envOk36 Try.func36 r36 n36 l36 h36
theorem k36 : Callable Try.prog 36 := ⟨Try.f36, Try.func36, by kernel_rfl, by kernel_rfl⟩
theorem c36 : Contract Try.prog 36 sg36 := by rw [sg36]; exact Contract.of k36 does36

/-! skiarea/skiarearef53.Right -/
noncomputable def env13 : Nat → Option Sig := fun n => match n with
  | 35 => some sg35
  | 36 => some sg36
  | _ => none

def ann13 : List LoopAnn := [{ id := 4, live := [1, 3], frz := [] }, { id := 14, live := [1, 5], frz := [] }, { id := 20, live := [1, 5, 6, 7], frz := [] }]
abbrev ps13 : List Ty := [.pair (.sl (.pair (.int .i64) (.pair (.sl (.int .i64)) (.pair (.int .i64) (.sl (.pair (.int .i64) (.pair (.int .i64) (.int .i64)))))))) (.sl (.pair (.int .i64) (.pair (.int .i64) (.int .i64))))]
abbrev rs13 : List Ty := [.int .i64]
noncomputable def d13 : (pk ps13).den → Option (pk rs13).den := fnK tab env13 8 ann13 big Try.f13 [] ps13 rs13 true
noncomputable def sg13 : Sig := { ps := ps13, rs := rs13, own := true, φ := d13 }

theorem envOk13 : ∀ f sg, env13 f = some sg → Contract Try.prog f sg := by
  intro f sg h
  unfold env13 at h
  split at h
  · injection h with h; subst h; exact c35
  · injection h with h; subst h; exact c36
  · cases h
theorem l13 : ps13.length ≤ Try.f13.ntmps := of_decide_eq_true (by kernel_rfl)
theorem h13 : ∀ x y, d13 x = some y → fnD tab env13 8 ann13 big Try.f13 [] ps13 rs13 true x = some y := fun x y h => by rw [d13, ← fnK_eq l13] at h; exact h
theorem r13 : resOK tab Try.f13.results.toList rs13 = true := by kernel_rfl
theorem n13 : nodupB (Try.f13.results.toList.map rSlot) = true := by kernel_rfl
theorem does13 : Does Try.prog 13 ps13 rs13 true d13 := fn_does mixed tabOK envOk13 Try.func13 r13 n13 l13 h13
theorem k13 : Callable Try.prog 13 := ⟨Try.f13, Try.func13, by kernel_rfl, by kernel_rfl⟩
theorem c13 : Contract Try.prog 13 sg13 := by rw [sg13]; exact Contract.of k13 does13

/-! skiarea/skiarealaw53.PatrolRight -/
noncomputable def env3 : Nat → Option Sig := fun n => match n with
  | 10 => some sg10
  | 11 => some sg11
  | 12 => some sg12
  | 13 => some sg13
  | _ => none

def ann3 : List LoopAnn := []
abbrev ps3 : List Ty := [.pair (.sl (.pair (.int .i64) (.pair (.sl (.int .i64)) (.pair (.int .i64) (.sl (.pair (.int .i64) (.pair (.int .i64) (.int .i64)))))))) (.sl (.pair (.int .i64) (.pair (.int .i64) (.int .i64))))]
abbrev rs3 : List Ty := [.bool]
noncomputable def d3 : (pk ps3).den → Option (pk rs3).den := fnK tab env3 3 ann3 big Try.f3 [] ps3 rs3 true
noncomputable def sg3 : Sig := { ps := ps3, rs := rs3, own := true, φ := d3 }

theorem envOk3 : ∀ f sg, env3 f = some sg → Contract Try.prog f sg := by
  intro f sg h
  unfold env3 at h
  split at h
  · injection h with h; subst h; exact c10
  · injection h with h; subst h; exact c11
  · injection h with h; subst h; exact c12
  · injection h with h; subst h; exact c13
  · cases h
theorem l3 : ps3.length ≤ Try.f3.ntmps := of_decide_eq_true (by kernel_rfl)
theorem h3 : ∀ x y, d3 x = some y → fnD tab env3 3 ann3 big Try.f3 [] ps3 rs3 true x = some y := fun x y h => by rw [d3, ← fnK_eq l3] at h; exact h
theorem r3 : resOK tab Try.f3.results.toList rs3 = true := by kernel_rfl
theorem n3 : nodupB (Try.f3.results.toList.map rSlot) = true := by kernel_rfl
theorem does3 : Does Try.prog 3 ps3 rs3 true d3 := fn_does mixed tabOK envOk3 Try.func3 r3 n3 l3 h3
theorem k3 : Callable Try.prog 3 := ⟨Try.f3, Try.func3, by kernel_rfl, by kernel_rfl⟩
theorem c3 : Contract Try.prog 3 sg3 := by rw [sg3]; exact Contract.of k3 does3

/-! skiarea/skiarealaw53.accepted -/
noncomputable def env14 : Nat → Option Sig := fun n => match n with
  | 11 => some sg11
  | 13 => some sg13
  | _ => none

def ann14 : List LoopAnn := []
abbrev ps14 : List Ty := [.pair (.sl (.pair (.int .i64) (.pair (.sl (.int .i64)) (.pair (.int .i64) (.sl (.pair (.int .i64) (.pair (.int .i64) (.int .i64)))))))) (.sl (.pair (.int .i64) (.pair (.int .i64) (.int .i64))))]
abbrev rs14 : List Ty := [.bool]
noncomputable def d14 : (pk ps14).den → Option (pk rs14).den := fnK tab env14 3 ann14 big Try.f14 [] ps14 rs14 true
noncomputable def sg14 : Sig := { ps := ps14, rs := rs14, own := true, φ := d14 }

theorem envOk14 : ∀ f sg, env14 f = some sg → Contract Try.prog f sg := by
  intro f sg h
  unfold env14 at h
  split at h
  · injection h with h; subst h; exact c11
  · injection h with h; subst h; exact c13
  · cases h
theorem l14 : ps14.length ≤ Try.f14.ntmps := of_decide_eq_true (by kernel_rfl)
theorem h14 : ∀ x y, d14 x = some y → fnD tab env14 3 ann14 big Try.f14 [] ps14 rs14 true x = some y := fun x y h => by rw [d14, ← fnK_eq l14] at h; exact h
theorem r14 : resOK tab Try.f14.results.toList rs14 = true := by kernel_rfl
theorem n14 : nodupB (Try.f14.results.toList.map rSlot) = true := by kernel_rfl
theorem does14 : Does Try.prog 14 ps14 rs14 true d14 := fn_does mixed tabOK envOk14 Try.func14 r14 n14 l14 h14
theorem k14 : Callable Try.prog 14 := ⟨Try.f14, Try.func14, by kernel_rfl, by kernel_rfl⟩
theorem c14 : Contract Try.prog 14 sg14 := by rw [sg14]; exact Contract.of k14 does14

/-! skiarea/skiarearef19.Sign -/
noncomputable def env39 : Nat → Option Sig := fun n => match n with
  | 35 => some sg35
  | _ => none

def ann39 : List LoopAnn := [{ id := 3, live := [1, 2, 3, 4, 8, 10, 11], frz := [] }, { id := 7, live := [1, 2, 3, 4, 8, 10, 12], frz := [] }]
abbrev ps39 : List Ty := [.pair (.sl (.int .i64)) (.pair (.int .i64) (.sl (.pair (.int .i64) (.pair (.int .i64) (.int .i64))))), .int .i64, .int .i64, .int .i64]
abbrev rs39 : List Ty := [.pair (.sl (.int .i64)) (.pair (.int .i64) (.sl (.pair (.int .i64) (.pair (.int .i64) (.int .i64))))), .int .i64]
noncomputable def d39 : (pk ps39).den → Option (pk rs39).den := fnK tab env39 14 ann39 big Try.f39 [] ps39 rs39 true
noncomputable def sg39 : Sig := { ps := ps39, rs := rs39, own := true, φ := d39 }

theorem envOk39 : ∀ f sg, env39 f = some sg → Contract Try.prog f sg := by
  intro f sg h
  unfold env39 at h
  split at h
  · injection h with h; subst h; exact c35
  · cases h
theorem l39 : ps39.length ≤ Try.f39.ntmps := of_decide_eq_true (by kernel_rfl)
theorem h39 : ∀ x y, d39 x = some y → fnD tab env39 14 ann39 big Try.f39 [] ps39 rs39 true x = some y := fun x y h => by rw [d39, ← fnK_eq l39] at h; exact h
theorem r39 : resOK tab Try.f39.results.toList rs39 = true := by kernel_rfl
theorem n39 : nodupB (Try.f39.results.toList.map rSlot) = true := by kernel_rfl
theorem does39 : Does Try.prog 39 ps39 rs39 true d39 := fn_does mixed tabOK envOk39 Try.func39 r39 n39 l39 h39
theorem k39 : Callable Try.prog 39 := ⟨Try.f39, Try.func39, by kernel_rfl, by kernel_rfl⟩
theorem c39 : Contract Try.prog 39 sg39 := by rw [sg39]; exact Contract.of k39 does39

/-! skiarea/skiarearef53.Own -/
def env40 : Nat → Option Sig := fun _ => none

def ann40 : List LoopAnn := [{ id := 3, live := [1, 2, 3, 4], frz := [] }]
abbrev ps40 : List Ty := [.pair (.sl (.pair (.int .i64) (.pair (.sl (.int .i64)) (.pair (.int .i64) (.sl (.pair (.int .i64) (.pair (.int .i64) (.int .i64)))))))) (.sl (.pair (.int .i64) (.pair (.int .i64) (.int .i64))))]
abbrev rs40 : List Ty := [.pair (.sl (.pair (.int .i64) (.pair (.sl (.int .i64)) (.pair (.int .i64) (.sl (.pair (.int .i64) (.pair (.int .i64) (.int .i64)))))))) (.sl (.pair (.int .i64) (.pair (.int .i64) (.int .i64))))]
noncomputable def d40 : (pk ps40).den → Option (pk rs40).den := fnK tab env40 6 ann40 big Try.f40 [] ps40 rs40 true
noncomputable def sg40 : Sig := { ps := ps40, rs := rs40, own := true, φ := d40 }

theorem envOk40 : ∀ f sg, env40 f = some sg → Contract Try.prog f sg := by
  intro f sg h
  unfold env40 at h
  cases h
theorem l40 : ps40.length ≤ Try.f40.ntmps := of_decide_eq_true (by kernel_rfl)
theorem h40 : ∀ x y, d40 x = some y → fnD tab env40 6 ann40 big Try.f40 [] ps40 rs40 true x = some y := fun x y h => by rw [d40, ← fnK_eq l40] at h; exact h
theorem r40 : resOK tab Try.f40.results.toList rs40 = true := by kernel_rfl
theorem n40 : nodupB (Try.f40.results.toList.map rSlot) = true := by kernel_rfl
theorem does40 : Does Try.prog 40 ps40 rs40 true d40 := fn_does mixed tabOK envOk40 Try.func40 r40 n40 l40 h40
theorem k40 : Callable Try.prog 40 := ⟨Try.f40, Try.func40, by kernel_rfl, by kernel_rfl⟩
theorem c40 : Contract Try.prog 40 sg40 := by rw [sg40]; exact Contract.of k40 does40

/-! skiarea/skiarearef53.Sign -/
noncomputable def env16 : Nat → Option Sig := fun n => match n with
  | 36 => some sg36
  | 39 => some sg39
  | 40 => some sg40
  | _ => none

def ann16 : List LoopAnn := []
abbrev ps16 : List Ty := [.pair (.sl (.pair (.int .i64) (.pair (.sl (.int .i64)) (.pair (.int .i64) (.sl (.pair (.int .i64) (.pair (.int .i64) (.int .i64)))))))) (.sl (.pair (.int .i64) (.pair (.int .i64) (.int .i64)))), .int .i64, .int .i64, .int .i64, .int .i64]
abbrev rs16 : List Ty := [.pair (.sl (.pair (.int .i64) (.pair (.sl (.int .i64)) (.pair (.int .i64) (.sl (.pair (.int .i64) (.pair (.int .i64) (.int .i64)))))))) (.sl (.pair (.int .i64) (.pair (.int .i64) (.int .i64)))), .int .i64]
noncomputable def d16 : (pk ps16).den → Option (pk rs16).den := fnK tab env16 16 ann16 big Try.f16 [] ps16 rs16 true
noncomputable def sg16 : Sig := { ps := ps16, rs := rs16, own := true, φ := d16 }

theorem envOk16 : ∀ f sg, env16 f = some sg → Contract Try.prog f sg := by
  intro f sg h
  unfold env16 at h
  split at h
  · injection h with h; subst h; exact c36
  · injection h with h; subst h; exact c39
  · injection h with h; subst h; exact c40
  · cases h
theorem l16 : ps16.length ≤ Try.f16.ntmps := of_decide_eq_true (by kernel_rfl)
theorem h16 : ∀ x y, d16 x = some y → fnD tab env16 16 ann16 big Try.f16 [] ps16 rs16 true x = some y := fun x y h => by rw [d16, ← fnK_eq l16] at h; exact h
theorem r16 : resOK tab Try.f16.results.toList rs16 = true := by kernel_rfl
theorem n16 : nodupB (Try.f16.results.toList.map rSlot) = true := by kernel_rfl
theorem does16 : Does Try.prog 16 ps16 rs16 true d16 := fn_does mixed tabOK envOk16 Try.func16 r16 n16 l16 h16
theorem k16 : Callable Try.prog 16 := ⟨Try.f16, Try.func16, by kernel_rfl, by kernel_rfl⟩
theorem c16 : Contract Try.prog 16 sg16 := by rw [sg16]; exact Contract.of k16 does16

/-! skiarea/skiarearef19.SameInts -/
def env46 : Nat → Option Sig := fun _ => none

def ann46 : List LoopAnn := [{ id := 4, live := [0, 1, 5], frz := [] }]
abbrev ps46 : List Ty := [.sl (.int .i64), .sl (.int .i64)]
abbrev rs46 : List Ty := [.bool]
noncomputable def d46 : (pk ps46).den → Option (pk rs46).den := fnK tab env46 6 ann46 big Try.f46 [] ps46 rs46 true
noncomputable def sg46 : Sig := { ps := ps46, rs := rs46, own := true, φ := d46 }

theorem envOk46 : ∀ f sg, env46 f = some sg → Contract Try.prog f sg := by
  intro f sg h
  unfold env46 at h
  cases h
theorem l46 : ps46.length ≤ Try.f46.ntmps := of_decide_eq_true (by kernel_rfl)
theorem h46 : ∀ x y, d46 x = some y → fnD tab env46 6 ann46 big Try.f46 [] ps46 rs46 true x = some y := fun x y h => by rw [d46, ← fnK_eq l46] at h; exact h
theorem r46 : resOK tab Try.f46.results.toList rs46 = true := by kernel_rfl
theorem n46 : nodupB (Try.f46.results.toList.map rSlot) = true := by kernel_rfl
theorem does46 : Does Try.prog 46 ps46 rs46 true d46 := fn_does mixed tabOK envOk46 Try.func46 r46 n46 l46 h46
theorem k46 : Callable Try.prog 46 := ⟨Try.f46, Try.func46, by kernel_rfl, by kernel_rfl⟩
theorem c46 : Contract Try.prog 46 sg46 := by rw [sg46]; exact Contract.of k46 does46

/-! skiarea/skiarearef19.Same -/
noncomputable def env30 : Nat → Option Sig := fun n => match n with
  | 46 => some sg46
  | _ => none

def ann30 : List LoopAnn := [{ id := 4, live := [2, 3, 5], frz := [] }]
abbrev ps30 : List Ty := [.pair (.sl (.int .i64)) (.pair (.int .i64) (.sl (.pair (.int .i64) (.pair (.int .i64) (.int .i64))))), .pair (.sl (.int .i64)) (.pair (.int .i64) (.sl (.pair (.int .i64) (.pair (.int .i64) (.int .i64)))))]
abbrev rs30 : List Ty := [.bool]
noncomputable def d30 : (pk ps30).den → Option (pk rs30).den := fnK tab env30 6 ann30 big Try.f30 [] ps30 rs30 true
noncomputable def sg30 : Sig := { ps := ps30, rs := rs30, own := true, φ := d30 }

theorem envOk30 : ∀ f sg, env30 f = some sg → Contract Try.prog f sg := by
  intro f sg h
  unfold env30 at h
  split at h
  · injection h with h; subst h; exact c46
  · cases h
theorem l30 : ps30.length ≤ Try.f30.ntmps := of_decide_eq_true (by kernel_rfl)
theorem h30 : ∀ x y, d30 x = some y → fnD tab env30 6 ann30 big Try.f30 [] ps30 rs30 true x = some y := fun x y h => by rw [d30, ← fnK_eq l30] at h; exact h
theorem r30 : resOK tab Try.f30.results.toList rs30 = true := by kernel_rfl
theorem n30 : nodupB (Try.f30.results.toList.map rSlot) = true := by kernel_rfl
theorem does30 : Does Try.prog 30 ps30 rs30 true d30 := fn_does mixed tabOK envOk30 Try.func30 r30 n30 l30 h30
theorem k30 : Callable Try.prog 30 := ⟨Try.f30, Try.func30, by kernel_rfl, by kernel_rfl⟩
theorem c30 : Contract Try.prog 30 sg30 := by rw [sg30]; exact Contract.of k30 does30

/-! skiarea/skiarearef53.Same -/
noncomputable def env17 : Nat → Option Sig := fun n => match n with
  | 30 => some sg30
  | _ => none

def ann17 : List LoopAnn := [{ id := 4, live := [2, 3, 5], frz := [] }, { id := 9, live := [2, 3, 6], frz := [] }]
abbrev ps17 : List Ty := [.pair (.sl (.pair (.int .i64) (.pair (.sl (.int .i64)) (.pair (.int .i64) (.sl (.pair (.int .i64) (.pair (.int .i64) (.int .i64)))))))) (.sl (.pair (.int .i64) (.pair (.int .i64) (.int .i64)))), .pair (.sl (.pair (.int .i64) (.pair (.sl (.int .i64)) (.pair (.int .i64) (.sl (.pair (.int .i64) (.pair (.int .i64) (.int .i64)))))))) (.sl (.pair (.int .i64) (.pair (.int .i64) (.int .i64))))]
abbrev rs17 : List Ty := [.bool]
noncomputable def d17 : (pk ps17).den → Option (pk rs17).den := fnK tab env17 7 ann17 big Try.f17 [] ps17 rs17 true
noncomputable def sg17 : Sig := { ps := ps17, rs := rs17, own := true, φ := d17 }

theorem envOk17 : ∀ f sg, env17 f = some sg → Contract Try.prog f sg := by
  intro f sg h
  unfold env17 at h
  split at h
  · injection h with h; subst h; exact c30
  · cases h
theorem l17 : ps17.length ≤ Try.f17.ntmps := of_decide_eq_true (by kernel_rfl)
theorem h17 : ∀ x y, d17 x = some y → fnD tab env17 7 ann17 big Try.f17 [] ps17 rs17 true x = some y := fun x y h => by rw [d17, ← fnK_eq l17] at h; exact h
theorem r17 : resOK tab Try.f17.results.toList rs17 = true := by kernel_rfl
theorem n17 : nodupB (Try.f17.results.toList.map rSlot) = true := by kernel_rfl
theorem does17 : Does Try.prog 17 ps17 rs17 true d17 := fn_does mixed tabOK envOk17 Try.func17 r17 n17 l17 h17
theorem k17 : Callable Try.prog 17 := ⟨Try.f17, Try.func17, by kernel_rfl, by kernel_rfl⟩
theorem c17 : Contract Try.prog 17 sg17 := by rw [sg17]; exact Contract.of k17 does17

/-! skiarea/skiarealaw53.PatrolSigns -/
noncomputable def env4 : Nat → Option Sig := fun n => match n with
  | 10 => some sg10
  | 14 => some sg14
  | 15 => some sg15
  | 16 => some sg16
  | 17 => some sg17
  | _ => none

def ann4 : List LoopAnn := []
abbrev ps4 : List Ty := [.pair (.sl (.pair (.int .i64) (.pair (.sl (.int .i64)) (.pair (.int .i64) (.sl (.pair (.int .i64) (.pair (.int .i64) (.int .i64)))))))) (.sl (.pair (.int .i64) (.pair (.int .i64) (.int .i64)))), .int .i64, .pair (.int .i64) (.pair (.int .i64) (.int .i64))]
abbrev rs4 : List Ty := [.bool]
noncomputable def d4 : (pk ps4).den → Option (pk rs4).den := fnK tab env4 11 ann4 big Try.f4 [] ps4 rs4 true
noncomputable def sg4 : Sig := { ps := ps4, rs := rs4, own := true, φ := d4 }

theorem envOk4 : ∀ f sg, env4 f = some sg → Contract Try.prog f sg := by
  intro f sg h
  unfold env4 at h
  split at h
  · injection h with h; subst h; exact c10
  · injection h with h; subst h; exact c14
  · injection h with h; subst h; exact c15
  · injection h with h; subst h; exact c16
  · injection h with h; subst h; exact c17
  · cases h
theorem l4 : ps4.length ≤ Try.f4.ntmps := of_decide_eq_true (by kernel_rfl)
theorem h4 : ∀ x y, d4 x = some y → fnD tab env4 11 ann4 big Try.f4 [] ps4 rs4 true x = some y := fun x y h => by rw [d4, ← fnK_eq l4] at h; exact h
theorem r4 : resOK tab Try.f4.results.toList rs4 = true := by kernel_rfl
theorem n4 : nodupB (Try.f4.results.toList.map rSlot) = true := by kernel_rfl
theorem does4 : Does Try.prog 4 ps4 rs4 true d4 := fn_does mixed tabOK envOk4 Try.func4 r4 n4 l4 h4
theorem k4 : Callable Try.prog 4 := ⟨Try.f4, Try.func4, by kernel_rfl, by kernel_rfl⟩
theorem c4 : Contract Try.prog 4 sg4 := by rw [sg4]; exact Contract.of k4 does4

/-! skiarea/skiarearef53.Report -/
noncomputable def env19 : Nat → Option Sig := fun n => match n with
  | 13 => some sg13
  | 40 => some sg40
  | _ => none

def ann19 : List LoopAnn := []
abbrev ps19 : List Ty := [.pair (.sl (.pair (.int .i64) (.pair (.sl (.int .i64)) (.pair (.int .i64) (.sl (.pair (.int .i64) (.pair (.int .i64) (.int .i64)))))))) (.sl (.pair (.int .i64) (.pair (.int .i64) (.int .i64)))), .pair (.int .i64) (.pair (.int .i64) (.int .i64))]
abbrev rs19 : List Ty := [.pair (.sl (.pair (.int .i64) (.pair (.sl (.int .i64)) (.pair (.int .i64) (.sl (.pair (.int .i64) (.pair (.int .i64) (.int .i64)))))))) (.sl (.pair (.int .i64) (.pair (.int .i64) (.int .i64)))), .int .i64]
noncomputable def d19 : (pk ps19).den → Option (pk rs19).den := fnK tab env19 8 ann19 big Try.f19 [] ps19 rs19 true
noncomputable def sg19 : Sig := { ps := ps19, rs := rs19, own := true, φ := d19 }

theorem envOk19 : ∀ f sg, env19 f = some sg → Contract Try.prog f sg := by
  intro f sg h
  unfold env19 at h
  split at h
  · injection h with h; subst h; exact c13
  · injection h with h; subst h; exact c40
  · cases h
theorem l19 : ps19.length ≤ Try.f19.ntmps := of_decide_eq_true (by kernel_rfl)
theorem h19 : ∀ x y, d19 x = some y → fnD tab env19 8 ann19 big Try.f19 [] ps19 rs19 true x = some y := fun x y h => by rw [d19, ← fnK_eq l19] at h; exact h
theorem r19 : resOK tab Try.f19.results.toList rs19 = true := by kernel_rfl
theorem n19 : nodupB (Try.f19.results.toList.map rSlot) = true := by kernel_rfl
theorem does19 : Does Try.prog 19 ps19 rs19 true d19 := fn_does mixed tabOK envOk19 Try.func19 r19 n19 l19 h19
theorem k19 : Callable Try.prog 19 := ⟨Try.f19, Try.func19, by kernel_rfl, by kernel_rfl⟩
theorem c19 : Contract Try.prog 19 sg19 := by rw [sg19]; exact Contract.of k19 does19

/-! skiarea/skiarearef53.Remove -/
noncomputable def env21 : Nat → Option Sig := fun n => match n with
  | 40 => some sg40
  | _ => none

def ann21 : List LoopAnn := [{ id := 4, live := [1, 2, 4, 6, 7], frz := [] }]
abbrev ps21 : List Ty := [.pair (.sl (.pair (.int .i64) (.pair (.sl (.int .i64)) (.pair (.int .i64) (.sl (.pair (.int .i64) (.pair (.int .i64) (.int .i64)))))))) (.sl (.pair (.int .i64) (.pair (.int .i64) (.int .i64)))), .int .i64]
abbrev rs21 : List Ty := [.pair (.sl (.pair (.int .i64) (.pair (.sl (.int .i64)) (.pair (.int .i64) (.sl (.pair (.int .i64) (.pair (.int .i64) (.int .i64)))))))) (.sl (.pair (.int .i64) (.pair (.int .i64) (.int .i64)))), .int .i64]
noncomputable def d21 : (pk ps21).den → Option (pk rs21).den := fnK tab env21 8 ann21 big Try.f21 [] ps21 rs21 true
noncomputable def sg21 : Sig := { ps := ps21, rs := rs21, own := true, φ := d21 }

theorem envOk21 : ∀ f sg, env21 f = some sg → Contract Try.prog f sg := by
  intro f sg h
  unfold env21 at h
  split at h
  · injection h with h; subst h; exact c40
  · cases h
theorem l21 : ps21.length ≤ Try.f21.ntmps := of_decide_eq_true (by kernel_rfl)
theorem h21 : ∀ x y, d21 x = some y → fnD tab env21 8 ann21 big Try.f21 [] ps21 rs21 true x = some y := fun x y h => by rw [d21, ← fnK_eq l21] at h; exact h
theorem r21 : resOK tab Try.f21.results.toList rs21 = true := by kernel_rfl
theorem n21 : nodupB (Try.f21.results.toList.map rSlot) = true := by kernel_rfl
theorem does21 : Does Try.prog 21 ps21 rs21 true d21 := fn_does mixed tabOK envOk21 Try.func21 r21 n21 l21 h21
theorem k21 : Callable Try.prog 21 := ⟨Try.f21, Try.func21, by kernel_rfl, by kernel_rfl⟩
theorem c21 : Contract Try.prog 21 sg21 := by rw [sg21]; exact Contract.of k21 does21

/-! skiarea/skiarealaw53.PatrolReports -/
noncomputable def env5 : Nat → Option Sig := fun n => match n with
  | 10 => some sg10
  | 14 => some sg14
  | 17 => some sg17
  | 18 => some sg18
  | 19 => some sg19
  | 20 => some sg20
  | 21 => some sg21
  | _ => none

def ann5 : List LoopAnn := []
abbrev ps5 : List Ty := [.pair (.sl (.pair (.int .i64) (.pair (.sl (.int .i64)) (.pair (.int .i64) (.sl (.pair (.int .i64) (.pair (.int .i64) (.int .i64)))))))) (.sl (.pair (.int .i64) (.pair (.int .i64) (.int .i64)))), .pair (.int .i64) (.pair (.int .i64) (.int .i64)), .int .i64]
abbrev rs5 : List Ty := [.bool]
noncomputable def d5 : (pk ps5).den → Option (pk rs5).den := fnK tab env5 15 ann5 big Try.f5 [] ps5 rs5 true
noncomputable def sg5 : Sig := { ps := ps5, rs := rs5, own := true, φ := d5 }

theorem envOk5 : ∀ f sg, env5 f = some sg → Contract Try.prog f sg := by
  intro f sg h
  unfold env5 at h
  split at h
  · injection h with h; subst h; exact c10
  · injection h with h; subst h; exact c14
  · injection h with h; subst h; exact c17
  · injection h with h; subst h; exact c18
  · injection h with h; subst h; exact c19
  · injection h with h; subst h; exact c20
  · injection h with h; subst h; exact c21
  · cases h
theorem l5 : ps5.length ≤ Try.f5.ntmps := of_decide_eq_true (by kernel_rfl)
theorem h5 : ∀ x y, d5 x = some y → fnD tab env5 15 ann5 big Try.f5 [] ps5 rs5 true x = some y := fun x y h => by rw [d5, ← fnK_eq l5] at h; exact h
theorem r5 : resOK tab Try.f5.results.toList rs5 = true := by kernel_rfl
theorem n5 : nodupB (Try.f5.results.toList.map rSlot) = true := by kernel_rfl
theorem does5 : Does Try.prog 5 ps5 rs5 true d5 := fn_does mixed tabOK envOk5 Try.func5 r5 n5 l5 h5
theorem k5 : Callable Try.prog 5 := ⟨Try.f5, Try.func5, by kernel_rfl, by kernel_rfl⟩
theorem c5 : Contract Try.prog 5 sg5 := by rw [sg5]; exact Contract.of k5 does5

/-! skiarea/skiarearef19.end -/
def env61 : Nat → Option Sig := fun _ => none

def ann61 : List LoopAnn := [{ id := 3, live := [1, 2, 3, 7, 8], frz := [] }]
abbrev ps61 : List Ty := [.pair (.sl (.int .i64)) (.pair (.int .i64) (.sl (.pair (.int .i64) (.pair (.int .i64) (.int .i64))))), .int .i64, .int .i64]
abbrev rs61 : List Ty := [.int .i64]
noncomputable def d61 : (pk ps61).den → Option (pk rs61).den := fnK tab env61 10 ann61 big Try.f61 [] ps61 rs61 true
noncomputable def sg61 : Sig := { ps := ps61, rs := rs61, own := true, φ := d61 }

theorem envOk61 : ∀ f sg, env61 f = some sg → Contract Try.prog f sg := by
  intro f sg h
  unfold env61 at h
  cases h
theorem l61 : ps61.length ≤ Try.f61.ntmps := of_decide_eq_true (by kernel_rfl)
theorem h61 : ∀ x y, d61 x = some y → fnD tab env61 10 ann61 big Try.f61 [] ps61 rs61 true x = some y := fun x y h => by rw [d61, ← fnK_eq l61] at h; exact h
theorem r61 : resOK tab Try.f61.results.toList rs61 = true := by kernel_rfl
theorem n61 : nodupB (Try.f61.results.toList.map rSlot) = true := by kernel_rfl
theorem does61 : Does Try.prog 61 ps61 rs61 true d61 := fn_does mixed tabOK envOk61 Try.func61 r61 n61 l61 h61
theorem k61 : Callable Try.prog 61 := ⟨Try.f61, Try.func61, by kernel_rfl, by kernel_rfl⟩
theorem c61 : Contract Try.prog 61 sg61 := by rw [sg61]; exact Contract.of k61 does61

/-! skiarea/skiarearef19.Open -/
noncomputable def env57 : Nat → Option Sig := fun n => match n with
  | 61 => some sg61
  | _ => none

def ann57 : List LoopAnn := [{ id := 3, live := [1, 2, 5, 6], frz := [] }]
abbrev ps57 : List Ty := [.pair (.sl (.int .i64)) (.pair (.int .i64) (.sl (.pair (.int .i64) (.pair (.int .i64) (.int .i64))))), .int .i64]
abbrev rs57 : List Ty := [.sl (.int .i64)]
noncomputable def d57 : (pk ps57).den → Option (pk rs57).den := fnK tab env57 7 ann57 big Try.f57 [] ps57 rs57 true
noncomputable def sg57 : Sig := { ps := ps57, rs := rs57, own := true, φ := d57 }

theorem envOk57 : ∀ f sg, env57 f = some sg → Contract Try.prog f sg := by
  intro f sg h
  unfold env57 at h
  split at h
  · injection h with h; subst h; exact c61
  · cases h
theorem l57 : ps57.length ≤ Try.f57.ntmps := of_decide_eq_true (by kernel_rfl)
theorem h57 : ∀ x y, d57 x = some y → fnD tab env57 7 ann57 big Try.f57 [] ps57 rs57 true x = some y := fun x y h => by rw [d57, ← fnK_eq l57] at h; exact h
theorem r57 : resOK tab Try.f57.results.toList rs57 = true := by kernel_rfl
theorem n57 : nodupB (Try.f57.results.toList.map rSlot) = true := by kernel_rfl
theorem does57 : Does Try.prog 57 ps57 rs57 true d57 := fn_does mixed tabOK envOk57 Try.func57 r57 n57 l57 h57
theorem k57 : Callable Try.prog 57 := ⟨Try.f57, Try.func57, by kernel_rfl, by kernel_rfl⟩
theorem c57 : Contract Try.prog 57 sg57 := by rw [sg57]; exact Contract.of k57 does57

/-! skiarea/skiarearef19.Done -/
noncomputable def env44 : Nat → Option Sig := fun n => match n with
  | 57 => some sg57
  | _ => none

def ann44 : List LoopAnn := []
abbrev ps44 : List Ty := [.pair (.sl (.int .i64)) (.pair (.int .i64) (.sl (.pair (.int .i64) (.pair (.int .i64) (.int .i64))))), .int .i64]
abbrev rs44 : List Ty := [.bool]
noncomputable def d44 : (pk ps44).den → Option (pk rs44).den := fnK tab env44 5 ann44 big Try.f44 [] ps44 rs44 true
noncomputable def sg44 : Sig := { ps := ps44, rs := rs44, own := true, φ := d44 }

theorem envOk44 : ∀ f sg, env44 f = some sg → Contract Try.prog f sg := by
  intro f sg h
  unfold env44 at h
  split at h
  · injection h with h; subst h; exact c57
  · cases h
theorem l44 : ps44.length ≤ Try.f44.ntmps := of_decide_eq_true (by kernel_rfl)
theorem h44 : ∀ x y, d44 x = some y → fnD tab env44 5 ann44 big Try.f44 [] ps44 rs44 true x = some y := fun x y h => by rw [d44, ← fnK_eq l44] at h; exact h
theorem r44 : resOK tab Try.f44.results.toList rs44 = true := by kernel_rfl
theorem n44 : nodupB (Try.f44.results.toList.map rSlot) = true := by kernel_rfl
theorem does44 : Does Try.prog 44 ps44 rs44 true d44 := fn_does mixed tabOK envOk44 Try.func44 r44 n44 l44 h44
theorem k44 : Callable Try.prog 44 := ⟨Try.f44, Try.func44, by kernel_rfl, by kernel_rfl⟩
theorem c44 : Contract Try.prog 44 sg44 := by rw [sg44]; exact Contract.of k44 does44

/-! skiarea/skiarearef53.Ready -/
noncomputable def env23 : Nat → Option Sig := fun n => match n with
  | 36 => some sg36
  | 44 => some sg44
  | _ => none

def ann23 : List LoopAnn := [{ id := 5, live := [1, 3, 8], frz := [] }]
abbrev ps23 : List Ty := [.pair (.sl (.pair (.int .i64) (.pair (.sl (.int .i64)) (.pair (.int .i64) (.sl (.pair (.int .i64) (.pair (.int .i64) (.int .i64)))))))) (.sl (.pair (.int .i64) (.pair (.int .i64) (.int .i64)))), .int .i64, .int .i64]
abbrev rs23 : List Ty := [.bool]
noncomputable def d23 : (pk ps23).den → Option (pk rs23).den := fnK tab env23 9 ann23 big Try.f23 [] ps23 rs23 true
noncomputable def sg23 : Sig := { ps := ps23, rs := rs23, own := true, φ := d23 }

theorem envOk23 : ∀ f sg, env23 f = some sg → Contract Try.prog f sg := by
  intro f sg h
  unfold env23 at h
  split at h
  · injection h with h; subst h; exact c36
  · injection h with h; subst h; exact c44
  · cases h
theorem l23 : ps23.length ≤ Try.f23.ntmps := of_decide_eq_true (by kernel_rfl)
theorem h23 : ∀ x y, d23 x = some y → fnD tab env23 9 ann23 big Try.f23 [] ps23 rs23 true x = some y := fun x y h => by rw [d23, ← fnK_eq l23] at h; exact h
theorem r23 : resOK tab Try.f23.results.toList rs23 = true := by kernel_rfl
theorem n23 : nodupB (Try.f23.results.toList.map rSlot) = true := by kernel_rfl
theorem does23 : Does Try.prog 23 ps23 rs23 true d23 := fn_does mixed tabOK envOk23 Try.func23 r23 n23 l23 h23
theorem k23 : Callable Try.prog 23 := ⟨Try.f23, Try.func23, by kernel_rfl, by kernel_rfl⟩
theorem c23 : Contract Try.prog 23 sg23 := by rw [sg23]; exact Contract.of k23 does23

/-! skiarea/skiarearef53.Open -/
noncomputable def env26 : Nat → Option Sig := fun n => match n with
  | 23 => some sg23
  | _ => none

def ann26 : List LoopAnn := [{ id := 3, live := [1, 2, 5, 6], frz := [] }]
abbrev ps26 : List Ty := [.pair (.sl (.pair (.int .i64) (.pair (.sl (.int .i64)) (.pair (.int .i64) (.sl (.pair (.int .i64) (.pair (.int .i64) (.int .i64)))))))) (.sl (.pair (.int .i64) (.pair (.int .i64) (.int .i64)))), .int .i64]
abbrev rs26 : List Ty := [.sl (.int .i64)]
noncomputable def d26 : (pk ps26).den → Option (pk rs26).den := fnK tab env26 7 ann26 big Try.f26 [] ps26 rs26 true
noncomputable def sg26 : Sig := { ps := ps26, rs := rs26, own := true, φ := d26 }

theorem envOk26 : ∀ f sg, env26 f = some sg → Contract Try.prog f sg := by
  intro f sg h
  unfold env26 at h
  split at h
  · injection h with h; subst h; exact c23
  · cases h
theorem l26 : ps26.length ≤ Try.f26.ntmps := of_decide_eq_true (by kernel_rfl)
theorem h26 : ∀ x y, d26 x = some y → fnD tab env26 7 ann26 big Try.f26 [] ps26 rs26 true x = some y := fun x y h => by rw [d26, ← fnK_eq l26] at h; exact h
theorem r26 : resOK tab Try.f26.results.toList rs26 = true := by kernel_rfl
theorem n26 : nodupB (Try.f26.results.toList.map rSlot) = true := by kernel_rfl
theorem does26 : Does Try.prog 26 ps26 rs26 true d26 := fn_does mixed tabOK envOk26 Try.func26 r26 n26 l26 h26
theorem k26 : Callable Try.prog 26 := ⟨Try.f26, Try.func26, by kernel_rfl, by kernel_rfl⟩
theorem c26 : Contract Try.prog 26 sg26 := by rw [sg26]; exact Contract.of k26 does26

/-! skiarea/skiarealaw53.PatrolFits -/
noncomputable def env6 : Nat → Option Sig := fun n => match n with
  | 10 => some sg10
  | 14 => some sg14
  | 22 => some sg22
  | 23 => some sg23
  | 24 => some sg24
  | 25 => some sg25
  | 26 => some sg26
  | _ => none

def ann6 : List LoopAnn := []
abbrev ps6 : List Ty := [.pair (.sl (.pair (.int .i64) (.pair (.sl (.int .i64)) (.pair (.int .i64) (.sl (.pair (.int .i64) (.pair (.int .i64) (.int .i64)))))))) (.sl (.pair (.int .i64) (.pair (.int .i64) (.int .i64)))), .int .i64, .int .i64]
abbrev rs6 : List Ty := [.bool]
noncomputable def d6 : (pk ps6).den → Option (pk rs6).den := fnK tab env6 7 ann6 big Try.f6 [] ps6 rs6 true
noncomputable def sg6 : Sig := { ps := ps6, rs := rs6, own := true, φ := d6 }

theorem envOk6 : ∀ f sg, env6 f = some sg → Contract Try.prog f sg := by
  intro f sg h
  unfold env6 at h
  split at h
  · injection h with h; subst h; exact c10
  · injection h with h; subst h; exact c14
  · injection h with h; subst h; exact c22
  · injection h with h; subst h; exact c23
  · injection h with h; subst h; exact c24
  · injection h with h; subst h; exact c25
  · injection h with h; subst h; exact c26
  · cases h
theorem l6 : ps6.length ≤ Try.f6.ntmps := of_decide_eq_true (by kernel_rfl)
theorem h6 : ∀ x y, d6 x = some y → fnD tab env6 7 ann6 big Try.f6 [] ps6 rs6 true x = some y := fun x y h => by rw [d6, ← fnK_eq l6] at h; exact h
theorem r6 : resOK tab Try.f6.results.toList rs6 = true := by kernel_rfl
theorem n6 : nodupB (Try.f6.results.toList.map rSlot) = true := by kernel_rfl
theorem does6 : Does Try.prog 6 ps6 rs6 true d6 := fn_does mixed tabOK envOk6 Try.func6 r6 n6 l6 h6
theorem k6 : Callable Try.prog 6 := ⟨Try.f6, Try.func6, by kernel_rfl, by kernel_rfl⟩
theorem c6 : Contract Try.prog 6 sg6 := by rw [sg6]; exact Contract.of k6 does6

/-! skiarea/skiarealaw53.hazards -/
def env28 : Nat → Option Sig := fun _ => none

def ann28 : List LoopAnn := [{ id := 3, live := [1, 2, 5, 6], frz := [] }]
abbrev ps28 : List Ty := [.pair (.sl (.pair (.int .i64) (.pair (.sl (.int .i64)) (.pair (.int .i64) (.sl (.pair (.int .i64) (.pair (.int .i64) (.int .i64)))))))) (.sl (.pair (.int .i64) (.pair (.int .i64) (.int .i64)))), .int .i64]
abbrev rs28 : List Ty := [.int .i64]
noncomputable def d28 : (pk ps28).den → Option (pk rs28).den := fnK tab env28 7 ann28 big Try.f28 [] ps28 rs28 true
noncomputable def sg28 : Sig := { ps := ps28, rs := rs28, own := true, φ := d28 }

theorem envOk28 : ∀ f sg, env28 f = some sg → Contract Try.prog f sg := by
  intro f sg h
  unfold env28 at h
  cases h
theorem l28 : ps28.length ≤ Try.f28.ntmps := of_decide_eq_true (by kernel_rfl)
theorem h28 : ∀ x y, d28 x = some y → fnD tab env28 7 ann28 big Try.f28 [] ps28 rs28 true x = some y := fun x y h => by rw [d28, ← fnK_eq l28] at h; exact h
theorem r28 : resOK tab Try.f28.results.toList rs28 = true := by kernel_rfl
theorem n28 : nodupB (Try.f28.results.toList.map rSlot) = true := by kernel_rfl
theorem does28 : Does Try.prog 28 ps28 rs28 true d28 := fn_does mixed tabOK envOk28 Try.func28 r28 n28 l28 h28
theorem k28 : Callable Try.prog 28 := ⟨Try.f28, Try.func28, by kernel_rfl, by kernel_rfl⟩
theorem c28 : Contract Try.prog 28 sg28 := by rw [sg28]; exact Contract.of k28 does28

/-! skiarea/skiarealaw53.PatrolReady -/
noncomputable def env7 : Nat → Option Sig := fun n => match n with
  | 10 => some sg10
  | 11 => some sg11
  | 12 => some sg12
  | 22 => some sg22
  | 25 => some sg25
  | 27 => some sg27
  | 28 => some sg28
  | _ => none

def ann7 : List LoopAnn := [{ id := 9, live := [1, 2, 3, 7, 8, 9, 10], frz := [] }]
abbrev ps7 : List Ty := [.pair (.sl (.pair (.int .i64) (.pair (.sl (.int .i64)) (.pair (.int .i64) (.sl (.pair (.int .i64) (.pair (.int .i64) (.int .i64)))))))) (.sl (.pair (.int .i64) (.pair (.int .i64) (.int .i64)))), .int .i64, .int .i64]
abbrev rs7 : List Ty := [.bool]
noncomputable def d7 : (pk ps7).den → Option (pk rs7).den := fnK tab env7 13 ann7 big Try.f7 [] ps7 rs7 true
noncomputable def sg7 : Sig := { ps := ps7, rs := rs7, own := true, φ := d7 }

theorem envOk7 : ∀ f sg, env7 f = some sg → Contract Try.prog f sg := by
  intro f sg h
  unfold env7 at h
  split at h
  · injection h with h; subst h; exact c10
  · injection h with h; subst h; exact c11
  · injection h with h; subst h; exact c12
  · injection h with h; subst h; exact c22
  · injection h with h; subst h; exact c25
  · injection h with h; subst h; exact c27
  · injection h with h; subst h; exact c28
  · cases h
theorem l7 : ps7.length ≤ Try.f7.ntmps := of_decide_eq_true (by kernel_rfl)
theorem h7 : ∀ x y, d7 x = some y → fnD tab env7 13 ann7 big Try.f7 [] ps7 rs7 true x = some y := fun x y h => by rw [d7, ← fnK_eq l7] at h; exact h
theorem r7 : resOK tab Try.f7.results.toList rs7 = true := by kernel_rfl
theorem n7 : nodupB (Try.f7.results.toList.map rSlot) = true := by kernel_rfl
theorem does7 : Does Try.prog 7 ps7 rs7 true d7 := fn_does mixed tabOK envOk7 Try.func7 r7 n7 l7 h7
theorem k7 : Callable Try.prog 7 := ⟨Try.f7, Try.func7, by kernel_rfl, by kernel_rfl⟩
theorem c7 : Contract Try.prog 7 sg7 := by rw [sg7]; exact Contract.of k7 does7

/-! skiarea/skiarealaw53.PatrolHazards -/
noncomputable def env8 : Nat → Option Sig := fun n => match n with
  | 10 => some sg10
  | 11 => some sg11
  | 12 => some sg12
  | 17 => some sg17
  | 18 => some sg18
  | 20 => some sg20
  | 22 => some sg22
  | _ => none

def ann8 : List LoopAnn := []
abbrev ps8 : List Ty := [.pair (.sl (.pair (.int .i64) (.pair (.sl (.int .i64)) (.pair (.int .i64) (.sl (.pair (.int .i64) (.pair (.int .i64) (.int .i64)))))))) (.sl (.pair (.int .i64) (.pair (.int .i64) (.int .i64)))), .pair (.int .i64) (.pair (.int .i64) (.int .i64)), .int .i64, .int .i64]
abbrev rs8 : List Ty := [.bool]
noncomputable def d8 : (pk ps8).den → Option (pk rs8).den := fnK tab env8 13 ann8 big Try.f8 [] ps8 rs8 true
noncomputable def sg8 : Sig := { ps := ps8, rs := rs8, own := true, φ := d8 }

theorem envOk8 : ∀ f sg, env8 f = some sg → Contract Try.prog f sg := by
  intro f sg h
  unfold env8 at h
  split at h
  · injection h with h; subst h; exact c10
  · injection h with h; subst h; exact c11
  · injection h with h; subst h; exact c12
  · injection h with h; subst h; exact c17
  · injection h with h; subst h; exact c18
  · injection h with h; subst h; exact c20
  · injection h with h; subst h; exact c22
  · cases h
theorem l8 : ps8.length ≤ Try.f8.ntmps := of_decide_eq_true (by kernel_rfl)
theorem h8 : ∀ x y, d8 x = some y → fnD tab env8 13 ann8 big Try.f8 [] ps8 rs8 true x = some y := fun x y h => by rw [d8, ← fnK_eq l8] at h; exact h
theorem r8 : resOK tab Try.f8.results.toList rs8 = true := by kernel_rfl
theorem n8 : nodupB (Try.f8.results.toList.map rSlot) = true := by kernel_rfl
theorem does8 : Does Try.prog 8 ps8 rs8 true d8 := fn_does mixed tabOK envOk8 Try.func8 r8 n8 l8 h8
theorem k8 : Callable Try.prog 8 := ⟨Try.f8, Try.func8, by kernel_rfl, by kernel_rfl⟩
theorem c8 : Contract Try.prog 8 sg8 := by rw [sg8]; exact Contract.of k8 does8

/-! skiarea/skiarealaw53.latest -/
def env29 : Nat → Option Sig := fun _ => none

def ann29 : List LoopAnn := [{ id := 2, live := [1, 2, 3, 7], frz := [] }, { id := 5, live := [1, 2, 3, 7, 8], frz := [] }]
abbrev ps29 : List Ty := [.pair (.sl (.pair (.int .i64) (.pair (.sl (.int .i64)) (.pair (.int .i64) (.sl (.pair (.int .i64) (.pair (.int .i64) (.int .i64)))))))) (.sl (.pair (.int .i64) (.pair (.int .i64) (.int .i64)))), .int .i64, .int .i64]
abbrev rs29 : List Ty := [.bool]
noncomputable def d29 : (pk ps29).den → Option (pk rs29).den := fnK tab env29 9 ann29 big Try.f29 [] ps29 rs29 true
noncomputable def sg29 : Sig := { ps := ps29, rs := rs29, own := true, φ := d29 }

theorem envOk29 : ∀ f sg, env29 f = some sg → Contract Try.prog f sg := by
  intro f sg h
  unfold env29 at h
  cases h
theorem l29 : ps29.length ≤ Try.f29.ntmps := of_decide_eq_true (by kernel_rfl)
theorem h29 : ∀ x y, d29 x = some y → fnD tab env29 9 ann29 big Try.f29 [] ps29 rs29 true x = some y := fun x y h => by rw [d29, ← fnK_eq l29] at h; exact h
theorem r29 : resOK tab Try.f29.results.toList rs29 = true := by kernel_rfl
theorem n29 : nodupB (Try.f29.results.toList.map rSlot) = true := by kernel_rfl
theorem does29 : Does Try.prog 29 ps29 rs29 true d29 := fn_does mixed tabOK envOk29 Try.func29 r29 n29 l29 h29
theorem k29 : Callable Try.prog 29 := ⟨Try.f29, Try.func29, by kernel_rfl, by kernel_rfl⟩
theorem c29 : Contract Try.prog 29 sg29 := by rw [sg29]; exact Contract.of k29 does29

/-! skiarea/skiarealaw53.PatrolKeeps -/
noncomputable def env9 : Nat → Option Sig := fun n => match n with
  | 10 => some sg10
  | 11 => some sg11
  | 12 => some sg12
  | 15 => some sg15
  | 22 => some sg22
  | 29 => some sg29
  | 30 => some sg30
  | _ => none

def ann9 : List LoopAnn := [{ id := 11, live := [1, 5, 11, 13], frz := [] }, { id := 16, live := [5, 11, 14], frz := [] }]
abbrev ps9 : List Ty := [.pair (.sl (.pair (.int .i64) (.pair (.sl (.int .i64)) (.pair (.int .i64) (.sl (.pair (.int .i64) (.pair (.int .i64) (.int .i64)))))))) (.sl (.pair (.int .i64) (.pair (.int .i64) (.int .i64)))), .int .i64, .pair (.int .i64) (.pair (.int .i64) (.int .i64)), .int .i64, .int .i64]
abbrev rs9 : List Ty := [.bool]
noncomputable def d9 : (pk ps9).den → Option (pk rs9).den := fnK tab env9 15 ann9 big Try.f9 [] ps9 rs9 true
noncomputable def sg9 : Sig := { ps := ps9, rs := rs9, own := true, φ := d9 }

theorem envOk9 : ∀ f sg, env9 f = some sg → Contract Try.prog f sg := by
  intro f sg h
  unfold env9 at h
  split at h
  · injection h with h; subst h; exact c10
  · injection h with h; subst h; exact c11
  · injection h with h; subst h; exact c12
  · injection h with h; subst h; exact c15
  · injection h with h; subst h; exact c22
  · injection h with h; subst h; exact c29
  · injection h with h; subst h; exact c30
  · cases h
theorem l9 : ps9.length ≤ Try.f9.ntmps := of_decide_eq_true (by kernel_rfl)
theorem h9 : ∀ x y, d9 x = some y → fnD tab env9 15 ann9 big Try.f9 [] ps9 rs9 true x = some y := fun x y h => by rw [d9, ← fnK_eq l9] at h; exact h
theorem r9 : resOK tab Try.f9.results.toList rs9 = true := by kernel_rfl
theorem n9 : nodupB (Try.f9.results.toList.map rSlot) = true := by kernel_rfl
theorem does9 : Does Try.prog 9 ps9 rs9 true d9 := fn_does mixed tabOK envOk9 Try.func9 r9 n9 l9 h9
theorem k9 : Callable Try.prog 9 := ⟨Try.f9, Try.func9, by kernel_rfl, by kernel_rfl⟩
theorem c9 : Contract Try.prog 9 sg9 := by rw [sg9]; exact Contract.of k9 does9

theorem alive : d10 () = some true := by kernel_rfl
end Go.Proofs.Ytaipbppgebjdeaa.D
