import Derived.Test.YtmmlfdnpgigfbaaProg
import Derived.Test.YtmmlfdnpgigfbaaChecked
import Derived.Test.YtmmlfdnpgigfbaaGD29
import Derived.Test.YtmmlfdnpgigfbaaGDD
import Derived.Test.YtmmlfdnpgigfbaaGDW
import Derived.Test.YtmmlfdnpgigfbaaGDK
open Go Go.GD Go.Proofs
namespace Go.Proofs.Ytmmlfdnpgigfbaa.D
def tab : List TE := [
  { id := 2, ty := .int .i64, flds := [], elem := 0, arr := false, bytes := 8 },
  { id := 3, ty := .int .i64, flds := [], elem := 0, arr := false, bytes := 8 },
  { id := 4, ty := .bool, flds := [], elem := 0, arr := false, bytes := 1, eqs := true },
  { id := 5, ty := .int .u8, flds := [], elem := 0, arr := false, bytes := 1 },
  { id := 6, ty := .int .u8, flds := [], elem := 0, arr := false, bytes := 1 },
  { id := 7, ty := .pair (.int .i64) (.pair (.int .i64) (.pair (.bool) (.int .u8))), flds := [(0, 2), (1, 3), (2, 4), (3, 6)], elem := 0, arr := false, bytes := 24 },
  { id := 8, ty := .pair (.int .i64) (.pair (.int .i64) (.pair (.bool) (.int .u8))), flds := [(0, 2), (1, 3), (2, 4), (3, 6)], elem := 0, arr := false, bytes := 24 },
  { id := 9, ty := .str, flds := [], elem := 0, arr := false, bytes := 16 },
  { id := 10, ty := .str, flds := [], elem := 0, arr := false, bytes := 16 },
  { id := 11, ty := .str, flds := [], elem := 0, arr := false, bytes := 16 },
  { id := 12, ty := .int .u64, flds := [], elem := 0, arr := false, bytes := 8 },
  { id := 13, ty := .pair (.str) (.int .u64), flds := [(0, 9), (1, 12)], elem := 0, arr := false, bytes := 24 },
  { id := 14, ty := .pair (.str) (.int .u64), flds := [(0, 9), (1, 12)], elem := 0, arr := false, bytes := 24 },
  { id := 21, ty := .int .i32, flds := [], elem := 0, arr := false, bytes := 4 },
  { id := 22, ty := .sl (.int .i64), flds := [], elem := 3, arr := false, bytes := 24 },
  { id := 23, ty := .sl (.pair (.int .i64) (.pair (.int .i64) (.pair (.int .i64) (.int .i64)))), flds := [], elem := 45, arr := false, bytes := 24 },
  { id := 24, ty := .pair (.sl (.int .i64)) (.pair (.sl (.int .i64)) (.sl (.pair (.int .i64) (.pair (.int .i64) (.pair (.int .i64) (.int .i64)))))), flds := [(0, 22), (1, 22), (2, 23)], elem := 0, arr := false, bytes := 72 },
  { id := 25, ty := .pair (.sl (.int .i64)) (.pair (.sl (.int .i64)) (.sl (.pair (.int .i64) (.pair (.int .i64) (.pair (.int .i64) (.int .i64)))))), flds := [(0, 22), (1, 22), (2, 23)], elem := 0, arr := false, bytes := 72 },
  { id := 28, ty := .int .i64, flds := [], elem := 0, arr := false, bytes := 8 },
  { id := 30, ty := .sl (.pair (.int .i64) (.sl (.int .i64))), flds := [], elem := 43, arr := false, bytes := 24 },
  { id := 42, ty := .pair (.int .i64) (.sl (.int .i64)), flds := [(0, 3), (1, 22)], elem := 0, arr := false, bytes := 32 },
  { id := 43, ty := .pair (.int .i64) (.sl (.int .i64)), flds := [(0, 3), (1, 22)], elem := 0, arr := false, bytes := 32 },
  { id := 44, ty := .pair (.int .i64) (.pair (.int .i64) (.pair (.int .i64) (.int .i64))), flds := [(0, 3), (1, 3), (2, 3), (3, 3)], elem := 0, arr := false, bytes := 32 },
  { id := 45, ty := .pair (.int .i64) (.pair (.int .i64) (.pair (.int .i64) (.int .i64))), flds := [(0, 3), (1, 3), (2, 3), (3, 3)], elem := 0, arr := false, bytes := 32 },
  { id := 53, ty := .sl (.bool), flds := [], elem := 4, arr := false, bytes := 24 },
  { id := 55, ty := .int .u64, flds := [], elem := 0, arr := false, bytes := 8 },
  { id := 75, ty := .int .u32, flds := [], elem := 0, arr := false, bytes := 4 },
  { id := 76, ty := .int .u8, flds := [], elem := 0, arr := false, bytes := 1 },
  { id := 77, ty := .int .u8, flds := [], elem := 0, arr := false, bytes := 1 },
  { id := 80, ty := .int .i32, flds := [], elem := 0, arr := false, bytes := 4 },
  { id := 81, ty := .int .i32, flds := [], elem := 0, arr := false, bytes := 4 }]

def big : Nat := 18446744073709551616
theorem tabOK : TabOK Try.prog tab := by
  show tab.all (checkTE Try.prog tab) = true
  kernel_rfl
theorem mixed : Try.prog.follows .mixedOrders = true := Checked.mixed Try.checked
/-! slices.IndexFunc[[]skiarea/api.Offer,skiarea/api.Offer] -/
def env33 : Nat → Option Sig := fun _ => none

def ann33 : List LoopAnn := [{ id := 2, live := [0, 1, 7, 8], frz := [] }]
abbrev ps33 : List Ty := [.sl (.pair (.int .i64) (.pair (.int .i64) (.pair (.int .i64) (.int .i64)))), .fn (.pair (.int .i64) (.pair (.int .i64) (.pair (.int .i64) (.int .i64)))) (.bool)]
abbrev rs33 : List Ty := [.int .i64]
noncomputable def d33 : (pk ps33).den → Option (pk rs33).den := fnK tab env33 6 ann33 big Try.f33 [] ps33 rs33 true
noncomputable def sg33 : Sig := { ps := ps33, rs := rs33, own := true, φ := d33 }

theorem envOk33 : ∀ f sg, env33 f = some sg → Contract Try.prog f sg := by
  intro f sg h
  unfold env33 at h
  cases h
theorem l33 : ps33.length ≤ Try.f33.ntmps := of_decide_eq_true (by kernel_rfl)
theorem h33 : ∀ x y, d33 x = some y → fnD tab env33 6 ann33 big Try.f33 [] ps33 rs33 true x = some y := fun x y h => by rw [d33, ← fnK_eq l33] at h; exact h
theorem r33 : resOK tab Try.f33.results.toList rs33 = true := by kernel_rfl
theorem n33 : nodupB (Try.f33.results.toList.map rSlot) = true := by kernel_rfl
theorem does33 : Does Try.prog 33 ps33 rs33 true d33 := fn_does mixed tabOK envOk33 Try.func33 r33 n33 l33 h33
theorem k33 : Callable Try.prog 33 := ⟨Try.f33, Try.func33, by kernel_rfl, by kernel_rfl⟩
theorem c33 : Contract Try.prog 33 sg33 := by rw [sg33]; exact Contract.of k33 does33

/-! slices.ContainsFunc[[]skiarea/api.Offer,skiarea/api.Offer] -/
noncomputable def env24 : Nat → Option Sig := fun n => match n with
  | 33 => some sg33
  | _ => none

def ann24 : List LoopAnn := []
abbrev ps24 : List Ty := [.sl (.pair (.int .i64) (.pair (.int .i64) (.pair (.int .i64) (.int .i64)))), .fn (.pair (.int .i64) (.pair (.int .i64) (.pair (.int .i64) (.int .i64)))) (.bool)]
abbrev rs24 : List Ty := [.bool]
noncomputable def d24 : (pk ps24).den → Option (pk rs24).den := fnK tab env24 5 ann24 big Try.f24 [] ps24 rs24 true
noncomputable def sg24 : Sig := { ps := ps24, rs := rs24, own := true, φ := d24 }

theorem envOk24 : ∀ f sg, env24 f = some sg → Contract Try.prog f sg := by
  intro f sg h
  unfold env24 at h
  split at h
  · injection h with h; subst h; exact c33
  · cases h
theorem l24 : ps24.length ≤ Try.f24.ntmps := of_decide_eq_true (by kernel_rfl)
theorem h24 : ∀ x y, d24 x = some y → fnD tab env24 5 ann24 big Try.f24 [] ps24 rs24 true x = some y := fun x y h => by rw [d24, ← fnK_eq l24] at h; exact h
theorem r24 : resOK tab Try.f24.results.toList rs24 = true := by kernel_rfl
theorem n24 : nodupB (Try.f24.results.toList.map rSlot) = true := by kernel_rfl
theorem does24 : Does Try.prog 24 ps24 rs24 true d24 := fn_does mixed tabOK envOk24 Try.func24 r24 n24 l24 h24
theorem k24 : Callable Try.prog 24 := ⟨Try.f24, Try.func24, by kernel_rfl, by kernel_rfl⟩
theorem c24 : Contract Try.prog 24 sg24 := by rw [sg24]; exact Contract.of k24 does24

/-! skiarea/group.Right$1 -/
def env25 : Nat → Option Sig := fun _ => none

def ann25 : List LoopAnn := []
abbrev ps25 : List Ty := [.pair (.int .i64) (.pair (.int .i64) (.pair (.int .i64) (.int .i64))), .ptr (.pair (.int .i64) (.pair (.int .i64) (.pair (.int .i64) (.int .i64))))]
abbrev rs25 : List Ty := [.bool]
noncomputable def d25 : (pk ps25).den → Option (pk rs25).den := fnK tab env25 4 ann25 big Try.f25 [] ps25 rs25 true
noncomputable def sg25 : Sig := { ps := ps25, rs := rs25, own := true, φ := d25 }

theorem envOk25 : ∀ f sg, env25 f = some sg → Contract Try.prog f sg := by
  intro f sg h
  unfold env25 at h
  cases h
theorem l25 : ps25.length ≤ Try.f25.ntmps := of_decide_eq_true (by kernel_rfl)
theorem h25 : ∀ x y, d25 x = some y → fnD tab env25 4 ann25 big Try.f25 [] ps25 rs25 true x = some y := fun x y h => by rw [d25, ← fnK_eq l25] at h; exact h
theorem r25 : resOK tab Try.f25.results.toList rs25 = true := by kernel_rfl
theorem n25 : nodupB (Try.f25.results.toList.map rSlot) = true := by kernel_rfl
theorem does25 : Does Try.prog 25 ps25 rs25 true d25 := fn_does mixed tabOK envOk25 Try.func25 r25 n25 l25 h25
theorem k25 : Callable Try.prog 25 := ⟨Try.f25, Try.func25, by kernel_rfl, by kernel_rfl⟩
theorem c25 : Contract Try.prog 25 sg25 := by rw [sg25]; exact Contract.of k25 does25

/-! skiarea/group.Right -/
noncomputable def env12 : Nat → Option Sig := fun n => match n with
  | 24 => some sg24
  | 25 => some sg25
  | _ => none

def ann12 : List LoopAnn := [{ id := 6, live := [0, 1, 2, 24, 25], frz := [] }, { id := 12, live := [2, 55, 56, 57], frz := [] }]
abbrev ps12 : List Ty := [.sl (.int .i64), .sl (.int .i64), .sl (.pair (.int .i64) (.pair (.int .i64) (.pair (.int .i64) (.int .i64))))]
abbrev rs12 : List Ty := [.int .i64]
noncomputable def d12 : (pk ps12).den → Option (pk rs12).den := fnK tab env12 10 ann12 big Try.f12 [] ps12 rs12 true
noncomputable def sg12 : Sig := { ps := ps12, rs := rs12, own := true, φ := d12 }

theorem envOk12 : ∀ f sg, env12 f = some sg → Contract Try.prog f sg := by
  intro f sg h
  unfold env12 at h
  split at h
  · injection h with h; subst h; exact c24
  · injection h with h; subst h; exact c25
  · cases h
theorem l12 : ps12.length ≤ Try.f12.ntmps := of_decide_eq_true (by kernel_rfl)
theorem h12 : ∀ x y, d12 x = some y → fnD tab env12 10 ann12 big Try.f12 [] ps12 rs12 true x = some y := fun x y h => by rw [d12, ← fnK_eq l12] at h; exact h
theorem r12 : resOK tab Try.f12.results.toList rs12 = true := by kernel_rfl
theorem n12 : nodupB (Try.f12.results.toList.map rSlot) = true := by kernel_rfl
theorem does12 : Does Try.prog 12 ps12 rs12 true d12 := fn_does mixed tabOK envOk12 Try.func12 r12 n12 l12 h12
theorem k12 : Callable Try.prog 12 := ⟨Try.f12, Try.func12, by kernel_rfl, by kernel_rfl⟩
theorem c12 : Contract Try.prog 12 sg12 := by rw [sg12]; exact Contract.of k12 does12

/-! slices.Clone[[]skiarea/api.Bundle,skiarea/api.Bundle] -/
def env31 : Nat → Option Sig := fun _ => none
def ann31 : List LoopAnn := []
abbrev ps31 : List Ty := [.sl (.pair (.int .i64) (.sl (.int .i64)))]
abbrev rs31 : List Ty := [.sl (.pair (.int .i64) (.sl (.int .i64)))]
noncomputable def d31r : (pk ps31).den → Option (pk rs31).den := fnK tab env31 3 ann31 big Try.f31 [] ps31 rs31 true
theorem envOk31 : ∀ f sg, env31 f = some sg → Contract Try.prog f sg := by
  intro f sg h
  unfold env31 at h
  cases h
theorem l31 : ps31.length ≤ Try.f31.ntmps := of_decide_eq_true (by kernel_rfl)
theorem h31r : ∀ x y, d31r x = some y → fnD tab env31 3 ann31 big Try.f31 [] ps31 rs31 true x = some y := fun x y h => by rw [d31r, ← fnK_eq l31] at h; exact h
theorem r31 : resOK tab Try.f31.results.toList rs31 = true := by kernel_rfl
theorem n31 : nodupB (Try.f31.results.toList.map rSlot) = true := by kernel_rfl
theorem does31r : Does Try.prog 31 ps31 rs31 true d31r := fn_does mixed tabOK envOk31 Try.func31 r31 n31 l31 h31r
theorem raw31 (s : List ((Int) × (List (Int)))) : d31r s = (
  bif List.isEmpty s then (
    bothO (some ([] : List ((Int) × (List (Int))))) (bif (Nat.ble ((List.length ([] : List ((Int) × (List (Int)))) + List.length s) * 32) appendLimit && Nat.ble (List.length ([] : List ((Int) × (List (Int)))) + List.length s) 9223372036854775807) then some (([] : List ((Int) × (List (Int)))) ++ s)
    else none))
  else bif (Nat.ble ((List.length ([] : List ((Int) × (List (Int)))) + List.length s) * 32) appendLimit && Nat.ble (List.length ([] : List ((Int) × (List (Int)))) + List.length s) 9223372036854775807) then some (([] : List ((Int) × (List (Int)))) ++ s)
  else none : Option (List ((Int) × (List (Int))))) := by kernel_rfl
def d31 : (pk ps31).den → Option (pk rs31).den := fun (s : List ((Int) × (List (Int)))) => bif (Nat.ble ((List.length ([] : List ((Int) × (List (Int)))) + List.length s) * 32) appendLimit && Nat.ble (List.length ([] : List ((Int) × (List (Int)))) + List.length s) 9223372036854775807) then some (([] : List ((Int) × (List (Int)))) ++ s) else none
def sg31 : Sig := { ps := ps31, rs := rs31, own := true, φ := d31 }
theorem le31 : ∀ x y, d31 x = some y → d31r x = some y := by
  intro x y h
  refine (raw31 x).trans ?_
  cases x with
  | nil =>
    have e : d31 ([] : List ((Int) × (List (Int)))) = some ([] : List ((Int) × (List (Int)))) := by kernel_rfl
    have e2 : y = ([] : List ((Int) × (List (Int)))) := (Option.some.inj (e.symm.trans h)).symm
    subst e2
    show bothO (some ([] : List ((Int) × (List (Int))))) (d31 ([] : List ((Int) × (List (Int))))) = _
    rw [e]
    unfold bothO
    rw [if_pos rfl]
  | cons a l => exact h
theorem does31 : Does Try.prog 31 ps31 rs31 true d31 := fun w Ok cs x y hx hy => does31r w Ok cs x y hx (le31 x y hy)
theorem k31 : Callable Try.prog 31 := ⟨Try.f31, Try.func31, by kernel_rfl, by kernel_rfl⟩
theorem c31 : Contract Try.prog 31 sg31 := Contract.of k31 does31

/-! skiarea/group.allows -/
def env38 : Nat → Option Sig := fun _ => none

def ann38 : List LoopAnn := [{ id := 3, live := [1, 2, 3, 7, 10, 11, 12], frz := [] }]
abbrev ps38 : List Ty := [.pair (.int .i64) (.pair (.int .i64) (.pair (.int .i64) (.int .i64))), .sl (.int .i64), .sl (.int .i64)]
abbrev rs38 : List Ty := [.bool]
noncomputable def d38 : (pk ps38).den → Option (pk rs38).den := fnK tab env38 10 ann38 big Try.f38 [] ps38 rs38 true
noncomputable def sg38 : Sig := { ps := ps38, rs := rs38, own := true, φ := d38 }

theorem envOk38 : ∀ f sg, env38 f = some sg → Contract Try.prog f sg := by
  intro f sg h
  unfold env38 at h
  cases h
theorem l38 : ps38.length ≤ Try.f38.ntmps := of_decide_eq_true (by kernel_rfl)
theorem h38 : ∀ x y, d38 x = some y → fnD tab env38 10 ann38 big Try.f38 [] ps38 rs38 true x = some y := fun x y h => by rw [d38, ← fnK_eq l38] at h; exact h
theorem r38 : resOK tab Try.f38.results.toList rs38 = true := by kernel_rfl
theorem n38 : nodupB (Try.f38.results.toList.map rSlot) = true := by kernel_rfl
theorem does38 : Does Try.prog 38 ps38 rs38 true d38 := fn_does mixed tabOK envOk38 Try.func38 r38 n38 l38 h38
theorem k38 : Callable Try.prog 38 := ⟨Try.f38, Try.func38, by kernel_rfl, by kernel_rfl⟩
theorem c38 : Contract Try.prog 38 sg38 := by rw [sg38]; exact Contract.of k38 does38

/-! skiarea/group.cheapest -/
noncomputable def env32 : Nat → Option Sig := fun n => match n with
  | 38 => some sg38
  | _ => none

def ann32 : List LoopAnn := [{ id := 3, live := [0, 1, 2, 3, 8, 11, 19, 20], frz := [] }, { id := 12, live := [0, 8, 11, 13, 14, 15, 42, 43, 44], frz := [] }]
abbrev ps32 : List Ty := [.sl (.int .i64), .sl (.int .i64), .sl (.pair (.int .i64) (.pair (.int .i64) (.pair (.int .i64) (.int .i64)))), .int .i64]
abbrev rs32 : List Ty := [.pair (.int .i64) (.sl (.int .i64)), .int .i64, .bool]
noncomputable def d32 : (pk ps32).den → Option (pk rs32).den := fnK tab env32 18 ann32 big Try.f32 [] ps32 rs32 true
noncomputable def sg32 : Sig := { ps := ps32, rs := rs32, own := true, φ := d32 }

theorem envOk32 : ∀ f sg, env32 f = some sg → Contract Try.prog f sg := by
  intro f sg h
  unfold env32 at h
  split at h
  · injection h with h; subst h; exact c38
  · cases h
theorem l32 : ps32.length ≤ Try.f32.ntmps := of_decide_eq_true (by kernel_rfl)
theorem h32 : ∀ x y, d32 x = some y → fnD tab env32 18 ann32 big Try.f32 [] ps32 rs32 true x = some y := fun x y h => by rw [d32, ← fnK_eq l32] at h; exact h
theorem r32 : resOK tab Try.f32.results.toList rs32 = true := by kernel_rfl
theorem n32 : nodupB (Try.f32.results.toList.map rSlot) = true := by kernel_rfl
theorem does32 : Does Try.prog 32 ps32 rs32 true d32 := fn_does mixed tabOK envOk32 Try.func32 r32 n32 l32 h32
theorem k32 : Callable Try.prog 32 := ⟨Try.f32, Try.func32, by kernel_rfl, by kernel_rfl⟩
theorem c32 : Contract Try.prog 32 sg32 := by rw [sg32]; exact Contract.of k32 does32

end Go.Proofs.Ytmmlfdnpgigfbaa.D
