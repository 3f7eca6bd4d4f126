import Derived.Test.YtbldhkgfeolhnaaProg
import Derived.Test.YtbldhkgfeolhnaaChecked
import Derived.Test.YtbldhkgfeolhnaaGD29
import Derived.Test.YtbldhkgfeolhnaaGDD
import Derived.Test.YtbldhkgfeolhnaaGDW
import Derived.Test.YtbldhkgfeolhnaaH19c
open Go Go.GD Go.Proofs
namespace Go.Proofs.Ytbldhkgfeolhnaa.D
def tab : List TE := [
  { id := 2, ty := .int .i64, flds := [], elem := 0, arr := false, bytes := 8 },
  { id := 3, ty := .int .i64, flds := [], elem := 0, arr := false, bytes := 8 },
  { id := 4, ty := .bool, flds := [], elem := 0, arr := false, bytes := 1, eqs := true },
  { id := 5, ty := .int .u8, flds := [], elem := 0, arr := false, bytes := 1 },
  { id := 6, ty := .int .u8, flds := [], elem := 0, arr := false, bytes := 1 },
  { id := 7, ty := .pair (.int .i64) (.pair (.int .i64) (.pair (.bool) (.int .u8))), flds := [(0, 2), (1, 3), (2, 4), (3, 6)], elem := 0, arr := false, bytes := 24 },
  { id := 8, ty := .pair (.int .i64) (.pair (.int .i64) (.pair (.bool) (.int .u8))), flds := [(0, 2), (1, 3), (2, 4), (3, 6)], elem := 0, arr := false, bytes := 24 },
  { id := 9, ty := .str, flds := [], elem := 0, arr := false, bytes := 16 },
  { id := 10, ty := .str, flds := [], elem := 0, arr := false, bytes := 16 },
  { id := 11, ty := .str, flds := [], elem := 0, arr := false, bytes := 16 },
  { id := 12, ty := .int .u64, flds := [], elem := 0, arr := false, bytes := 8 },
  { id := 13, ty := .pair (.str) (.int .u64), flds := [(0, 9), (1, 12)], elem := 0, arr := false, bytes := 24 },
  { id := 14, ty := .pair (.str) (.int .u64), flds := [(0, 9), (1, 12)], elem := 0, arr := false, bytes := 24 },
  { id := 21, ty := .int .i32, flds := [], elem := 0, arr := false, bytes := 4 },
  { id := 22, ty := .sl (.int .i64), flds := [], elem := 3, arr := false, bytes := 24 },
  { id := 23, ty := .sl (.pair (.int .i64) (.pair (.int .i64) (.int .i64))), flds := [], elem := 35, arr := false, bytes := 24 },
  { id := 24, ty := .pair (.sl (.int .i64)) (.pair (.int .i64) (.sl (.pair (.int .i64) (.pair (.int .i64) (.int .i64))))), flds := [(0, 22), (1, 3), (2, 23)], elem := 0, arr := false, bytes := 56 },
  { id := 25, ty := .pair (.sl (.int .i64)) (.pair (.int .i64) (.sl (.pair (.int .i64) (.pair (.int .i64) (.int .i64))))), flds := [(0, 22), (1, 3), (2, 23)], elem := 0, arr := false, bytes := 56 },
  { id := 27, ty := .int .i64, flds := [], elem := 0, arr := false, bytes := 8 },
  { id := 34, ty := .pair (.int .i64) (.pair (.int .i64) (.int .i64)), flds := [(0, 3), (1, 3), (2, 3)], elem := 0, arr := false, bytes := 24 },
  { id := 35, ty := .pair (.int .i64) (.pair (.int .i64) (.int .i64)), flds := [(0, 3), (1, 3), (2, 3)], elem := 0, arr := false, bytes := 24, eqs := true },
  { id := 64, ty := .int .u32, flds := [], elem := 0, arr := false, bytes := 4 },
  { id := 65, ty := .int .u8, flds := [], elem := 0, arr := false, bytes := 1 },
  { id := 66, ty := .int .u8, flds := [], elem := 0, arr := false, bytes := 1 },
  { id := 69, ty := .int .i32, flds := [], elem := 0, arr := false, bytes := 4 },
  { id := 70, ty := .int .i32, flds := [], elem := 0, arr := false, bytes := 4 }]

def big : Nat := 18446744073709551616
theorem tabOK : TabOK Try.prog tab := by
  show tab.all (checkTE Try.prog tab) = true
  kernel_rfl
theorem mixed : Try.prog.follows .mixedOrders = true := Checked.mixed Try.checked
/-! slices.Index[[]int,int] -/
def env37 : Nat → Option Sig := fun _ => none

def ann37 : List LoopAnn := [{ id := 2, live := [0, 1, 7, 8], frz := [] }]
abbrev ps37 : List Ty := [.sl (.int .i64), .int .i64]
abbrev rs37 : List Ty := [.int .i64]
noncomputable def d37 : (pk ps37).den → Option (pk rs37).den := fnD tab env37 6 ann37 big Try.f37 [] ps37 rs37 true
noncomputable def sg37 : Sig := { ps := ps37, rs := rs37, own := true, φ := d37 }

theorem envOk37 : ∀ f sg, env37 f = some sg → Contract Try.prog f sg := by
  intro f sg h
  unfold env37 at h
  cases h
theorem h37 : ∀ x y, d37 x = some y → fnD tab env37 6 ann37 big Try.f37 [] ps37 rs37 true x = some y := fun x y h => by rw [d37] at h; exact h
theorem r37 : resOK tab Try.f37.results.toList rs37 = true := by kernel_rfl
theorem n37 : nodupB (Try.f37.results.toList.map rSlot) = true := by kernel_rfl
theorem l37 : ps37.length ≤ Try.f37.ntmps := of_decide_eq_true (by kernel_rfl)
theorem does37 : Does Try.prog 37 ps37 rs37 true d37 := fn_does mixed tabOK envOk37 Try.func37 r37 n37 l37 h37
theorem k37 : Callable Try.prog 37 := ⟨Try.f37, Try.func37, by kernel_rfl, by kernel_rfl⟩
theorem c37 : Contract Try.prog 37 sg37 := by rw [sg37]; exact Contract.of k37 does37

/-! slices.Contains[[]int,int] -/
noncomputable def env28 : Nat → Option Sig := fun n => match n with
  | 37 => some sg37
  | _ => none

def ann28 : List LoopAnn := []
abbrev ps28 : List Ty := [.sl (.int .i64), .int .i64]
abbrev rs28 : List Ty := [.bool]
noncomputable def d28 : (pk ps28).den → Option (pk rs28).den := fnD tab env28 5 ann28 big Try.f28 [] ps28 rs28 true
noncomputable def sg28 : Sig := { ps := ps28, rs := rs28, own := true, φ := d28 }

theorem envOk28 : ∀ f sg, env28 f = some sg → Contract Try.prog f sg := by
  intro f sg h
  unfold env28 at h
  split at h
  · injection h with h; subst h; exact c37
  · cases h
theorem h28 : ∀ x y, d28 x = some y → fnD tab env28 5 ann28 big Try.f28 [] ps28 rs28 true x = some y := fun x y h => by rw [d28] at h; exact h
theorem r28 : resOK tab Try.f28.results.toList rs28 = true := by kernel_rfl
theorem n28 : nodupB (Try.f28.results.toList.map rSlot) = true := by kernel_rfl
theorem l28 : ps28.length ≤ Try.f28.ntmps := of_decide_eq_true (by kernel_rfl)
theorem does28 : Does Try.prog 28 ps28 rs28 true d28 := fn_does mixed tabOK envOk28 Try.func28 r28 n28 l28 h28
theorem k28 : Callable Try.prog 28 := ⟨Try.f28, Try.func28, by kernel_rfl, by kernel_rfl⟩
theorem c28 : Contract Try.prog 28 sg28 := by rw [sg28]; exact Contract.of k28 does28

/-! skiarea/inspect.Right -/
noncomputable def env12 : Nat → Option Sig := fun n => match n with
  | 28 => some sg28
  | _ => none

def ann12 : List LoopAnn := [{ id := 6, live := [1, 26, 27, 28], frz := [] }, { id := 14, live := [1, 47, 48, 49], frz := [] }]
abbrev ps12 : List Ty := [.pair (.sl (.int .i64)) (.pair (.int .i64) (.sl (.pair (.int .i64) (.pair (.int .i64) (.int .i64)))))]
abbrev rs12 : List Ty := [.int .i64]
noncomputable def d12 : (pk ps12).den → Option (pk rs12).den := fnD tab env12 7 ann12 big Try.f12 [] ps12 rs12 true
noncomputable def sg12 : Sig := { ps := ps12, rs := rs12, own := true, φ := d12 }

theorem envOk12 : ∀ f sg, env12 f = some sg → Contract Try.prog f sg := by
  intro f sg h
  unfold env12 at h
  split at h
  · injection h with h; subst h; exact c28
  · cases h
theorem h12 : ∀ x y, d12 x = some y → fnD tab env12 7 ann12 big Try.f12 [] ps12 rs12 true x = some y := fun x y h => by rw [d12] at h; exact h
theorem r12 : resOK tab Try.f12.results.toList rs12 = true := by kernel_rfl
theorem n12 : nodupB (Try.f12.results.toList.map rSlot) = true := by kernel_rfl
theorem l12 : ps12.length ≤ Try.f12.ntmps := of_decide_eq_true (by kernel_rfl)
theorem does12 : Does Try.prog 12 ps12 rs12 true d12 := fn_does mixed tabOK envOk12 Try.func12 r12 n12 l12 h12
theorem k12 : Callable Try.prog 12 := ⟨Try.f12, Try.func12, by kernel_rfl, by kernel_rfl⟩
theorem c12 : Contract Try.prog 12 sg12 := by rw [sg12]; exact Contract.of k12 does12

/-! slices.Clone[[]int,int] -/
def env31 : Nat → Option Sig := fun _ => none
def ann31 : List LoopAnn := []
abbrev ps31 : List Ty := [.sl (.int .i64)]
abbrev rs31 : List Ty := [.sl (.int .i64)]
noncomputable def d31r : (pk ps31).den → Option (pk rs31).den := fnD tab env31 3 ann31 big Try.f31 [] ps31 rs31 true
theorem envOk31 : ∀ f sg, env31 f = some sg → Contract Try.prog f sg := by
  intro f sg h
  unfold env31 at h
  cases h
theorem h31r : ∀ x y, d31r x = some y → fnD tab env31 3 ann31 big Try.f31 [] ps31 rs31 true x = some y := fun x y h => by rw [d31r] at h; exact h
theorem r31 : resOK tab Try.f31.results.toList rs31 = true := by kernel_rfl
theorem n31 : nodupB (Try.f31.results.toList.map rSlot) = true := by kernel_rfl
theorem l31 : ps31.length ≤ Try.f31.ntmps := of_decide_eq_true (by kernel_rfl)
theorem does31r : Does Try.prog 31 ps31 rs31 true d31r := fn_does mixed tabOK envOk31 Try.func31 r31 n31 l31 h31r
theorem raw31 (s : List (Int)) : d31r s = (
  bif List.isEmpty s then (
    bothO (some ([] : List (Int))) (bif (Nat.ble ((List.length ([] : List (Int)) + List.length s) * 8) appendLimit && Nat.ble (List.length ([] : List (Int)) + List.length s) 9223372036854775807) then some (([] : List (Int)) ++ s)
    else none))
  else bif (Nat.ble ((List.length ([] : List (Int)) + List.length s) * 8) appendLimit && Nat.ble (List.length ([] : List (Int)) + List.length s) 9223372036854775807) then some (([] : List (Int)) ++ s)
  else none : Option (List (Int))) := by kernel_rfl
def d31 : (pk ps31).den → Option (pk rs31).den := fun (s : List (Int)) => bif (Nat.ble ((List.length ([] : List (Int)) + List.length s) * 8) appendLimit && Nat.ble (List.length ([] : List (Int)) + List.length s) 9223372036854775807) then some (([] : List (Int)) ++ s) else none
def sg31 : Sig := { ps := ps31, rs := rs31, own := true, φ := d31 }
theorem le31 : ∀ x y, d31 x = some y → d31r x = some y := by
  intro x y h
  refine (raw31 x).trans ?_
  cases x with
  | nil =>
    have e : d31 ([] : List (Int)) = some ([] : List (Int)) := by kernel_rfl
    have e2 : y = ([] : List (Int)) := (Option.some.inj (e.symm.trans h)).symm
    subst e2
    show bothO (some ([] : List (Int))) (d31 ([] : List (Int))) = _
    rw [e]
    unfold bothO
    rw [if_pos rfl]
  | cons a l => exact h
theorem does31 : Does Try.prog 31 ps31 rs31 true d31 := fun w Ok cs x y hx hy => does31r w Ok cs x y hx (le31 x y hy)
theorem k31 : Callable Try.prog 31 := ⟨Try.f31, Try.func31, by kernel_rfl, by kernel_rfl⟩
theorem c31 : Contract Try.prog 31 sg31 := Contract.of k31 does31

/-! skiarea/inspect.Sign -/
noncomputable def env14 : Nat → Option Sig := fun n => match n with
  | 12 => some sg12
  | 31 => some sg31
  | _ => none

def ann14 : List LoopAnn := [{ id := 3, live := [1, 2, 3, 8, 10, 21, 22, 23], frz := [] }]
abbrev ps14 : List Ty := [.pair (.sl (.int .i64)) (.pair (.int .i64) (.sl (.pair (.int .i64) (.pair (.int .i64) (.int .i64))))), .int .i64, .int .i64, .int .i64]
abbrev rs14 : List Ty := [.pair (.sl (.int .i64)) (.pair (.int .i64) (.sl (.pair (.int .i64) (.pair (.int .i64) (.int .i64))))), .int .i64]
noncomputable def d14 : (pk ps14).den → Option (pk rs14).den := fnD tab env14 14 ann14 big Try.f14 [] ps14 rs14 true
noncomputable def sg14 : Sig := { ps := ps14, rs := rs14, own := true, φ := d14 }

theorem envOk14 : ∀ f sg, env14 f = some sg → Contract Try.prog f sg := by
  intro f sg h
  unfold env14 at h
  split at h
  · injection h with h; subst h; exact c12
  · injection h with h; subst h; exact c31
  · cases h
theorem h14 : ∀ x y, d14 x = some y → fnD tab env14 14 ann14 big Try.f14 [] ps14 rs14 true x = some y := fun x y h => by rw [d14] at h; exact h
theorem r14 : resOK tab Try.f14.results.toList rs14 = true := by kernel_rfl
theorem n14 : nodupB (Try.f14.results.toList.map rSlot) = true := by kernel_rfl
theorem l14 : ps14.length ≤ Try.f14.ntmps := of_decide_eq_true (by kernel_rfl)
theorem does14 : Does Try.prog 14 ps14 rs14 true d14 := fn_does mixed tabOK envOk14 Try.func14 r14 n14 l14 h14
theorem k14 : Callable Try.prog 14 := ⟨Try.f14, Try.func14, by kernel_rfl, by kernel_rfl⟩
theorem c14 : Contract Try.prog 14 sg14 := by rw [sg14]; exact Contract.of k14 does14

/-! skiarea/skiarearef19.SameInts -/
def env19 : Nat → Option Sig := fun _ => none

def ann19 : List LoopAnn := [{ id := 4, live := [0, 1, 5], frz := [] }]
abbrev ps19 : List Ty := [.sl (.int .i64), .sl (.int .i64)]
abbrev rs19 : List Ty := [.bool]
noncomputable def d19 : (pk ps19).den → Option (pk rs19).den := fnD tab env19 6 ann19 big Try.f19 [] ps19 rs19 true
noncomputable def sg19 : Sig := { ps := ps19, rs := rs19, own := true, φ := d19 }

theorem envOk19 : ∀ f sg, env19 f = some sg → Contract Try.prog f sg := by
  intro f sg h
  unfold env19 at h
  cases h
theorem h19 : ∀ x y, d19 x = some y → fnD tab env19 6 ann19 big Try.f19 [] ps19 rs19 true x = some y := fun x y h => by rw [d19] at h; exact h
theorem r19 : resOK tab Try.f19.results.toList rs19 = true := by kernel_rfl
theorem n19 : nodupB (Try.f19.results.toList.map rSlot) = true := by kernel_rfl
theorem l19 : ps19.length ≤ Try.f19.ntmps := of_decide_eq_true (by kernel_rfl)
theorem does19 : Does Try.prog 19 ps19 rs19 true d19 := fn_does mixed tabOK envOk19 Try.func19 r19 n19 l19 h19
theorem k19 : Callable Try.prog 19 := ⟨Try.f19, Try.func19, by kernel_rfl, by kernel_rfl⟩
theorem c19 : Contract Try.prog 19 sg19 := by rw [sg19]; exact Contract.of k19 does19

/-! skiarea/skiarearef19.Same -/
noncomputable def env16 : Nat → Option Sig := fun n => match n with
  | 19 => some sg19
  | _ => none

def ann16 : List LoopAnn := [{ id := 4, live := [2, 3, 5], frz := [] }]
abbrev ps16 : List Ty := [.pair (.sl (.int .i64)) (.pair (.int .i64) (.sl (.pair (.int .i64) (.pair (.int .i64) (.int .i64))))), .pair (.sl (.int .i64)) (.pair (.int .i64) (.sl (.pair (.int .i64) (.pair (.int .i64) (.int .i64)))))]
abbrev rs16 : List Ty := [.bool]
noncomputable def d16 : (pk ps16).den → Option (pk rs16).den := fnD tab env16 6 ann16 big Try.f16 [] ps16 rs16 true
noncomputable def sg16 : Sig := { ps := ps16, rs := rs16, own := true, φ := d16 }

theorem envOk16 : ∀ f sg, env16 f = some sg → Contract Try.prog f sg := by
  intro f sg h
  unfold env16 at h
  split at h
  · injection h with h; subst h; exact c19
  · cases h
theorem h16 : ∀ x y, d16 x = some y → fnD tab env16 6 ann16 big Try.f16 [] ps16 rs16 true x = some y := fun x y h => by rw [d16] at h; exact h
theorem r16 : resOK tab Try.f16.results.toList rs16 = true := by kernel_rfl
theorem n16 : nodupB (Try.f16.results.toList.map rSlot) = true := by kernel_rfl
theorem l16 : ps16.length ≤ Try.f16.ntmps := of_decide_eq_true (by kernel_rfl)
theorem does16 : Does Try.prog 16 ps16 rs16 true d16 := fn_does mixed tabOK envOk16 Try.func16 r16 n16 l16 h16
theorem k16 : Callable Try.prog 16 := ⟨Try.f16, Try.func16, by kernel_rfl, by kernel_rfl⟩
theorem c16 : Contract Try.prog 16 sg16 := by rw [sg16]; exact Contract.of k16 does16

/-! skiarea/inspect.Last -/
abbrev ps17 : List Ty := [ckTy, .int .i64, .int .i64]
abbrev rs17 : List Ty := [sgTy, .bool]
def d17 : (pk ps17).den → Option (pk rs17).den := lastD
def sg17 : Sig := { ps := ps17, rs := rs17, own := true, φ := d17 }
theorem k17 : Callable Try.prog 17 := ⟨Try.f17, Try.func17, by kernel_rfl, by kernel_rfl⟩
theorem c17 : Contract Try.prog 17 sg17 := Contract.of k17 does_last

/-! skiarea/inspect.Open$1 -/
def env33 : Nat → Option Sig := fun _ => none

def ann33 : List LoopAnn := []
abbrev ps33 : List Ty := [.pair (.int .i64) (.pair (.int .i64) (.int .i64)), .ptr (.int .i64), .ptr (.int .i64), .ptr (.pair (.sl (.int .i64)) (.pair (.int .i64) (.sl (.pair (.int .i64) (.pair (.int .i64) (.int .i64))))))]
abbrev rs33 : List Ty := [.bool]
noncomputable def d33 : (pk ps33).den → Option (pk rs33).den := fnD tab env33 6 ann33 big Try.f33 [] ps33 rs33 true
noncomputable def sg33 : Sig := { ps := ps33, rs := rs33, own := true, φ := d33 }

theorem envOk33 : ∀ f sg, env33 f = some sg → Contract Try.prog f sg := by
  intro f sg h
  unfold env33 at h
  cases h
theorem h33 : ∀ x y, d33 x = some y → fnD tab env33 6 ann33 big Try.f33 [] ps33 rs33 true x = some y := fun x y h => by rw [d33] at h; exact h
theorem r33 : resOK tab Try.f33.results.toList rs33 = true := by kernel_rfl
theorem n33 : nodupB (Try.f33.results.toList.map rSlot) = true := by kernel_rfl
theorem l33 : ps33.length ≤ Try.f33.ntmps := of_decide_eq_true (by kernel_rfl)
theorem does33 : Does Try.prog 33 ps33 rs33 true d33 := fn_does mixed tabOK envOk33 Try.func33 r33 n33 l33 h33
theorem k33 : Callable Try.prog 33 := ⟨Try.f33, Try.func33, by kernel_rfl, by kernel_rfl⟩
theorem c33 : Contract Try.prog 33 sg33 := by rw [sg33]; exact Contract.of k33 does33

/-! slices.IndexFunc[[]skiarea/api.Sign,skiarea/api.Sign] -/
def env39 : Nat → Option Sig := fun _ => none

def ann39 : List LoopAnn := [{ id := 2, live := [0, 1, 7, 8], frz := [] }]
abbrev ps39 : List Ty := [.sl (.pair (.int .i64) (.pair (.int .i64) (.int .i64))), .fn (.pair (.int .i64) (.pair (.int .i64) (.int .i64))) (.bool)]
abbrev rs39 : List Ty := [.int .i64]
noncomputable def d39 : (pk ps39).den → Option (pk rs39).den := fnD tab env39 6 ann39 big Try.f39 [] ps39 rs39 true
noncomputable def sg39 : Sig := { ps := ps39, rs := rs39, own := true, φ := d39 }

theorem envOk39 : ∀ f sg, env39 f = some sg → Contract Try.prog f sg := by
  intro f sg h
  unfold env39 at h
  cases h
theorem h39 : ∀ x y, d39 x = some y → fnD tab env39 6 ann39 big Try.f39 [] ps39 rs39 true x = some y := fun x y h => by rw [d39] at h; exact h
theorem r39 : resOK tab Try.f39.results.toList rs39 = true := by kernel_rfl
theorem n39 : nodupB (Try.f39.results.toList.map rSlot) = true := by kernel_rfl
theorem l39 : ps39.length ≤ Try.f39.ntmps := of_decide_eq_true (by kernel_rfl)
theorem does39 : Does Try.prog 39 ps39 rs39 true d39 := fn_does mixed tabOK envOk39 Try.func39 r39 n39 l39 h39
theorem k39 : Callable Try.prog 39 := ⟨Try.f39, Try.func39, by kernel_rfl, by kernel_rfl⟩
theorem c39 : Contract Try.prog 39 sg39 := by rw [sg39]; exact Contract.of k39 does39

/-! slices.ContainsFunc[[]skiarea/api.Sign,skiarea/api.Sign] -/
noncomputable def env34 : Nat → Option Sig := fun n => match n with
  | 39 => some sg39
  | _ => none

def ann34 : List LoopAnn := []
abbrev ps34 : List Ty := [.sl (.pair (.int .i64) (.pair (.int .i64) (.int .i64))), .fn (.pair (.int .i64) (.pair (.int .i64) (.int .i64))) (.bool)]
abbrev rs34 : List Ty := [.bool]
noncomputable def d34 : (pk ps34).den → Option (pk rs34).den := fnD tab env34 5 ann34 big Try.f34 [] ps34 rs34 true
noncomputable def sg34 : Sig := { ps := ps34, rs := rs34, own := true, φ := d34 }

theorem envOk34 : ∀ f sg, env34 f = some sg → Contract Try.prog f sg := by
  intro f sg h
  unfold env34 at h
  split at h
  · injection h with h; subst h; exact c39
  · cases h
theorem h34 : ∀ x y, d34 x = some y → fnD tab env34 5 ann34 big Try.f34 [] ps34 rs34 true x = some y := fun x y h => by rw [d34] at h; exact h
theorem r34 : resOK tab Try.f34.results.toList rs34 = true := by kernel_rfl
theorem n34 : nodupB (Try.f34.results.toList.map rSlot) = true := by kernel_rfl
theorem l34 : ps34.length ≤ Try.f34.ntmps := of_decide_eq_true (by kernel_rfl)
theorem does34 : Does Try.prog 34 ps34 rs34 true d34 := fn_does mixed tabOK envOk34 Try.func34 r34 n34 l34 h34
theorem k34 : Callable Try.prog 34 := ⟨Try.f34, Try.func34, by kernel_rfl, by kernel_rfl⟩
theorem c34 : Contract Try.prog 34 sg34 := by rw [sg34]; exact Contract.of k34 does34

/-! skiarea/inspect.Open -/
noncomputable def env20 : Nat → Option Sig := fun n => match n with
  | 33 => some sg33
  | 34 => some sg34
  | _ => none

def ann20 : List LoopAnn := [{ id := 3, live := [2, 3, 5, 10, 11, 12], frz := [] }]
abbrev ps20 : List Ty := [.pair (.sl (.int .i64)) (.pair (.int .i64) (.sl (.pair (.int .i64) (.pair (.int .i64) (.int .i64))))), .int .i64]
abbrev rs20 : List Ty := [.sl (.int .i64)]
noncomputable def d20 : (pk ps20).den → Option (pk rs20).den := fnD tab env20 9 ann20 big Try.f20 [] ps20 rs20 true
noncomputable def sg20 : Sig := { ps := ps20, rs := rs20, own := true, φ := d20 }

theorem envOk20 : ∀ f sg, env20 f = some sg → Contract Try.prog f sg := by
  intro f sg h
  unfold env20 at h
  split at h
  · injection h with h; subst h; exact c33
  · injection h with h; subst h; exact c34
  · cases h
theorem h20 : ∀ x y, d20 x = some y → fnD tab env20 9 ann20 big Try.f20 [] ps20 rs20 true x = some y := fun x y h => by rw [d20] at h; exact h
theorem r20 : resOK tab Try.f20.results.toList rs20 = true := by kernel_rfl
theorem n20 : nodupB (Try.f20.results.toList.map rSlot) = true := by kernel_rfl
theorem l20 : ps20.length ≤ Try.f20.ntmps := of_decide_eq_true (by kernel_rfl)
theorem does20 : Does Try.prog 20 ps20 rs20 true d20 := fn_does mixed tabOK envOk20 Try.func20 r20 n20 l20 h20
theorem k20 : Callable Try.prog 20 := ⟨Try.f20, Try.func20, by kernel_rfl, by kernel_rfl⟩
theorem c20 : Contract Try.prog 20 sg20 := by rw [sg20]; exact Contract.of k20 does20

/-! skiarea/inspect.Done -/
noncomputable def env22 : Nat → Option Sig := fun n => match n with
  | 20 => some sg20
  | _ => none

def ann22 : List LoopAnn := []
abbrev ps22 : List Ty := [.pair (.sl (.int .i64)) (.pair (.int .i64) (.sl (.pair (.int .i64) (.pair (.int .i64) (.int .i64))))), .int .i64]
abbrev rs22 : List Ty := [.bool]
noncomputable def d22 : (pk ps22).den → Option (pk rs22).den := fnD tab env22 5 ann22 big Try.f22 [] ps22 rs22 true
noncomputable def sg22 : Sig := { ps := ps22, rs := rs22, own := true, φ := d22 }

theorem envOk22 : ∀ f sg, env22 f = some sg → Contract Try.prog f sg := by
  intro f sg h
  unfold env22 at h
  split at h
  · injection h with h; subst h; exact c20
  · cases h
theorem h22 : ∀ x y, d22 x = some y → fnD tab env22 5 ann22 big Try.f22 [] ps22 rs22 true x = some y := fun x y h => by rw [d22] at h; exact h
theorem r22 : resOK tab Try.f22.results.toList rs22 = true := by kernel_rfl
theorem n22 : nodupB (Try.f22.results.toList.map rSlot) = true := by kernel_rfl
theorem l22 : ps22.length ≤ Try.f22.ntmps := of_decide_eq_true (by kernel_rfl)
theorem does22 : Does Try.prog 22 ps22 rs22 true d22 := fn_does mixed tabOK envOk22 Try.func22 r22 n22 l22 h22
theorem k22 : Callable Try.prog 22 := ⟨Try.f22, Try.func22, by kernel_rfl, by kernel_rfl⟩
theorem c22 : Contract Try.prog 22 sg22 := by rw [sg22]; exact Contract.of k22 does22

/-! skiarea/inspect.ends -/
def env36 : Nat → Option Sig := fun _ => none

def ann36 : List LoopAnn := [{ id := 2, live := [1, 2, 3, 10, 11, 12], frz := [] }]
abbrev ps36 : List Ty := [.pair (.sl (.int .i64)) (.pair (.int .i64) (.sl (.pair (.int .i64) (.pair (.int .i64) (.int .i64))))), .int .i64, .int .i64]
abbrev rs36 : List Ty := [.int .i64]
noncomputable def d36 : (pk ps36).den → Option (pk rs36).den := fnD tab env36 9 ann36 big Try.f36 [] ps36 rs36 true
noncomputable def sg36 : Sig := { ps := ps36, rs := rs36, own := true, φ := d36 }

theorem envOk36 : ∀ f sg, env36 f = some sg → Contract Try.prog f sg := by
  intro f sg h
  unfold env36 at h
  cases h
theorem h36 : ∀ x y, d36 x = some y → fnD tab env36 9 ann36 big Try.f36 [] ps36 rs36 true x = some y := fun x y h => by rw [d36] at h; exact h
theorem r36 : resOK tab Try.f36.results.toList rs36 = true := by kernel_rfl
theorem n36 : nodupB (Try.f36.results.toList.map rSlot) = true := by kernel_rfl
theorem l36 : ps36.length ≤ Try.f36.ntmps := of_decide_eq_true (by kernel_rfl)
theorem does36 : Does Try.prog 36 ps36 rs36 true d36 := fn_does mixed tabOK envOk36 Try.func36 r36 n36 l36 h36
theorem k36 : Callable Try.prog 36 := ⟨Try.f36, Try.func36, by kernel_rfl, by kernel_rfl⟩
theorem c36 : Contract Try.prog 36 sg36 := by rw [sg36]; exact Contract.of k36 does36

/-! skiarea/inspect.Until -/
noncomputable def env24 : Nat → Option Sig := fun n => match n with
  | 22 => some sg22
  | 36 => some sg36
  | _ => none

def ann24 : List LoopAnn := [{ id := 5, live := [1, 2, 5, 14, 15, 16], frz := [] }]
abbrev ps24 : List Ty := [.pair (.sl (.int .i64)) (.pair (.int .i64) (.sl (.pair (.int .i64) (.pair (.int .i64) (.int .i64))))), .int .i64]
abbrev rs24 : List Ty := [.int .i64]
noncomputable def d24 : (pk ps24).den → Option (pk rs24).den := fnD tab env24 8 ann24 big Try.f24 [] ps24 rs24 true
noncomputable def sg24 : Sig := { ps := ps24, rs := rs24, own := true, φ := d24 }

theorem envOk24 : ∀ f sg, env24 f = some sg → Contract Try.prog f sg := by
  intro f sg h
  unfold env24 at h
  split at h
  · injection h with h; subst h; exact c22
  · injection h with h; subst h; exact c36
  · cases h
theorem h24 : ∀ x y, d24 x = some y → fnD tab env24 8 ann24 big Try.f24 [] ps24 rs24 true x = some y := fun x y h => by rw [d24] at h; exact h
theorem r24 : resOK tab Try.f24.results.toList rs24 = true := by kernel_rfl
theorem n24 : nodupB (Try.f24.results.toList.map rSlot) = true := by kernel_rfl
theorem l24 : ps24.length ≤ Try.f24.ntmps := of_decide_eq_true (by kernel_rfl)
theorem does24 : Does Try.prog 24 ps24 rs24 true d24 := fn_does mixed tabOK envOk24 Try.func24 r24 n24 l24 h24
theorem k24 : Callable Try.prog 24 := ⟨Try.f24, Try.func24, by kernel_rfl, by kernel_rfl⟩
theorem c24 : Contract Try.prog 24 sg24 := by rw [sg24]; exact Contract.of k24 does24

/-! skiarea/skiarealaw19.two -/
def env27 : Nat → Option Sig := fun _ => none

def ann27 : List LoopAnn := []
abbrev ps27 : List Ty := []
abbrev rs27 : List Ty := [.pair (.sl (.int .i64)) (.pair (.int .i64) (.sl (.pair (.int .i64) (.pair (.int .i64) (.int .i64)))))]
noncomputable def d27 : (pk ps27).den → Option (pk rs27).den := fnD tab env27 1 ann27 big Try.f27 [] ps27 rs27 true
noncomputable def sg27 : Sig := { ps := ps27, rs := rs27, own := true, φ := d27 }

theorem envOk27 : ∀ f sg, env27 f = some sg → Contract Try.prog f sg := by
  intro f sg h
  unfold env27 at h
  cases h
theorem h27 : ∀ x y, d27 x = some y → fnD tab env27 1 ann27 big Try.f27 [] ps27 rs27 true x = some y := fun x y h => by rw [d27] at h; exact h
theorem r27 : resOK tab Try.f27.results.toList rs27 = true := by kernel_rfl
theorem n27 : nodupB (Try.f27.results.toList.map rSlot) = true := by kernel_rfl
theorem l27 : ps27.length ≤ Try.f27.ntmps := of_decide_eq_true (by kernel_rfl)
theorem does27 : Does Try.prog 27 ps27 rs27 true d27 := fn_does mixed tabOK envOk27 Try.func27 r27 n27 l27 h27
theorem k27 : Callable Try.prog 27 := ⟨Try.f27, Try.func27, by kernel_rfl, by kernel_rfl⟩
theorem c27 : Contract Try.prog 27 sg27 := by rw [sg27]; exact Contract.of k27 does27

/-! skiarea/skiarealaw19.alive -/
noncomputable def env11 : Nat → Option Sig := fun n => match n with
  | 12 => some sg12
  | 14 => some sg14
  | 16 => some sg16
  | 17 => some sg17
  | 19 => some sg19
  | 20 => some sg20
  | 22 => some sg22
  | 24 => some sg24
  | 27 => some sg27
  | _ => none

def ann11 : List LoopAnn := []
abbrev ps11 : List Ty := []
abbrev rs11 : List Ty := [.bool]
noncomputable def d11 : (pk ps11).den → Option (pk rs11).den := fnD tab env11 12 ann11 big Try.f11 [] ps11 rs11 true
noncomputable def sg11 : Sig := { ps := ps11, rs := rs11, own := true, φ := d11 }

theorem envOk11 : ∀ f sg, env11 f = some sg → Contract Try.prog f sg := by
  intro f sg h
  unfold env11 at h
  split at h
  · injection h with h; subst h; exact c12
  · injection h with h; subst h; exact c14
  · injection h with h; subst h; exact c16
  · injection h with h; subst h; exact c17
  · injection h with h; subst h; exact c19
  · injection h with h; subst h; exact c20
  · injection h with h; subst h; exact c22
  · injection h with h; subst h; exact c24
  · injection h with h; subst h; exact c27
  · cases h
theorem h11 : ∀ x y, d11 x = some y → fnD tab env11 12 ann11 big Try.f11 [] ps11 rs11 true x = some y := fun x y h => by rw [d11] at h; exact h
theorem r11 : resOK tab Try.f11.results.toList rs11 = true := by kernel_rfl
theorem n11 : nodupB (Try.f11.results.toList.map rSlot) = true := by kernel_rfl
theorem l11 : ps11.length ≤ Try.f11.ntmps := of_decide_eq_true (by kernel_rfl)
theorem does11 : Does Try.prog 11 ps11 rs11 true d11 := fn_does mixed tabOK envOk11 Try.func11 r11 n11 l11 h11
theorem k11 : Callable Try.prog 11 := ⟨Try.f11, Try.func11, by kernel_rfl, by kernel_rfl⟩
theorem c11 : Contract Try.prog 11 sg11 := by rw [sg11]; exact Contract.of k11 does11

/-! skiarea/skiarearef19.in -/
def env29 : Nat → Option Sig := fun _ => none

def ann29 : List LoopAnn := []
abbrev ps29 : List Ty := [.int .i64, .int .i64, .int .i64]
abbrev rs29 : List Ty := [.bool]
noncomputable def d29 : (pk ps29).den → Option (pk rs29).den := fnD tab env29 7 ann29 big Try.f29 [] ps29 rs29 true
noncomputable def sg29 : Sig := { ps := ps29, rs := rs29, own := true, φ := d29 }

theorem envOk29 : ∀ f sg, env29 f = some sg → Contract Try.prog f sg := by
  intro f sg h
  unfold env29 at h
  cases h
theorem h29 : ∀ x y, d29 x = some y → fnD tab env29 7 ann29 big Try.f29 [] ps29 rs29 true x = some y := fun x y h => by rw [d29] at h; exact h
theorem r29 : resOK tab Try.f29.results.toList rs29 = true := by kernel_rfl
theorem n29 : nodupB (Try.f29.results.toList.map rSlot) = true := by kernel_rfl
theorem l29 : ps29.length ≤ Try.f29.ntmps := of_decide_eq_true (by kernel_rfl)
theorem does29 : Does Try.prog 29 ps29 rs29 true d29 := fn_does mixed tabOK envOk29 Try.func29 r29 n29 l29 h29
theorem k29 : Callable Try.prog 29 := ⟨Try.f29, Try.func29, by kernel_rfl, by kernel_rfl⟩
theorem c29 : Contract Try.prog 29 sg29 := by rw [sg29]; exact Contract.of k29 does29

/-! skiarea/skiarearef19.Has -/
def env30 : Nat → Option Sig := fun _ => none

def ann30 : List LoopAnn := [{ id := 2, live := [0, 1, 5], frz := [] }]
abbrev ps30 : List Ty := [.sl (.int .i64), .int .i64]
abbrev rs30 : List Ty := [.bool]
noncomputable def d30 : (pk ps30).den → Option (pk rs30).den := fnD tab env30 6 ann30 big Try.f30 [] ps30 rs30 true
noncomputable def sg30 : Sig := { ps := ps30, rs := rs30, own := true, φ := d30 }

theorem envOk30 : ∀ f sg, env30 f = some sg → Contract Try.prog f sg := by
  intro f sg h
  unfold env30 at h
  cases h
theorem h30 : ∀ x y, d30 x = some y → fnD tab env30 6 ann30 big Try.f30 [] ps30 rs30 true x = some y := fun x y h => by rw [d30] at h; exact h
theorem r30 : resOK tab Try.f30.results.toList rs30 = true := by kernel_rfl
theorem n30 : nodupB (Try.f30.results.toList.map rSlot) = true := by kernel_rfl
theorem l30 : ps30.length ≤ Try.f30.ntmps := of_decide_eq_true (by kernel_rfl)
theorem does30 : Does Try.prog 30 ps30 rs30 true d30 := fn_does mixed tabOK envOk30 Try.func30 r30 n30 l30 h30
theorem k30 : Callable Try.prog 30 := ⟨Try.f30, Try.func30, by kernel_rfl, by kernel_rfl⟩
theorem c30 : Contract Try.prog 30 sg30 := by rw [sg30]; exact Contract.of k30 does30

/-! skiarea/skiarearef19.Right -/
noncomputable def env13 : Nat → Option Sig := fun n => match n with
  | 29 => some sg29
  | 30 => some sg30
  | _ => none

def ann13 : List LoopAnn := [{ id := 6, live := [1, 3], frz := [] }, { id := 13, live := [1, 4], frz := [] }]
abbrev ps13 : List Ty := [.pair (.sl (.int .i64)) (.pair (.int .i64) (.sl (.pair (.int .i64) (.pair (.int .i64) (.int .i64)))))]
abbrev rs13 : List Ty := [.int .i64]
noncomputable def d13 : (pk ps13).den → Option (pk rs13).den := fnD tab env13 6 ann13 big Try.f13 [] ps13 rs13 true
noncomputable def sg13 : Sig := { ps := ps13, rs := rs13, own := true, φ := d13 }

theorem envOk13 : ∀ f sg, env13 f = some sg → Contract Try.prog f sg := by
  intro f sg h
  unfold env13 at h
  split at h
  · injection h with h; subst h; exact c29
  · injection h with h; subst h; exact c30
  · cases h
theorem h13 : ∀ x y, d13 x = some y → fnD tab env13 6 ann13 big Try.f13 [] ps13 rs13 true x = some y := fun x y h => by rw [d13] at h; exact h
theorem r13 : resOK tab Try.f13.results.toList rs13 = true := by kernel_rfl
theorem n13 : nodupB (Try.f13.results.toList.map rSlot) = true := by kernel_rfl
theorem l13 : ps13.length ≤ Try.f13.ntmps := of_decide_eq_true (by kernel_rfl)
theorem does13 : Does Try.prog 13 ps13 rs13 true d13 := fn_does mixed tabOK envOk13 Try.func13 r13 n13 l13 h13
theorem k13 : Callable Try.prog 13 := ⟨Try.f13, Try.func13, by kernel_rfl, by kernel_rfl⟩
theorem c13 : Contract Try.prog 13 sg13 := by rw [sg13]; exact Contract.of k13 does13

/-! skiarea/skiarealaw19.InspectChecks -/
noncomputable def env3 : Nat → Option Sig := fun n => match n with
  | 11 => some sg11
  | 12 => some sg12
  | 13 => some sg13
  | _ => none

def ann3 : List LoopAnn := []
abbrev ps3 : List Ty := [.pair (.sl (.int .i64)) (.pair (.int .i64) (.sl (.pair (.int .i64) (.pair (.int .i64) (.int .i64)))))]
abbrev rs3 : List Ty := [.bool]
noncomputable def d3 : (pk ps3).den → Option (pk rs3).den := fnD tab env3 3 ann3 big Try.f3 [] ps3 rs3 true
noncomputable def sg3 : Sig := { ps := ps3, rs := rs3, own := true, φ := d3 }

theorem envOk3 : ∀ f sg, env3 f = some sg → Contract Try.prog f sg := by
  intro f sg h
  unfold env3 at h
  split at h
  · injection h with h; subst h; exact c11
  · injection h with h; subst h; exact c12
  · injection h with h; subst h; exact c13
  · cases h
theorem h3 : ∀ x y, d3 x = some y → fnD tab env3 3 ann3 big Try.f3 [] ps3 rs3 true x = some y := fun x y h => by rw [d3] at h; exact h
theorem r3 : resOK tab Try.f3.results.toList rs3 = true := by kernel_rfl
theorem n3 : nodupB (Try.f3.results.toList.map rSlot) = true := by kernel_rfl
theorem l3 : ps3.length ≤ Try.f3.ntmps := of_decide_eq_true (by kernel_rfl)
theorem does3 : Does Try.prog 3 ps3 rs3 true d3 := fn_does mixed tabOK envOk3 Try.func3 r3 n3 l3 h3
theorem k3 : Callable Try.prog 3 := ⟨Try.f3, Try.func3, by kernel_rfl, by kernel_rfl⟩
theorem c3 : Contract Try.prog 3 sg3 := by rw [sg3]; exact Contract.of k3 does3

/-! skiarea/skiarearef19.Sign -/
noncomputable def env15 : Nat → Option Sig := fun n => match n with
  | 13 => some sg13
  | _ => none

def ann15 : List LoopAnn := [{ id := 3, live := [1, 2, 3, 4, 8, 10, 11], frz := [] }, { id := 7, live := [1, 2, 3, 4, 8, 10, 12], frz := [] }]
abbrev ps15 : List Ty := [.pair (.sl (.int .i64)) (.pair (.int .i64) (.sl (.pair (.int .i64) (.pair (.int .i64) (.int .i64))))), .int .i64, .int .i64, .int .i64]
abbrev rs15 : List Ty := [.pair (.sl (.int .i64)) (.pair (.int .i64) (.sl (.pair (.int .i64) (.pair (.int .i64) (.int .i64))))), .int .i64]
noncomputable def d15 : (pk ps15).den → Option (pk rs15).den := fnD tab env15 14 ann15 big Try.f15 [] ps15 rs15 true
noncomputable def sg15 : Sig := { ps := ps15, rs := rs15, own := true, φ := d15 }

theorem envOk15 : ∀ f sg, env15 f = some sg → Contract Try.prog f sg := by
  intro f sg h
  unfold env15 at h
  split at h
  · injection h with h; subst h; exact c13
  · cases h
theorem h15 : ∀ x y, d15 x = some y → fnD tab env15 14 ann15 big Try.f15 [] ps15 rs15 true x = some y := fun x y h => by rw [d15] at h; exact h
theorem r15 : resOK tab Try.f15.results.toList rs15 = true := by kernel_rfl
theorem n15 : nodupB (Try.f15.results.toList.map rSlot) = true := by kernel_rfl
theorem l15 : ps15.length ≤ Try.f15.ntmps := of_decide_eq_true (by kernel_rfl)
theorem does15 : Does Try.prog 15 ps15 rs15 true d15 := fn_does mixed tabOK envOk15 Try.func15 r15 n15 l15 h15
theorem k15 : Callable Try.prog 15 := ⟨Try.f15, Try.func15, by kernel_rfl, by kernel_rfl⟩
theorem c15 : Contract Try.prog 15 sg15 := by rw [sg15]; exact Contract.of k15 does15

/-! skiarea/skiarealaw19.InspectSigns -/
noncomputable def env4 : Nat → Option Sig := fun n => match n with
  | 11 => some sg11
  | 13 => some sg13
  | 14 => some sg14
  | 15 => some sg15
  | 16 => some sg16
  | _ => none

def ann4 : List LoopAnn := []
abbrev ps4 : List Ty := [.pair (.sl (.int .i64)) (.pair (.int .i64) (.sl (.pair (.int .i64) (.pair (.int .i64) (.int .i64))))), .int .i64, .int .i64, .int .i64]
abbrev rs4 : List Ty := [.bool]
noncomputable def d4 : (pk ps4).den → Option (pk rs4).den := fnD tab env4 13 ann4 big Try.f4 [] ps4 rs4 true
noncomputable def sg4 : Sig := { ps := ps4, rs := rs4, own := true, φ := d4 }

theorem envOk4 : ∀ f sg, env4 f = some sg → Contract Try.prog f sg := by
  intro f sg h
  unfold env4 at h
  split at h
  · injection h with h; subst h; exact c11
  · injection h with h; subst h; exact c13
  · injection h with h; subst h; exact c14
  · injection h with h; subst h; exact c15
  · injection h with h; subst h; exact c16
  · cases h
theorem h4 : ∀ x y, d4 x = some y → fnD tab env4 13 ann4 big Try.f4 [] ps4 rs4 true x = some y := fun x y h => by rw [d4] at h; exact h
theorem r4 : resOK tab Try.f4.results.toList rs4 = true := by kernel_rfl
theorem n4 : nodupB (Try.f4.results.toList.map rSlot) = true := by kernel_rfl
theorem l4 : ps4.length ≤ Try.f4.ntmps := of_decide_eq_true (by kernel_rfl)
theorem does4 : Does Try.prog 4 ps4 rs4 true d4 := fn_does mixed tabOK envOk4 Try.func4 r4 n4 l4 h4
theorem k4 : Callable Try.prog 4 := ⟨Try.f4, Try.func4, by kernel_rfl, by kernel_rfl⟩
theorem c4 : Contract Try.prog 4 sg4 := by rw [sg4]; exact Contract.of k4 does4

/-! skiarea/skiarearef19.Last -/
def env18 : Nat → Option Sig := fun _ => none

def ann18 : List LoopAnn := [{ id := 2, live := [1, 2, 3, 6, 8], frz := [] }]
abbrev ps18 : List Ty := [.pair (.sl (.int .i64)) (.pair (.int .i64) (.sl (.pair (.int .i64) (.pair (.int .i64) (.int .i64))))), .int .i64, .int .i64]
abbrev rs18 : List Ty := [.pair (.int .i64) (.pair (.int .i64) (.int .i64)), .bool]
noncomputable def d18 : (pk ps18).den → Option (pk rs18).den := fnD tab env18 9 ann18 big Try.f18 [] ps18 rs18 true
noncomputable def sg18 : Sig := { ps := ps18, rs := rs18, own := true, φ := d18 }

theorem envOk18 : ∀ f sg, env18 f = some sg → Contract Try.prog f sg := by
  intro f sg h
  unfold env18 at h
  cases h
theorem h18 : ∀ x y, d18 x = some y → fnD tab env18 9 ann18 big Try.f18 [] ps18 rs18 true x = some y := fun x y h => by rw [d18] at h; exact h
theorem r18 : resOK tab Try.f18.results.toList rs18 = true := by kernel_rfl
theorem n18 : nodupB (Try.f18.results.toList.map rSlot) = true := by kernel_rfl
theorem l18 : ps18.length ≤ Try.f18.ntmps := of_decide_eq_true (by kernel_rfl)
theorem does18 : Does Try.prog 18 ps18 rs18 true d18 := fn_does mixed tabOK envOk18 Try.func18 r18 n18 l18 h18
theorem k18 : Callable Try.prog 18 := ⟨Try.f18, Try.func18, by kernel_rfl, by kernel_rfl⟩
theorem c18 : Contract Try.prog 18 sg18 := by rw [sg18]; exact Contract.of k18 does18

/-! skiarea/skiarealaw19.InspectLast -/
noncomputable def env5 : Nat → Option Sig := fun n => match n with
  | 11 => some sg11
  | 13 => some sg13
  | 17 => some sg17
  | 18 => some sg18
  | _ => none

def ann5 : List LoopAnn := []
abbrev ps5 : List Ty := [.pair (.sl (.int .i64)) (.pair (.int .i64) (.sl (.pair (.int .i64) (.pair (.int .i64) (.int .i64))))), .int .i64, .int .i64]
abbrev rs5 : List Ty := [.bool]
noncomputable def d5 : (pk ps5).den → Option (pk rs5).den := fnD tab env5 11 ann5 big Try.f5 [] ps5 rs5 true
noncomputable def sg5 : Sig := { ps := ps5, rs := rs5, own := true, φ := d5 }

theorem envOk5 : ∀ f sg, env5 f = some sg → Contract Try.prog f sg := by
  intro f sg h
  unfold env5 at h
  split at h
  · injection h with h; subst h; exact c11
  · injection h with h; subst h; exact c13
  · injection h with h; subst h; exact c17
  · injection h with h; subst h; exact c18
  · cases h
theorem h5 : ∀ x y, d5 x = some y → fnD tab env5 11 ann5 big Try.f5 [] ps5 rs5 true x = some y := fun x y h => by rw [d5] at h; exact h
theorem r5 : resOK tab Try.f5.results.toList rs5 = true := by kernel_rfl
theorem n5 : nodupB (Try.f5.results.toList.map rSlot) = true := by kernel_rfl
theorem l5 : ps5.length ≤ Try.f5.ntmps := of_decide_eq_true (by kernel_rfl)
theorem does5 : Does Try.prog 5 ps5 rs5 true d5 := fn_does mixed tabOK envOk5 Try.func5 r5 n5 l5 h5
theorem k5 : Callable Try.prog 5 := ⟨Try.f5, Try.func5, by kernel_rfl, by kernel_rfl⟩
theorem c5 : Contract Try.prog 5 sg5 := by rw [sg5]; exact Contract.of k5 does5

/-! skiarea/skiarearef19.end -/
def env35 : Nat → Option Sig := fun _ => none

def ann35 : List LoopAnn := [{ id := 3, live := [1, 2, 3, 7, 8], frz := [] }]
abbrev ps35 : List Ty := [.pair (.sl (.int .i64)) (.pair (.int .i64) (.sl (.pair (.int .i64) (.pair (.int .i64) (.int .i64))))), .int .i64, .int .i64]
abbrev rs35 : List Ty := [.int .i64]
noncomputable def d35 : (pk ps35).den → Option (pk rs35).den := fnD tab env35 10 ann35 big Try.f35 [] ps35 rs35 true
noncomputable def sg35 : Sig := { ps := ps35, rs := rs35, own := true, φ := d35 }

theorem envOk35 : ∀ f sg, env35 f = some sg → Contract Try.prog f sg := by
  intro f sg h
  unfold env35 at h
  cases h
theorem h35 : ∀ x y, d35 x = some y → fnD tab env35 10 ann35 big Try.f35 [] ps35 rs35 true x = some y := fun x y h => by rw [d35] at h; exact h
theorem r35 : resOK tab Try.f35.results.toList rs35 = true := by kernel_rfl
theorem n35 : nodupB (Try.f35.results.toList.map rSlot) = true := by kernel_rfl
theorem l35 : ps35.length ≤ Try.f35.ntmps := of_decide_eq_true (by kernel_rfl)
theorem does35 : Does Try.prog 35 ps35 rs35 true d35 := fn_does mixed tabOK envOk35 Try.func35 r35 n35 l35 h35
theorem k35 : Callable Try.prog 35 := ⟨Try.f35, Try.func35, by kernel_rfl, by kernel_rfl⟩
theorem c35 : Contract Try.prog 35 sg35 := by rw [sg35]; exact Contract.of k35 does35

/-! skiarea/skiarearef19.Open -/
noncomputable def env21 : Nat → Option Sig := fun n => match n with
  | 35 => some sg35
  | _ => none

def ann21 : List LoopAnn := [{ id := 3, live := [1, 2, 5, 6], frz := [] }]
abbrev ps21 : List Ty := [.pair (.sl (.int .i64)) (.pair (.int .i64) (.sl (.pair (.int .i64) (.pair (.int .i64) (.int .i64))))), .int .i64]
abbrev rs21 : List Ty := [.sl (.int .i64)]
noncomputable def d21 : (pk ps21).den → Option (pk rs21).den := fnD tab env21 7 ann21 big Try.f21 [] ps21 rs21 true
noncomputable def sg21 : Sig := { ps := ps21, rs := rs21, own := true, φ := d21 }

theorem envOk21 : ∀ f sg, env21 f = some sg → Contract Try.prog f sg := by
  intro f sg h
  unfold env21 at h
  split at h
  · injection h with h; subst h; exact c35
  · cases h
theorem h21 : ∀ x y, d21 x = some y → fnD tab env21 7 ann21 big Try.f21 [] ps21 rs21 true x = some y := fun x y h => by rw [d21] at h; exact h
theorem r21 : resOK tab Try.f21.results.toList rs21 = true := by kernel_rfl
theorem n21 : nodupB (Try.f21.results.toList.map rSlot) = true := by kernel_rfl
theorem l21 : ps21.length ≤ Try.f21.ntmps := of_decide_eq_true (by kernel_rfl)
theorem does21 : Does Try.prog 21 ps21 rs21 true d21 := fn_does mixed tabOK envOk21 Try.func21 r21 n21 l21 h21
theorem k21 : Callable Try.prog 21 := ⟨Try.f21, Try.func21, by kernel_rfl, by kernel_rfl⟩
theorem c21 : Contract Try.prog 21 sg21 := by rw [sg21]; exact Contract.of k21 does21

/-! skiarea/skiarearef19.Done -/
noncomputable def env23 : Nat → Option Sig := fun n => match n with
  | 21 => some sg21
  | _ => none

def ann23 : List LoopAnn := []
abbrev ps23 : List Ty := [.pair (.sl (.int .i64)) (.pair (.int .i64) (.sl (.pair (.int .i64) (.pair (.int .i64) (.int .i64))))), .int .i64]
abbrev rs23 : List Ty := [.bool]
noncomputable def d23 : (pk ps23).den → Option (pk rs23).den := fnD tab env23 5 ann23 big Try.f23 [] ps23 rs23 true
noncomputable def sg23 : Sig := { ps := ps23, rs := rs23, own := true, φ := d23 }

theorem envOk23 : ∀ f sg, env23 f = some sg → Contract Try.prog f sg := by
  intro f sg h
  unfold env23 at h
  split at h
  · injection h with h; subst h; exact c21
  · cases h
theorem h23 : ∀ x y, d23 x = some y → fnD tab env23 5 ann23 big Try.f23 [] ps23 rs23 true x = some y := fun x y h => by rw [d23] at h; exact h
theorem r23 : resOK tab Try.f23.results.toList rs23 = true := by kernel_rfl
theorem n23 : nodupB (Try.f23.results.toList.map rSlot) = true := by kernel_rfl
theorem l23 : ps23.length ≤ Try.f23.ntmps := of_decide_eq_true (by kernel_rfl)
theorem does23 : Does Try.prog 23 ps23 rs23 true d23 := fn_does mixed tabOK envOk23 Try.func23 r23 n23 l23 h23
theorem k23 : Callable Try.prog 23 := ⟨Try.f23, Try.func23, by kernel_rfl, by kernel_rfl⟩
theorem c23 : Contract Try.prog 23 sg23 := by rw [sg23]; exact Contract.of k23 does23

/-! skiarea/skiarealaw19.InspectOpen -/
noncomputable def env6 : Nat → Option Sig := fun n => match n with
  | 11 => some sg11
  | 13 => some sg13
  | 19 => some sg19
  | 20 => some sg20
  | 21 => some sg21
  | 22 => some sg22
  | 23 => some sg23
  | _ => none

def ann6 : List LoopAnn := []
abbrev ps6 : List Ty := [.pair (.sl (.int .i64)) (.pair (.int .i64) (.sl (.pair (.int .i64) (.pair (.int .i64) (.int .i64))))), .int .i64]
abbrev rs6 : List Ty := [.bool]
noncomputable def d6 : (pk ps6).den → Option (pk rs6).den := fnD tab env6 5 ann6 big Try.f6 [] ps6 rs6 true
noncomputable def sg6 : Sig := { ps := ps6, rs := rs6, own := true, φ := d6 }

theorem envOk6 : ∀ f sg, env6 f = some sg → Contract Try.prog f sg := by
  intro f sg h
  unfold env6 at h
  split at h
  · injection h with h; subst h; exact c11
  · injection h with h; subst h; exact c13
  · injection h with h; subst h; exact c19
  · injection h with h; subst h; exact c20
  · injection h with h; subst h; exact c21
  · injection h with h; subst h; exact c22
  · injection h with h; subst h; exact c23
  · cases h
theorem h6 : ∀ x y, d6 x = some y → fnD tab env6 5 ann6 big Try.f6 [] ps6 rs6 true x = some y := fun x y h => by rw [d6] at h; exact h
theorem r6 : resOK tab Try.f6.results.toList rs6 = true := by kernel_rfl
theorem n6 : nodupB (Try.f6.results.toList.map rSlot) = true := by kernel_rfl
theorem l6 : ps6.length ≤ Try.f6.ntmps := of_decide_eq_true (by kernel_rfl)
theorem does6 : Does Try.prog 6 ps6 rs6 true d6 := fn_does mixed tabOK envOk6 Try.func6 r6 n6 l6 h6
theorem k6 : Callable Try.prog 6 := ⟨Try.f6, Try.func6, by kernel_rfl, by kernel_rfl⟩
theorem c6 : Contract Try.prog 6 sg6 := by rw [sg6]; exact Contract.of k6 does6

/-! skiarea/skiarearef19.Until -/
noncomputable def env25 : Nat → Option Sig := fun n => match n with
  | 23 => some sg23
  | 35 => some sg35
  | _ => none

def ann25 : List LoopAnn := [{ id := 6, live := [2, 5], frz := [] }, { id := 9, live := [2, 5, 6, 7], frz := [] }]
abbrev ps25 : List Ty := [.pair (.sl (.int .i64)) (.pair (.int .i64) (.sl (.pair (.int .i64) (.pair (.int .i64) (.int .i64))))), .int .i64]
abbrev rs25 : List Ty := [.int .i64]
noncomputable def d25 : (pk ps25).den → Option (pk rs25).den := fnD tab env25 8 ann25 big Try.f25 [] ps25 rs25 true
noncomputable def sg25 : Sig := { ps := ps25, rs := rs25, own := true, φ := d25 }

theorem envOk25 : ∀ f sg, env25 f = some sg → Contract Try.prog f sg := by
  intro f sg h
  unfold env25 at h
  split at h
  · injection h with h; subst h; exact c23
  · injection h with h; subst h; exact c35
  · cases h
theorem h25 : ∀ x y, d25 x = some y → fnD tab env25 8 ann25 big Try.f25 [] ps25 rs25 true x = some y := fun x y h => by rw [d25] at h; exact h
theorem r25 : resOK tab Try.f25.results.toList rs25 = true := by kernel_rfl
theorem n25 : nodupB (Try.f25.results.toList.map rSlot) = true := by kernel_rfl
theorem l25 : ps25.length ≤ Try.f25.ntmps := of_decide_eq_true (by kernel_rfl)
theorem does25 : Does Try.prog 25 ps25 rs25 true d25 := fn_does mixed tabOK envOk25 Try.func25 r25 n25 l25 h25
theorem k25 : Callable Try.prog 25 := ⟨Try.f25, Try.func25, by kernel_rfl, by kernel_rfl⟩
theorem c25 : Contract Try.prog 25 sg25 := by rw [sg25]; exact Contract.of k25 does25

/-! skiarea/skiarealaw19.InspectUntils -/
noncomputable def env7 : Nat → Option Sig := fun n => match n with
  | 11 => some sg11
  | 13 => some sg13
  | 24 => some sg24
  | 25 => some sg25
  | _ => none

def ann7 : List LoopAnn := []
abbrev ps7 : List Ty := [.pair (.sl (.int .i64)) (.pair (.int .i64) (.sl (.pair (.int .i64) (.pair (.int .i64) (.int .i64))))), .int .i64]
abbrev rs7 : List Ty := [.bool]
noncomputable def d7 : (pk ps7).den → Option (pk rs7).den := fnD tab env7 5 ann7 big Try.f7 [] ps7 rs7 true
noncomputable def sg7 : Sig := { ps := ps7, rs := rs7, own := true, φ := d7 }

theorem envOk7 : ∀ f sg, env7 f = some sg → Contract Try.prog f sg := by
  intro f sg h
  unfold env7 at h
  split at h
  · injection h with h; subst h; exact c11
  · injection h with h; subst h; exact c13
  · injection h with h; subst h; exact c24
  · injection h with h; subst h; exact c25
  · cases h
theorem h7 : ∀ x y, d7 x = some y → fnD tab env7 5 ann7 big Try.f7 [] ps7 rs7 true x = some y := fun x y h => by rw [d7] at h; exact h
theorem r7 : resOK tab Try.f7.results.toList rs7 = true := by kernel_rfl
theorem n7 : nodupB (Try.f7.results.toList.map rSlot) = true := by kernel_rfl
theorem l7 : ps7.length ≤ Try.f7.ntmps := of_decide_eq_true (by kernel_rfl)
theorem does7 : Does Try.prog 7 ps7 rs7 true d7 := fn_does mixed tabOK envOk7 Try.func7 r7 n7 l7 h7
theorem k7 : Callable Try.prog 7 := ⟨Try.f7, Try.func7, by kernel_rfl, by kernel_rfl⟩
theorem c7 : Contract Try.prog 7 sg7 := by rw [sg7]; exact Contract.of k7 does7

/-! skiarea/skiarealaw19.InspectUntil -/
noncomputable def env8 : Nat → Option Sig := fun n => match n with
  | 11 => some sg11
  | 12 => some sg12
  | 22 => some sg22
  | 24 => some sg24
  | _ => none

def ann8 : List LoopAnn := []
abbrev ps8 : List Ty := [.pair (.sl (.int .i64)) (.pair (.int .i64) (.sl (.pair (.int .i64) (.pair (.int .i64) (.int .i64))))), .int .i64, .int .i64]
abbrev rs8 : List Ty := [.bool]
noncomputable def d8 : (pk ps8).den → Option (pk rs8).den := fnD tab env8 8 ann8 big Try.f8 [] ps8 rs8 true
noncomputable def sg8 : Sig := { ps := ps8, rs := rs8, own := true, φ := d8 }

theorem envOk8 : ∀ f sg, env8 f = some sg → Contract Try.prog f sg := by
  intro f sg h
  unfold env8 at h
  split at h
  · injection h with h; subst h; exact c11
  · injection h with h; subst h; exact c12
  · injection h with h; subst h; exact c22
  · injection h with h; subst h; exact c24
  · cases h
theorem h8 : ∀ x y, d8 x = some y → fnD tab env8 8 ann8 big Try.f8 [] ps8 rs8 true x = some y := fun x y h => by rw [d8] at h; exact h
theorem r8 : resOK tab Try.f8.results.toList rs8 = true := by kernel_rfl
theorem n8 : nodupB (Try.f8.results.toList.map rSlot) = true := by kernel_rfl
theorem l8 : ps8.length ≤ Try.f8.ntmps := of_decide_eq_true (by kernel_rfl)
theorem does8 : Does Try.prog 8 ps8 rs8 true d8 := fn_does mixed tabOK envOk8 Try.func8 r8 n8 l8 h8
theorem k8 : Callable Try.prog 8 := ⟨Try.f8, Try.func8, by kernel_rfl, by kernel_rfl⟩
theorem c8 : Contract Try.prog 8 sg8 := by rw [sg8]; exact Contract.of k8 does8

/-! skiarea/skiarealaw19.has -/
def env26 : Nat → Option Sig := fun _ => none

def ann26 : List LoopAnn := [{ id := 2, live := [0, 1, 5], frz := [] }]
abbrev ps26 : List Ty := [.sl (.int .i64), .int .i64]
abbrev rs26 : List Ty := [.bool]
noncomputable def d26 : (pk ps26).den → Option (pk rs26).den := fnD tab env26 6 ann26 big Try.f26 [] ps26 rs26 true
noncomputable def sg26 : Sig := { ps := ps26, rs := rs26, own := true, φ := d26 }

theorem envOk26 : ∀ f sg, env26 f = some sg → Contract Try.prog f sg := by
  intro f sg h
  unfold env26 at h
  cases h
theorem h26 : ∀ x y, d26 x = some y → fnD tab env26 6 ann26 big Try.f26 [] ps26 rs26 true x = some y := fun x y h => by rw [d26] at h; exact h
theorem r26 : resOK tab Try.f26.results.toList rs26 = true := by kernel_rfl
theorem n26 : nodupB (Try.f26.results.toList.map rSlot) = true := by kernel_rfl
theorem l26 : ps26.length ≤ Try.f26.ntmps := of_decide_eq_true (by kernel_rfl)
theorem does26 : Does Try.prog 26 ps26 rs26 true d26 := fn_does mixed tabOK envOk26 Try.func26 r26 n26 l26 h26
theorem k26 : Callable Try.prog 26 := ⟨Try.f26, Try.func26, by kernel_rfl, by kernel_rfl⟩
theorem c26 : Contract Try.prog 26 sg26 := by rw [sg26]; exact Contract.of k26 does26

/-! skiarea/skiarealaw19.InspectSigned -/
noncomputable def env9 : Nat → Option Sig := fun n => match n with
  | 11 => some sg11
  | 12 => some sg12
  | 14 => some sg14
  | 20 => some sg20
  | 26 => some sg26
  | _ => none

def ann9 : List LoopAnn := [{ id := 14, live := [1, 5, 13, 14, 15], frz := [] }]
abbrev ps9 : List Ty := [.pair (.sl (.int .i64)) (.pair (.int .i64) (.sl (.pair (.int .i64) (.pair (.int .i64) (.int .i64))))), .int .i64, .int .i64, .int .i64, .int .i64]
abbrev rs9 : List Ty := [.bool]
noncomputable def d9 : (pk ps9).den → Option (pk rs9).den := fnD tab env9 17 ann9 big Try.f9 [] ps9 rs9 true
noncomputable def sg9 : Sig := { ps := ps9, rs := rs9, own := true, φ := d9 }

theorem envOk9 : ∀ f sg, env9 f = some sg → Contract Try.prog f sg := by
  intro f sg h
  unfold env9 at h
  split at h
  · injection h with h; subst h; exact c11
  · injection h with h; subst h; exact c12
  · injection h with h; subst h; exact c14
  · injection h with h; subst h; exact c20
  · injection h with h; subst h; exact c26
  · cases h
theorem h9 : ∀ x y, d9 x = some y → fnD tab env9 17 ann9 big Try.f9 [] ps9 rs9 true x = some y := fun x y h => by rw [d9] at h; exact h
theorem r9 : resOK tab Try.f9.results.toList rs9 = true := by kernel_rfl
theorem n9 : nodupB (Try.f9.results.toList.map rSlot) = true := by kernel_rfl
theorem l9 : ps9.length ≤ Try.f9.ntmps := of_decide_eq_true (by kernel_rfl)
theorem does9 : Does Try.prog 9 ps9 rs9 true d9 := fn_does mixed tabOK envOk9 Try.func9 r9 n9 l9 h9
theorem k9 : Callable Try.prog 9 := ⟨Try.f9, Try.func9, by kernel_rfl, by kernel_rfl⟩
theorem c9 : Contract Try.prog 9 sg9 := by rw [sg9]; exact Contract.of k9 does9

/-! skiarea/skiarealaw19.InspectAll -/
noncomputable def env10 : Nat → Option Sig := fun n => match n with
  | 11 => some sg11
  | 12 => some sg12
  | 14 => some sg14
  | 20 => some sg20
  | 22 => some sg22
  | 24 => some sg24
  | _ => none

def ann10 : List LoopAnn := [{ id := 6, live := [1, 2, 3, 7], frz := [] }, { id := 13, live := [1, 2, 8, 9, 10], frz := [] }]
abbrev ps10 : List Ty := [.pair (.sl (.int .i64)) (.pair (.int .i64) (.sl (.pair (.int .i64) (.pair (.int .i64) (.int .i64))))), .int .i64, .int .i64]
abbrev rs10 : List Ty := [.bool]
noncomputable def d10 : (pk ps10).den → Option (pk rs10).den := fnD tab env10 13 ann10 big Try.f10 [] ps10 rs10 true
noncomputable def sg10 : Sig := { ps := ps10, rs := rs10, own := true, φ := d10 }

theorem envOk10 : ∀ f sg, env10 f = some sg → Contract Try.prog f sg := by
  intro f sg h
  unfold env10 at h
  split at h
  · injection h with h; subst h; exact c11
  · injection h with h; subst h; exact c12
  · injection h with h; subst h; exact c14
  · injection h with h; subst h; exact c20
  · injection h with h; subst h; exact c22
  · injection h with h; subst h; exact c24
  · cases h
theorem h10 : ∀ x y, d10 x = some y → fnD tab env10 13 ann10 big Try.f10 [] ps10 rs10 true x = some y := fun x y h => by rw [d10] at h; exact h
theorem r10 : resOK tab Try.f10.results.toList rs10 = true := by kernel_rfl
theorem n10 : nodupB (Try.f10.results.toList.map rSlot) = true := by kernel_rfl
theorem l10 : ps10.length ≤ Try.f10.ntmps := of_decide_eq_true (by kernel_rfl)
theorem does10 : Does Try.prog 10 ps10 rs10 true d10 := fn_does mixed tabOK envOk10 Try.func10 r10 n10 l10 h10
theorem k10 : Callable Try.prog 10 := ⟨Try.f10, Try.func10, by kernel_rfl, by kernel_rfl⟩
theorem c10 : Contract Try.prog 10 sg10 := by rw [sg10]; exact Contract.of k10 does10

theorem alive : d11 () = some true := by kernel_rfl
end Go.Proofs.Ytbldhkgfeolhnaa.D
