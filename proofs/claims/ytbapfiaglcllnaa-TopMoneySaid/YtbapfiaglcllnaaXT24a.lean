import Derived.Test.YtbapfiaglcllnaaProg
import Derived.Test.YtbapfiaglcllnaaChecked
import Derived.Test.YtbapfiaglcllnaaGD29
import Derived.Test.YtbapfiaglcllnaaGDD
import Derived.Test.YtbapfiaglcllnaaGDW
import Derived.Test.YtbapfiaglcllnaaGDK
import Derived.Test.YtbapfiaglcllnaaGDE
open Go Go.GD Go.Proofs
namespace Go.Proofs.Ytbapfiaglcllnaa.D
def tab : List TE := [
  { id := 2, ty := .int .i64, flds := [], elem := 0, arr := false, bytes := 8 },
  { id := 3, ty := .int .i64, flds := [], elem := 0, arr := false, bytes := 8 },
  { id := 4, ty := .bool, flds := [], elem := 0, arr := false, bytes := 1, eqs := true },
  { id := 5, ty := .int .u8, flds := [], elem := 0, arr := false, bytes := 1 },
  { id := 6, ty := .int .u8, flds := [], elem := 0, arr := false, bytes := 1 },
  { id := 7, ty := .pair (.int .i64) (.pair (.int .i64) (.pair (.bool) (.int .u8))), flds := [(0, 2), (1, 3), (2, 4), (3, 6)], elem := 0, arr := false, bytes := 24 },
  { id := 8, ty := .pair (.int .i64) (.pair (.int .i64) (.pair (.bool) (.int .u8))), flds := [(0, 2), (1, 3), (2, 4), (3, 6)], elem := 0, arr := false, bytes := 24 },
  { id := 9, ty := .str, flds := [], elem := 0, arr := false, bytes := 16 },
  { id := 10, ty := .str, flds := [], elem := 0, arr := false, bytes := 16 },
  { id := 11, ty := .str, flds := [], elem := 0, arr := false, bytes := 16 },
  { id := 12, ty := .int .u64, flds := [], elem := 0, arr := false, bytes := 8 },
  { id := 13, ty := .pair (.str) (.int .u64), flds := [(0, 9), (1, 12)], elem := 0, arr := false, bytes := 24 },
  { id := 14, ty := .pair (.str) (.int .u64), flds := [(0, 9), (1, 12)], elem := 0, arr := false, bytes := 24 },
  { id := 21, ty := .int .i32, flds := [], elem := 0, arr := false, bytes := 4 },
  { id := 22, ty := .sl (.int .i64), flds := [], elem := 3, arr := false, bytes := 24 },
  { id := 24, ty := .sl (.pair (.int .i64) (.pair (.int .i64) (.pair (.int .i64) (.pair (.int .i64) (.pair (.int .i64) (.pair (.int .i64) (.int .i64))))))), flds := [], elem := 40, arr := false, bytes := 24 },
  { id := 26, ty := .sl (.int .u8), flds := [], elem := 5, arr := false, bytes := 24 },
  { id := 27, ty := .int .i64, flds := [], elem := 0, arr := false, bytes := 8 },
  { id := 33, ty := .pair (.int .i64) (.pair (.int .i64) (.sl (.pair (.int .i64) (.pair (.int .i64) (.pair (.int .i64) (.pair (.int .i64) (.pair (.int .i64) (.pair (.int .i64) (.int .i64))))))))), flds := [(0, 3), (1, 3), (2, 24)], elem := 0, arr := false, bytes := 40 },
  { id := 34, ty := .pair (.int .i64) (.pair (.int .i64) (.sl (.pair (.int .i64) (.pair (.int .i64) (.pair (.int .i64) (.pair (.int .i64) (.pair (.int .i64) (.pair (.int .i64) (.int .i64))))))))), flds := [(0, 3), (1, 3), (2, 24)], elem := 0, arr := false, bytes := 40 },
  { id := 35, ty := .pair (.int .i64) (.pair (.int .i64) (.pair (.sl (.pair (.int .i64) (.pair (.int .i64) (.pair (.int .i64) (.pair (.int .i64) (.pair (.int .i64) (.pair (.int .i64) (.int .i64)))))))) (.sl (.pair (.int .i64) (.pair (.int .i64) (.pair (.int .i64) (.pair (.int .i64) (.pair (.int .i64) (.pair (.int .i64) (.int .i64)))))))))), flds := [(0, 3), (1, 3), (2, 24), (3, 24)], elem := 0, arr := false, bytes := 64 },
  { id := 36, ty := .pair (.int .i64) (.pair (.int .i64) (.pair (.sl (.pair (.int .i64) (.pair (.int .i64) (.pair (.int .i64) (.pair (.int .i64) (.pair (.int .i64) (.pair (.int .i64) (.int .i64)))))))) (.sl (.pair (.int .i64) (.pair (.int .i64) (.pair (.int .i64) (.pair (.int .i64) (.pair (.int .i64) (.pair (.int .i64) (.int .i64)))))))))), flds := [(0, 3), (1, 3), (2, 24), (3, 24)], elem := 0, arr := false, bytes := 64 },
  { id := 39, ty := .pair (.int .i64) (.pair (.int .i64) (.pair (.int .i64) (.pair (.int .i64) (.pair (.int .i64) (.pair (.int .i64) (.int .i64)))))), flds := [(0, 3), (1, 3), (2, 3), (3, 3), (4, 3), (5, 3), (6, 3)], elem := 0, arr := false, bytes := 56 },
  { id := 40, ty := .pair (.int .i64) (.pair (.int .i64) (.pair (.int .i64) (.pair (.int .i64) (.pair (.int .i64) (.pair (.int .i64) (.int .i64)))))), flds := [(0, 3), (1, 3), (2, 3), (3, 3), (4, 3), (5, 3), (6, 3)], elem := 0, arr := false, bytes := 56, eqs := true },
  { id := 50, ty := .sl (.pair (.int .i64) (.int .i64)), flds := [], elem := 104, arr := false, bytes := 24 },
  { id := 51, ty := .sl (.pair (.int .i64) (.pair (.int .i64) (.int .i64))), flds := [], elem := 110, arr := false, bytes := 24 },
  { id := 52, ty := .sl (.pair (.int .i64) (.pair (.int .i64) (.pair (.int .i64) (.int .i64)))), flds := [], elem := 123, arr := false, bytes := 24 },
  { id := 53, ty := .sl (.pair (.int .i64) (.sl (.int .i64))), flds := [], elem := 59, arr := false, bytes := 24 },
  { id := 58, ty := .pair (.int .i64) (.sl (.int .i64)), flds := [(0, 3), (1, 22)], elem := 0, arr := false, bytes := 32 },
  { id := 59, ty := .pair (.int .i64) (.sl (.int .i64)), flds := [(0, 3), (1, 22)], elem := 0, arr := false, bytes := 32 },
  { id := 69, ty := .int .u64, flds := [], elem := 0, arr := false, bytes := 8 },
  { id := 82, ty := .pair (.int .i64) (.int .i64), flds := [(0, 3), (1, 3)], elem := 0, arr := false, bytes := 16 },
  { id := 83, ty := .pair (.int .i64) (.int .i64), flds := [(0, 3), (1, 3)], elem := 0, arr := false, bytes := 16 },
  { id := 87, ty := .pair (.int .i64) (.pair (.int .i64) (.pair (.bool) (.sl (.int .i64)))), flds := [(0, 3), (1, 3), (2, 4), (3, 22)], elem := 0, arr := false, bytes := 48 },
  { id := 88, ty := .pair (.int .i64) (.pair (.int .i64) (.pair (.bool) (.sl (.int .i64)))), flds := [(0, 3), (1, 3), (2, 4), (3, 22)], elem := 0, arr := false, bytes := 48 },
  { id := 89, ty := .sl (.pair (.int .i64) (.pair (.int .i64) (.pair (.bool) (.sl (.int .i64))))), flds := [], elem := 88, arr := false, bytes := 24 },
  { id := 90, ty := .sl (.pair (.int .i64) (.pair (.int .i64) (.pair (.int .i64) (.int .i64)))), flds := [], elem := 186, arr := false, bytes := 24 },
  { id := 92, ty := .sl (.bool), flds := [], elem := 4, arr := false, bytes := 24 },
  { id := 93, ty := .sl (.pair (.int .i64) (.pair (.int .i64) (.pair (.int .i64) (.int .i64)))), flds := [], elem := 154, arr := false, bytes := 24 },
  { id := 96, ty := .pair (.int .i64) (.pair (.int .i64) (.int .i64)), flds := [(0, 3), (1, 3), (2, 3)], elem := 0, arr := false, bytes := 24 },
  { id := 97, ty := .pair (.int .i64) (.pair (.int .i64) (.int .i64)), flds := [(0, 3), (1, 3), (2, 3)], elem := 0, arr := false, bytes := 24 },
  { id := 98, ty := .sl (.pair (.int .i64) (.pair (.int .i64) (.int .i64))), flds := [], elem := 97, arr := false, bytes := 24 },
  { id := 101, ty := .sl (.sl (.int .i64)), flds := [], elem := 22, arr := false, bytes := 24 },
  { id := 103, ty := .pair (.int .i64) (.int .i64), flds := [(0, 3), (1, 3)], elem := 0, arr := false, bytes := 16 },
  { id := 104, ty := .pair (.int .i64) (.int .i64), flds := [(0, 3), (1, 3)], elem := 0, arr := false, bytes := 16 },
  { id := 109, ty := .pair (.int .i64) (.pair (.int .i64) (.int .i64)), flds := [(0, 3), (1, 3), (2, 3)], elem := 0, arr := false, bytes := 24 },
  { id := 110, ty := .pair (.int .i64) (.pair (.int .i64) (.int .i64)), flds := [(0, 3), (1, 3), (2, 3)], elem := 0, arr := false, bytes := 24 },
  { id := 114, ty := .pair (.int .i64) (.int .i64), flds := [(0, 3), (1, 3)], elem := 0, arr := false, bytes := 16 },
  { id := 115, ty := .pair (.int .i64) (.int .i64), flds := [(0, 3), (1, 3)], elem := 0, arr := false, bytes := 16 },
  { id := 116, ty := .pair (.pair (.int .i64) (.int .i64)) (.pair (.pair (.int .i64) (.int .i64)) (.pair (.pair (.int .i64) (.int .i64)) (.pair (.pair (.int .i64) (.int .i64)) (.pair (.pair (.int .i64) (.int .i64)) (.pair (.pair (.int .i64) (.int .i64)) (.pair (.pair (.int .i64) (.int .i64)) (.pair (.pair (.int .i64) (.int .i64)) (.pair (.int .i64) (.int .i64))))))))), flds := [(0, 115), (2, 115), (4, 115), (6, 115), (8, 115), (10, 115), (12, 115), (14, 115), (16, 115)], elem := 115, arr := true, bytes := 144 },
  { id := 122, ty := .pair (.int .i64) (.pair (.int .i64) (.pair (.int .i64) (.int .i64))), flds := [(0, 3), (1, 3), (2, 3), (3, 3)], elem := 0, arr := false, bytes := 32 },
  { id := 123, ty := .pair (.int .i64) (.pair (.int .i64) (.pair (.int .i64) (.int .i64))), flds := [(0, 3), (1, 3), (2, 3), (3, 3)], elem := 0, arr := false, bytes := 32 },
  { id := 129, ty := .pair (.int .i64) (.pair (.int .i64) (.pair (.int .i64) (.pair (.int .i64) (.pair (.int .i64) (.pair (.int .i64) (.int .i64)))))), flds := [(0, 3), (1, 3), (2, 3), (3, 3), (4, 3), (5, 3), (6, 3)], elem := 3, arr := true, bytes := 56 },
  { id := 134, ty := .unit, flds := [], elem := 0, arr := false, bytes := 0 },
  { id := 135, ty := .unit, flds := [], elem := 0, arr := false, bytes := 0 },
  { id := 142, ty := .int .u64, flds := [], elem := 0, arr := false, bytes := 8 },
  { id := 144, ty := .sl (.sl (.bool)), flds := [], elem := 92, arr := false, bytes := 24 },
  { id := 145, ty := .pair (.sl (.pair (.int .i64) (.pair (.int .i64) (.pair (.bool) (.sl (.int .i64)))))) (.pair (.sl (.bool)) (.pair (.sl (.sl (.bool))) (.pair (.sl (.pair (.int .i64) (.pair (.int .i64) (.pair (.int .i64) (.int .i64))))) (.pair (.sl (.pair (.int .i64) (.pair (.int .i64) (.pair (.int .i64) (.int .i64))))) (.int .i64))))), flds := [(0, 89), (1, 92), (2, 144), (3, 90), (4, 90), (5, 3)], elem := 0, arr := false, bytes := 128 },
  { id := 146, ty := .pair (.sl (.pair (.int .i64) (.pair (.int .i64) (.pair (.bool) (.sl (.int .i64)))))) (.pair (.sl (.bool)) (.pair (.sl (.sl (.bool))) (.pair (.sl (.pair (.int .i64) (.pair (.int .i64) (.pair (.int .i64) (.int .i64))))) (.pair (.sl (.pair (.int .i64) (.pair (.int .i64) (.pair (.int .i64) (.int .i64))))) (.int .i64))))), flds := [(0, 89), (1, 92), (2, 144), (3, 90), (4, 90), (5, 3)], elem := 0, arr := false, bytes := 128 },
  { id := 152, ty := .pair (.int .i64) (.pair (.int .i64) (.pair (.int .i64) (.int .i64))), flds := [(0, 3), (1, 3), (2, 3), (3, 3)], elem := 3, arr := true, bytes := 32 },
  { id := 153, ty := .pair (.int .i64) (.pair (.int .i64) (.pair (.int .i64) (.int .i64))), flds := [(0, 3), (1, 3), (2, 3), (3, 3)], elem := 0, arr := false, bytes := 32 },
  { id := 154, ty := .pair (.int .i64) (.pair (.int .i64) (.pair (.int .i64) (.int .i64))), flds := [(0, 3), (1, 3), (2, 3), (3, 3)], elem := 0, arr := false, bytes := 32 },
  { id := 168, ty := .int .u32, flds := [], elem := 0, arr := false, bytes := 4 },
  { id := 175, ty := .int .i64, flds := [], elem := 0, arr := false, bytes := 8 },
  { id := 185, ty := .pair (.int .i64) (.pair (.int .i64) (.pair (.int .i64) (.int .i64))), flds := [(0, 3), (1, 3), (2, 3), (3, 3)], elem := 0, arr := false, bytes := 32 },
  { id := 186, ty := .pair (.int .i64) (.pair (.int .i64) (.pair (.int .i64) (.int .i64))), flds := [(0, 3), (1, 3), (2, 3), (3, 3)], elem := 0, arr := false, bytes := 32 },
  { id := 196, ty := .pair (.int .u32) (.pair (.int .u32) (.pair (.int .u32) (.pair (.int .u32) (.pair (.int .u32) (.pair (.int .u32) (.pair (.int .u32) (.pair (.int .u32) (.pair (.int .u32) (.pair (.int .u32) (.pair (.int .u32) (.pair (.int .u32) (.pair (.int .u32) (.pair (.int .u32) (.pair (.int .u32) (.int .u32))))))))))))))), flds := [(0, 168), (1, 168), (2, 168), (3, 168), (4, 168), (5, 168), (6, 168), (7, 168), (8, 168), (9, 168), (10, 168), (11, 168), (12, 168), (13, 168), (14, 168), (15, 168)], elem := 168, arr := true, bytes := 64 },
  { id := 199, ty := .int .u64, flds := [], elem := 0, arr := false, bytes := 8 },
  { id := 220, ty := .int .u8, flds := [], elem := 0, arr := false, bytes := 1 },
  { id := 221, ty := .int .u8, flds := [], elem := 0, arr := false, bytes := 1 },
  { id := 224, ty := .int .i32, flds := [], elem := 0, arr := false, bytes := 4 },
  { id := 225, ty := .int .i32, flds := [], elem := 0, arr := false, bytes := 4 }]
def big : Nat := 18446744073709551616
theorem tabOK : TabOK Try.prog tab := by
  show tab.all (checkTE Try.prog tab) = true
  kernel_rfl
theorem mixed : Try.prog.follows .mixedOrders = true := Checked.mixed Try.checked
theorem k58 : Callable Try.prog 58 := ⟨Try.f58, Try.func58, by kernel_rfl, by kernel_rfl⟩
def env96 : Nat → Option Sig := fun _ => none
def ann96 : List LoopAnn := [{ id := 2, live := [0, 1, 7, 8], frz := [] }]
abbrev ps96 : List Ty := [.sl (.pair (.int .i64) (.pair (.int .i64) (.pair (.int .i64) (.int .i64)))), .fn (.pair (.int .i64) (.pair (.int .i64) (.pair (.int .i64) (.int .i64)))) (.bool)]
abbrev rs96 : List Ty := [.int .i64]
noncomputable def d96 : (pk ps96).den → Option (pk rs96).den := fnK tab env96 6 ann96 big Try.f96 [] ps96 rs96 true
noncomputable def sg96 : Sig := { ps := ps96, rs := rs96, own := true, φ := d96 }
theorem envOk96 : ∀ f sg, env96 f = some sg → Contract Try.prog f sg := by
  intro f sg h
  unfold env96 at h
  cases h
theorem l96 : ps96.length ≤ Try.f96.ntmps := of_decide_eq_true (by kernel_rfl)
theorem h96 : ∀ x y, d96 x = some y → fnD tab env96 6 ann96 big Try.f96 [] ps96 rs96 true x = some y := fun x y h => by rw [d96, ← fnK_eq l96] at h; exact h
theorem r96 : resOK tab Try.f96.results.toList rs96 = true := by kernel_rfl
theorem n96 : nodupB (Try.f96.results.toList.map rSlot) = true := by kernel_rfl
theorem does96 : Does Try.prog 96 ps96 rs96 true d96 := fn_does mixed tabOK envOk96 Try.func96 r96 n96 l96 h96
theorem k96 : Callable Try.prog 96 := ⟨Try.f96, Try.func96, by kernel_rfl, by kernel_rfl⟩
theorem c96 : Contract Try.prog 96 sg96 := by rw [sg96]; exact Contract.of k96 does96
noncomputable def env60 : Nat → Option Sig := fun n => match n with
  | 96 => some sg96
  | _ => none
def ann60 : List LoopAnn := []
abbrev ps60 : List Ty := [.sl (.pair (.int .i64) (.pair (.int .i64) (.pair (.int .i64) (.int .i64)))), .fn (.pair (.int .i64) (.pair (.int .i64) (.pair (.int .i64) (.int .i64)))) (.bool)]
abbrev rs60 : List Ty := [.bool]
noncomputable def d60 : (pk ps60).den → Option (pk rs60).den := fnK tab env60 5 ann60 big Try.f60 [] ps60 rs60 true
noncomputable def sg60 : Sig := { ps := ps60, rs := rs60, own := true, φ := d60 }
theorem envOk60 : ∀ f sg, env60 f = some sg → Contract Try.prog f sg := by
  intro f sg h
  unfold env60 at h
  split at h
  · injection h with h; subst h; exact c96
  · cases h
theorem l60 : ps60.length ≤ Try.f60.ntmps := of_decide_eq_true (by kernel_rfl)
theorem h60 : ∀ x y, d60 x = some y → fnD tab env60 5 ann60 big Try.f60 [] ps60 rs60 true x = some y := fun x y h => by rw [d60, ← fnK_eq l60] at h; exact h
theorem r60 : resOK tab Try.f60.results.toList rs60 = true := by kernel_rfl
theorem n60 : nodupB (Try.f60.results.toList.map rSlot) = true := by kernel_rfl
theorem does60 : Does Try.prog 60 ps60 rs60 true d60 := fn_does mixed tabOK envOk60 Try.func60 r60 n60 l60 h60
theorem k60 : Callable Try.prog 60 := ⟨Try.f60, Try.func60, by kernel_rfl, by kernel_rfl⟩
theorem c60 : Contract Try.prog 60 sg60 := by rw [sg60]; exact Contract.of k60 does60
def env61 : Nat → Option Sig := fun _ => none
def ann61 : List LoopAnn := []
abbrev ps61 : List Ty := [.pair (.int .i64) (.pair (.int .i64) (.pair (.int .i64) (.int .i64))), .ptr (.pair (.int .i64) (.pair (.int .i64) (.pair (.int .i64) (.int .i64))))]
abbrev rs61 : List Ty := [.bool]
noncomputable def d61 : (pk ps61).den → Option (pk rs61).den := fnK tab env61 4 ann61 big Try.f61 [] ps61 rs61 true
noncomputable def sg61 : Sig := { ps := ps61, rs := rs61, own := true, φ := d61 }
theorem envOk61 : ∀ f sg, env61 f = some sg → Contract Try.prog f sg := by
  intro f sg h
  unfold env61 at h
  cases h
theorem l61 : ps61.length ≤ Try.f61.ntmps := of_decide_eq_true (by kernel_rfl)
theorem h61 : ∀ x y, d61 x = some y → fnD tab env61 4 ann61 big Try.f61 [] ps61 rs61 true x = some y := fun x y h => by rw [d61, ← fnK_eq l61] at h; exact h
theorem r61 : resOK tab Try.f61.results.toList rs61 = true := by kernel_rfl
theorem n61 : nodupB (Try.f61.results.toList.map rSlot) = true := by kernel_rfl
theorem does61 : Does Try.prog 61 ps61 rs61 true d61 := fn_does mixed tabOK envOk61 Try.func61 r61 n61 l61 h61
theorem k61 : Callable Try.prog 61 := ⟨Try.f61, Try.func61, by kernel_rfl, by kernel_rfl⟩
theorem c61 : Contract Try.prog 61 sg61 := by rw [sg61]; exact Contract.of k61 does61
noncomputable def env22 : Nat → Option Sig := fun n => match n with
  | 60 => some sg60
  | 61 => some sg61
  | _ => none
def ann22 : List LoopAnn := [{ id := 6, live := [0, 1, 2, 24, 25], frz := [] }, { id := 12, live := [2, 55, 56, 57], frz := [] }]
abbrev ps22 : List Ty := [.sl (.int .i64), .sl (.int .i64), .sl (.pair (.int .i64) (.pair (.int .i64) (.pair (.int .i64) (.int .i64))))]
abbrev rs22 : List Ty := [.int .i64]
noncomputable def d22 : (pk ps22).den → Option (pk rs22).den := fnK tab env22 10 ann22 big Try.f22 [] ps22 rs22 true
noncomputable def sg22 : Sig := { ps := ps22, rs := rs22, own := true, φ := d22 }
theorem envOk22 : ∀ f sg, env22 f = some sg → Contract Try.prog f sg := by
  intro f sg h
  unfold env22 at h
  split at h
  · injection h with h; subst h; exact c60
  · injection h with h; subst h; exact c61
  · cases h
theorem l22 : ps22.length ≤ Try.f22.ntmps := of_decide_eq_true (by kernel_rfl)
theorem h22 : ∀ x y, d22 x = some y → fnD tab env22 10 ann22 big Try.f22 [] ps22 rs22 true x = some y := fun x y h => by rw [d22, ← fnK_eq l22] at h; exact h
theorem r22 : resOK tab Try.f22.results.toList rs22 = true := by kernel_rfl
theorem n22 : nodupB (Try.f22.results.toList.map rSlot) = true := by kernel_rfl
theorem does22 : Does Try.prog 22 ps22 rs22 true d22 := fn_does mixed tabOK envOk22 Try.func22 r22 n22 l22 h22
theorem k22 : Callable Try.prog 22 := ⟨Try.f22, Try.func22, by kernel_rfl, by kernel_rfl⟩
theorem c22 : Contract Try.prog 22 sg22 := by rw [sg22]; exact Contract.of k22 does22
def env95 : Nat → Option Sig := fun _ => none
def ann95 : List LoopAnn := [{ id := 3, live := [1, 2, 3, 7, 10, 11, 12], frz := [] }]
abbrev ps95 : List Ty := [.pair (.int .i64) (.pair (.int .i64) (.pair (.int .i64) (.int .i64))), .sl (.int .i64), .sl (.int .i64)]
abbrev rs95 : List Ty := [.bool]
noncomputable def d95 : (pk ps95).den → Option (pk rs95).den := fnK tab env95 10 ann95 big Try.f95 [] ps95 rs95 true
noncomputable def sg95 : Sig := { ps := ps95, rs := rs95, own := true, φ := d95 }
theorem envOk95 : ∀ f sg, env95 f = some sg → Contract Try.prog f sg := by
  intro f sg h
  unfold env95 at h
  cases h
theorem l95 : ps95.length ≤ Try.f95.ntmps := of_decide_eq_true (by kernel_rfl)
theorem h95 : ∀ x y, d95 x = some y → fnD tab env95 10 ann95 big Try.f95 [] ps95 rs95 true x = some y := fun x y h => by rw [d95, ← fnK_eq l95] at h; exact h
theorem r95 : resOK tab Try.f95.results.toList rs95 = true := by kernel_rfl
theorem n95 : nodupB (Try.f95.results.toList.map rSlot) = true := by kernel_rfl
theorem does95 : Does Try.prog 95 ps95 rs95 true d95 := fn_does mixed tabOK envOk95 Try.func95 r95 n95 l95 h95
theorem k95 : Callable Try.prog 95 := ⟨Try.f95, Try.func95, by kernel_rfl, by kernel_rfl⟩
theorem c95 : Contract Try.prog 95 sg95 := by rw [sg95]; exact Contract.of k95 does95
noncomputable def env59 : Nat → Option Sig := fun n => match n with
  | 95 => some sg95
  | _ => none
def ann59 : List LoopAnn := [{ id := 3, live := [0, 1, 2, 3, 8, 11, 19, 20], frz := [] }, { id := 12, live := [0, 8, 11, 13, 14, 15, 42, 43, 44], frz := [] }]
abbrev ps59 : List Ty := [.sl (.int .i64), .sl (.int .i64), .sl (.pair (.int .i64) (.pair (.int .i64) (.pair (.int .i64) (.int .i64)))), .int .i64]
abbrev rs59 : List Ty := [.pair (.int .i64) (.sl (.int .i64)), .int .i64, .bool]
noncomputable def d59 : (pk ps59).den → Option (pk rs59).den := fnK tab env59 18 ann59 big Try.f59 [] ps59 rs59 true
theorem envOk59 : ∀ f sg, env59 f = some sg → Contract Try.prog f sg := by
  intro f sg h
  unfold env59 at h
  split at h
  · injection h with h; subst h; exact c95
  · cases h
theorem l59 : ps59.length ≤ Try.f59.ntmps := of_decide_eq_true (by kernel_rfl)
theorem h59 : ∀ x y, d59 x = some y → fnD tab env59 18 ann59 big Try.f59 [] ps59 rs59 true x = some y := fun x y h => by rw [d59, ← fnK_eq l59] at h; exact h
theorem r59 : resOK tab Try.f59.results.toList rs59 = true := by kernel_rfl
theorem n59 : nodupB (Try.f59.results.toList.map rSlot) = true := by kernel_rfl
theorem does59 : Does Try.prog 59 ps59 rs59 true d59 := fn_does mixed tabOK envOk59 Try.func59 r59 n59 l59 h59
theorem k59 : Callable Try.prog 59 := ⟨Try.f59, Try.func59, by kernel_rfl, by kernel_rfl⟩
noncomputable def env62 : Nat → Option Sig := fun n => match n with
  | 95 => some sg95
  | _ => none
def ann62 : List LoopAnn := [{ id := 6, live := [0, 7, 26, 27, 28], frz := [] }]
abbrev ps62 : List Ty := [.sl (.int .i64), .sl (.int .i64), .sl (.pair (.int .i64) (.pair (.int .i64) (.pair (.int .i64) (.int .i64)))), .pair (.int .i64) (.sl (.int .i64))]
abbrev rs62 : List Ty := [.int .i64, .bool]
noncomputable def d62 : (pk ps62).den → Option (pk rs62).den := fnK tab env62 12 ann62 big Try.f62 [] ps62 rs62 true
noncomputable def sg62 : Sig := { ps := ps62, rs := rs62, own := true, φ := d62 }
theorem envOk62 : ∀ f sg, env62 f = some sg → Contract Try.prog f sg := by
  intro f sg h
  unfold env62 at h
  split at h
  · injection h with h; subst h; exact c95
  · cases h
theorem l62 : ps62.length ≤ Try.f62.ntmps := of_decide_eq_true (by kernel_rfl)
theorem h62 : ∀ x y, d62 x = some y → fnD tab env62 12 ann62 big Try.f62 [] ps62 rs62 true x = some y := fun x y h => by rw [d62, ← fnK_eq l62] at h; exact h
theorem r62 : resOK tab Try.f62.results.toList rs62 = true := by kernel_rfl
theorem n62 : nodupB (Try.f62.results.toList.map rSlot) = true := by kernel_rfl
theorem does62 : Does Try.prog 62 ps62 rs62 true d62 := fn_does mixed tabOK envOk62 Try.func62 r62 n62 l62 h62
theorem k62 : Callable Try.prog 62 := ⟨Try.f62, Try.func62, by kernel_rfl, by kernel_rfl⟩
theorem c62 : Contract Try.prog 62 sg62 := by rw [sg62]; exact Contract.of k62 does62
def env116 : Nat → Option Sig := fun _ => none
def ann116 : List LoopAnn := [{ id := 3, live := [0, 1, 2, 7, 13, 14, 15], frz := [] }]
abbrev ps116 : List Ty := [.int .i64, .int .i64]
abbrev rs116 : List Ty := [.int .i64]
abbrev tB116 : Ty := .pair (.sl (.pair (.int .i64) (.pair (.int .i64) (.pair (.bool) (.sl (.int .i64)))))) (.pair (.sl (.bool)) (.pair (.sl (.sl (.bool))) (.pair (.sl (.pair (.int .i64) (.pair (.int .i64) (.pair (.int .i64) (.int .i64))))) (.pair (.sl (.pair (.int .i64) (.pair (.int .i64) (.pair (.int .i64) (.int .i64))))) (.int .i64)))))
def bm116 : List Mk := [.shr, .shr, .shr, .own, .own, .shr]
abbrev F116 : Type := tB116.den → (pk ps116).den → Option (tB116.den × (pk rs116).den)
def bx116 : Nat → Option BxSig := fun _ => none
noncomputable def d116 : F116 := fnKB tab env116 bx116 10 ann116 big Try.f116 tB116 bm116 ps116 rs116
noncomputable def sg116 : BxSig := { t := tB116, bm := bm116, ps := ps116, rs := rs116, φ := d116 }
theorem envOk116 : ∀ f sg, env116 f = some sg → Contract Try.prog f sg := by
  intro f sg h
  unfold env116 at h
  cases h
theorem bxOk116 : ∀ f b, bx116 f = some b → BxContract Try.prog f b := by
  intro f b h
  unfold bx116 at h
  cases h
theorem r116 : resOK tab Try.f116.results.toList rs116 = true := by kernel_rfl
theorem n116 : nodupB (Try.f116.results.toList.map rSlot) = true := by kernel_rfl
theorem k116 : Callable Try.prog 116 := ⟨Try.f116, Try.func116, by kernel_rfl, by kernel_rfl⟩
theorem l116 : ps116.length + 1 ≤ Try.f116.ntmps := of_decide_eq_true (by kernel_rfl)
theorem z116 : memNat (Try.f116.results.toList.map rSlot) 0 = false := by kernel_rfl
theorem p116 : plainMarks bm116 = true := by kernel_rfl
theorem h116 : ∀ x y r, d116 x y = some r → fnB tab env116 bx116 10 ann116 big Try.f116 tB116 bm116 ps116 rs116 x y = some r := fun x y r h => by
  rw [fnKB_eq l116]; exact h
theorem c116 : BxContract Try.prog 116 sg116 := by
  rw [sg116]; exact BxContract.of k116 p116 (fn_boxP mixed tabOK envOk116 bxOk116 Try.func116 r116 n116 z116 l116 p116 h116)
def env79 : Nat → Option Sig := fun _ => none
def ann79 : List LoopAnn := [{ id := 5, live := [0, 1, 2, 3, 37, 38, 39], frz := [] }, { id := 9, live := [0, 1, 2, 3, 8, 9, 37, 38, 39, 56, 57, 58], frz := [] }]
abbrev ps79 : List Ty := [.int .i64, .int .i64, .int .i64]
abbrev rs79 : List Ty := []
abbrev tB79 : Ty := .pair (.sl (.pair (.int .i64) (.pair (.int .i64) (.pair (.bool) (.sl (.int .i64)))))) (.pair (.sl (.bool)) (.pair (.sl (.sl (.bool))) (.pair (.sl (.pair (.int .i64) (.pair (.int .i64) (.pair (.int .i64) (.int .i64))))) (.pair (.sl (.pair (.int .i64) (.pair (.int .i64) (.pair (.int .i64) (.int .i64))))) (.int .i64)))))
def bm79 : List Mk := [.shr, .shr, .shr, .own, .own, .shr]
abbrev F79 : Type := tB79.den → (pk ps79).den → Option (tB79.den × (pk rs79).den)
noncomputable def bx79 (φ : F79) : Nat → Option BxSig := fun n => match n with
  | 79 => some { t := tB79, bm := bm79, ps := ps79, rs := rs79, φ := φ }
  | 116 => some sg116
  | _ => none
noncomputable def d79 (n : Nat) : F79 := Nat.rec (fun _ _ => none) (fun _ φ => fnKB tab env79 (bx79 φ) 13 ann79 big Try.f79 tB79 bm79 ps79 rs79) n
noncomputable def sg79n (n : Nat) : BxSig := { t := tB79, bm := bm79, ps := ps79, rs := rs79, φ := d79 n }
noncomputable def sg79 : BxSig := sg79n 64
theorem envOk79 : ∀ f sg, env79 f = some sg → Contract Try.prog f sg := by
  intro f sg h
  unfold env79 at h
  cases h
theorem bxOk79 (φ : F79) (hφ : BxContract Try.prog 79 { t := tB79, bm := bm79, ps := ps79, rs := rs79, φ := φ }) : ∀ f b, bx79 φ f = some b → BxContract Try.prog f b := by
  intro f b h
  unfold bx79 at h
  split at h
  · injection h with h; subst h; exact hφ
  · injection h with h; subst h; exact c116
  · cases h
theorem r79 : resOK tab Try.f79.results.toList rs79 = true := by kernel_rfl
theorem n79 : nodupB (Try.f79.results.toList.map rSlot) = true := by kernel_rfl
theorem k79 : Callable Try.prog 79 := ⟨Try.f79, Try.func79, by kernel_rfl, by kernel_rfl⟩
theorem l79 : ps79.length + 1 ≤ Try.f79.ntmps := of_decide_eq_true (by kernel_rfl)
theorem z79 : memNat (Try.f79.results.toList.map rSlot) 0 = false := by kernel_rfl
theorem p79 : plainMarks bm79 = true := by kernel_rfl
theorem h79 (n : Nat) : ∀ x y r, d79 (n + 1) x y = some r → fnB tab env79 (bx79 (d79 n)) 13 ann79 big Try.f79 tB79 bm79 ps79 rs79 x y = some r := fun x y r h => by
  rw [fnKB_eq l79]; exact h
theorem c79n (n : Nat) : BxContract Try.prog 79 (sg79n n) := by
  induction n with
  | zero => rw [sg79n]; exact BxContract.of k79 p79 (BoxDoes.none fun _ _ => rfl)
  | succ n ih => rw [sg79n] at ih ⊢; exact BxContract.of k79 p79 (fn_boxP mixed tabOK envOk79 (bxOk79 (d79 n) ih) Try.func79 r79 n79 z79 l79 p79 (h79 n))
theorem c79 : BxContract Try.prog 79 sg79 := c79n 64
def env97 : Nat → Option Sig := fun _ => none
def ann97 : List LoopAnn := [{ id := 2, live := [0, 1, 7, 8], frz := [] }]
abbrev ps97 : List Ty := [.sl (.bool), .bool]
abbrev rs97 : List Ty := [.int .i64]
noncomputable def d97 : (pk ps97).den → Option (pk rs97).den := fnK tab env97 6 ann97 big Try.f97 [] ps97 rs97 true
noncomputable def sg97 : Sig := { ps := ps97, rs := rs97, own := true, φ := d97 }
theorem envOk97 : ∀ f sg, env97 f = some sg → Contract Try.prog f sg := by
  intro f sg h
  unfold env97 at h
  cases h
theorem l97 : ps97.length ≤ Try.f97.ntmps := of_decide_eq_true (by kernel_rfl)
theorem h97 : ∀ x y, d97 x = some y → fnD tab env97 6 ann97 big Try.f97 [] ps97 rs97 true x = some y := fun x y h => by rw [d97, ← fnK_eq l97] at h; exact h
theorem r97 : resOK tab Try.f97.results.toList rs97 = true := by kernel_rfl
theorem n97 : nodupB (Try.f97.results.toList.map rSlot) = true := by kernel_rfl
theorem does97 : Does Try.prog 97 ps97 rs97 true d97 := fn_does mixed tabOK envOk97 Try.func97 r97 n97 l97 h97
theorem k97 : Callable Try.prog 97 := ⟨Try.f97, Try.func97, by kernel_rfl, by kernel_rfl⟩
theorem c97 : Contract Try.prog 97 sg97 := by rw [sg97]; exact Contract.of k97 does97
noncomputable def env63 : Nat → Option Sig := fun n => match n with
  | 97 => some sg97
  | _ => none
def ann63 : List LoopAnn := []
abbrev ps63 : List Ty := [.sl (.bool), .bool]
abbrev rs63 : List Ty := [.bool]
noncomputable def d63 : (pk ps63).den → Option (pk rs63).den := fnK tab env63 5 ann63 big Try.f63 [] ps63 rs63 true
noncomputable def sg63 : Sig := { ps := ps63, rs := rs63, own := true, φ := d63 }
theorem envOk63 : ∀ f sg, env63 f = some sg → Contract Try.prog f sg := by
  intro f sg h
  unfold env63 at h
  split at h
  · injection h with h; subst h; exact c97
  · cases h
theorem l63 : ps63.length ≤ Try.f63.ntmps := of_decide_eq_true (by kernel_rfl)
theorem h63 : ∀ x y, d63 x = some y → fnD tab env63 5 ann63 big Try.f63 [] ps63 rs63 true x = some y := fun x y h => by rw [d63, ← fnK_eq l63] at h; exact h
theorem r63 : resOK tab Try.f63.results.toList rs63 = true := by kernel_rfl
theorem n63 : nodupB (Try.f63.results.toList.map rSlot) = true := by kernel_rfl
theorem does63 : Does Try.prog 63 ps63 rs63 true d63 := fn_does mixed tabOK envOk63 Try.func63 r63 n63 l63 h63
theorem k63 : Callable Try.prog 63 := ⟨Try.f63, Try.func63, by kernel_rfl, by kernel_rfl⟩
theorem c63 : Contract Try.prog 63 sg63 := by rw [sg63]; exact Contract.of k63 does63
def env137 : Nat → Option Sig := fun _ => none
def ann137 : List LoopAnn := [{ id := 2, live := [0, 1, 7, 8], frz := [] }]
abbrev ps137 : List Ty := [.sl (.pair (.int .i64) (.pair (.int .i64) (.pair (.bool) (.sl (.int .i64))))), .fn (.pair (.int .i64) (.pair (.int .i64) (.pair (.bool) (.sl (.int .i64))))) (.bool)]
abbrev rs137 : List Ty := [.int .i64]
noncomputable def d137 : (pk ps137).den → Option (pk rs137).den := fnK tab env137 6 ann137 big Try.f137 [] ps137 rs137 true
noncomputable def sg137 : Sig := { ps := ps137, rs := rs137, own := true, φ := d137 }
theorem envOk137 : ∀ f sg, env137 f = some sg → Contract Try.prog f sg := by
  intro f sg h
  unfold env137 at h
  cases h
theorem l137 : ps137.length ≤ Try.f137.ntmps := of_decide_eq_true (by kernel_rfl)
theorem h137 : ∀ x y, d137 x = some y → fnD tab env137 6 ann137 big Try.f137 [] ps137 rs137 true x = some y := fun x y h => by rw [d137, ← fnK_eq l137] at h; exact h
theorem r137 : resOK tab Try.f137.results.toList rs137 = true := by kernel_rfl
theorem n137 : nodupB (Try.f137.results.toList.map rSlot) = true := by kernel_rfl
theorem does137 : Does Try.prog 137 ps137 rs137 true d137 := fn_does mixed tabOK envOk137 Try.func137 r137 n137 l137 h137
theorem k137 : Callable Try.prog 137 := ⟨Try.f137, Try.func137, by kernel_rfl, by kernel_rfl⟩
theorem c137 : Contract Try.prog 137 sg137 := by rw [sg137]; exact Contract.of k137 does137
def env138 : Nat → Option Sig := fun _ => none
def ann138 : List LoopAnn := []
abbrev ps138 : List Ty := [.pair (.int .i64) (.pair (.int .i64) (.pair (.bool) (.sl (.int .i64)))), .ptr (.int .i64)]
abbrev rs138 : List Ty := [.bool]
noncomputable def d138 : (pk ps138).den → Option (pk rs138).den := fnK tab env138 4 ann138 big Try.f138 [] ps138 rs138 true
noncomputable def sg138 : Sig := { ps := ps138, rs := rs138, own := true, φ := d138 }
theorem envOk138 : ∀ f sg, env138 f = some sg → Contract Try.prog f sg := by
  intro f sg h
  unfold env138 at h
  cases h
theorem l138 : ps138.length ≤ Try.f138.ntmps := of_decide_eq_true (by kernel_rfl)
theorem h138 : ∀ x y, d138 x = some y → fnD tab env138 4 ann138 big Try.f138 [] ps138 rs138 true x = some y := fun x y h => by rw [d138, ← fnK_eq l138] at h; exact h
theorem r138 : resOK tab Try.f138.results.toList rs138 = true := by kernel_rfl
theorem n138 : nodupB (Try.f138.results.toList.map rSlot) = true := by kernel_rfl
theorem does138 : Does Try.prog 138 ps138 rs138 true d138 := fn_does mixed tabOK envOk138 Try.func138 r138 n138 l138 h138
theorem k138 : Callable Try.prog 138 := ⟨Try.f138, Try.func138, by kernel_rfl, by kernel_rfl⟩
theorem c138 : Contract Try.prog 138 sg138 := by rw [sg138]; exact Contract.of k138 does138
noncomputable def env115 : Nat → Option Sig := fun n => match n with
  | 137 => some sg137
  | 138 => some sg138
  | _ => none
def ann115 : List LoopAnn := []
abbrev ps115 : List Ty := [.sl (.pair (.int .i64) (.pair (.int .i64) (.pair (.bool) (.sl (.int .i64))))), .int .i64]
abbrev rs115 : List Ty := [.int .i64]
noncomputable def d115 : (pk ps115).den → Option (pk rs115).den := fnK tab env115 5 ann115 big Try.f115 [] ps115 rs115 true
noncomputable def sg115 : Sig := { ps := ps115, rs := rs115, own := true, φ := d115 }
theorem envOk115 : ∀ f sg, env115 f = some sg → Contract Try.prog f sg := by
  intro f sg h
  unfold env115 at h
  split at h
  · injection h with h; subst h; exact c137
  · injection h with h; subst h; exact c138
  · cases h
theorem l115 : ps115.length ≤ Try.f115.ntmps := of_decide_eq_true (by kernel_rfl)
theorem h115 : ∀ x y, d115 x = some y → fnD tab env115 5 ann115 big Try.f115 [] ps115 rs115 true x = some y := fun x y h => by rw [d115, ← fnK_eq l115] at h; exact h
theorem r115 : resOK tab Try.f115.results.toList rs115 = true := by kernel_rfl
theorem n115 : nodupB (Try.f115.results.toList.map rSlot) = true := by kernel_rfl
theorem does115 : Does Try.prog 115 ps115 rs115 true d115 := fn_does mixed tabOK envOk115 Try.func115 r115 n115 l115 h115
theorem k115 : Callable Try.prog 115 := ⟨Try.f115, Try.func115, by kernel_rfl, by kernel_rfl⟩
theorem c115 : Contract Try.prog 115 sg115 := by rw [sg115]; exact Contract.of k115 does115
noncomputable def env77 : Nat → Option Sig := fun n => match n with
  | 63 => some sg63
  | 115 => some sg115
  | _ => none
def ann77 : List LoopAnn := [{ id := 6, live := [0, 1, 18, 19, 20], frz := [] }]
abbrev ps77 : List Ty := [.sl (.pair (.int .i64) (.pair (.int .i64) (.pair (.bool) (.sl (.int .i64))))), .sl (.bool)]
abbrev rs77 : List Ty := [.int .i64]
noncomputable def d77 : (pk ps77).den → Option (pk rs77).den := fnK tab env77 7 ann77 big Try.f77 [] ps77 rs77 true
theorem envOk77 : ∀ f sg, env77 f = some sg → Contract Try.prog f sg := by
  intro f sg h
  unfold env77 at h
  split at h
  · injection h with h; subst h; exact c63
  · injection h with h; subst h; exact c115
  · cases h
theorem l77 : ps77.length ≤ Try.f77.ntmps := of_decide_eq_true (by kernel_rfl)
theorem h77 : ∀ x y, d77 x = some y → fnD tab env77 7 ann77 big Try.f77 [] ps77 rs77 true x = some y := fun x y h => by rw [d77, ← fnK_eq l77] at h; exact h
theorem r77 : resOK tab Try.f77.results.toList rs77 = true := by kernel_rfl
theorem n77 : nodupB (Try.f77.results.toList.map rSlot) = true := by kernel_rfl
theorem does77 : Does Try.prog 77 ps77 rs77 true d77 := fn_does mixed tabOK envOk77 Try.func77 r77 n77 l77 h77
theorem k77 : Callable Try.prog 77 := ⟨Try.f77, Try.func77, by kernel_rfl, by kernel_rfl⟩
def env119 : Nat → Option Sig := fun _ => none
def ann119 : List LoopAnn := [{ id := 2, live := [0, 1, 7, 8], frz := [] }]
abbrev ps119 : List Ty := [.sl (.int .i64), .int .i64]
abbrev rs119 : List Ty := [.int .i64]
noncomputable def d119 : (pk ps119).den → Option (pk rs119).den := fnK tab env119 6 ann119 big Try.f119 [] ps119 rs119 true
noncomputable def sg119 : Sig := { ps := ps119, rs := rs119, own := true, φ := d119 }
theorem envOk119 : ∀ f sg, env119 f = some sg → Contract Try.prog f sg := by
  intro f sg h
  unfold env119 at h
  cases h
theorem l119 : ps119.length ≤ Try.f119.ntmps := of_decide_eq_true (by kernel_rfl)
theorem h119 : ∀ x y, d119 x = some y → fnD tab env119 6 ann119 big Try.f119 [] ps119 rs119 true x = some y := fun x y h => by rw [d119, ← fnK_eq l119] at h; exact h
theorem r119 : resOK tab Try.f119.results.toList rs119 = true := by kernel_rfl
theorem n119 : nodupB (Try.f119.results.toList.map rSlot) = true := by kernel_rfl
theorem does119 : Does Try.prog 119 ps119 rs119 true d119 := fn_does mixed tabOK envOk119 Try.func119 r119 n119 l119 h119
theorem k119 : Callable Try.prog 119 := ⟨Try.f119, Try.func119, by kernel_rfl, by kernel_rfl⟩
theorem c119 : Contract Try.prog 119 sg119 := by rw [sg119]; exact Contract.of k119 does119
noncomputable def env85 : Nat → Option Sig := fun n => match n with
  | 119 => some sg119
  | _ => none
def ann85 : List LoopAnn := []
abbrev ps85 : List Ty := [.sl (.int .i64), .int .i64]
abbrev rs85 : List Ty := [.bool]
noncomputable def d85 : (pk ps85).den → Option (pk rs85).den := fnK tab env85 5 ann85 big Try.f85 [] ps85 rs85 true
noncomputable def sg85 : Sig := { ps := ps85, rs := rs85, own := true, φ := d85 }
theorem envOk85 : ∀ f sg, env85 f = some sg → Contract Try.prog f sg := by
  intro f sg h
  unfold env85 at h
  split at h
  · injection h with h; subst h; exact c119
  · cases h
theorem l85 : ps85.length ≤ Try.f85.ntmps := of_decide_eq_true (by kernel_rfl)
theorem h85 : ∀ x y, d85 x = some y → fnD tab env85 5 ann85 big Try.f85 [] ps85 rs85 true x = some y := fun x y h => by rw [d85, ← fnK_eq l85] at h; exact h
theorem r85 : resOK tab Try.f85.results.toList rs85 = true := by kernel_rfl
theorem n85 : nodupB (Try.f85.results.toList.map rSlot) = true := by kernel_rfl
theorem does85 : Does Try.prog 85 ps85 rs85 true d85 := fn_does mixed tabOK envOk85 Try.func85 r85 n85 l85 h85
theorem k85 : Callable Try.prog 85 := ⟨Try.f85, Try.func85, by kernel_rfl, by kernel_rfl⟩
theorem c85 : Contract Try.prog 85 sg85 := by rw [sg85]; exact Contract.of k85 does85
noncomputable def env78 : Nat → Option Sig := fun n => match n with
  | 85 => some sg85
  | _ => none
def ann78 : List LoopAnn := []
abbrev ps78 : List Ty := [.pair (.int .i64) (.pair (.int .i64) (.pair (.bool) (.sl (.int .i64)))), .pair (.int .i64) (.pair (.int .i64) (.pair (.bool) (.sl (.int .i64))))]
abbrev rs78 : List Ty := [.bool]
noncomputable def d78 : (pk ps78).den → Option (pk rs78).den := fnK tab env78 5 ann78 big Try.f78 [] ps78 rs78 true
theorem envOk78 : ∀ f sg, env78 f = some sg → Contract Try.prog f sg := by
  intro f sg h
  unfold env78 at h
  split at h
  · injection h with h; subst h; exact c85
  · cases h
theorem l78 : ps78.length ≤ Try.f78.ntmps := of_decide_eq_true (by kernel_rfl)
theorem h78 : ∀ x y, d78 x = some y → fnD tab env78 5 ann78 big Try.f78 [] ps78 rs78 true x = some y := fun x y h => by rw [d78, ← fnK_eq l78] at h; exact h
theorem r78 : resOK tab Try.f78.results.toList rs78 = true := by kernel_rfl
theorem n78 : nodupB (Try.f78.results.toList.map rSlot) = true := by kernel_rfl
theorem does78 : Does Try.prog 78 ps78 rs78 true d78 := fn_does mixed tabOK envOk78 Try.func78 r78 n78 l78 h78
theorem k78 : Callable Try.prog 78 := ⟨Try.f78, Try.func78, by kernel_rfl, by kernel_rfl⟩
def env86 : Nat → Option Sig := fun _ => none
def ann86 : List LoopAnn := [{ id := 3, live := [3, 6, 7, 8], frz := [] }]
abbrev ps86 : List Ty := [.sl (.pair (.int .i64) (.pair (.int .i64) (.pair (.int .i64) (.int .i64))))]
abbrev rs86 : List Ty := [.int .i64]
noncomputable def d86 : (pk ps86).den → Option (pk rs86).den := fnK tab env86 6 ann86 big Try.f86 [] ps86 rs86 true
noncomputable def sg86 : Sig := { ps := ps86, rs := rs86, own := true, φ := d86 }
theorem envOk86 : ∀ f sg, env86 f = some sg → Contract Try.prog f sg := by
  intro f sg h
  unfold env86 at h
  cases h
theorem l86 : ps86.length ≤ Try.f86.ntmps := of_decide_eq_true (by kernel_rfl)
theorem h86 : ∀ x y, d86 x = some y → fnD tab env86 6 ann86 big Try.f86 [] ps86 rs86 true x = some y := fun x y h => by rw [d86, ← fnK_eq l86] at h; exact h
theorem r86 : resOK tab Try.f86.results.toList rs86 = true := by kernel_rfl
theorem n86 : nodupB (Try.f86.results.toList.map rSlot) = true := by kernel_rfl
theorem does86 : Does Try.prog 86 ps86 rs86 true d86 := fn_does mixed tabOK envOk86 Try.func86 r86 n86 l86 h86
theorem k86 : Callable Try.prog 86 := ⟨Try.f86, Try.func86, by kernel_rfl, by kernel_rfl⟩
theorem c86 : Contract Try.prog 86 sg86 := by rw [sg86]; exact Contract.of k86 does86
def env17 : Nat → Option Sig := fun _ => none
def ann17 : List LoopAnn := [{ id := 5, live := [0, 3, 4], frz := [] }]
abbrev ps17 : List Ty := [.sl (.pair (.int .i64) (.int .i64))]
abbrev rs17 : List Ty := [.int .i64]
noncomputable def d17 : (pk ps17).den → Option (pk rs17).den := fnK tab env17 5 ann17 big Try.f17 [] ps17 rs17 true
noncomputable def sg17 : Sig := { ps := ps17, rs := rs17, own := true, φ := d17 }
theorem envOk17 : ∀ f sg, env17 f = some sg → Contract Try.prog f sg := by
  intro f sg h
  unfold env17 at h
  cases h
theorem l17 : ps17.length ≤ Try.f17.ntmps := of_decide_eq_true (by kernel_rfl)
theorem h17 : ∀ x y, d17 x = some y → fnD tab env17 5 ann17 big Try.f17 [] ps17 rs17 true x = some y := fun x y h => by rw [d17, ← fnK_eq l17] at h; exact h
theorem r17 : resOK tab Try.f17.results.toList rs17 = true := by kernel_rfl
theorem n17 : nodupB (Try.f17.results.toList.map rSlot) = true := by kernel_rfl
theorem does17 : Does Try.prog 17 ps17 rs17 true d17 := fn_does mixed tabOK envOk17 Try.func17 r17 n17 l17 h17
theorem k17 : Callable Try.prog 17 := ⟨Try.f17, Try.func17, by kernel_rfl, by kernel_rfl⟩
theorem c17 : Contract Try.prog 17 sg17 := by rw [sg17]; exact Contract.of k17 does17
def env55 : Nat → Option Sig := fun _ => none
def ann55 : List LoopAnn := []
abbrev ps55 : List Ty := [.int .i64]
abbrev rs55 : List Ty := [.bool]
noncomputable def d55 : (pk ps55).den → Option (pk rs55).den := fnK tab env55 3 ann55 big Try.f55 [] ps55 rs55 true
noncomputable def sg55 : Sig := { ps := ps55, rs := rs55, own := true, φ := d55 }
theorem envOk55 : ∀ f sg, env55 f = some sg → Contract Try.prog f sg := by
  intro f sg h
  unfold env55 at h
  cases h
theorem l55 : ps55.length ≤ Try.f55.ntmps := of_decide_eq_true (by kernel_rfl)
theorem h55 : ∀ x y, d55 x = some y → fnD tab env55 3 ann55 big Try.f55 [] ps55 rs55 true x = some y := fun x y h => by rw [d55, ← fnK_eq l55] at h; exact h
theorem r55 : resOK tab Try.f55.results.toList rs55 = true := by kernel_rfl
theorem n55 : nodupB (Try.f55.results.toList.map rSlot) = true := by kernel_rfl
theorem does55 : Does Try.prog 55 ps55 rs55 true d55 := fn_does mixed tabOK envOk55 Try.func55 r55 n55 l55 h55
theorem k55 : Callable Try.prog 55 := ⟨Try.f55, Try.func55, by kernel_rfl, by kernel_rfl⟩
theorem c55 : Contract Try.prog 55 sg55 := by rw [sg55]; exact Contract.of k55 does55
noncomputable def env53 : Nat → Option Sig := fun n => match n with
  | 55 => some sg55
  | _ => none
def ann53 : List LoopAnn := [{ id := 5, live := [0, 3, 9, 10, 11], frz := [] }]
abbrev ps53 : List Ty := [.sl (.pair (.int .i64) (.int .i64))]
abbrev rs53 : List Ty := [.int .i64]
noncomputable def d53 : (pk ps53).den → Option (pk rs53).den := fnK tab env53 6 ann53 big Try.f53 [] ps53 rs53 true
noncomputable def sg53 : Sig := { ps := ps53, rs := rs53, own := true, φ := d53 }
theorem envOk53 : ∀ f sg, env53 f = some sg → Contract Try.prog f sg := by
  intro f sg h
  unfold env53 at h
  split at h
  · injection h with h; subst h; exact c55
  · cases h
theorem l53 : ps53.length ≤ Try.f53.ntmps := of_decide_eq_true (by kernel_rfl)
theorem h53 : ∀ x y, d53 x = some y → fnD tab env53 6 ann53 big Try.f53 [] ps53 rs53 true x = some y := fun x y h => by rw [d53, ← fnK_eq l53] at h; exact h
theorem r53 : resOK tab Try.f53.results.toList rs53 = true := by kernel_rfl
theorem n53 : nodupB (Try.f53.results.toList.map rSlot) = true := by kernel_rfl
theorem does53 : Does Try.prog 53 ps53 rs53 true d53 := fn_does mixed tabOK envOk53 Try.func53 r53 n53 l53 h53
theorem k53 : Callable Try.prog 53 := ⟨Try.f53, Try.func53, by kernel_rfl, by kernel_rfl⟩
theorem c53 : Contract Try.prog 53 sg53 := by rw [sg53]; exact Contract.of k53 does53
def env56 : Nat → Option Sig := fun _ => none
def ann56 : List LoopAnn := []
abbrev ps56 : List Ty := [.pair (.int .i64) (.int .i64)]
abbrev rs56 : List Ty := [.bool]
noncomputable def d56 : (pk ps56).den → Option (pk rs56).den := fnK tab env56 3 ann56 big Try.f56 [] ps56 rs56 true
theorem envOk56 : ∀ f sg, env56 f = some sg → Contract Try.prog f sg := by
  intro f sg h
  unfold env56 at h
  cases h
theorem l56 : ps56.length ≤ Try.f56.ntmps := of_decide_eq_true (by kernel_rfl)
theorem h56 : ∀ x y, d56 x = some y → fnD tab env56 3 ann56 big Try.f56 [] ps56 rs56 true x = some y := fun x y h => by rw [d56, ← fnK_eq l56] at h; exact h
theorem r56 : resOK tab Try.f56.results.toList rs56 = true := by kernel_rfl
theorem n56 : nodupB (Try.f56.results.toList.map rSlot) = true := by kernel_rfl
theorem does56 : Does Try.prog 56 ps56 rs56 true d56 := fn_does mixed tabOK envOk56 Try.func56 r56 n56 l56 h56
theorem k56 : Callable Try.prog 56 := ⟨Try.f56, Try.func56, by kernel_rfl, by kernel_rfl⟩
def env47 : Nat → Option Sig := fun _ => none
def ann47 : List LoopAnn := [{ id := 4, live := [0, 2, 3, 4], frz := [] }, { id := 7, live := [0, 2, 3, 4, 22, 23, 24], frz := [] }]
abbrev ps47 : List Ty := [.sl (.pair (.int .i64) (.int .i64))]
abbrev rs47 : List Ty := [.sl (.int .i64), .sl (.int .i64)]
noncomputable def d47 : (pk ps47).den → Option (pk rs47).den := fnK tab env47 8 ann47 big Try.f47 [] ps47 rs47 true
noncomputable def sg47 : Sig := { ps := ps47, rs := rs47, own := true, φ := d47 }
theorem envOk47 : ∀ f sg, env47 f = some sg → Contract Try.prog f sg := by
  intro f sg h
  unfold env47 at h
  cases h
theorem l47 : ps47.length ≤ Try.f47.ntmps := of_decide_eq_true (by kernel_rfl)
theorem h47 : ∀ x y, d47 x = some y → fnD tab env47 8 ann47 big Try.f47 [] ps47 rs47 true x = some y := fun x y h => by rw [d47, ← fnK_eq l47] at h; exact h
theorem r47 : resOK tab Try.f47.results.toList rs47 = true := by kernel_rfl
theorem n47 : nodupB (Try.f47.results.toList.map rSlot) = true := by kernel_rfl
theorem does47 : Does Try.prog 47 ps47 rs47 true d47 := fn_does mixed tabOK envOk47 Try.func47 r47 n47 l47 h47
theorem k47 : Callable Try.prog 47 := ⟨Try.f47, Try.func47, by kernel_rfl, by kernel_rfl⟩
theorem c47 : Contract Try.prog 47 sg47 := by rw [sg47]; exact Contract.of k47 does47
def env90 : Nat → Option Sig := fun _ => none
def ann90 : List LoopAnn := [{ id := 2, live := [0, 1, 7, 8], frz := [] }]
abbrev ps90 : List Ty := [.sl (.pair (.int .i64) (.int .i64)), .fn (.pair (.int .i64) (.int .i64)) (.bool)]
abbrev rs90 : List Ty := [.int .i64]
noncomputable def d90 : (pk ps90).den → Option (pk rs90).den := fnK tab env90 6 ann90 big Try.f90 [] ps90 rs90 true
noncomputable def sg90 : Sig := { ps := ps90, rs := rs90, own := true, φ := d90 }
theorem envOk90 : ∀ f sg, env90 f = some sg → Contract Try.prog f sg := by
  intro f sg h
  unfold env90 at h
  cases h
theorem l90 : ps90.length ≤ Try.f90.ntmps := of_decide_eq_true (by kernel_rfl)
theorem h90 : ∀ x y, d90 x = some y → fnD tab env90 6 ann90 big Try.f90 [] ps90 rs90 true x = some y := fun x y h => by rw [d90, ← fnK_eq l90] at h; exact h
theorem r90 : resOK tab Try.f90.results.toList rs90 = true := by kernel_rfl
theorem n90 : nodupB (Try.f90.results.toList.map rSlot) = true := by kernel_rfl
theorem does90 : Does Try.prog 90 ps90 rs90 true d90 := fn_does mixed tabOK envOk90 Try.func90 r90 n90 l90 h90
theorem k90 : Callable Try.prog 90 := ⟨Try.f90, Try.func90, by kernel_rfl, by kernel_rfl⟩
theorem c90 : Contract Try.prog 90 sg90 := by rw [sg90]; exact Contract.of k90 does90
def env91 : Nat → Option Sig := fun _ => none
def ann91 : List LoopAnn := []
abbrev ps91 : List Ty := [.pair (.int .i64) (.int .i64)]
abbrev rs91 : List Ty := [.bool]
noncomputable def d91 : (pk ps91).den → Option (pk rs91).den := fnK tab env91 3 ann91 big Try.f91 [] ps91 rs91 true
noncomputable def sg91 : Sig := { ps := ps91, rs := rs91, own := true, φ := d91 }
theorem envOk91 : ∀ f sg, env91 f = some sg → Contract Try.prog f sg := by
  intro f sg h
  unfold env91 at h
  cases h
theorem l91 : ps91.length ≤ Try.f91.ntmps := of_decide_eq_true (by kernel_rfl)
theorem h91 : ∀ x y, d91 x = some y → fnD tab env91 3 ann91 big Try.f91 [] ps91 rs91 true x = some y := fun x y h => by rw [d91, ← fnK_eq l91] at h; exact h
theorem r91 : resOK tab Try.f91.results.toList rs91 = true := by kernel_rfl
theorem n91 : nodupB (Try.f91.results.toList.map rSlot) = true := by kernel_rfl
theorem does91 : Does Try.prog 91 ps91 rs91 true d91 := fn_does mixed tabOK envOk91 Try.func91 r91 n91 l91 h91
theorem k91 : Callable Try.prog 91 := ⟨Try.f91, Try.func91, by kernel_rfl, by kernel_rfl⟩
theorem c91 : Contract Try.prog 91 sg91 := by rw [sg91]; exact Contract.of k91 does91
def env92 : Nat → Option Sig := fun _ => none
def ann92 : List LoopAnn := []
abbrev ps92 : List Ty := [.pair (.int .i64) (.int .i64)]
abbrev rs92 : List Ty := [.bool]
noncomputable def d92 : (pk ps92).den → Option (pk rs92).den := fnK tab env92 3 ann92 big Try.f92 [] ps92 rs92 true
noncomputable def sg92 : Sig := { ps := ps92, rs := rs92, own := true, φ := d92 }
theorem envOk92 : ∀ f sg, env92 f = some sg → Contract Try.prog f sg := by
  intro f sg h
  unfold env92 at h
  cases h
theorem l92 : ps92.length ≤ Try.f92.ntmps := of_decide_eq_true (by kernel_rfl)
theorem h92 : ∀ x y, d92 x = some y → fnD tab env92 3 ann92 big Try.f92 [] ps92 rs92 true x = some y := fun x y h => by rw [d92, ← fnK_eq l92] at h; exact h
theorem r92 : resOK tab Try.f92.results.toList rs92 = true := by kernel_rfl
theorem n92 : nodupB (Try.f92.results.toList.map rSlot) = true := by kernel_rfl
theorem does92 : Does Try.prog 92 ps92 rs92 true d92 := fn_does mixed tabOK envOk92 Try.func92 r92 n92 l92 h92
theorem k92 : Callable Try.prog 92 := ⟨Try.f92, Try.func92, by kernel_rfl, by kernel_rfl⟩
theorem c92 : Contract Try.prog 92 sg92 := by rw [sg92]; exact Contract.of k92 does92
noncomputable def env48 : Nat → Option Sig := fun n => match n with
  | 90 => some sg90
  | 91 => some sg91
  | 92 => some sg92
  | _ => none
def ann48 : List LoopAnn := [{ id := 2, live := [0, 3], frz := [] }]
abbrev ps48 : List Ty := [.sl (.pair (.int .i64) (.int .i64))]
abbrev rs48 : List Ty := [.sl (.pair (.int .i64) (.pair (.int .i64) (.int .i64)))]
noncomputable def d48 : (pk ps48).den → Option (pk rs48).den := fnK tab env48 7 ann48 big Try.f48 [[.own]] ps48 rs48 true
noncomputable def sg48 : Sig := { ps := ps48, rs := rs48, own := true, eat := true, φ := d48 }
theorem envOk48 : ∀ f sg, env48 f = some sg → Contract Try.prog f sg := by
  intro f sg h
  unfold env48 at h
  split at h
  · injection h with h; subst h; exact c90
  · injection h with h; subst h; exact c91
  · injection h with h; subst h; exact c92
  · cases h
theorem l48 : ps48.length ≤ Try.f48.ntmps := of_decide_eq_true (by kernel_rfl)
theorem h48 : ∀ x y, d48 x = some y → fnX tab env48 (fun _ => none) 7 ann48 big Try.f48 [[.own]] ps48 rs48 true x = some y := fun x y h => by rw [d48, fnK, ← fnKX_eq l48] at h; exact h
theorem r48 : resOK tab Try.f48.results.toList rs48 = true := by kernel_rfl
theorem n48 : nodupB (Try.f48.results.toList.map rSlot) = true := by kernel_rfl
theorem does48 : EatDoes Try.prog 48 ps48 rs48 d48 := fn_eats (bx := fun _ => none) mixed tabOK envOk48 (fun _ _ h => by cases h) Try.func48 r48 n48 l48 (by kernel_rfl) h48
theorem k48 : Callable Try.prog 48 := ⟨Try.f48, Try.func48, by kernel_rfl, by kernel_rfl⟩
theorem c48 : Contract Try.prog 48 sg48 := by rw [sg48]; exact Contract.ofEat k48 does48
def env51 : Nat → Option Sig := fun _ => none
def ann51 : List LoopAnn := [{ id := 3, live := [3, 6, 7, 8], frz := [] }]
abbrev ps51 : List Ty := [.sl (.int .i64)]
abbrev rs51 : List Ty := [.int .i64]
noncomputable def d51 : (pk ps51).den → Option (pk rs51).den := fnK tab env51 6 ann51 big Try.f51 [] ps51 rs51 true
noncomputable def sg51 : Sig := { ps := ps51, rs := rs51, own := true, φ := d51 }
theorem envOk51 : ∀ f sg, env51 f = some sg → Contract Try.prog f sg := by
  intro f sg h
  unfold env51 at h
  cases h
theorem l51 : ps51.length ≤ Try.f51.ntmps := of_decide_eq_true (by kernel_rfl)
theorem h51 : ∀ x y, d51 x = some y → fnD tab env51 6 ann51 big Try.f51 [] ps51 rs51 true x = some y := fun x y h => by rw [d51, ← fnK_eq l51] at h; exact h
theorem r51 : resOK tab Try.f51.results.toList rs51 = true := by kernel_rfl
theorem n51 : nodupB (Try.f51.results.toList.map rSlot) = true := by kernel_rfl
theorem does51 : Does Try.prog 51 ps51 rs51 true d51 := fn_does mixed tabOK envOk51 Try.func51 r51 n51 l51 h51
theorem k51 : Callable Try.prog 51 := ⟨Try.f51, Try.func51, by kernel_rfl, by kernel_rfl⟩
theorem c51 : Contract Try.prog 51 sg51 := by rw [sg51]; exact Contract.of k51 does51
def env94 : Nat → Option Sig := fun _ => none
def ann94 : List LoopAnn := []
abbrev ps94 : List Ty := [.int .i64]
abbrev rs94 : List Ty := [.bool]
noncomputable def d94 : (pk ps94).den → Option (pk rs94).den := fnK tab env94 3 ann94 big Try.f94 [] ps94 rs94 true
noncomputable def sg94 : Sig := { ps := ps94, rs := rs94, own := true, φ := d94 }
theorem envOk94 : ∀ f sg, env94 f = some sg → Contract Try.prog f sg := by
  intro f sg h
  unfold env94 at h
  cases h
theorem l94 : ps94.length ≤ Try.f94.ntmps := of_decide_eq_true (by kernel_rfl)
theorem h94 : ∀ x y, d94 x = some y → fnD tab env94 3 ann94 big Try.f94 [] ps94 rs94 true x = some y := fun x y h => by rw [d94, ← fnK_eq l94] at h; exact h
theorem r94 : resOK tab Try.f94.results.toList rs94 = true := by kernel_rfl
theorem n94 : nodupB (Try.f94.results.toList.map rSlot) = true := by kernel_rfl
theorem does94 : Does Try.prog 94 ps94 rs94 true d94 := fn_does mixed tabOK envOk94 Try.func94 r94 n94 l94 h94
theorem k94 : Callable Try.prog 94 := ⟨Try.f94, Try.func94, by kernel_rfl, by kernel_rfl⟩
theorem c94 : Contract Try.prog 94 sg94 := by rw [sg94]; exact Contract.of k94 does94
noncomputable def env52 : Nat → Option Sig := fun n => match n with
  | 94 => some sg94
  | _ => none
def ann52 : List LoopAnn := []
abbrev ps52 : List Ty := [.int .i64, .int .i64]
abbrev rs52 : List Ty := [.int .i64]
noncomputable def d52 : (pk ps52).den → Option (pk rs52).den := fnK tab env52 7 ann52 big Try.f52 [] ps52 rs52 true
noncomputable def sg52 : Sig := { ps := ps52, rs := rs52, own := true, φ := d52 }
theorem envOk52 : ∀ f sg, env52 f = some sg → Contract Try.prog f sg := by
  intro f sg h
  unfold env52 at h
  split at h
  · injection h with h; subst h; exact c94
  · cases h
theorem l52 : ps52.length ≤ Try.f52.ntmps := of_decide_eq_true (by kernel_rfl)
theorem h52 : ∀ x y, d52 x = some y → fnD tab env52 7 ann52 big Try.f52 [] ps52 rs52 true x = some y := fun x y h => by rw [d52, ← fnK_eq l52] at h; exact h
theorem r52 : resOK tab Try.f52.results.toList rs52 = true := by kernel_rfl
theorem n52 : nodupB (Try.f52.results.toList.map rSlot) = true := by kernel_rfl
theorem does52 : Does Try.prog 52 ps52 rs52 true d52 := fn_does mixed tabOK envOk52 Try.func52 r52 n52 l52 h52
theorem k52 : Callable Try.prog 52 := ⟨Try.f52, Try.func52, by kernel_rfl, by kernel_rfl⟩
theorem c52 : Contract Try.prog 52 sg52 := by rw [sg52]; exact Contract.of k52 does52
noncomputable def env50 : Nat → Option Sig := fun n => match n with
  | 51 => some sg51
  | 52 => some sg52
  | _ => none
def ann50 : List LoopAnn := []
abbrev ps50 : List Ty := [.pair (.int .i64) (.pair (.int .i64) (.int .i64)), .pair (.int .i64) (.pair (.int .i64) (.int .i64))]
abbrev rs50 : List Ty := [.int .i64]
noncomputable def d50 : (pk ps50).den → Option (pk rs50).den := fnK tab env50 5 ann50 big Try.f50 [] ps50 rs50 true
theorem envOk50 : ∀ f sg, env50 f = some sg → Contract Try.prog f sg := by
  intro f sg h
  unfold env50 at h
  split at h
  · injection h with h; subst h; exact c51
  · injection h with h; subst h; exact c52
  · cases h
theorem l50 : ps50.length ≤ Try.f50.ntmps := of_decide_eq_true (by kernel_rfl)
theorem h50 : ∀ x y, d50 x = some y → fnD tab env50 5 ann50 big Try.f50 [] ps50 rs50 true x = some y := fun x y h => by rw [d50, ← fnK_eq l50] at h; exact h
theorem r50 : resOK tab Try.f50.results.toList rs50 = true := by kernel_rfl
theorem n50 : nodupB (Try.f50.results.toList.map rSlot) = true := by kernel_rfl
theorem does50 : Does Try.prog 50 ps50 rs50 true d50 := fn_does mixed tabOK envOk50 Try.func50 r50 n50 l50 h50
theorem k50 : Callable Try.prog 50 := ⟨Try.f50, Try.func50, by kernel_rfl, by kernel_rfl⟩
def env80 : Nat → Option Sig := fun _ => none
def ann80 : List LoopAnn := [{ id := 3, live := [3, 6, 7, 8], frz := [] }]
abbrev ps80 : List Ty := [.sl (.pair (.int .i64) (.pair (.int .i64) (.int .i64)))]
abbrev rs80 : List Ty := [.sl (.pair (.int .i64) (.pair (.int .i64) (.int .i64)))]
noncomputable def d80 : (pk ps80).den → Option (pk rs80).den := fnK tab env80 6 ann80 big Try.f80 [] ps80 rs80 true
noncomputable def sg80 : Sig := { ps := ps80, rs := rs80, own := true, φ := d80 }
theorem envOk80 : ∀ f sg, env80 f = some sg → Contract Try.prog f sg := by
  intro f sg h
  unfold env80 at h
  cases h
theorem l80 : ps80.length ≤ Try.f80.ntmps := of_decide_eq_true (by kernel_rfl)
theorem h80 : ∀ x y, d80 x = some y → fnD tab env80 6 ann80 big Try.f80 [] ps80 rs80 true x = some y := fun x y h => by rw [d80, ← fnK_eq l80] at h; exact h
theorem r80 : resOK tab Try.f80.results.toList rs80 = true := by kernel_rfl
theorem n80 : nodupB (Try.f80.results.toList.map rSlot) = true := by kernel_rfl
theorem does80 : Does Try.prog 80 ps80 rs80 true d80 := fn_does mixed tabOK envOk80 Try.func80 r80 n80 l80 h80
theorem k80 : Callable Try.prog 80 := ⟨Try.f80, Try.func80, by kernel_rfl, by kernel_rfl⟩
theorem c80 : Contract Try.prog 80 sg80 := by rw [sg80]; exact Contract.of k80 does80
def env118 : Nat → Option Sig := fun _ => none
def ann118 : List LoopAnn := [{ id := 5, live := [0, 3, 4], frz := [] }]
abbrev ps118 : List Ty := [.sl (.int .i64)]
abbrev rs118 : List Ty := [.int .i64]
noncomputable def d118 : (pk ps118).den → Option (pk rs118).den := fnK tab env118 5 ann118 big Try.f118 [] ps118 rs118 true
theorem envOk118 : ∀ f sg, env118 f = some sg → Contract Try.prog f sg := by
  intro f sg h
  unfold env118 at h
  cases h
theorem l118 : ps118.length ≤ Try.f118.ntmps := of_decide_eq_true (by kernel_rfl)
theorem h118 : ∀ x y, d118 x = some y → fnD tab env118 5 ann118 big Try.f118 [] ps118 rs118 true x = some y := fun x y h => by rw [d118, ← fnK_eq l118] at h; exact h
theorem r118 : resOK tab Try.f118.results.toList rs118 = true := by kernel_rfl
theorem n118 : nodupB (Try.f118.results.toList.map rSlot) = true := by kernel_rfl
theorem does118 : Does Try.prog 118 ps118 rs118 true d118 := fn_does mixed tabOK envOk118 Try.func118 r118 n118 l118 h118
theorem k118 : Callable Try.prog 118 := ⟨Try.f118, Try.func118, by kernel_rfl, by kernel_rfl⟩
def env82 : Nat → Option Sig := fun _ => none
def ann82 : List LoopAnn := [{ id := 4, live := [0, 14, 15, 16], frz := [] }, { id := 10, live := [0, 24, 25, 26], frz := [] }, { id := 16, live := [45, 46, 47], frz := [] }, { id := 19, live := [45, 46, 47, 51, 52, 53], frz := [] }]
abbrev ps82 : List Ty := [.sl (.sl (.int .i64))]
abbrev rs82 : List Ty := [.int .i64]
noncomputable def d82 : (pk ps82).den → Option (pk rs82).den := fnK tab env82 11 ann82 big Try.f82 [] ps82 rs82 true
theorem envOk82 : ∀ f sg, env82 f = some sg → Contract Try.prog f sg := by
  intro f sg h
  unfold env82 at h
  cases h
theorem l82 : ps82.length ≤ Try.f82.ntmps := of_decide_eq_true (by kernel_rfl)
theorem h82 : ∀ x y, d82 x = some y → fnD tab env82 11 ann82 big Try.f82 [] ps82 rs82 true x = some y := fun x y h => by rw [d82, ← fnK_eq l82] at h; exact h
theorem r82 : resOK tab Try.f82.results.toList rs82 = true := by kernel_rfl
theorem n82 : nodupB (Try.f82.results.toList.map rSlot) = true := by kernel_rfl
theorem does82 : Does Try.prog 82 ps82 rs82 true d82 := fn_does mixed tabOK envOk82 Try.func82 r82 n82 l82 h82
theorem k82 : Callable Try.prog 82 := ⟨Try.f82, Try.func82, by kernel_rfl, by kernel_rfl⟩
def env84 : Nat → Option Sig := fun _ => none
def ann84 : List LoopAnn := []
abbrev ps84 : List Ty := [.sl (.int .i64)]
abbrev rs84 : List Ty := [.sl (.int .i64)]
noncomputable def d84r : (pk ps84).den → Option (pk rs84).den := fnK tab env84 3 ann84 big Try.f84 [] ps84 rs84 true
theorem envOk84 : ∀ f sg, env84 f = some sg → Contract Try.prog f sg := by
  intro f sg h
  unfold env84 at h
  cases h
theorem l84 : ps84.length ≤ Try.f84.ntmps := of_decide_eq_true (by kernel_rfl)
theorem h84r : ∀ x y, d84r x = some y → fnD tab env84 3 ann84 big Try.f84 [] ps84 rs84 true x = some y := fun x y h => by rw [d84r, ← fnK_eq l84] at h; exact h
theorem r84 : resOK tab Try.f84.results.toList rs84 = true := by kernel_rfl
theorem n84 : nodupB (Try.f84.results.toList.map rSlot) = true := by kernel_rfl
theorem does84r : Does Try.prog 84 ps84 rs84 true d84r := fn_does mixed tabOK envOk84 Try.func84 r84 n84 l84 h84r
theorem raw84 (s : List (Int)) : d84r s = (
  bif List.isEmpty s then (
    bothO (some ([] : List (Int))) (bif (Nat.ble ((List.length ([] : List (Int)) + List.length s) * 8) appendLimit && Nat.ble (List.length ([] : List (Int)) + List.length s) 9223372036854775807) then some (([] : List (Int)) ++ s)
    else none))
  else bif (Nat.ble ((List.length ([] : List (Int)) + List.length s) * 8) appendLimit && Nat.ble (List.length ([] : List (Int)) + List.length s) 9223372036854775807) then some (([] : List (Int)) ++ s)
  else none : Option (List (Int))) := by kernel_rfl
def d84 : (pk ps84).den → Option (pk rs84).den := fun (s : List (Int)) => bif (Nat.ble ((List.length ([] : List (Int)) + List.length s) * 8) appendLimit && Nat.ble (List.length ([] : List (Int)) + List.length s) 9223372036854775807) then some (([] : List (Int)) ++ s) else none
theorem le84 : ∀ x y, d84 x = some y → d84r x = some y := by
  intro x y h
  refine (raw84 x).trans ?_
  cases x with
  | nil =>
    have e : d84 ([] : List (Int)) = some ([] : List (Int)) := by kernel_rfl
    have e2 : y = ([] : List (Int)) := (Option.some.inj (e.symm.trans h)).symm
    subst e2
    show bothO (some ([] : List (Int))) (d84 ([] : List (Int))) = _
    rw [e]
    unfold bothO
    rw [if_pos rfl]
  | cons a l => exact h
theorem does84 : Does Try.prog 84 ps84 rs84 true d84 := fun w Ok cs x y hx hy => does84r w Ok cs x y hx (le84 x y hy)
theorem k84 : Callable Try.prog 84 := ⟨Try.f84, Try.func84, by kernel_rfl, by kernel_rfl⟩
def env88 : Nat → Option Sig := fun _ => none
def ann88 : List LoopAnn := []
abbrev ps88 : List Ty := [.sl (.pair (.int .i64) (.int .i64))]
abbrev rs88 : List Ty := [.sl (.pair (.int .i64) (.int .i64))]
noncomputable def d88r : (pk ps88).den → Option (pk rs88).den := fnK tab env88 3 ann88 big Try.f88 [] ps88 rs88 true
theorem envOk88 : ∀ f sg, env88 f = some sg → Contract Try.prog f sg := by
  intro f sg h
  unfold env88 at h
  cases h
theorem l88 : ps88.length ≤ Try.f88.ntmps := of_decide_eq_true (by kernel_rfl)
theorem h88r : ∀ x y, d88r x = some y → fnD tab env88 3 ann88 big Try.f88 [] ps88 rs88 true x = some y := fun x y h => by rw [d88r, ← fnK_eq l88] at h; exact h
theorem r88 : resOK tab Try.f88.results.toList rs88 = true := by kernel_rfl
theorem n88 : nodupB (Try.f88.results.toList.map rSlot) = true := by kernel_rfl
theorem does88r : Does Try.prog 88 ps88 rs88 true d88r := fn_does mixed tabOK envOk88 Try.func88 r88 n88 l88 h88r
theorem raw88 (s : List ((Int) × (Int))) : d88r s = (
  bif List.isEmpty s then (
    bothO (some ([] : List ((Int) × (Int)))) (bif (Nat.ble ((List.length ([] : List ((Int) × (Int))) + List.length s) * 16) appendLimit && Nat.ble (List.length ([] : List ((Int) × (Int))) + List.length s) 9223372036854775807) then some (([] : List ((Int) × (Int))) ++ s)
    else none))
  else bif (Nat.ble ((List.length ([] : List ((Int) × (Int))) + List.length s) * 16) appendLimit && Nat.ble (List.length ([] : List ((Int) × (Int))) + List.length s) 9223372036854775807) then some (([] : List ((Int) × (Int))) ++ s)
  else none : Option (List ((Int) × (Int)))) := by kernel_rfl
def d88 : (pk ps88).den → Option (pk rs88).den := fun (s : List ((Int) × (Int))) => bif (Nat.ble ((List.length ([] : List ((Int) × (Int))) + List.length s) * 16) appendLimit && Nat.ble (List.length ([] : List ((Int) × (Int))) + List.length s) 9223372036854775807) then some (([] : List ((Int) × (Int))) ++ s) else none
def sg88 : Sig := { ps := ps88, rs := rs88, own := true, φ := d88 }
theorem le88 : ∀ x y, d88 x = some y → d88r x = some y := by
  intro x y h
  refine (raw88 x).trans ?_
  cases x with
  | nil =>
    have e : d88 ([] : List ((Int) × (Int))) = some ([] : List ((Int) × (Int))) := by kernel_rfl
    have e2 : y = ([] : List ((Int) × (Int))) := (Option.some.inj (e.symm.trans h)).symm
    subst e2
    show bothO (some ([] : List ((Int) × (Int)))) (d88 ([] : List ((Int) × (Int)))) = _
    rw [e]
    unfold bothO
    rw [if_pos rfl]
  | cons a l => exact h
theorem does88 : Does Try.prog 88 ps88 rs88 true d88 := fun w Ok cs x y hx hy => does88r w Ok cs x y hx (le88 x y hy)
theorem k88 : Callable Try.prog 88 := ⟨Try.f88, Try.func88, by kernel_rfl, by kernel_rfl⟩
theorem c88 : Contract Try.prog 88 sg88 := Contract.of k88 does88
end Go.Proofs.Ytbapfiaglcllnaa.D
