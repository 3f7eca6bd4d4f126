import Derived.Test.YtbapfiaglcllnaaProg
import Derived.Test.YtbapfiaglcllnaaChecked
import Derived.Test.YtbapfiaglcllnaaGDdd
import Derived.Test.YtbapfiaglcllnaaGDD
import Derived.Test.YtbapfiaglcllnaaGDW
import Derived.Test.YtbapfiaglcllnaaGDK
import Derived.Test.YtbapfiaglcllnaaGDE
open Go Go.GD Go.Proofs
namespace Go.Proofs.Ytbapfiaglcllnaa.D
def tab : List TE := [
  { id := 2, ty := .int .i64, flds := [], elem := 0, arr := false, bytes := 8, mps := [(81, 83, 40)] },
  { id := 3, ty := .int .i64, flds := [], elem := 0, arr := false, bytes := 8 },
  { id := 4, ty := .bool, flds := [], elem := 0, arr := false, bytes := 1, eqs := true },
  { id := 5, ty := .int .u8, flds := [], elem := 0, arr := false, bytes := 1 },
  { id := 6, ty := .int .u8, flds := [], elem := 0, arr := false, bytes := 1 },
  { id := 7, ty := .pair (.int .i64) (.pair (.int .i64) (.pair (.bool) (.int .u8))), flds := [(0, 2), (1, 3), (2, 4), (3, 6)], elem := 0, arr := false, bytes := 24 },
  { id := 8, ty := .pair (.int .i64) (.pair (.int .i64) (.pair (.bool) (.int .u8))), flds := [(0, 2), (1, 3), (2, 4), (3, 6)], elem := 0, arr := false, bytes := 24 },
  { id := 9, ty := .str, flds := [], elem := 0, arr := false, bytes := 16 },
  { id := 10, ty := .str, flds := [], elem := 0, arr := false, bytes := 16 },
  { id := 11, ty := .str, flds := [], elem := 0, arr := false, bytes := 16 },
  { id := 12, ty := .int .u64, flds := [], elem := 0, arr := false, bytes := 8 },
  { id := 13, ty := .pair (.str) (.int .u64), flds := [(0, 9), (1, 12)], elem := 0, arr := false, bytes := 24 },
  { id := 14, ty := .pair (.str) (.int .u64), flds := [(0, 9), (1, 12)], elem := 0, arr := false, bytes := 24 },
  { id := 21, ty := .int .i32, flds := [], elem := 0, arr := false, bytes := 4 },
  { id := 22, ty := .sl (.int .i64), flds := [], elem := 3, arr := false, bytes := 24 },
  { id := 24, ty := .sl (.pair (.int .i64) (.pair (.int .i64) (.pair (.int .i64) (.pair (.int .i64) (.pair (.int .i64) (.pair (.int .i64) (.int .i64))))))), flds := [], elem := 40, arr := false, bytes := 24 },
  { id := 26, ty := .sl (.int .u8), flds := [], elem := 5, arr := false, bytes := 24 },
  { id := 27, ty := .int .i64, flds := [], elem := 0, arr := false, bytes := 8 },
  { id := 33, ty := .pair (.int .i64) (.pair (.int .i64) (.sl (.pair (.int .i64) (.pair (.int .i64) (.pair (.int .i64) (.pair (.int .i64) (.pair (.int .i64) (.pair (.int .i64) (.int .i64))))))))), flds := [(0, 3), (1, 3), (2, 24)], elem := 0, arr := false, bytes := 40 },
  { id := 34, ty := .pair (.int .i64) (.pair (.int .i64) (.sl (.pair (.int .i64) (.pair (.int .i64) (.pair (.int .i64) (.pair (.int .i64) (.pair (.int .i64) (.pair (.int .i64) (.int .i64))))))))), flds := [(0, 3), (1, 3), (2, 24)], elem := 0, arr := false, bytes := 40 },
  { id := 35, ty := .pair (.int .i64) (.pair (.int .i64) (.pair (.sl (.pair (.int .i64) (.pair (.int .i64) (.pair (.int .i64) (.pair (.int .i64) (.pair (.int .i64) (.pair (.int .i64) (.int .i64)))))))) (.sl (.pair (.int .i64) (.pair (.int .i64) (.pair (.int .i64) (.pair (.int .i64) (.pair (.int .i64) (.pair (.int .i64) (.int .i64)))))))))), flds := [(0, 3), (1, 3), (2, 24), (3, 24)], elem := 0, arr := false, bytes := 64 },
  { id := 36, ty := .pair (.int .i64) (.pair (.int .i64) (.pair (.sl (.pair (.int .i64) (.pair (.int .i64) (.pair (.int .i64) (.pair (.int .i64) (.pair (.int .i64) (.pair (.int .i64) (.int .i64)))))))) (.sl (.pair (.int .i64) (.pair (.int .i64) (.pair (.int .i64) (.pair (.int .i64) (.pair (.int .i64) (.pair (.int .i64) (.int .i64)))))))))), flds := [(0, 3), (1, 3), (2, 24), (3, 24)], elem := 0, arr := false, bytes := 64 },
  { id := 39, ty := .pair (.int .i64) (.pair (.int .i64) (.pair (.int .i64) (.pair (.int .i64) (.pair (.int .i64) (.pair (.int .i64) (.int .i64)))))), flds := [(0, 3), (1, 3), (2, 3), (3, 3), (4, 3), (5, 3), (6, 3)], elem := 0, arr := false, bytes := 56 },
  { id := 40, ty := .pair (.int .i64) (.pair (.int .i64) (.pair (.int .i64) (.pair (.int .i64) (.pair (.int .i64) (.pair (.int .i64) (.int .i64)))))), flds := [(0, 3), (1, 3), (2, 3), (3, 3), (4, 3), (5, 3), (6, 3)], elem := 0, arr := false, bytes := 56, eqs := true },
  { id := 50, ty := .sl (.pair (.int .i64) (.int .i64)), flds := [], elem := 104, arr := false, bytes := 24 },
  { id := 51, ty := .sl (.pair (.int .i64) (.pair (.int .i64) (.int .i64))), flds := [], elem := 110, arr := false, bytes := 24 },
  { id := 52, ty := .sl (.pair (.int .i64) (.pair (.int .i64) (.pair (.int .i64) (.int .i64)))), flds := [], elem := 123, arr := false, bytes := 24 },
  { id := 53, ty := .sl (.pair (.int .i64) (.sl (.int .i64))), flds := [], elem := 59, arr := false, bytes := 24 },
  { id := 58, ty := .pair (.int .i64) (.sl (.int .i64)), flds := [(0, 3), (1, 22)], elem := 0, arr := false, bytes := 32 },
  { id := 59, ty := .pair (.int .i64) (.sl (.int .i64)), flds := [(0, 3), (1, 22)], elem := 0, arr := false, bytes := 32 },
  { id := 69, ty := .int .u64, flds := [], elem := 0, arr := false, bytes := 8 },
  { id := 82, ty := .pair (.int .i64) (.int .i64), flds := [(0, 3), (1, 3)], elem := 0, arr := false, bytes := 16 },
  { id := 83, ty := .pair (.int .i64) (.int .i64), flds := [(0, 3), (1, 3)], elem := 0, arr := false, bytes := 16, eqs := true },
  { id := 87, ty := .pair (.int .i64) (.pair (.int .i64) (.pair (.bool) (.sl (.int .i64)))), flds := [(0, 3), (1, 3), (2, 4), (3, 22)], elem := 0, arr := false, bytes := 48 },
  { id := 88, ty := .pair (.int .i64) (.pair (.int .i64) (.pair (.bool) (.sl (.int .i64)))), flds := [(0, 3), (1, 3), (2, 4), (3, 22)], elem := 0, arr := false, bytes := 48 },
  { id := 89, ty := .sl (.pair (.int .i64) (.pair (.int .i64) (.pair (.bool) (.sl (.int .i64))))), flds := [], elem := 88, arr := false, bytes := 24 },
  { id := 90, ty := .sl (.pair (.int .i64) (.pair (.int .i64) (.pair (.int .i64) (.int .i64)))), flds := [], elem := 186, arr := false, bytes := 24 },
  { id := 92, ty := .sl (.bool), flds := [], elem := 4, arr := false, bytes := 24 },
  { id := 93, ty := .sl (.pair (.int .i64) (.pair (.int .i64) (.pair (.int .i64) (.int .i64)))), flds := [], elem := 154, arr := false, bytes := 24 },
  { id := 96, ty := .pair (.int .i64) (.pair (.int .i64) (.int .i64)), flds := [(0, 3), (1, 3), (2, 3)], elem := 0, arr := false, bytes := 24 },
  { id := 97, ty := .pair (.int .i64) (.pair (.int .i64) (.int .i64)), flds := [(0, 3), (1, 3), (2, 3)], elem := 0, arr := false, bytes := 24 },
  { id := 98, ty := .sl (.pair (.int .i64) (.pair (.int .i64) (.int .i64))), flds := [], elem := 97, arr := false, bytes := 24 },
  { id := 101, ty := .sl (.sl (.int .i64)), flds := [], elem := 22, arr := false, bytes := 24 },
  { id := 103, ty := .pair (.int .i64) (.int .i64), flds := [(0, 3), (1, 3)], elem := 0, arr := false, bytes := 16 },
  { id := 104, ty := .pair (.int .i64) (.int .i64), flds := [(0, 3), (1, 3)], elem := 0, arr := false, bytes := 16 },
  { id := 109, ty := .pair (.int .i64) (.pair (.int .i64) (.int .i64)), flds := [(0, 3), (1, 3), (2, 3)], elem := 0, arr := false, bytes := 24 },
  { id := 110, ty := .pair (.int .i64) (.pair (.int .i64) (.int .i64)), flds := [(0, 3), (1, 3), (2, 3)], elem := 0, arr := false, bytes := 24 },
  { id := 114, ty := .pair (.int .i64) (.int .i64), flds := [(0, 3), (1, 3)], elem := 0, arr := false, bytes := 16 },
  { id := 115, ty := .pair (.int .i64) (.int .i64), flds := [(0, 3), (1, 3)], elem := 0, arr := false, bytes := 16 },
  { id := 116, ty := .pair (.pair (.int .i64) (.int .i64)) (.pair (.pair (.int .i64) (.int .i64)) (.pair (.pair (.int .i64) (.int .i64)) (.pair (.pair (.int .i64) (.int .i64)) (.pair (.pair (.int .i64) (.int .i64)) (.pair (.pair (.int .i64) (.int .i64)) (.pair (.pair (.int .i64) (.int .i64)) (.pair (.pair (.int .i64) (.int .i64)) (.pair (.int .i64) (.int .i64))))))))), flds := [(0, 115), (2, 115), (4, 115), (6, 115), (8, 115), (10, 115), (12, 115), (14, 115), (16, 115)], elem := 115, arr := true, bytes := 144 },
  { id := 122, ty := .pair (.int .i64) (.pair (.int .i64) (.pair (.int .i64) (.int .i64))), flds := [(0, 3), (1, 3), (2, 3), (3, 3)], elem := 0, arr := false, bytes := 32 },
  { id := 123, ty := .pair (.int .i64) (.pair (.int .i64) (.pair (.int .i64) (.int .i64))), flds := [(0, 3), (1, 3), (2, 3), (3, 3)], elem := 0, arr := false, bytes := 32 },
  { id := 129, ty := .pair (.int .i64) (.pair (.int .i64) (.pair (.int .i64) (.pair (.int .i64) (.pair (.int .i64) (.pair (.int .i64) (.int .i64)))))), flds := [(0, 3), (1, 3), (2, 3), (3, 3), (4, 3), (5, 3), (6, 3)], elem := 3, arr := true, bytes := 56 },
  { id := 134, ty := .unit, flds := [], elem := 0, arr := false, bytes := 0 },
  { id := 135, ty := .unit, flds := [], elem := 0, arr := false, bytes := 0 },
  { id := 142, ty := .int .u64, flds := [], elem := 0, arr := false, bytes := 8 },
  { id := 144, ty := .sl (.sl (.bool)), flds := [], elem := 92, arr := false, bytes := 24 },
  { id := 145, ty := .pair (.sl (.pair (.int .i64) (.pair (.int .i64) (.pair (.bool) (.sl (.int .i64)))))) (.pair (.sl (.bool)) (.pair (.sl (.sl (.bool))) (.pair (.sl (.pair (.int .i64) (.pair (.int .i64) (.pair (.int .i64) (.int .i64))))) (.pair (.sl (.pair (.int .i64) (.pair (.int .i64) (.pair (.int .i64) (.int .i64))))) (.int .i64))))), flds := [(0, 89), (1, 92), (2, 144), (3, 90), (4, 90), (5, 3)], elem := 0, arr := false, bytes := 128 },
  { id := 146, ty := .pair (.sl (.pair (.int .i64) (.pair (.int .i64) (.pair (.bool) (.sl (.int .i64)))))) (.pair (.sl (.bool)) (.pair (.sl (.sl (.bool))) (.pair (.sl (.pair (.int .i64) (.pair (.int .i64) (.pair (.int .i64) (.int .i64))))) (.pair (.sl (.pair (.int .i64) (.pair (.int .i64) (.pair (.int .i64) (.int .i64))))) (.int .i64))))), flds := [(0, 89), (1, 92), (2, 144), (3, 90), (4, 90), (5, 3)], elem := 0, arr := false, bytes := 128 },
  { id := 152, ty := .pair (.int .i64) (.pair (.int .i64) (.pair (.int .i64) (.int .i64))), flds := [(0, 3), (1, 3), (2, 3), (3, 3)], elem := 3, arr := true, bytes := 32 },
  { id := 153, ty := .pair (.int .i64) (.pair (.int .i64) (.pair (.int .i64) (.int .i64))), flds := [(0, 3), (1, 3), (2, 3), (3, 3)], elem := 0, arr := false, bytes := 32 },
  { id := 154, ty := .pair (.int .i64) (.pair (.int .i64) (.pair (.int .i64) (.int .i64))), flds := [(0, 3), (1, 3), (2, 3), (3, 3)], elem := 0, arr := false, bytes := 32 },
  { id := 168, ty := .int .u32, flds := [], elem := 0, arr := false, bytes := 4 },
  { id := 175, ty := .int .i64, flds := [], elem := 0, arr := false, bytes := 8 },
  { id := 185, ty := .pair (.int .i64) (.pair (.int .i64) (.pair (.int .i64) (.int .i64))), flds := [(0, 3), (1, 3), (2, 3), (3, 3)], elem := 0, arr := false, bytes := 32 },
  { id := 186, ty := .pair (.int .i64) (.pair (.int .i64) (.pair (.int .i64) (.int .i64))), flds := [(0, 3), (1, 3), (2, 3), (3, 3)], elem := 0, arr := false, bytes := 32 },
  { id := 196, ty := .pair (.int .u32) (.pair (.int .u32) (.pair (.int .u32) (.pair (.int .u32) (.pair (.int .u32) (.pair (.int .u32) (.pair (.int .u32) (.pair (.int .u32) (.pair (.int .u32) (.pair (.int .u32) (.pair (.int .u32) (.pair (.int .u32) (.pair (.int .u32) (.pair (.int .u32) (.pair (.int .u32) (.int .u32))))))))))))))), flds := [(0, 168), (1, 168), (2, 168), (3, 168), (4, 168), (5, 168), (6, 168), (7, 168), (8, 168), (9, 168), (10, 168), (11, 168), (12, 168), (13, 168), (14, 168), (15, 168)], elem := 168, arr := true, bytes := 64 },
  { id := 199, ty := .int .u64, flds := [], elem := 0, arr := false, bytes := 8 },
  { id := 220, ty := .int .u8, flds := [], elem := 0, arr := false, bytes := 1 },
  { id := 221, ty := .int .u8, flds := [], elem := 0, arr := false, bytes := 1 },
  { id := 224, ty := .int .i32, flds := [], elem := 0, arr := false, bytes := 4 },
  { id := 225, ty := .int .i32, flds := [], elem := 0, arr := false, bytes := 4 }]
def big : Nat := 18446744073709551616
theorem tabOK : TabOK Try.prog tab := by
  show tab.all (checkTE Try.prog tab) = true
  kernel_rfl
theorem mixed : Try.prog.follows .mixedOrders = true := Checked.mixed Try.checked
def env51 : Nat → Option Sig := fun _ => none
def ann51 : List LoopAnn := [{ id := 3, live := [3, 6, 7, 8], frz := [] }]
abbrev ps51 : List Ty := [.sl (.int .i64)]
abbrev rs51 : List Ty := [.int .i64]
noncomputable def d51 : (pk ps51).den → Option (pk rs51).den := fnK tab env51 6 ann51 big Try.f51 [] ps51 rs51 true
noncomputable def sg51 : Sig := { ps := ps51, rs := rs51, own := true, φ := d51 }
theorem envOk51 : ∀ f sg, env51 f = some sg → Contract Try.prog f sg := by
  intro f sg h
  unfold env51 at h
  cases h
theorem l51 : ps51.length ≤ Try.f51.ntmps := of_decide_eq_true (by kernel_rfl)
theorem h51 : ∀ x y, d51 x = some y → fnD tab env51 6 ann51 big Try.f51 [] ps51 rs51 true x = some y := fun x y h => by rw [d51, ← fnK_eq l51] at h; exact h
theorem r51 : resOK tab Try.f51.results.toList rs51 = true := by kernel_rfl
theorem n51 : nodupB (Try.f51.results.toList.map rSlot) = true := by kernel_rfl
theorem does51 : Does Try.prog 51 ps51 rs51 true d51 := fn_does mixed tabOK envOk51 Try.func51 r51 n51 l51 h51
theorem k51 : Callable Try.prog 51 := ⟨Try.f51, Try.func51, by kernel_rfl, by kernel_rfl⟩
theorem c51 : Contract Try.prog 51 sg51 := by rw [sg51]; exact Contract.of k51 does51
def env94 : Nat → Option Sig := fun _ => none
def ann94 : List LoopAnn := []
abbrev ps94 : List Ty := [.int .i64]
abbrev rs94 : List Ty := [.bool]
noncomputable def d94 : (pk ps94).den → Option (pk rs94).den := fnK tab env94 3 ann94 big Try.f94 [] ps94 rs94 true
noncomputable def sg94 : Sig := { ps := ps94, rs := rs94, own := true, φ := d94 }
theorem envOk94 : ∀ f sg, env94 f = some sg → Contract Try.prog f sg := by
  intro f sg h
  unfold env94 at h
  cases h
theorem l94 : ps94.length ≤ Try.f94.ntmps := of_decide_eq_true (by kernel_rfl)
theorem h94 : ∀ x y, d94 x = some y → fnD tab env94 3 ann94 big Try.f94 [] ps94 rs94 true x = some y := fun x y h => by rw [d94, ← fnK_eq l94] at h; exact h
theorem r94 : resOK tab Try.f94.results.toList rs94 = true := by kernel_rfl
theorem n94 : nodupB (Try.f94.results.toList.map rSlot) = true := by kernel_rfl
theorem does94 : Does Try.prog 94 ps94 rs94 true d94 := fn_does mixed tabOK envOk94 Try.func94 r94 n94 l94 h94
theorem k94 : Callable Try.prog 94 := ⟨Try.f94, Try.func94, by kernel_rfl, by kernel_rfl⟩
theorem c94 : Contract Try.prog 94 sg94 := by rw [sg94]; exact Contract.of k94 does94
noncomputable def env52 : Nat → Option Sig := fun n => match n with
  | 94 => some sg94
  | _ => none
def ann52 : List LoopAnn := []
abbrev ps52 : List Ty := [.int .i64, .int .i64]
abbrev rs52 : List Ty := [.int .i64]
noncomputable def d52 : (pk ps52).den → Option (pk rs52).den := fnK tab env52 7 ann52 big Try.f52 [] ps52 rs52 true
noncomputable def sg52 : Sig := { ps := ps52, rs := rs52, own := true, φ := d52 }
theorem envOk52 : ∀ f sg, env52 f = some sg → Contract Try.prog f sg := by
  intro f sg h
  unfold env52 at h
  split at h
  · injection h with h; subst h; exact c94
  · cases h
theorem l52 : ps52.length ≤ Try.f52.ntmps := of_decide_eq_true (by kernel_rfl)
theorem h52 : ∀ x y, d52 x = some y → fnD tab env52 7 ann52 big Try.f52 [] ps52 rs52 true x = some y := fun x y h => by rw [d52, ← fnK_eq l52] at h; exact h
theorem r52 : resOK tab Try.f52.results.toList rs52 = true := by kernel_rfl
theorem n52 : nodupB (Try.f52.results.toList.map rSlot) = true := by kernel_rfl
theorem does52 : Does Try.prog 52 ps52 rs52 true d52 := fn_does mixed tabOK envOk52 Try.func52 r52 n52 l52 h52
theorem k52 : Callable Try.prog 52 := ⟨Try.f52, Try.func52, by kernel_rfl, by kernel_rfl⟩
theorem c52 : Contract Try.prog 52 sg52 := by rw [sg52]; exact Contract.of k52 does52
end Go.Proofs.Ytbapfiaglcllnaa.D
