import Derived.Test.YtcfneiladppfnaaProg
import Derived.Test.YtcfneiladppfnaaChecked
import Derived.Test.YtcfneiladppfnaaGD29
import Derived.Test.YtcfneiladppfnaaGDD
import Derived.Test.YtcfneiladppfnaaGDW
import Derived.Test.YtcfneiladppfnaaGDK
open Go Go.GD Go.Proofs
namespace Go.Proofs.Ytcfneiladppfnaa.D
def tab : List TE := [
  { id := 2, ty := .int .i64, flds := [], elem := 0, arr := false, bytes := 8 },
  { id := 3, ty := .int .i64, flds := [], elem := 0, arr := false, bytes := 8 },
  { id := 4, ty := .bool, flds := [], elem := 0, arr := false, bytes := 1, eqs := true },
  { id := 5, ty := .int .u8, flds := [], elem := 0, arr := false, bytes := 1 },
  { id := 6, ty := .int .u8, flds := [], elem := 0, arr := false, bytes := 1 },
  { id := 7, ty := .pair (.int .i64) (.pair (.int .i64) (.pair (.bool) (.int .u8))), flds := [(0, 2), (1, 3), (2, 4), (3, 6)], elem := 0, arr := false, bytes := 24 },
  { id := 8, ty := .pair (.int .i64) (.pair (.int .i64) (.pair (.bool) (.int .u8))), flds := [(0, 2), (1, 3), (2, 4), (3, 6)], elem := 0, arr := false, bytes := 24 },
  { id := 9, ty := .str, flds := [], elem := 0, arr := false, bytes := 16 },
  { id := 10, ty := .str, flds := [], elem := 0, arr := false, bytes := 16 },
  { id := 11, ty := .str, flds := [], elem := 0, arr := false, bytes := 16 },
  { id := 12, ty := .int .u64, flds := [], elem := 0, arr := false, bytes := 8 },
  { id := 13, ty := .pair (.str) (.int .u64), flds := [(0, 9), (1, 12)], elem := 0, arr := false, bytes := 24 },
  { id := 14, ty := .pair (.str) (.int .u64), flds := [(0, 9), (1, 12)], elem := 0, arr := false, bytes := 24 },
  { id := 21, ty := .int .i32, flds := [], elem := 0, arr := false, bytes := 4 },
  { id := 22, ty := .sl (.pair (.int .i64) (.pair (.int .i64) (.pair (.int .i64) (.pair (.int .i64) (.pair (.int .i64) (.pair (.int .i64) (.int .i64))))))), flds := [], elem := 26, arr := false, bytes := 24 },
  { id := 23, ty := .pair (.int .i64) (.pair (.int .i64) (.sl (.pair (.int .i64) (.pair (.int .i64) (.pair (.int .i64) (.pair (.int .i64) (.pair (.int .i64) (.pair (.int .i64) (.int .i64))))))))), flds := [(0, 3), (1, 3), (2, 22)], elem := 0, arr := false, bytes := 40 },
  { id := 24, ty := .pair (.int .i64) (.pair (.int .i64) (.sl (.pair (.int .i64) (.pair (.int .i64) (.pair (.int .i64) (.pair (.int .i64) (.pair (.int .i64) (.pair (.int .i64) (.int .i64))))))))), flds := [(0, 3), (1, 3), (2, 22)], elem := 0, arr := false, bytes := 40 },
  { id := 25, ty := .pair (.int .i64) (.pair (.int .i64) (.pair (.int .i64) (.pair (.int .i64) (.pair (.int .i64) (.pair (.int .i64) (.int .i64)))))), flds := [(0, 3), (1, 3), (2, 3), (3, 3), (4, 3), (5, 3), (6, 3)], elem := 0, arr := false, bytes := 56 },
  { id := 26, ty := .pair (.int .i64) (.pair (.int .i64) (.pair (.int .i64) (.pair (.int .i64) (.pair (.int .i64) (.pair (.int .i64) (.int .i64)))))), flds := [(0, 3), (1, 3), (2, 3), (3, 3), (4, 3), (5, 3), (6, 3)], elem := 0, arr := false, bytes := 56, eqs := true },
  { id := 29, ty := .pair (.int .i64) (.pair (.int .i64) (.pair (.sl (.pair (.int .i64) (.pair (.int .i64) (.pair (.int .i64) (.pair (.int .i64) (.pair (.int .i64) (.pair (.int .i64) (.int .i64)))))))) (.sl (.pair (.int .i64) (.pair (.int .i64) (.pair (.int .i64) (.pair (.int .i64) (.pair (.int .i64) (.pair (.int .i64) (.int .i64)))))))))), flds := [(0, 3), (1, 3), (2, 22), (3, 22)], elem := 0, arr := false, bytes := 64 },
  { id := 30, ty := .pair (.int .i64) (.pair (.int .i64) (.pair (.sl (.pair (.int .i64) (.pair (.int .i64) (.pair (.int .i64) (.pair (.int .i64) (.pair (.int .i64) (.pair (.int .i64) (.int .i64)))))))) (.sl (.pair (.int .i64) (.pair (.int .i64) (.pair (.int .i64) (.pair (.int .i64) (.pair (.int .i64) (.pair (.int .i64) (.int .i64)))))))))), flds := [(0, 3), (1, 3), (2, 22), (3, 22)], elem := 0, arr := false, bytes := 64 },
  { id := 33, ty := .int .i64, flds := [], elem := 0, arr := false, bytes := 8 },
  { id := 46, ty := .sl (.pair (.int .i64) (.int .i64)), flds := [], elem := 52, arr := false, bytes := 24 },
  { id := 47, ty := .sl (.int .i64), flds := [], elem := 3, arr := false, bytes := 24 },
  { id := 48, ty := .pair (.pair (.int .i64) (.pair (.int .i64) (.sl (.pair (.int .i64) (.pair (.int .i64) (.pair (.int .i64) (.pair (.int .i64) (.pair (.int .i64) (.pair (.int .i64) (.int .i64)))))))))) (.pair (.pair (.int .i64) (.pair (.int .i64) (.pair (.sl (.pair (.int .i64) (.pair (.int .i64) (.pair (.int .i64) (.pair (.int .i64) (.pair (.int .i64) (.pair (.int .i64) (.int .i64)))))))) (.sl (.pair (.int .i64) (.pair (.int .i64) (.pair (.int .i64) (.pair (.int .i64) (.pair (.int .i64) (.pair (.int .i64) (.int .i64))))))))))) (.pair (.sl (.pair (.int .i64) (.pair (.int .i64) (.pair (.int .i64) (.pair (.int .i64) (.pair (.int .i64) (.pair (.int .i64) (.int .i64)))))))) (.sl (.int .i64)))), flds := [(0, 24), (3, 30), (7, 22), (8, 47)], elem := 0, arr := false, bytes := 152 },
  { id := 49, ty := .pair (.pair (.int .i64) (.pair (.int .i64) (.sl (.pair (.int .i64) (.pair (.int .i64) (.pair (.int .i64) (.pair (.int .i64) (.pair (.int .i64) (.pair (.int .i64) (.int .i64)))))))))) (.pair (.pair (.int .i64) (.pair (.int .i64) (.pair (.sl (.pair (.int .i64) (.pair (.int .i64) (.pair (.int .i64) (.pair (.int .i64) (.pair (.int .i64) (.pair (.int .i64) (.int .i64)))))))) (.sl (.pair (.int .i64) (.pair (.int .i64) (.pair (.int .i64) (.pair (.int .i64) (.pair (.int .i64) (.pair (.int .i64) (.int .i64))))))))))) (.pair (.sl (.pair (.int .i64) (.pair (.int .i64) (.pair (.int .i64) (.pair (.int .i64) (.pair (.int .i64) (.pair (.int .i64) (.int .i64)))))))) (.sl (.int .i64)))), flds := [(0, 24), (3, 30), (7, 22), (8, 47)], elem := 0, arr := false, bytes := 152 },
  { id := 51, ty := .pair (.int .i64) (.int .i64), flds := [(0, 3), (1, 3)], elem := 0, arr := false, bytes := 16 },
  { id := 52, ty := .pair (.int .i64) (.int .i64), flds := [(0, 3), (1, 3)], elem := 0, arr := false, bytes := 16 },
  { id := 78, ty := .int .u32, flds := [], elem := 0, arr := false, bytes := 4 },
  { id := 79, ty := .int .u8, flds := [], elem := 0, arr := false, bytes := 1 },
  { id := 80, ty := .int .u8, flds := [], elem := 0, arr := false, bytes := 1 },
  { id := 83, ty := .int .i32, flds := [], elem := 0, arr := false, bytes := 4 },
  { id := 84, ty := .int .i32, flds := [], elem := 0, arr := false, bytes := 4 }]

def big : Nat := 18446744073709551616
theorem tabOK : TabOK Try.prog tab := by
  show tab.all (checkTE Try.prog tab) = true
  kernel_rfl
theorem mixed : Try.prog.follows .mixedOrders = true := Checked.mixed Try.checked
/-! slices.IndexFunc[[]skiarea/api.Ride,skiarea/api.Ride] -/
def env30 : Nat → Option Sig := fun _ => none

def ann30 : List LoopAnn := [{ id := 2, live := [0, 1, 7, 8], frz := [] }]
abbrev ps30 : List Ty := [.sl (.pair (.int .i64) (.pair (.int .i64) (.pair (.int .i64) (.pair (.int .i64) (.pair (.int .i64) (.pair (.int .i64) (.int .i64))))))), .fn (.pair (.int .i64) (.pair (.int .i64) (.pair (.int .i64) (.pair (.int .i64) (.pair (.int .i64) (.pair (.int .i64) (.int .i64))))))) (.bool)]
abbrev rs30 : List Ty := [.int .i64]
noncomputable def d30 : (pk ps30).den → Option (pk rs30).den := fnK tab env30 6 ann30 big Try.f30 [] ps30 rs30 true
noncomputable def sg30 : Sig := { ps := ps30, rs := rs30, own := true, φ := d30 }

theorem envOk30 : ∀ f sg, env30 f = some sg → Contract Try.prog f sg := by
  intro f sg h
  unfold env30 at h
  cases h
theorem l30 : ps30.length ≤ Try.f30.ntmps := of_decide_eq_true (by kernel_rfl)
theorem h30 : ∀ x y, d30 x = some y → fnD tab env30 6 ann30 big Try.f30 [] ps30 rs30 true x = some y := fun x y h => by rw [d30, ← fnK_eq l30] at h; exact h
theorem r30 : resOK tab Try.f30.results.toList rs30 = true := by kernel_rfl
theorem n30 : nodupB (Try.f30.results.toList.map rSlot) = true := by kernel_rfl
theorem does30 : Does Try.prog 30 ps30 rs30 true d30 := fn_does mixed tabOK envOk30 Try.func30 r30 n30 l30 h30
theorem k30 : Callable Try.prog 30 := ⟨Try.f30, Try.func30, by kernel_rfl, by kernel_rfl⟩
theorem c30 : Contract Try.prog 30 sg30 := by rw [sg30]; exact Contract.of k30 does30

end Go.Proofs.Ytcfneiladppfnaa.D
