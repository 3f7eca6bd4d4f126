import Derived.Test.YthjplaicophnnaaProg
import Derived.Test.YthjplaicophnnaaChecked
import Derived.Test.YthjplaicophnnaaGD29
import Derived.Test.YthjplaicophnnaaGDD
import Derived.Test.YthjplaicophnnaaGDW
import Derived.Test.YthjplaicophnnaaGDK
open Go Go.GD Go.Proofs
namespace Go.Proofs.Ythjplaicophnnaa.D
def tab : List TE := [
  { id := 2, ty := .int .i64, flds := [], elem := 0, arr := false, bytes := 8 },
  { id := 3, ty := .int .i64, flds := [], elem := 0, arr := false, bytes := 8 },
  { id := 4, ty := .bool, flds := [], elem := 0, arr := false, bytes := 1, eqs := true },
  { id := 5, ty := .int .u8, flds := [], elem := 0, arr := false, bytes := 1 },
  { id := 6, ty := .int .u8, flds := [], elem := 0, arr := false, bytes := 1 },
  { id := 7, ty := .pair (.int .i64) (.pair (.int .i64) (.pair (.bool) (.int .u8))), flds := [(0, 2), (1, 3), (2, 4), (3, 6)], elem := 0, arr := false, bytes := 24 },
  { id := 8, ty := .pair (.int .i64) (.pair (.int .i64) (.pair (.bool) (.int .u8))), flds := [(0, 2), (1, 3), (2, 4), (3, 6)], elem := 0, arr := false, bytes := 24 },
  { id := 9, ty := .str, flds := [], elem := 0, arr := false, bytes := 16 },
  { id := 10, ty := .str, flds := [], elem := 0, arr := false, bytes := 16 },
  { id := 11, ty := .str, flds := [], elem := 0, arr := false, bytes := 16 },
  { id := 12, ty := .int .u64, flds := [], elem := 0, arr := false, bytes := 8 },
  { id := 13, ty := .pair (.str) (.int .u64), flds := [(0, 9), (1, 12)], elem := 0, arr := false, bytes := 24 },
  { id := 14, ty := .pair (.str) (.int .u64), flds := [(0, 9), (1, 12)], elem := 0, arr := false, bytes := 24 },
  { id := 21, ty := .int .i32, flds := [], elem := 0, arr := false, bytes := 4 },
  { id := 22, ty := .sl (.pair (.int .i64) (.pair (.int .i64) (.pair (.bool) (.sl (.int .i64))))), flds := [], elem := 37, arr := false, bytes := 24 },
  { id := 23, ty := .sl (.bool), flds := [], elem := 4, arr := false, bytes := 24 },
  { id := 25, ty := .int .i64, flds := [], elem := 0, arr := false, bytes := 8 },
  { id := 28, ty := .sl (.pair (.int .i64) (.pair (.int .i64) (.pair (.int .i64) (.int .i64)))), flds := [], elem := 34, arr := false, bytes := 24 },
  { id := 33, ty := .pair (.int .i64) (.pair (.int .i64) (.pair (.int .i64) (.int .i64))), flds := [(0, 3), (1, 3), (2, 3), (3, 3)], elem := 0, arr := false, bytes := 32 },
  { id := 34, ty := .pair (.int .i64) (.pair (.int .i64) (.pair (.int .i64) (.int .i64))), flds := [(0, 3), (1, 3), (2, 3), (3, 3)], elem := 0, arr := false, bytes := 32 },
  { id := 35, ty := .sl (.int .i64), flds := [], elem := 3, arr := false, bytes := 24 },
  { id := 36, ty := .pair (.int .i64) (.pair (.int .i64) (.pair (.bool) (.sl (.int .i64)))), flds := [(0, 3), (1, 3), (2, 4), (3, 35)], elem := 0, arr := false, bytes := 48 },
  { id := 37, ty := .pair (.int .i64) (.pair (.int .i64) (.pair (.bool) (.sl (.int .i64)))), flds := [(0, 3), (1, 3), (2, 4), (3, 35)], elem := 0, arr := false, bytes := 48 },
  { id := 45, ty := .sl (.sl (.bool)), flds := [], elem := 23, arr := false, bytes := 24 },
  { id := 46, ty := .pair (.sl (.pair (.int .i64) (.pair (.int .i64) (.pair (.bool) (.sl (.int .i64)))))) (.pair (.sl (.bool)) (.pair (.sl (.sl (.bool))) (.pair (.sl (.pair (.int .i64) (.pair (.int .i64) (.pair (.int .i64) (.int .i64))))) (.pair (.sl (.pair (.int .i64) (.pair (.int .i64) (.pair (.int .i64) (.int .i64))))) (.int .i64))))), flds := [(0, 22), (1, 23), (2, 45), (3, 28), (4, 28), (5, 3)], elem := 0, arr := false, bytes := 128 },
  { id := 47, ty := .pair (.sl (.pair (.int .i64) (.pair (.int .i64) (.pair (.bool) (.sl (.int .i64)))))) (.pair (.sl (.bool)) (.pair (.sl (.sl (.bool))) (.pair (.sl (.pair (.int .i64) (.pair (.int .i64) (.pair (.int .i64) (.int .i64))))) (.pair (.sl (.pair (.int .i64) (.pair (.int .i64) (.pair (.int .i64) (.int .i64))))) (.int .i64))))), flds := [(0, 22), (1, 23), (2, 45), (3, 28), (4, 28), (5, 3)], elem := 0, arr := false, bytes := 128 },
  { id := 54, ty := .pair (.sl (.pair (.int .i64) (.pair (.int .i64) (.pair (.bool) (.sl (.int .i64)))))) (.pair (.sl (.bool)) (.pair (.int .i64) (.sl (.pair (.int .i64) (.pair (.int .i64) (.pair (.int .i64) (.int .i64))))))), flds := [(0, 22), (1, 23), (2, 3), (3, 28)], elem := 0, arr := false, bytes := 80 },
  { id := 55, ty := .pair (.sl (.pair (.int .i64) (.pair (.int .i64) (.pair (.bool) (.sl (.int .i64)))))) (.pair (.sl (.bool)) (.pair (.int .i64) (.sl (.pair (.int .i64) (.pair (.int .i64) (.pair (.int .i64) (.int .i64))))))), flds := [(0, 22), (1, 23), (2, 3), (3, 28)], elem := 0, arr := false, bytes := 80 },
  { id := 68, ty := .int .u32, flds := [], elem := 0, arr := false, bytes := 4 },
  { id := 69, ty := .int .u8, flds := [], elem := 0, arr := false, bytes := 1 },
  { id := 70, ty := .int .u8, flds := [], elem := 0, arr := false, bytes := 1 },
  { id := 73, ty := .int .i32, flds := [], elem := 0, arr := false, bytes := 4 },
  { id := 74, ty := .int .i32, flds := [], elem := 0, arr := false, bytes := 4 }]

def big : Nat := 18446744073709551616
theorem tabOK : TabOK Try.prog tab := by
  show tab.all (checkTE Try.prog tab) = true
  kernel_rfl
theorem mixed : Try.prog.follows .mixedOrders = true := Checked.mixed Try.checked
/-! (*skiarea/route.search).earliest -/
def env37 : Nat → Option Sig := fun _ => none

def ann37 : List LoopAnn := [{ id := 3, live := [0, 1, 2, 7, 13, 14, 15], frz := [] }]
abbrev ps37 : List Ty := [.int .i64, .int .i64]
abbrev rs37 : List Ty := [.int .i64]

abbrev tB37 : Ty := .pair (.sl (.pair (.int .i64) (.pair (.int .i64) (.pair (.bool) (.sl (.int .i64)))))) (.pair (.sl (.bool)) (.pair (.sl (.sl (.bool))) (.pair (.sl (.pair (.int .i64) (.pair (.int .i64) (.pair (.int .i64) (.int .i64))))) (.pair (.sl (.pair (.int .i64) (.pair (.int .i64) (.pair (.int .i64) (.int .i64))))) (.int .i64)))))
def bm37 : List Mk := [.shr, .shr, .shr, .own, .own, .shr]
abbrev F37 : Type := tB37.den → (pk ps37).den → Option (tB37.den × (pk rs37).den)

def bx37 : Nat → Option BxSig := fun _ => none

noncomputable def d37 : F37 := fnKB tab env37 bx37 10 ann37 big Try.f37 tB37 bm37 ps37 rs37
noncomputable def sg37 : BxSig := { t := tB37, bm := bm37, ps := ps37, rs := rs37, φ := d37 }

theorem envOk37 : ∀ f sg, env37 f = some sg → Contract Try.prog f sg := by
  intro f sg h
  unfold env37 at h
  cases h
theorem bxOk37 : ∀ f b, bx37 f = some b → BxContract Try.prog f b := by
  intro f b h
  unfold bx37 at h
  cases h
theorem r37 : resOK tab Try.f37.results.toList rs37 = true := by kernel_rfl
theorem n37 : nodupB (Try.f37.results.toList.map rSlot) = true := by kernel_rfl
theorem k37 : Callable Try.prog 37 := ⟨Try.f37, Try.func37, by kernel_rfl, by kernel_rfl⟩
theorem l37 : ps37.length + 1 ≤ Try.f37.ntmps := of_decide_eq_true (by kernel_rfl)
theorem z37 : memNat (Try.f37.results.toList.map rSlot) 0 = false := by kernel_rfl
theorem p37 : plainMarks bm37 = true := by kernel_rfl
theorem h37 : ∀ x y r, d37 x y = some r → fnB tab env37 bx37 10 ann37 big Try.f37 tB37 bm37 ps37 rs37 x y = some r := fun x y r h => by
  rw [fnKB_eq l37]; exact h
theorem c37 : BxContract Try.prog 37 sg37 := by
  rw [sg37]; exact BxContract.of k37 p37 (fn_boxP mixed tabOK envOk37 bxOk37 Try.func37 r37 n37 z37 l37 p37 h37)

/-! (*skiarea/route.search).place -/
def env30 : Nat → Option Sig := fun _ => none

def ann30 : List LoopAnn := [{ id := 5, live := [0, 1, 2, 3, 37, 38, 39], frz := [] }, { id := 9, live := [0, 1, 2, 3, 8, 9, 37, 38, 39, 56, 57, 58], frz := [] }]
abbrev ps30 : List Ty := [.int .i64, .int .i64, .int .i64]
abbrev rs30 : List Ty := []

abbrev tB30 : Ty := .pair (.sl (.pair (.int .i64) (.pair (.int .i64) (.pair (.bool) (.sl (.int .i64)))))) (.pair (.sl (.bool)) (.pair (.sl (.sl (.bool))) (.pair (.sl (.pair (.int .i64) (.pair (.int .i64) (.pair (.int .i64) (.int .i64))))) (.pair (.sl (.pair (.int .i64) (.pair (.int .i64) (.pair (.int .i64) (.int .i64))))) (.int .i64)))))
def bm30 : List Mk := [.shr, .shr, .shr, .own, .own, .shr]
abbrev F30 : Type := tB30.den → (pk ps30).den → Option (tB30.den × (pk rs30).den)

noncomputable def bx30 (φ : F30) : Nat → Option BxSig := fun n => match n with
  | 30 => some { t := tB30, bm := bm30, ps := ps30, rs := rs30, φ := φ }
  | 37 => some sg37
  | _ => none

noncomputable def d30 (n : Nat) : F30 := Nat.rec (fun _ _ => none) (fun _ φ => fnKB tab env30 (bx30 φ) 13 ann30 big Try.f30 tB30 bm30 ps30 rs30) n
noncomputable def sg30n (n : Nat) : BxSig := { t := tB30, bm := bm30, ps := ps30, rs := rs30, φ := d30 n }
/-- deep enough -/
noncomputable def sg30 : BxSig := sg30n 64

theorem envOk30 : ∀ f sg, env30 f = some sg → Contract Try.prog f sg := by
  intro f sg h
  unfold env30 at h
  cases h
theorem bxOk30 (φ : F30) (hφ : BxContract Try.prog 30 { t := tB30, bm := bm30, ps := ps30, rs := rs30, φ := φ }) : ∀ f b, bx30 φ f = some b → BxContract Try.prog f b := by
  intro f b h
  unfold bx30 at h
  split at h
  · injection h with h; subst h; exact hφ
  · injection h with h; subst h; exact c37
  · cases h
theorem r30 : resOK tab Try.f30.results.toList rs30 = true := by kernel_rfl
theorem n30 : nodupB (Try.f30.results.toList.map rSlot) = true := by kernel_rfl
theorem k30 : Callable Try.prog 30 := ⟨Try.f30, Try.func30, by kernel_rfl, by kernel_rfl⟩
theorem l30 : ps30.length + 1 ≤ Try.f30.ntmps := of_decide_eq_true (by kernel_rfl)
theorem z30 : memNat (Try.f30.results.toList.map rSlot) 0 = false := by kernel_rfl
theorem p30 : plainMarks bm30 = true := by kernel_rfl
theorem h30 (n : Nat) : ∀ x y r, d30 (n + 1) x y = some r → fnB tab env30 (bx30 (d30 n)) 13 ann30 big Try.f30 tB30 bm30 ps30 rs30 x y = some r := fun x y r h => by
  rw [fnKB_eq l30]; exact h
theorem c30n (n : Nat) : BxContract Try.prog 30 (sg30n n) := by
  induction n with
  | zero => rw [sg30n]; exact BxContract.of k30 p30 (BoxDoes.none fun _ _ => rfl)
  | succ n ih => rw [sg30n] at ih ⊢; exact BxContract.of k30 p30 (fn_boxP mixed tabOK envOk30 (bxOk30 (d30 n) ih) Try.func30 r30 n30 z30 l30 p30 (h30 n))
theorem c30 : BxContract Try.prog 30 sg30 := c30n 64

/-! slices.IndexFunc[[]skiarea/api.Task,skiarea/api.Task] -/
def env31 : Nat → Option Sig := fun _ => none

def ann31 : List LoopAnn := [{ id := 2, live := [0, 1, 7, 8], frz := [] }]
abbrev ps31 : List Ty := [.sl (.pair (.int .i64) (.pair (.int .i64) (.pair (.bool) (.sl (.int .i64))))), .fn (.pair (.int .i64) (.pair (.int .i64) (.pair (.bool) (.sl (.int .i64))))) (.bool)]
abbrev rs31 : List Ty := [.int .i64]
noncomputable def d31 : (pk ps31).den → Option (pk rs31).den := fnK tab env31 6 ann31 big Try.f31 [] ps31 rs31 true
noncomputable def sg31 : Sig := { ps := ps31, rs := rs31, own := true, φ := d31 }

theorem envOk31 : ∀ f sg, env31 f = some sg → Contract Try.prog f sg := by
  intro f sg h
  unfold env31 at h
  cases h
theorem l31 : ps31.length ≤ Try.f31.ntmps := of_decide_eq_true (by kernel_rfl)
theorem h31 : ∀ x y, d31 x = some y → fnD tab env31 6 ann31 big Try.f31 [] ps31 rs31 true x = some y := fun x y h => by rw [d31, ← fnK_eq l31] at h; exact h
theorem r31 : resOK tab Try.f31.results.toList rs31 = true := by kernel_rfl
theorem n31 : nodupB (Try.f31.results.toList.map rSlot) = true := by kernel_rfl
theorem does31 : Does Try.prog 31 ps31 rs31 true d31 := fn_does mixed tabOK envOk31 Try.func31 r31 n31 l31 h31
theorem k31 : Callable Try.prog 31 := ⟨Try.f31, Try.func31, by kernel_rfl, by kernel_rfl⟩
theorem c31 : Contract Try.prog 31 sg31 := by rw [sg31]; exact Contract.of k31 does31

/-! skiarea/route.find$1 -/
def env32 : Nat → Option Sig := fun _ => none

def ann32 : List LoopAnn := []
abbrev ps32 : List Ty := [.pair (.int .i64) (.pair (.int .i64) (.pair (.bool) (.sl (.int .i64)))), .ptr (.int .i64)]
abbrev rs32 : List Ty := [.bool]
noncomputable def d32 : (pk ps32).den → Option (pk rs32).den := fnK tab env32 4 ann32 big Try.f32 [] ps32 rs32 true
noncomputable def sg32 : Sig := { ps := ps32, rs := rs32, own := true, φ := d32 }

theorem envOk32 : ∀ f sg, env32 f = some sg → Contract Try.prog f sg := by
  intro f sg h
  unfold env32 at h
  cases h
theorem l32 : ps32.length ≤ Try.f32.ntmps := of_decide_eq_true (by kernel_rfl)
theorem h32 : ∀ x y, d32 x = some y → fnD tab env32 4 ann32 big Try.f32 [] ps32 rs32 true x = some y := fun x y h => by rw [d32, ← fnK_eq l32] at h; exact h
theorem r32 : resOK tab Try.f32.results.toList rs32 = true := by kernel_rfl
theorem n32 : nodupB (Try.f32.results.toList.map rSlot) = true := by kernel_rfl
theorem does32 : Does Try.prog 32 ps32 rs32 true d32 := fn_does mixed tabOK envOk32 Try.func32 r32 n32 l32 h32
theorem k32 : Callable Try.prog 32 := ⟨Try.f32, Try.func32, by kernel_rfl, by kernel_rfl⟩
theorem c32 : Contract Try.prog 32 sg32 := by rw [sg32]; exact Contract.of k32 does32

/-! skiarea/route.find -/
noncomputable def env22 : Nat → Option Sig := fun n => match n with
  | 31 => some sg31
  | 32 => some sg32
  | _ => none

def ann22 : List LoopAnn := []
abbrev ps22 : List Ty := [.sl (.pair (.int .i64) (.pair (.int .i64) (.pair (.bool) (.sl (.int .i64))))), .int .i64]
abbrev rs22 : List Ty := [.int .i64]
noncomputable def d22 : (pk ps22).den → Option (pk rs22).den := fnK tab env22 5 ann22 big Try.f22 [] ps22 rs22 true
noncomputable def sg22 : Sig := { ps := ps22, rs := rs22, own := true, φ := d22 }

theorem envOk22 : ∀ f sg, env22 f = some sg → Contract Try.prog f sg := by
  intro f sg h
  unfold env22 at h
  split at h
  · injection h with h; subst h; exact c31
  · injection h with h; subst h; exact c32
  · cases h
theorem l22 : ps22.length ≤ Try.f22.ntmps := of_decide_eq_true (by kernel_rfl)
theorem h22 : ∀ x y, d22 x = some y → fnD tab env22 5 ann22 big Try.f22 [] ps22 rs22 true x = some y := fun x y h => by rw [d22, ← fnK_eq l22] at h; exact h
theorem r22 : resOK tab Try.f22.results.toList rs22 = true := by kernel_rfl
theorem n22 : nodupB (Try.f22.results.toList.map rSlot) = true := by kernel_rfl
theorem does22 : Does Try.prog 22 ps22 rs22 true d22 := fn_does mixed tabOK envOk22 Try.func22 r22 n22 l22 h22
theorem k22 : Callable Try.prog 22 := ⟨Try.f22, Try.func22, by kernel_rfl, by kernel_rfl⟩
theorem c22 : Contract Try.prog 22 sg22 := by rw [sg22]; exact Contract.of k22 does22

/-! slices.Index[[]bool,bool] -/
def env33 : Nat → Option Sig := fun _ => none

def ann33 : List LoopAnn := [{ id := 2, live := [0, 1, 7, 8], frz := [] }]
abbrev ps33 : List Ty := [.sl (.bool), .bool]
abbrev rs33 : List Ty := [.int .i64]
noncomputable def d33 : (pk ps33).den → Option (pk rs33).den := fnK tab env33 6 ann33 big Try.f33 [] ps33 rs33 true
noncomputable def sg33 : Sig := { ps := ps33, rs := rs33, own := true, φ := d33 }

theorem envOk33 : ∀ f sg, env33 f = some sg → Contract Try.prog f sg := by
  intro f sg h
  unfold env33 at h
  cases h
theorem l33 : ps33.length ≤ Try.f33.ntmps := of_decide_eq_true (by kernel_rfl)
theorem h33 : ∀ x y, d33 x = some y → fnD tab env33 6 ann33 big Try.f33 [] ps33 rs33 true x = some y := fun x y h => by rw [d33, ← fnK_eq l33] at h; exact h
theorem r33 : resOK tab Try.f33.results.toList rs33 = true := by kernel_rfl
theorem n33 : nodupB (Try.f33.results.toList.map rSlot) = true := by kernel_rfl
theorem does33 : Does Try.prog 33 ps33 rs33 true d33 := fn_does mixed tabOK envOk33 Try.func33 r33 n33 l33 h33
theorem k33 : Callable Try.prog 33 := ⟨Try.f33, Try.func33, by kernel_rfl, by kernel_rfl⟩
theorem c33 : Contract Try.prog 33 sg33 := by rw [sg33]; exact Contract.of k33 does33

/-! slices.Contains[[]bool,bool] -/
noncomputable def env23 : Nat → Option Sig := fun n => match n with
  | 33 => some sg33
  | _ => none

def ann23 : List LoopAnn := []
abbrev ps23 : List Ty := [.sl (.bool), .bool]
abbrev rs23 : List Ty := [.bool]
noncomputable def d23 : (pk ps23).den → Option (pk rs23).den := fnK tab env23 5 ann23 big Try.f23 [] ps23 rs23 true
noncomputable def sg23 : Sig := { ps := ps23, rs := rs23, own := true, φ := d23 }

theorem envOk23 : ∀ f sg, env23 f = some sg → Contract Try.prog f sg := by
  intro f sg h
  unfold env23 at h
  split at h
  · injection h with h; subst h; exact c33
  · cases h
theorem l23 : ps23.length ≤ Try.f23.ntmps := of_decide_eq_true (by kernel_rfl)
theorem h23 : ∀ x y, d23 x = some y → fnD tab env23 5 ann23 big Try.f23 [] ps23 rs23 true x = some y := fun x y h => by rw [d23, ← fnK_eq l23] at h; exact h
theorem r23 : resOK tab Try.f23.results.toList rs23 = true := by kernel_rfl
theorem n23 : nodupB (Try.f23.results.toList.map rSlot) = true := by kernel_rfl
theorem does23 : Does Try.prog 23 ps23 rs23 true d23 := fn_does mixed tabOK envOk23 Try.func23 r23 n23 l23 h23
theorem k23 : Callable Try.prog 23 := ⟨Try.f23, Try.func23, by kernel_rfl, by kernel_rfl⟩
theorem c23 : Contract Try.prog 23 sg23 := by rw [sg23]; exact Contract.of k23 does23

/-! skiarea/route.Right -/
noncomputable def env11 : Nat → Option Sig := fun n => match n with
  | 22 => some sg22
  | 23 => some sg23
  | _ => none

def ann11 : List LoopAnn := [{ id := 6, live := [0, 1, 18, 19, 20], frz := [] }]
abbrev ps11 : List Ty := [.sl (.pair (.int .i64) (.pair (.int .i64) (.pair (.bool) (.sl (.int .i64))))), .sl (.bool)]
abbrev rs11 : List Ty := [.int .i64]
noncomputable def d11 : (pk ps11).den → Option (pk rs11).den := fnK tab env11 7 ann11 big Try.f11 [] ps11 rs11 true
noncomputable def sg11 : Sig := { ps := ps11, rs := rs11, own := true, φ := d11 }

theorem envOk11 : ∀ f sg, env11 f = some sg → Contract Try.prog f sg := by
  intro f sg h
  unfold env11 at h
  split at h
  · injection h with h; subst h; exact c22
  · injection h with h; subst h; exact c23
  · cases h
theorem l11 : ps11.length ≤ Try.f11.ntmps := of_decide_eq_true (by kernel_rfl)
theorem h11 : ∀ x y, d11 x = some y → fnD tab env11 7 ann11 big Try.f11 [] ps11 rs11 true x = some y := fun x y h => by rw [d11, ← fnK_eq l11] at h; exact h
theorem r11 : resOK tab Try.f11.results.toList rs11 = true := by kernel_rfl
theorem n11 : nodupB (Try.f11.results.toList.map rSlot) = true := by kernel_rfl
theorem does11 : Does Try.prog 11 ps11 rs11 true d11 := fn_does mixed tabOK envOk11 Try.func11 r11 n11 l11 h11
theorem k11 : Callable Try.prog 11 := ⟨Try.f11, Try.func11, by kernel_rfl, by kernel_rfl⟩
theorem c11 : Contract Try.prog 11 sg11 := by rw [sg11]; exact Contract.of k11 does11

/-! slices.Index[[]int,int] -/
def env38 : Nat → Option Sig := fun _ => none

def ann38 : List LoopAnn := [{ id := 2, live := [0, 1, 7, 8], frz := [] }]
abbrev ps38 : List Ty := [.sl (.int .i64), .int .i64]
abbrev rs38 : List Ty := [.int .i64]
noncomputable def d38 : (pk ps38).den → Option (pk rs38).den := fnK tab env38 6 ann38 big Try.f38 [] ps38 rs38 true
noncomputable def sg38 : Sig := { ps := ps38, rs := rs38, own := true, φ := d38 }

theorem envOk38 : ∀ f sg, env38 f = some sg → Contract Try.prog f sg := by
  intro f sg h
  unfold env38 at h
  cases h
theorem l38 : ps38.length ≤ Try.f38.ntmps := of_decide_eq_true (by kernel_rfl)
theorem h38 : ∀ x y, d38 x = some y → fnD tab env38 6 ann38 big Try.f38 [] ps38 rs38 true x = some y := fun x y h => by rw [d38, ← fnK_eq l38] at h; exact h
theorem r38 : resOK tab Try.f38.results.toList rs38 = true := by kernel_rfl
theorem n38 : nodupB (Try.f38.results.toList.map rSlot) = true := by kernel_rfl
theorem does38 : Does Try.prog 38 ps38 rs38 true d38 := fn_does mixed tabOK envOk38 Try.func38 r38 n38 l38 h38
theorem k38 : Callable Try.prog 38 := ⟨Try.f38, Try.func38, by kernel_rfl, by kernel_rfl⟩
theorem c38 : Contract Try.prog 38 sg38 := by rw [sg38]; exact Contract.of k38 does38

/-! slices.Contains[[]int,int] -/
noncomputable def env34 : Nat → Option Sig := fun n => match n with
  | 38 => some sg38
  | _ => none

def ann34 : List LoopAnn := []
abbrev ps34 : List Ty := [.sl (.int .i64), .int .i64]
abbrev rs34 : List Ty := [.bool]
noncomputable def d34 : (pk ps34).den → Option (pk rs34).den := fnK tab env34 5 ann34 big Try.f34 [] ps34 rs34 true
noncomputable def sg34 : Sig := { ps := ps34, rs := rs34, own := true, φ := d34 }

theorem envOk34 : ∀ f sg, env34 f = some sg → Contract Try.prog f sg := by
  intro f sg h
  unfold env34 at h
  split at h
  · injection h with h; subst h; exact c38
  · cases h
theorem l34 : ps34.length ≤ Try.f34.ntmps := of_decide_eq_true (by kernel_rfl)
theorem h34 : ∀ x y, d34 x = some y → fnD tab env34 5 ann34 big Try.f34 [] ps34 rs34 true x = some y := fun x y h => by rw [d34, ← fnK_eq l34] at h; exact h
theorem r34 : resOK tab Try.f34.results.toList rs34 = true := by kernel_rfl
theorem n34 : nodupB (Try.f34.results.toList.map rSlot) = true := by kernel_rfl
theorem does34 : Does Try.prog 34 ps34 rs34 true d34 := fn_does mixed tabOK envOk34 Try.func34 r34 n34 l34 h34
theorem k34 : Callable Try.prog 34 := ⟨Try.f34, Try.func34, by kernel_rfl, by kernel_rfl⟩
theorem c34 : Contract Try.prog 34 sg34 := by rw [sg34]; exact Contract.of k34 does34

/-! skiarea/route.clash -/
noncomputable def env25 : Nat → Option Sig := fun n => match n with
  | 34 => some sg34
  | _ => none

def ann25 : List LoopAnn := []
abbrev ps25 : List Ty := [.pair (.int .i64) (.pair (.int .i64) (.pair (.bool) (.sl (.int .i64)))), .pair (.int .i64) (.pair (.int .i64) (.pair (.bool) (.sl (.int .i64))))]
abbrev rs25 : List Ty := [.bool]
noncomputable def d25 : (pk ps25).den → Option (pk rs25).den := fnK tab env25 5 ann25 big Try.f25 [] ps25 rs25 true
noncomputable def sg25 : Sig := { ps := ps25, rs := rs25, own := true, φ := d25 }

theorem envOk25 : ∀ f sg, env25 f = some sg → Contract Try.prog f sg := by
  intro f sg h
  unfold env25 at h
  split at h
  · injection h with h; subst h; exact c34
  · cases h
theorem l25 : ps25.length ≤ Try.f25.ntmps := of_decide_eq_true (by kernel_rfl)
theorem h25 : ∀ x y, d25 x = some y → fnD tab env25 5 ann25 big Try.f25 [] ps25 rs25 true x = some y := fun x y h => by rw [d25, ← fnK_eq l25] at h; exact h
theorem r25 : resOK tab Try.f25.results.toList rs25 = true := by kernel_rfl
theorem n25 : nodupB (Try.f25.results.toList.map rSlot) = true := by kernel_rfl
theorem does25 : Does Try.prog 25 ps25 rs25 true d25 := fn_does mixed tabOK envOk25 Try.func25 r25 n25 l25 h25
theorem k25 : Callable Try.prog 25 := ⟨Try.f25, Try.func25, by kernel_rfl, by kernel_rfl⟩
theorem c25 : Contract Try.prog 25 sg25 := by rw [sg25]; exact Contract.of k25 does25

end Go.Proofs.Ythjplaicophnnaa.D
