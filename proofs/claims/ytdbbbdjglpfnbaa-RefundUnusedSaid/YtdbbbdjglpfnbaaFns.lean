import Derived.Test.YtdbbbdjglpfnbaaProg
import Derived.Test.YtdbbbdjglpfnbaaChecked
import Derived.Test.YtdbbbdjglpfnbaaGd24
open Go Go.GD Go.Proofs
namespace Go.Proofs.Ytdbbbdjglpfnbaa.D
def tab : List TE := [
  { id := 2, ty := .int .i64, flds := [], elem := 0, arr := false, bytes := 8 },
  { id := 3, ty := .int .i64, flds := [], elem := 0, arr := false, bytes := 8 },
  { id := 4, ty := .bool, flds := [], elem := 0, arr := false, bytes := 1 },
  { id := 5, ty := .int .u8, flds := [], elem := 0, arr := false, bytes := 1 },
  { id := 6, ty := .int .u8, flds := [], elem := 0, arr := false, bytes := 1 },
  { id := 7, ty := .pair (.int .i64) (.pair (.int .i64) (.pair (.bool) (.int .u8))), flds := [(0, 2), (1, 3), (2, 4), (3, 6)], elem := 0, arr := false, bytes := 24 },
  { id := 8, ty := .pair (.int .i64) (.pair (.int .i64) (.pair (.bool) (.int .u8))), flds := [(0, 2), (1, 3), (2, 4), (3, 6)], elem := 0, arr := false, bytes := 24 },
  { id := 9, ty := .str, flds := [], elem := 0, arr := false, bytes := 16 },
  { id := 10, ty := .str, flds := [], elem := 0, arr := false, bytes := 16 },
  { id := 11, ty := .str, flds := [], elem := 0, arr := false, bytes := 16 },
  { id := 12, ty := .int .u64, flds := [], elem := 0, arr := false, bytes := 8 },
  { id := 13, ty := .pair (.str) (.int .u64), flds := [(0, 9), (1, 12)], elem := 0, arr := false, bytes := 24 },
  { id := 14, ty := .pair (.str) (.int .u64), flds := [(0, 9), (1, 12)], elem := 0, arr := false, bytes := 24 },
  { id := 21, ty := .int .i32, flds := [], elem := 0, arr := false, bytes := 4 },
  { id := 22, ty := .pair (.int .i64) (.int .i64), flds := [(0, 3), (1, 3)], elem := 0, arr := false, bytes := 16 },
  { id := 23, ty := .pair (.int .i64) (.int .i64), flds := [(0, 3), (1, 3)], elem := 0, arr := false, bytes := 16 },
  { id := 24, ty := .sl (.int .i64), flds := [], elem := 3, arr := false, bytes := 24 },
  { id := 26, ty := .int .i64, flds := [], elem := 0, arr := false, bytes := 8 },
  { id := 32, ty := .sl (.pair (.int .i64) (.int .i64)), flds := [], elem := 53, arr := false, bytes := 24 },
  { id := 33, ty := .sl (.pair (.int .i64) (.pair (.int .i64) (.pair (.int .i64) (.pair (.int .i64) (.pair (.int .i64) (.pair (.int .i64) (.pair (.int .i64) (.int .i64)))))))), flds := [], elem := 50, arr := false, bytes := 24 },
  { id := 34, ty := .sl (.pair (.int .i64) (.pair (.int .i64) (.pair (.int .i64) (.pair (.int .i64) (.pair (.int .i64) (.pair (.int .i64) (.int .i64))))))), flds := [], elem := 62, arr := false, bytes := 24 },
  { id := 35, ty := .pair (.sl (.pair (.int .i64) (.int .i64))) (.pair (.sl (.pair (.int .i64) (.pair (.int .i64) (.pair (.int .i64) (.pair (.int .i64) (.pair (.int .i64) (.pair (.int .i64) (.pair (.int .i64) (.int .i64))))))))) (.pair (.sl (.pair (.int .i64) (.pair (.int .i64) (.pair (.int .i64) (.pair (.int .i64) (.pair (.int .i64) (.pair (.int .i64) (.int .i64)))))))) (.sl (.int .i64)))), flds := [(0, 32), (1, 33), (2, 34), (3, 24)], elem := 0, arr := false, bytes := 96 },
  { id := 36, ty := .pair (.sl (.pair (.int .i64) (.int .i64))) (.pair (.sl (.pair (.int .i64) (.pair (.int .i64) (.pair (.int .i64) (.pair (.int .i64) (.pair (.int .i64) (.pair (.int .i64) (.pair (.int .i64) (.int .i64))))))))) (.pair (.sl (.pair (.int .i64) (.pair (.int .i64) (.pair (.int .i64) (.pair (.int .i64) (.pair (.int .i64) (.pair (.int .i64) (.int .i64)))))))) (.sl (.int .i64)))), flds := [(0, 32), (1, 33), (2, 34), (3, 24)], elem := 0, arr := false, bytes := 96 },
  { id := 40, ty := .pair (.int .i64) (.pair (.int .i64) (.pair (.int .i64) (.pair (.int .i64) (.pair (.int .i64) (.int .i64))))), flds := [(0, 3), (1, 3), (2, 3), (3, 3), (4, 3), (5, 3)], elem := 0, arr := false, bytes := 48 },
  { id := 41, ty := .pair (.int .i64) (.pair (.int .i64) (.pair (.int .i64) (.pair (.int .i64) (.pair (.int .i64) (.int .i64))))), flds := [(0, 3), (1, 3), (2, 3), (3, 3), (4, 3), (5, 3)], elem := 0, arr := false, bytes := 48, eqs := true },
  { id := 45, ty := .pair (.sl (.int .i64)) (.sl (.int .i64)), flds := [(0, 24), (1, 24)], elem := 24, arr := true, bytes := 48 },
  { id := 47, ty := .pair (.int .i64) (.int .i64), flds := [(0, 3), (1, 3)], elem := 3, arr := true, bytes := 16 },
  { id := 49, ty := .pair (.int .i64) (.pair (.int .i64) (.pair (.int .i64) (.pair (.int .i64) (.pair (.int .i64) (.pair (.int .i64) (.pair (.int .i64) (.int .i64))))))), flds := [(0, 3), (1, 3), (2, 3), (3, 3), (4, 3), (5, 3), (6, 3), (7, 3)], elem := 0, arr := false, bytes := 64 },
  { id := 50, ty := .pair (.int .i64) (.pair (.int .i64) (.pair (.int .i64) (.pair (.int .i64) (.pair (.int .i64) (.pair (.int .i64) (.pair (.int .i64) (.int .i64))))))), flds := [(0, 3), (1, 3), (2, 3), (3, 3), (4, 3), (5, 3), (6, 3), (7, 3)], elem := 0, arr := false, bytes := 64 },
  { id := 52, ty := .pair (.int .i64) (.int .i64), flds := [(0, 3), (1, 3)], elem := 0, arr := false, bytes := 16 },
  { id := 53, ty := .pair (.int .i64) (.int .i64), flds := [(0, 3), (1, 3)], elem := 0, arr := false, bytes := 16 },
  { id := 61, ty := .pair (.int .i64) (.pair (.int .i64) (.pair (.int .i64) (.pair (.int .i64) (.pair (.int .i64) (.pair (.int .i64) (.int .i64)))))), flds := [(0, 3), (1, 3), (2, 3), (3, 3), (4, 3), (5, 3), (6, 3)], elem := 0, arr := false, bytes := 56 },
  { id := 62, ty := .pair (.int .i64) (.pair (.int .i64) (.pair (.int .i64) (.pair (.int .i64) (.pair (.int .i64) (.pair (.int .i64) (.int .i64)))))), flds := [(0, 3), (1, 3), (2, 3), (3, 3), (4, 3), (5, 3), (6, 3)], elem := 0, arr := false, bytes := 56 },
  { id := 73, ty := .int .u32, flds := [], elem := 0, arr := false, bytes := 4 },
  { id := 74, ty := .int .u8, flds := [], elem := 0, arr := false, bytes := 1 },
  { id := 75, ty := .int .u8, flds := [], elem := 0, arr := false, bytes := 1 },
  { id := 78, ty := .int .i32, flds := [], elem := 0, arr := false, bytes := 4 },
  { id := 79, ty := .int .i32, flds := [], elem := 0, arr := false, bytes := 4 }]

def big : Nat := 18446744073709551616
theorem tabOK : TabOK Try.prog tab := by
  show tab.all (checkTE Try.prog tab) = true
  kernel_rfl
theorem mixed : Try.prog.follows .mixedOrders = true := Checked.mixed Try.checked
/-! skiarea/refund.share -/
def env22 : Nat → Option Sig := fun _ => none

def ann22 : List LoopAnn := []
abbrev ps22 : List Ty := [.int .i64]
abbrev rs22 : List Ty := [.bool]
noncomputable def d22 : (pk ps22).den → Option (pk rs22).den := fnD tab env22 3 ann22 big Try.f22 [] ps22 rs22 true
noncomputable def sg22 : Sig := { ps := ps22, rs := rs22, own := true, φ := d22 }

theorem envOk22 : ∀ f sg, env22 f = some sg → Contract Try.prog f sg := by
  intro f sg h
  unfold env22 at h
  cases h
theorem h22 : ∀ x y, d22 x = some y → fnD tab env22 3 ann22 big Try.f22 [] ps22 rs22 true x = some y := fun x y h => by rw [d22] at h; exact h
theorem r22 : resOK tab Try.f22.results.toList rs22 = true := by kernel_rfl
theorem n22 : nodupB (Try.f22.results.toList.map rSlot) = true := by kernel_rfl
theorem l22 : ps22.length ≤ Try.f22.ntmps := of_decide_eq_true (by kernel_rfl)
theorem does22 : Does Try.prog 22 ps22 rs22 true d22 := fn_does mixed tabOK envOk22 Try.func22 r22 n22 l22 h22
theorem k22 : Callable Try.prog 22 := ⟨Try.f22, Try.func22, by kernel_rfl, by kernel_rfl⟩
theorem c22 : Contract Try.prog 22 sg22 := by rw [sg22]; exact Contract.of k22 does22

/-! skiarea/split.Even -/
def env23 : Nat → Option Sig := fun _ => none

def ann23 : List LoopAnn := [{ id := 7, live := [0, 1, 6, 23, 24], frz := [] }]
abbrev ps23 : List Ty := [.int .i64, .int .i64]
abbrev rs23 : List Ty := [.sl (.int .i64), .int .i64]
noncomputable def d23 : (pk ps23).den → Option (pk rs23).den := fnD tab env23 8 ann23 big Try.f23 [] ps23 rs23 true
noncomputable def sg23 : Sig := { ps := ps23, rs := rs23, own := true, φ := d23 }

theorem envOk23 : ∀ f sg, env23 f = some sg → Contract Try.prog f sg := by
  intro f sg h
  unfold env23 at h
  cases h
theorem h23 : ∀ x y, d23 x = some y → fnD tab env23 8 ann23 big Try.f23 [] ps23 rs23 true x = some y := fun x y h => by rw [d23] at h; exact h
theorem r23 : resOK tab Try.f23.results.toList rs23 = true := by kernel_rfl
theorem n23 : nodupB (Try.f23.results.toList.map rSlot) = true := by kernel_rfl
theorem l23 : ps23.length ≤ Try.f23.ntmps := of_decide_eq_true (by kernel_rfl)
theorem does23 : Does Try.prog 23 ps23 rs23 true d23 := fn_does mixed tabOK envOk23 Try.func23 r23 n23 l23 h23
theorem k23 : Callable Try.prog 23 := ⟨Try.f23, Try.func23, by kernel_rfl, by kernel_rfl⟩
theorem c23 : Contract Try.prog 23 sg23 := by rw [sg23]; exact Contract.of k23 does23

/-! skiarea/refund.Days -/
noncomputable def env11 : Nat → Option Sig := fun n => match n with
  | 22 => some sg22
  | 23 => some sg23
  | _ => none

def ann11 : List LoopAnn := [{ id := 8, live := [1, 2, 3, 39, 40, 41], frz := [] }, { id := 18, live := [2, 3, 12, 59, 60, 61], frz := [] }]
abbrev ps11 : List Ty := [.pair (.int .i64) (.int .i64), .int .i64, .sl (.int .i64)]
abbrev rs11 : List Ty := [.int .i64, .int .i64]
noncomputable def d11 : (pk ps11).den → Option (pk rs11).den := fnD tab env11 15 ann11 big Try.f11 [] ps11 rs11 true
noncomputable def sg11 : Sig := { ps := ps11, rs := rs11, own := true, φ := d11 }

theorem envOk11 : ∀ f sg, env11 f = some sg → Contract Try.prog f sg := by
  intro f sg h
  unfold env11 at h
  split at h
  · injection h with h; subst h; exact c22
  · injection h with h; subst h; exact c23
  · cases h
theorem h11 : ∀ x y, d11 x = some y → fnD tab env11 15 ann11 big Try.f11 [] ps11 rs11 true x = some y := fun x y h => by rw [d11] at h; exact h
theorem r11 : resOK tab Try.f11.results.toList rs11 = true := by kernel_rfl
theorem n11 : nodupB (Try.f11.results.toList.map rSlot) = true := by kernel_rfl
theorem l11 : ps11.length ≤ Try.f11.ntmps := of_decide_eq_true (by kernel_rfl)
theorem does11 : Does Try.prog 11 ps11 rs11 true d11 := fn_does mixed tabOK envOk11 Try.func11 r11 n11 l11 h11
theorem k11 : Callable Try.prog 11 := ⟨Try.f11, Try.func11, by kernel_rfl, by kernel_rfl⟩
theorem c11 : Contract Try.prog 11 sg11 := by rw [sg11]; exact Contract.of k11 does11

/-! skiarea/refund.Unused -/
def env13 : Nat → Option Sig := fun _ => none

def ann13 : List LoopAnn := []
abbrev ps13 : List Ty := [.int .i64, .int .i64, .int .i64]
abbrev rs13 : List Ty := [.int .i64, .int .i64]
noncomputable def d13 : (pk ps13).den → Option (pk rs13).den := fnD tab env13 8 ann13 big Try.f13 [] ps13 rs13 true
noncomputable def sg13 : Sig := { ps := ps13, rs := rs13, own := true, φ := d13 }

theorem envOk13 : ∀ f sg, env13 f = some sg → Contract Try.prog f sg := by
  intro f sg h
  unfold env13 at h
  cases h
theorem h13 : ∀ x y, d13 x = some y → fnD tab env13 8 ann13 big Try.f13 [] ps13 rs13 true x = some y := fun x y h => by rw [d13] at h; exact h
theorem r13 : resOK tab Try.f13.results.toList rs13 = true := by kernel_rfl
theorem n13 : nodupB (Try.f13.results.toList.map rSlot) = true := by kernel_rfl
theorem l13 : ps13.length ≤ Try.f13.ntmps := of_decide_eq_true (by kernel_rfl)
theorem does13 : Does Try.prog 13 ps13 rs13 true d13 := fn_does mixed tabOK envOk13 Try.func13 r13 n13 l13 h13
theorem k13 : Callable Try.prog 13 := ⟨Try.f13, Try.func13, by kernel_rfl, by kernel_rfl⟩
theorem c13 : Contract Try.prog 13 sg13 := by rw [sg13]; exact Contract.of k13 does13

/-! slices.Index[[]int,int] -/
def env36 : Nat → Option Sig := fun _ => none

def ann36 : List LoopAnn := [{ id := 2, live := [0, 1, 7, 8], frz := [] }]
abbrev ps36 : List Ty := [.sl (.int .i64), .int .i64]
abbrev rs36 : List Ty := [.int .i64]
noncomputable def d36 : (pk ps36).den → Option (pk rs36).den := fnD tab env36 6 ann36 big Try.f36 [] ps36 rs36 true
noncomputable def sg36 : Sig := { ps := ps36, rs := rs36, own := true, φ := d36 }

theorem envOk36 : ∀ f sg, env36 f = some sg → Contract Try.prog f sg := by
  intro f sg h
  unfold env36 at h
  cases h
theorem h36 : ∀ x y, d36 x = some y → fnD tab env36 6 ann36 big Try.f36 [] ps36 rs36 true x = some y := fun x y h => by rw [d36] at h; exact h
theorem r36 : resOK tab Try.f36.results.toList rs36 = true := by kernel_rfl
theorem n36 : nodupB (Try.f36.results.toList.map rSlot) = true := by kernel_rfl
theorem l36 : ps36.length ≤ Try.f36.ntmps := of_decide_eq_true (by kernel_rfl)
theorem does36 : Does Try.prog 36 ps36 rs36 true d36 := fn_does mixed tabOK envOk36 Try.func36 r36 n36 l36 h36
theorem k36 : Callable Try.prog 36 := ⟨Try.f36, Try.func36, by kernel_rfl, by kernel_rfl⟩
theorem c36 : Contract Try.prog 36 sg36 := by rw [sg36]; exact Contract.of k36 does36

/-! slices.Contains[[]int,int] -/
noncomputable def env31 : Nat → Option Sig := fun n => match n with
  | 36 => some sg36
  | _ => none

def ann31 : List LoopAnn := []
abbrev ps31 : List Ty := [.sl (.int .i64), .int .i64]
abbrev rs31 : List Ty := [.bool]
noncomputable def d31 : (pk ps31).den → Option (pk rs31).den := fnD tab env31 5 ann31 big Try.f31 [] ps31 rs31 true
noncomputable def sg31 : Sig := { ps := ps31, rs := rs31, own := true, φ := d31 }

theorem envOk31 : ∀ f sg, env31 f = some sg → Contract Try.prog f sg := by
  intro f sg h
  unfold env31 at h
  split at h
  · injection h with h; subst h; exact c36
  · cases h
theorem h31 : ∀ x y, d31 x = some y → fnD tab env31 5 ann31 big Try.f31 [] ps31 rs31 true x = some y := fun x y h => by rw [d31] at h; exact h
theorem r31 : resOK tab Try.f31.results.toList rs31 = true := by kernel_rfl
theorem n31 : nodupB (Try.f31.results.toList.map rSlot) = true := by kernel_rfl
theorem l31 : ps31.length ≤ Try.f31.ntmps := of_decide_eq_true (by kernel_rfl)
theorem does31 : Does Try.prog 31 ps31 rs31 true d31 := fn_does mixed tabOK envOk31 Try.func31 r31 n31 l31 h31
theorem k31 : Callable Try.prog 31 := ⟨Try.f31, Try.func31, by kernel_rfl, by kernel_rfl⟩
theorem c31 : Contract Try.prog 31 sg31 := by rw [sg31]; exact Contract.of k31 does31

/-! skiarea/refund.Closed -/
noncomputable def env16 : Nat → Option Sig := fun n => match n with
  | 31 => some sg31
  | _ => none

def ann16 : List LoopAnn := [{ id := 3, live := [1, 2, 7, 8, 12, 13, 14], frz := [] }]
abbrev ps16 : List Ty := [.pair (.sl (.pair (.int .i64) (.int .i64))) (.pair (.sl (.pair (.int .i64) (.pair (.int .i64) (.pair (.int .i64) (.pair (.int .i64) (.pair (.int .i64) (.pair (.int .i64) (.pair (.int .i64) (.int .i64))))))))) (.pair (.sl (.pair (.int .i64) (.pair (.int .i64) (.pair (.int .i64) (.pair (.int .i64) (.pair (.int .i64) (.pair (.int .i64) (.int .i64)))))))) (.sl (.int .i64)))), .sl (.int .i64), .sl (.int .i64)]
abbrev rs16 : List Ty := [.int .i64]
noncomputable def d16 : (pk ps16).den → Option (pk rs16).den := fnD tab env16 11 ann16 big Try.f16 [] ps16 rs16 true
noncomputable def sg16 : Sig := { ps := ps16, rs := rs16, own := true, φ := d16 }

theorem envOk16 : ∀ f sg, env16 f = some sg → Contract Try.prog f sg := by
  intro f sg h
  unfold env16 at h
  split at h
  · injection h with h; subst h; exact c31
  · cases h
theorem h16 : ∀ x y, d16 x = some y → fnD tab env16 11 ann16 big Try.f16 [] ps16 rs16 true x = some y := fun x y h => by rw [d16] at h; exact h
theorem r16 : resOK tab Try.f16.results.toList rs16 = true := by kernel_rfl
theorem n16 : nodupB (Try.f16.results.toList.map rSlot) = true := by kernel_rfl
theorem l16 : ps16.length ≤ Try.f16.ntmps := of_decide_eq_true (by kernel_rfl)
theorem does16 : Does Try.prog 16 ps16 rs16 true d16 := fn_does mixed tabOK envOk16 Try.func16 r16 n16 l16 h16
theorem k16 : Callable Try.prog 16 := ⟨Try.f16, Try.func16, by kernel_rfl, by kernel_rfl⟩
theorem c16 : Contract Try.prog 16 sg16 := by rw [sg16]; exact Contract.of k16 does16

/-! skiarea/refund.Reduce -/
def env18 : Nat → Option Sig := fun _ => none

def ann18 : List LoopAnn := []
abbrev ps18 : List Ty := [.pair (.int .i64) (.pair (.int .i64) (.pair (.int .i64) (.pair (.int .i64) (.pair (.int .i64) (.int .i64))))), .int .i64]
abbrev rs18 : List Ty := [.pair (.int .i64) (.pair (.int .i64) (.pair (.int .i64) (.pair (.int .i64) (.pair (.int .i64) (.int .i64))))), .int .i64]
noncomputable def d18 : (pk ps18).den → Option (pk rs18).den := fnD tab env18 6 ann18 big Try.f18 [] ps18 rs18 true
noncomputable def sg18 : Sig := { ps := ps18, rs := rs18, own := true, φ := d18 }

theorem envOk18 : ∀ f sg, env18 f = some sg → Contract Try.prog f sg := by
  intro f sg h
  unfold env18 at h
  cases h
theorem h18 : ∀ x y, d18 x = some y → fnD tab env18 6 ann18 big Try.f18 [] ps18 rs18 true x = some y := fun x y h => by rw [d18] at h; exact h
theorem r18 : resOK tab Try.f18.results.toList rs18 = true := by kernel_rfl
theorem n18 : nodupB (Try.f18.results.toList.map rSlot) = true := by kernel_rfl
theorem l18 : ps18.length ≤ Try.f18.ntmps := of_decide_eq_true (by kernel_rfl)
theorem does18 : Does Try.prog 18 ps18 rs18 true d18 := fn_does mixed tabOK envOk18 Try.func18 r18 n18 l18 h18
theorem k18 : Callable Try.prog 18 := ⟨Try.f18, Try.func18, by kernel_rfl, by kernel_rfl⟩
theorem c18 : Contract Try.prog 18 sg18 := by rw [sg18]; exact Contract.of k18 does18

/-! skiarea/skiarealaw36.lift -/
def env21 : Nat → Option Sig := fun _ => none

def ann21 : List LoopAnn := []
abbrev ps21 : List Ty := [.int .i64, .int .i64]
abbrev rs21 : List Ty := [.pair (.int .i64) (.pair (.int .i64) (.pair (.int .i64) (.pair (.int .i64) (.pair (.int .i64) (.pair (.int .i64) (.pair (.int .i64) (.int .i64)))))))]
noncomputable def d21 : (pk ps21).den → Option (pk rs21).den := fnD tab env21 5 ann21 big Try.f21 [] ps21 rs21 true
noncomputable def sg21 : Sig := { ps := ps21, rs := rs21, own := true, φ := d21 }

theorem envOk21 : ∀ f sg, env21 f = some sg → Contract Try.prog f sg := by
  intro f sg h
  unfold env21 at h
  cases h
theorem h21 : ∀ x y, d21 x = some y → fnD tab env21 5 ann21 big Try.f21 [] ps21 rs21 true x = some y := fun x y h => by rw [d21] at h; exact h
theorem r21 : resOK tab Try.f21.results.toList rs21 = true := by kernel_rfl
theorem n21 : nodupB (Try.f21.results.toList.map rSlot) = true := by kernel_rfl
theorem l21 : ps21.length ≤ Try.f21.ntmps := of_decide_eq_true (by kernel_rfl)
theorem does21 : Does Try.prog 21 ps21 rs21 true d21 := fn_does mixed tabOK envOk21 Try.func21 r21 n21 l21 h21
theorem k21 : Callable Try.prog 21 := ⟨Try.f21, Try.func21, by kernel_rfl, by kernel_rfl⟩
theorem c21 : Contract Try.prog 21 sg21 := by rw [sg21]; exact Contract.of k21 does21

/-! skiarea/skiarealaw36.alive -/
noncomputable def env10 : Nat → Option Sig := fun n => match n with
  | 11 => some sg11
  | 13 => some sg13
  | 16 => some sg16
  | 18 => some sg18
  | 21 => some sg21
  | _ => none

def ann10 : List LoopAnn := []
abbrev ps10 : List Ty := []
abbrev rs10 : List Ty := [.bool]
noncomputable def d10 : (pk ps10).den → Option (pk rs10).den := fnD tab env10 12 ann10 big Try.f10 [] ps10 rs10 true
noncomputable def sg10 : Sig := { ps := ps10, rs := rs10, own := true, φ := d10 }

theorem envOk10 : ∀ f sg, env10 f = some sg → Contract Try.prog f sg := by
  intro f sg h
  unfold env10 at h
  split at h
  · injection h with h; subst h; exact c11
  · injection h with h; subst h; exact c13
  · injection h with h; subst h; exact c16
  · injection h with h; subst h; exact c18
  · injection h with h; subst h; exact c21
  · cases h
theorem h10 : ∀ x y, d10 x = some y → fnD tab env10 12 ann10 big Try.f10 [] ps10 rs10 true x = some y := fun x y h => by rw [d10] at h; exact h
theorem r10 : resOK tab Try.f10.results.toList rs10 = true := by kernel_rfl
theorem n10 : nodupB (Try.f10.results.toList.map rSlot) = true := by kernel_rfl
theorem l10 : ps10.length ≤ Try.f10.ntmps := of_decide_eq_true (by kernel_rfl)
theorem does10 : Does Try.prog 10 ps10 rs10 true d10 := fn_does mixed tabOK envOk10 Try.func10 r10 n10 l10 h10
theorem k10 : Callable Try.prog 10 := ⟨Try.f10, Try.func10, by kernel_rfl, by kernel_rfl⟩
theorem c10 : Contract Try.prog 10 sg10 := by rw [sg10]; exact Contract.of k10 does10

/-! skiarea/skiarearef36.Reduce -/
def env19 : Nat → Option Sig := fun _ => none

def ann19 : List LoopAnn := []
abbrev ps19 : List Ty := [.pair (.int .i64) (.pair (.int .i64) (.pair (.int .i64) (.pair (.int .i64) (.pair (.int .i64) (.int .i64))))), .int .i64]
abbrev rs19 : List Ty := [.pair (.int .i64) (.pair (.int .i64) (.pair (.int .i64) (.pair (.int .i64) (.pair (.int .i64) (.int .i64))))), .int .i64]
noncomputable def d19 : (pk ps19).den → Option (pk rs19).den := fnD tab env19 6 ann19 big Try.f19 [] ps19 rs19 true
noncomputable def sg19 : Sig := { ps := ps19, rs := rs19, own := true, φ := d19 }

theorem envOk19 : ∀ f sg, env19 f = some sg → Contract Try.prog f sg := by
  intro f sg h
  unfold env19 at h
  cases h
theorem h19 : ∀ x y, d19 x = some y → fnD tab env19 6 ann19 big Try.f19 [] ps19 rs19 true x = some y := fun x y h => by rw [d19] at h; exact h
theorem r19 : resOK tab Try.f19.results.toList rs19 = true := by kernel_rfl
theorem n19 : nodupB (Try.f19.results.toList.map rSlot) = true := by kernel_rfl
theorem l19 : ps19.length ≤ Try.f19.ntmps := of_decide_eq_true (by kernel_rfl)
theorem does19 : Does Try.prog 19 ps19 rs19 true d19 := fn_does mixed tabOK envOk19 Try.func19 r19 n19 l19 h19
theorem k19 : Callable Try.prog 19 := ⟨Try.f19, Try.func19, by kernel_rfl, by kernel_rfl⟩
theorem c19 : Contract Try.prog 19 sg19 := by rw [sg19]; exact Contract.of k19 does19

/-! skiarea/skiarealaw36.RefundReduces -/
noncomputable def env6 : Nat → Option Sig := fun n => match n with
  | 10 => some sg10
  | 18 => some sg18
  | 19 => some sg19
  | _ => none

def ann6 : List LoopAnn := []
abbrev ps6 : List Ty := [.pair (.int .i64) (.pair (.int .i64) (.pair (.int .i64) (.pair (.int .i64) (.pair (.int .i64) (.int .i64))))), .int .i64]
abbrev rs6 : List Ty := [.bool]
noncomputable def d6 : (pk ps6).den → Option (pk rs6).den := fnD tab env6 9 ann6 big Try.f6 [] ps6 rs6 true
noncomputable def sg6 : Sig := { ps := ps6, rs := rs6, own := true, φ := d6 }

theorem envOk6 : ∀ f sg, env6 f = some sg → Contract Try.prog f sg := by
  intro f sg h
  unfold env6 at h
  split at h
  · injection h with h; subst h; exact c10
  · injection h with h; subst h; exact c18
  · injection h with h; subst h; exact c19
  · cases h
theorem h6 : ∀ x y, d6 x = some y → fnD tab env6 9 ann6 big Try.f6 [] ps6 rs6 true x = some y := fun x y h => by rw [d6] at h; exact h
theorem r6 : resOK tab Try.f6.results.toList rs6 = true := by kernel_rfl
theorem n6 : nodupB (Try.f6.results.toList.map rSlot) = true := by kernel_rfl
theorem l6 : ps6.length ≤ Try.f6.ntmps := of_decide_eq_true (by kernel_rfl)
theorem does6 : Does Try.prog 6 ps6 rs6 true d6 := fn_does mixed tabOK envOk6 Try.func6 r6 n6 l6 h6
theorem k6 : Callable Try.prog 6 := ⟨Try.f6, Try.func6, by kernel_rfl, by kernel_rfl⟩
theorem c6 : Contract Try.prog 6 sg6 := by rw [sg6]; exact Contract.of k6 does6

/-! skiarea/skiarearef36.price -/
def env25 : Nat → Option Sig := fun _ => none

def ann25 : List LoopAnn := []
abbrev ps25 : List Ty := [.int .i64]
abbrev rs25 : List Ty := [.bool]
noncomputable def d25 : (pk ps25).den → Option (pk rs25).den := fnD tab env25 3 ann25 big Try.f25 [] ps25 rs25 true
noncomputable def sg25 : Sig := { ps := ps25, rs := rs25, own := true, φ := d25 }

theorem envOk25 : ∀ f sg, env25 f = some sg → Contract Try.prog f sg := by
  intro f sg h
  unfold env25 at h
  cases h
theorem h25 : ∀ x y, d25 x = some y → fnD tab env25 3 ann25 big Try.f25 [] ps25 rs25 true x = some y := fun x y h => by rw [d25] at h; exact h
theorem r25 : resOK tab Try.f25.results.toList rs25 = true := by kernel_rfl
theorem n25 : nodupB (Try.f25.results.toList.map rSlot) = true := by kernel_rfl
theorem l25 : ps25.length ≤ Try.f25.ntmps := of_decide_eq_true (by kernel_rfl)
theorem does25 : Does Try.prog 25 ps25 rs25 true d25 := fn_does mixed tabOK envOk25 Try.func25 r25 n25 l25 h25
theorem k25 : Callable Try.prog 25 := ⟨Try.f25, Try.func25, by kernel_rfl, by kernel_rfl⟩
theorem c25 : Contract Try.prog 25 sg25 := by rw [sg25]; exact Contract.of k25 does25

/-! skiarea/skiarearef36.Unused -/
noncomputable def env14 : Nat → Option Sig := fun n => match n with
  | 25 => some sg25
  | _ => none

def ann14 : List LoopAnn := []
abbrev ps14 : List Ty := [.int .i64, .int .i64, .int .i64]
abbrev rs14 : List Ty := [.int .i64, .int .i64]
noncomputable def d14 : (pk ps14).den → Option (pk rs14).den := fnD tab env14 8 ann14 big Try.f14 [] ps14 rs14 true
noncomputable def sg14 : Sig := { ps := ps14, rs := rs14, own := true, φ := d14 }

theorem envOk14 : ∀ f sg, env14 f = some sg → Contract Try.prog f sg := by
  intro f sg h
  unfold env14 at h
  split at h
  · injection h with h; subst h; exact c25
  · cases h
theorem h14 : ∀ x y, d14 x = some y → fnD tab env14 8 ann14 big Try.f14 [] ps14 rs14 true x = some y := fun x y h => by rw [d14] at h; exact h
theorem r14 : resOK tab Try.f14.results.toList rs14 = true := by kernel_rfl
theorem n14 : nodupB (Try.f14.results.toList.map rSlot) = true := by kernel_rfl
theorem l14 : ps14.length ≤ Try.f14.ntmps := of_decide_eq_true (by kernel_rfl)
theorem does14 : Does Try.prog 14 ps14 rs14 true d14 := fn_does mixed tabOK envOk14 Try.func14 r14 n14 l14 h14
theorem k14 : Callable Try.prog 14 := ⟨Try.f14, Try.func14, by kernel_rfl, by kernel_rfl⟩
theorem c14 : Contract Try.prog 14 sg14 := by rw [sg14]; exact Contract.of k14 does14

/-! skiarea/skiarealaw36.RefundUnused -/
noncomputable def env4 : Nat → Option Sig := fun n => match n with
  | 10 => some sg10
  | 13 => some sg13
  | 14 => some sg14
  | _ => none

def ann4 : List LoopAnn := []
abbrev ps4 : List Ty := [.int .i64, .int .i64, .int .i64]
abbrev rs4 : List Ty := [.bool]
noncomputable def d4 : (pk ps4).den → Option (pk rs4).den := fnD tab env4 11 ann4 big Try.f4 [] ps4 rs4 true
noncomputable def sg4 : Sig := { ps := ps4, rs := rs4, own := true, φ := d4 }

theorem envOk4 : ∀ f sg, env4 f = some sg → Contract Try.prog f sg := by
  intro f sg h
  unfold env4 at h
  split at h
  · injection h with h; subst h; exact c10
  · injection h with h; subst h; exact c13
  · injection h with h; subst h; exact c14
  · cases h
theorem h4 : ∀ x y, d4 x = some y → fnD tab env4 11 ann4 big Try.f4 [] ps4 rs4 true x = some y := fun x y h => by rw [d4] at h; exact h
theorem r4 : resOK tab Try.f4.results.toList rs4 = true := by kernel_rfl
theorem n4 : nodupB (Try.f4.results.toList.map rSlot) = true := by kernel_rfl
theorem l4 : ps4.length ≤ Try.f4.ntmps := of_decide_eq_true (by kernel_rfl)
theorem does4 : Does Try.prog 4 ps4 rs4 true d4 := fn_does mixed tabOK envOk4 Try.func4 r4 n4 l4 h4
theorem k4 : Callable Try.prog 4 := ⟨Try.f4, Try.func4, by kernel_rfl, by kernel_rfl⟩
theorem c4 : Contract Try.prog 4 sg4 := by rw [sg4]; exact Contract.of k4 does4

theorem alive : d10 () = some true := by kernel_rfl
end Go.Proofs.Ytdbbbdjglpfnbaa.D
