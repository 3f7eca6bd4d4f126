import Derived.Test.YtbapfiaglcllnaaXT31
import Derived.Test.YtbapfiaglcllnaaGDT
section
open Go Go.GD Go.Proofs
namespace Go.Proofs.Ytbapfiaglcllnaa.D
def env130t : Nat → Option Sig := fun _ => none
def ann130t : List LoopAnn := [{ id := 3, live := [0, 1, 5], frz := [] }, { id := 7, live := [0, 1, 2, 3, 5, 10], frz := [] }]
abbrev ps130t : List Ty := []
abbrev rs130t : List Ty := [.pair (.int .u32) (.pair (.int .u32) (.pair (.int .u32) (.pair (.int .u32) (.pair (.int .u32) (.pair (.int .u32) (.pair (.int .u32) (.pair (.int .u32) (.pair (.int .u32) (.pair (.int .u32) (.pair (.int .u32) (.pair (.int .u32) (.pair (.int .u32) (.pair (.int .u32) (.pair (.int .u32) (.int .u32)))))))))))))))]
noncomputable def d130t : (pk ps130t).den → Option (pk rs130t).den := fnK tab env130t 5 ann130t big Try.f130 [] ps130t rs130t true
theorem envOk130t : ∀ f sg, env130t f = some sg → Contract Try.prog f sg := by
  intro f sg h
  unfold env130t at h
  cases h
theorem l130t : ps130t.length ≤ Try.f130.ntmps := of_decide_eq_true (by kernel_rfl)
theorem h130t : ∀ x y, d130t x = some y → fnD tab env130t 5 ann130t big Try.f130 [] ps130t rs130t true x = some y := fun x y h => by rw [d130t, ← fnK_eq l130t] at h; exact h
theorem r130t : resOK tab Try.f130.results.toList rs130t = true := by kernel_rfl
theorem n130t : nodupB (Try.f130.results.toList.map rSlot) = true := by kernel_rfl
theorem does130t : Does Try.prog 130 ps130t rs130t true d130t := fn_does mixed tabOK envOk130t Try.func130 r130t n130t l130t h130t
theorem k130t : Callable Try.prog 130 := ⟨Try.f130, Try.func130, by kernel_rfl, by kernel_rfl⟩
abbrev ps130 : List Ty := []
abbrev rs130 : List Ty := rs130t
def d130 : (pk ps130).den → Option (pk rs130).den := fun _ => some (0, 274646895, 549293790, 820201905, 1098587580, 1361435347, 1640403810, 1905808397, 2197175160, 2460548119, 2722870694, 2987750089, 3280807620, 3553878443, 3811616794, 4084100981)
set_option maxRecDepth 10000000 in
theorem d130_eq : d130t () = d130 () := by kernel_rfl
def sg130 : Sig := { ps := ps130, rs := rs130, own := true, φ := d130 }
theorem does130 : Does Try.prog 130 ps130 rs130 true d130 := fun w Ok cs x y hx hy => does130t w Ok cs x y hx (d130_eq.trans hy)
theorem c130 : Contract Try.prog 130 sg130 := by rw [sg130]; exact Contract.of k130t does130
end Go.Proofs.Ytbapfiaglcllnaa.D
end

section
open Go Go.GD Go.Proofs
namespace Go.Proofs.Ytbapfiaglcllnaa.D
def env66 : Nat → Option Sig := fun _ => none
def ann66 : List LoopAnn := []
abbrev ps66 : List Ty := [.pair (.int .i64) (.pair (.int .i64) (.pair (.int .i64) (.pair (.int .i64) (.pair (.int .i64) (.pair (.int .i64) (.int .i64))))))]
abbrev rs66 : List Ty := [.pair (.int .i64) (.pair (.int .i64) (.pair (.int .i64) (.pair (.int .i64) (.pair (.int .i64) (.pair (.int .i64) (.int .i64))))))]
noncomputable def d66 : (pk ps66).den → Option (pk rs66).den := fnK tab env66 3 ann66 big Try.f66 [] ps66 rs66 true
noncomputable def sg66 : Sig := { ps := ps66, rs := rs66, own := true, φ := d66 }
theorem envOk66 : ∀ f sg, env66 f = some sg → Contract Try.prog f sg := by
  intro f sg h
  unfold env66 at h
  cases h
theorem l66 : ps66.length ≤ Try.f66.ntmps := of_decide_eq_true (by kernel_rfl)
theorem h66 : ∀ x y, d66 x = some y → fnD tab env66 3 ann66 big Try.f66 [] ps66 rs66 true x = some y := fun x y h => by rw [d66, ← fnK_eq l66] at h; exact h
theorem r66 : resOK tab Try.f66.results.toList rs66 = true := by kernel_rfl
theorem n66 : nodupB (Try.f66.results.toList.map rSlot) = true := by kernel_rfl
theorem does66 : Does Try.prog 66 ps66 rs66 true d66 := fn_does mixed tabOK envOk66 Try.func66 r66 n66 l66 h66
theorem k66 : Callable Try.prog 66 := ⟨Try.f66, Try.func66, by kernel_rfl, by kernel_rfl⟩
theorem c66 : Contract Try.prog 66 sg66 := by rw [sg66]; exact Contract.of k66 does66
noncomputable def env26 : Nat → Option Sig := fun n => match n with
  | 66 => some sg66
  | _ => none
def ann26 : List LoopAnn := [{ id := 2, live := [6, 7], frz := [] }]
abbrev ps26 : List Ty := [.pair (.int .i64) (.pair (.int .i64) (.pair (.int .i64) (.pair (.int .i64) (.pair (.int .i64) (.pair (.int .i64) (.int .i64))))))]
abbrev rs26 : List Ty := [.bool]
noncomputable def d26 : (pk ps26).den → Option (pk rs26).den := fnK tab env26 5 ann26 big Try.f26 [] ps26 rs26 true
noncomputable def sg26 : Sig := { ps := ps26, rs := rs26, own := true, φ := d26 }
theorem envOk26 : ∀ f sg, env26 f = some sg → Contract Try.prog f sg := by
  intro f sg h
  unfold env26 at h
  split at h
  · injection h with h; subst h; exact c66
  · cases h
theorem l26 : ps26.length ≤ Try.f26.ntmps := of_decide_eq_true (by kernel_rfl)
theorem h26 : ∀ x y, d26 x = some y → fnD tab env26 5 ann26 big Try.f26 [] ps26 rs26 true x = some y := fun x y h => by rw [d26, ← fnK_eq l26] at h; exact h
theorem r26 : resOK tab Try.f26.results.toList rs26 = true := by kernel_rfl
theorem n26 : nodupB (Try.f26.results.toList.map rSlot) = true := by kernel_rfl
theorem does26 : Does Try.prog 26 ps26 rs26 true d26 := fn_does mixed tabOK envOk26 Try.func26 r26 n26 l26 h26
theorem k26 : Callable Try.prog 26 := ⟨Try.f26, Try.func26, by kernel_rfl, by kernel_rfl⟩
theorem c26 : Contract Try.prog 26 sg26 := by rw [sg26]; exact Contract.of k26 does26
def env98 : Nat → Option Sig := fun _ => none
def ann98 : List LoopAnn := [{ id := 2, live := [0, 1], frz := [] }]
abbrev ps98 : List Ty := [.sl (.int .u8), .int .i64]
abbrev rs98 : List Ty := [.sl (.int .u8)]
noncomputable def d98 : (pk ps98).den → Option (pk rs98).den := fnK tab env98 5 ann98 big Try.f98 [[.own]] ps98 rs98 true
noncomputable def sg98 : Sig := { ps := ps98, rs := rs98, own := true, eat := true, φ := d98 }
theorem envOk98 : ∀ f sg, env98 f = some sg → Contract Try.prog f sg := by
  intro f sg h
  unfold env98 at h
  cases h
theorem l98 : ps98.length ≤ Try.f98.ntmps := of_decide_eq_true (by kernel_rfl)
theorem h98 : ∀ x y, d98 x = some y → fnX tab env98 (fun _ => none) 5 ann98 big Try.f98 [[.own]] ps98 rs98 true x = some y := fun x y h => by rw [d98, fnK, ← fnKX_eq l98] at h; exact h
theorem r98 : resOK tab Try.f98.results.toList rs98 = true := by kernel_rfl
theorem n98 : nodupB (Try.f98.results.toList.map rSlot) = true := by kernel_rfl
theorem does98 : EatDoes Try.prog 98 ps98 rs98 d98 := fn_eats (bx := fun _ => none) mixed tabOK envOk98 (fun _ _ h => by cases h) Try.func98 r98 n98 l98 (by kernel_rfl) h98
theorem k98 : Callable Try.prog 98 := ⟨Try.f98, Try.func98, by kernel_rfl, by kernel_rfl⟩
theorem c98 : Contract Try.prog 98 sg98 := by rw [sg98]; exact Contract.ofEat k98 does98
def env99 : Nat → Option Sig := fun _ => none
def ann99 : List LoopAnn := []
abbrev ps99 : List Ty := [.sl (.int .u8)]
abbrev rs99 : List Ty := [.sl (.int .u8)]
noncomputable def d99r : (pk ps99).den → Option (pk rs99).den := fnK tab env99 3 ann99 big Try.f99 [] ps99 rs99 true
theorem envOk99 : ∀ f sg, env99 f = some sg → Contract Try.prog f sg := by
  intro f sg h
  unfold env99 at h
  cases h
theorem l99 : ps99.length ≤ Try.f99.ntmps := of_decide_eq_true (by kernel_rfl)
theorem h99r : ∀ x y, d99r x = some y → fnD tab env99 3 ann99 big Try.f99 [] ps99 rs99 true x = some y := fun x y h => by rw [d99r, ← fnK_eq l99] at h; exact h
theorem r99 : resOK tab Try.f99.results.toList rs99 = true := by kernel_rfl
theorem n99 : nodupB (Try.f99.results.toList.map rSlot) = true := by kernel_rfl
theorem does99r : Does Try.prog 99 ps99 rs99 true d99r := fn_does mixed tabOK envOk99 Try.func99 r99 n99 l99 h99r
theorem raw99 (s : List (Int)) : d99r s = (
  bif List.isEmpty s then (
    bothO (some ([] : List (Int))) (bif (Nat.ble ((List.length ([] : List (Int)) + List.length s) * 1) appendLimit && Nat.ble (List.length ([] : List (Int)) + List.length s) 9223372036854775807) then some (([] : List (Int)) ++ s)
    else none))
  else bif (Nat.ble ((List.length ([] : List (Int)) + List.length s) * 1) appendLimit && Nat.ble (List.length ([] : List (Int)) + List.length s) 9223372036854775807) then some (([] : List (Int)) ++ s)
  else none : Option (List (Int))) := by kernel_rfl
def d99 : (pk ps99).den → Option (pk rs99).den := fun (s : List (Int)) => bif (Nat.ble ((List.length ([] : List (Int)) + List.length s) * 1) appendLimit && Nat.ble (List.length ([] : List (Int)) + List.length s) 9223372036854775807) then some (([] : List (Int)) ++ s) else none
def sg99 : Sig := { ps := ps99, rs := rs99, own := true, φ := d99 }
theorem le99 : ∀ x y, d99 x = some y → d99r x = some y := by
  intro x y h
  refine (raw99 x).trans ?_
  cases x with
  | nil =>
    have e : d99 ([] : List (Int)) = some ([] : List (Int)) := by kernel_rfl
    have e2 : y = ([] : List (Int)) := (Option.some.inj (e.symm.trans h)).symm
    subst e2
    show bothO (some ([] : List (Int))) (d99 ([] : List (Int))) = _
    rw [e]
    unfold bothO
    rw [if_pos rfl]
  | cons a l => exact h
theorem does99 : Does Try.prog 99 ps99 rs99 true d99 := fun w Ok cs x y hx hy => does99r w Ok cs x y hx (le99 x y hy)
theorem k99 : Callable Try.prog 99 := ⟨Try.f99, Try.func99, by kernel_rfl, by kernel_rfl⟩
theorem c99 : Contract Try.prog 99 sg99 := Contract.of k99 does99
noncomputable def env67 : Nat → Option Sig := fun n => match n with
  | 98 => some sg98
  | 99 => some sg99
  | _ => none
def ann67 : List LoopAnn := []
abbrev ps67 : List Ty := [.sl (.int .u8), .int .i64]
abbrev rs67 : List Ty := [.sl (.int .u8)]
noncomputable def d67 : (pk ps67).den → Option (pk rs67).den := fnK tab env67 5 ann67 big Try.f67 [] ps67 rs67 true
noncomputable def sg67 : Sig := { ps := ps67, rs := rs67, own := true, φ := d67 }
theorem envOk67 : ∀ f sg, env67 f = some sg → Contract Try.prog f sg := by
  intro f sg h
  unfold env67 at h
  split at h
  · injection h with h; subst h; exact c98
  · injection h with h; subst h; exact c99
  · cases h
theorem l67 : ps67.length ≤ Try.f67.ntmps := of_decide_eq_true (by kernel_rfl)
theorem h67 : ∀ x y, d67 x = some y → fnD tab env67 5 ann67 big Try.f67 [] ps67 rs67 true x = some y := fun x y h => by rw [d67, ← fnK_eq l67] at h; exact h
theorem r67 : resOK tab Try.f67.results.toList rs67 = true := by kernel_rfl
theorem n67 : nodupB (Try.f67.results.toList.map rSlot) = true := by kernel_rfl
theorem does67 : Does Try.prog 67 ps67 rs67 true d67 := fn_does mixed tabOK envOk67 Try.func67 r67 n67 l67 h67
theorem k67 : Callable Try.prog 67 := ⟨Try.f67, Try.func67, by kernel_rfl, by kernel_rfl⟩
theorem c67 : Contract Try.prog 67 sg67 := by rw [sg67]; exact Contract.of k67 does67
def env128 : Nat → Option Sig := fun _ => none
def ann128 : List LoopAnn := []
abbrev ps128 : List Ty := [.int .u64]
abbrev rs128 : List Ty := [.int .u64]
noncomputable def d128 : (pk ps128).den → Option (pk rs128).den := fnK tab env128 3 ann128 big Try.f128 [] ps128 rs128 true
noncomputable def sg128 : Sig := { ps := ps128, rs := rs128, own := true, φ := d128 }
theorem envOk128 : ∀ f sg, env128 f = some sg → Contract Try.prog f sg := by
  intro f sg h
  unfold env128 at h
  cases h
theorem l128 : ps128.length ≤ Try.f128.ntmps := of_decide_eq_true (by kernel_rfl)
theorem h128 : ∀ x y, d128 x = some y → fnD tab env128 3 ann128 big Try.f128 [] ps128 rs128 true x = some y := fun x y h => by rw [d128, ← fnK_eq l128] at h; exact h
theorem r128 : resOK tab Try.f128.results.toList rs128 = true := by kernel_rfl
theorem n128 : nodupB (Try.f128.results.toList.map rSlot) = true := by kernel_rfl
theorem does128 : Does Try.prog 128 ps128 rs128 true d128 := fn_does mixed tabOK envOk128 Try.func128 r128 n128 l128 h128
theorem k128 : Callable Try.prog 128 := ⟨Try.f128, Try.func128, by kernel_rfl, by kernel_rfl⟩
theorem c128 : Contract Try.prog 128 sg128 := by rw [sg128]; exact Contract.of k128 does128
def env129 : Nat → Option Sig := fun _ => none
def ann129 : List LoopAnn := [{ id := 3, live := [3, 6, 7, 8], frz := [] }]
abbrev ps129 : List Ty := [.sl (.int .u8)]
abbrev rs129 : List Ty := [.int .u64]
noncomputable def d129 : (pk ps129).den → Option (pk rs129).den := fnK tab env129 6 ann129 big Try.f129 [] ps129 rs129 true
noncomputable def sg129 : Sig := { ps := ps129, rs := rs129, own := true, φ := d129 }
theorem envOk129 : ∀ f sg, env129 f = some sg → Contract Try.prog f sg := by
  intro f sg h
  unfold env129 at h
  cases h
theorem l129 : ps129.length ≤ Try.f129.ntmps := of_decide_eq_true (by kernel_rfl)
theorem h129 : ∀ x y, d129 x = some y → fnD tab env129 6 ann129 big Try.f129 [] ps129 rs129 true x = some y := fun x y h => by rw [d129, ← fnK_eq l129] at h; exact h
theorem r129 : resOK tab Try.f129.results.toList rs129 = true := by kernel_rfl
theorem n129 : nodupB (Try.f129.results.toList.map rSlot) = true := by kernel_rfl
theorem does129 : Does Try.prog 129 ps129 rs129 true d129 := fn_does mixed tabOK envOk129 Try.func129 r129 n129 l129 h129
theorem k129 : Callable Try.prog 129 := ⟨Try.f129, Try.func129, by kernel_rfl, by kernel_rfl⟩
theorem c129 : Contract Try.prog 129 sg129 := by rw [sg129]; exact Contract.of k129 does129
noncomputable def env100 : Nat → Option Sig := fun n => match n with
  | 128 => some sg128
  | 129 => some sg129
  | _ => none
def ann100 : List LoopAnn := [{ id := 3, live := [1, 5, 6], frz := [] }]
abbrev ps100 : List Ty := [.int .u64, .sl (.int .u8)]
abbrev rs100 : List Ty := [.int .u64]
noncomputable def d100 : (pk ps100).den → Option (pk rs100).den := fnK tab env100 7 ann100 big Try.f100 [] ps100 rs100 true
noncomputable def sg100 : Sig := { ps := ps100, rs := rs100, own := true, φ := d100 }
theorem envOk100 : ∀ f sg, env100 f = some sg → Contract Try.prog f sg := by
  intro f sg h
  unfold env100 at h
  split at h
  · injection h with h; subst h; exact c128
  · injection h with h; subst h; exact c129
  · cases h
theorem l100 : ps100.length ≤ Try.f100.ntmps := of_decide_eq_true (by kernel_rfl)
theorem h100 : ∀ x y, d100 x = some y → fnD tab env100 7 ann100 big Try.f100 [] ps100 rs100 true x = some y := fun x y h => by rw [d100, ← fnK_eq l100] at h; exact h
theorem r100 : resOK tab Try.f100.results.toList rs100 = true := by kernel_rfl
theorem n100 : nodupB (Try.f100.results.toList.map rSlot) = true := by kernel_rfl
theorem does100 : Does Try.prog 100 ps100 rs100 true d100 := fn_does mixed tabOK envOk100 Try.func100 r100 n100 l100 h100
theorem k100 : Callable Try.prog 100 := ⟨Try.f100, Try.func100, by kernel_rfl, by kernel_rfl⟩
theorem c100 : Contract Try.prog 100 sg100 := by rw [sg100]; exact Contract.of k100 does100
noncomputable def env68 : Nat → Option Sig := fun n => match n with
  | 100 => some sg100
  | _ => none
def ann68 : List LoopAnn := []
abbrev ps68 : List Ty := [.int .u64, .sl (.int .u8)]
abbrev rs68 : List Ty := [.int .u64]
noncomputable def d68 : (pk ps68).den → Option (pk rs68).den := fnK tab env68 5 ann68 big Try.f68 [] ps68 rs68 true
noncomputable def sg68 : Sig := { ps := ps68, rs := rs68, own := true, φ := d68 }
theorem envOk68 : ∀ f sg, env68 f = some sg → Contract Try.prog f sg := by
  intro f sg h
  unfold env68 at h
  split at h
  · injection h with h; subst h; exact c100
  · cases h
theorem l68 : ps68.length ≤ Try.f68.ntmps := of_decide_eq_true (by kernel_rfl)
theorem h68 : ∀ x y, d68 x = some y → fnD tab env68 5 ann68 big Try.f68 [] ps68 rs68 true x = some y := fun x y h => by rw [d68, ← fnK_eq l68] at h; exact h
theorem r68 : resOK tab Try.f68.results.toList rs68 = true := by kernel_rfl
theorem n68 : nodupB (Try.f68.results.toList.map rSlot) = true := by kernel_rfl
theorem does68 : Does Try.prog 68 ps68 rs68 true d68 := fn_does mixed tabOK envOk68 Try.func68 r68 n68 l68 h68
theorem k68 : Callable Try.prog 68 := ⟨Try.f68, Try.func68, by kernel_rfl, by kernel_rfl⟩
theorem c68 : Contract Try.prog 68 sg68 := by rw [sg68]; exact Contract.of k68 does68
noncomputable def env101 : Nat → Option Sig := fun n => match n with
  | 130 => some sg130
  | _ => none
def ann101 : List LoopAnn := [{ id := 4, live := [3, 4, 8, 9, 10], frz := [] }]
abbrev ps101 : List Ty := [.sl (.int .u8)]
abbrev rs101 : List Ty := [.int .u32]
noncomputable def d101 : (pk ps101).den → Option (pk rs101).den := fnK tab env101 7 ann101 big Try.f101 [] ps101 rs101 true
noncomputable def sg101 : Sig := { ps := ps101, rs := rs101, own := true, φ := d101 }
theorem envOk101 : ∀ f sg, env101 f = some sg → Contract Try.prog f sg := by
  intro f sg h
  unfold env101 at h
  split at h
  · injection h with h; subst h; exact c130
  · cases h
theorem l101 : ps101.length ≤ Try.f101.ntmps := of_decide_eq_true (by kernel_rfl)
theorem h101 : ∀ x y, d101 x = some y → fnD tab env101 7 ann101 big Try.f101 [] ps101 rs101 true x = some y := fun x y h => by rw [d101, ← fnK_eq l101] at h; exact h
theorem r101 : resOK tab Try.f101.results.toList rs101 = true := by kernel_rfl
theorem n101 : nodupB (Try.f101.results.toList.map rSlot) = true := by kernel_rfl
theorem does101 : Does Try.prog 101 ps101 rs101 true d101 := fn_does mixed tabOK envOk101 Try.func101 r101 n101 l101 h101
theorem k101 : Callable Try.prog 101 := ⟨Try.f101, Try.func101, by kernel_rfl, by kernel_rfl⟩
theorem c101 : Contract Try.prog 101 sg101 := by rw [sg101]; exact Contract.of k101 does101
noncomputable def env69 : Nat → Option Sig := fun n => match n with
  | 67 => some sg67
  | 101 => some sg101
  | _ => none
def ann69 : List LoopAnn := []
abbrev ps69 : List Ty := [.sl (.int .u8)]
abbrev rs69 : List Ty := [.sl (.int .u8)]
noncomputable def d69 : (pk ps69).den → Option (pk rs69).den := fnK tab env69 4 ann69 big Try.f69 [] ps69 rs69 true
noncomputable def sg69 : Sig := { ps := ps69, rs := rs69, own := true, φ := d69 }
theorem envOk69 : ∀ f sg, env69 f = some sg → Contract Try.prog f sg := by
  intro f sg h
  unfold env69 at h
  split at h
  · injection h with h; subst h; exact c67
  · injection h with h; subst h; exact c101
  · cases h
theorem l69 : ps69.length ≤ Try.f69.ntmps := of_decide_eq_true (by kernel_rfl)
theorem h69 : ∀ x y, d69 x = some y → fnD tab env69 4 ann69 big Try.f69 [] ps69 rs69 true x = some y := fun x y h => by rw [d69, ← fnK_eq l69] at h; exact h
theorem r69 : resOK tab Try.f69.results.toList rs69 = true := by kernel_rfl
theorem n69 : nodupB (Try.f69.results.toList.map rSlot) = true := by kernel_rfl
theorem does69 : Does Try.prog 69 ps69 rs69 true d69 := fn_does mixed tabOK envOk69 Try.func69 r69 n69 l69 h69
theorem k69 : Callable Try.prog 69 := ⟨Try.f69, Try.func69, by kernel_rfl, by kernel_rfl⟩
theorem c69 : Contract Try.prog 69 sg69 := by rw [sg69]; exact Contract.of k69 does69
noncomputable def env27 : Nat → Option Sig := fun n => match n with
  | 66 => some sg66
  | 67 => some sg67
  | 68 => some sg68
  | 69 => some sg69
  | _ => none
def ann27 : List LoopAnn := [{ id := 3, live := [0, 2, 8, 13, 14], frz := [] }, { id := 9, live := [0, 2, 8, 11], frz := [] }]
abbrev ps27 : List Ty := [.sl (.int .u8), .pair (.int .i64) (.pair (.int .i64) (.pair (.int .i64) (.pair (.int .i64) (.pair (.int .i64) (.pair (.int .i64) (.int .i64)))))), .int .u64]
abbrev rs27 : List Ty := [.sl (.int .u8), .int .u64]
noncomputable def d27 : (pk ps27).den → Option (pk rs27).den := fnK tab env27 12 ann27 big Try.f27 [[.own]] ps27 rs27 true
noncomputable def sg27 : Sig := { ps := ps27, rs := rs27, own := true, eat := true, φ := d27 }
theorem envOk27 : ∀ f sg, env27 f = some sg → Contract Try.prog f sg := by
  intro f sg h
  unfold env27 at h
  split at h
  · injection h with h; subst h; exact c66
  · injection h with h; subst h; exact c67
  · injection h with h; subst h; exact c68
  · injection h with h; subst h; exact c69
  · cases h
theorem l27 : ps27.length ≤ Try.f27.ntmps := of_decide_eq_true (by kernel_rfl)
theorem h27 : ∀ x y, d27 x = some y → fnX tab env27 (fun _ => none) 12 ann27 big Try.f27 [[.own]] ps27 rs27 true x = some y := fun x y h => by rw [d27, fnK, ← fnKX_eq l27] at h; exact h
theorem r27 : resOK tab Try.f27.results.toList rs27 = true := by kernel_rfl
theorem n27 : nodupB (Try.f27.results.toList.map rSlot) = true := by kernel_rfl
theorem does27 : EatDoes Try.prog 27 ps27 rs27 d27 := fn_eats (bx := fun _ => none) mixed tabOK envOk27 (fun _ _ h => by cases h) Try.func27 r27 n27 l27 (by kernel_rfl) h27
theorem k27 : Callable Try.prog 27 := ⟨Try.f27, Try.func27, by kernel_rfl, by kernel_rfl⟩
theorem c27 : Contract Try.prog 27 sg27 := by rw [sg27]; exact Contract.ofEat k27 does27
noncomputable def env7 : Nat → Option Sig := fun n => match n with
  | 26 => some sg26
  | 27 => some sg27
  | _ => none
def ann7 : List LoopAnn := [{ id := 4, live := [4, 5, 8, 9, 10], frz := [] }]
abbrev ps7 : List Ty := [.sl (.pair (.int .i64) (.pair (.int .i64) (.pair (.int .i64) (.pair (.int .i64) (.pair (.int .i64) (.pair (.int .i64) (.int .i64)))))))]
abbrev rs7 : List Ty := [.sl (.int .u8), .int .i64]
noncomputable def d7 : (pk ps7).den → Option (pk rs7).den := fnK tab env7 8 ann7 big Try.f7 [] ps7 rs7 true
noncomputable def sg7 : Sig := { ps := ps7, rs := rs7, own := true, φ := d7 }
theorem envOk7 : ∀ f sg, env7 f = some sg → Contract Try.prog f sg := by
  intro f sg h
  unfold env7 at h
  split at h
  · injection h with h; subst h; exact c26
  · injection h with h; subst h; exact c27
  · cases h
theorem l7 : ps7.length ≤ Try.f7.ntmps := of_decide_eq_true (by kernel_rfl)
theorem h7 : ∀ x y, d7 x = some y → fnD tab env7 8 ann7 big Try.f7 [] ps7 rs7 true x = some y := fun x y h => by rw [d7, ← fnK_eq l7] at h; exact h
theorem r7 : resOK tab Try.f7.results.toList rs7 = true := by kernel_rfl
theorem n7 : nodupB (Try.f7.results.toList.map rSlot) = true := by kernel_rfl
theorem does7 : Does Try.prog 7 ps7 rs7 true d7 := fn_does mixed tabOK envOk7 Try.func7 r7 n7 l7 h7
theorem k7 : Callable Try.prog 7 := ⟨Try.f7, Try.func7, by kernel_rfl, by kernel_rfl⟩
theorem c7 : Contract Try.prog 7 sg7 := by rw [sg7]; exact Contract.of k7 does7
def env103 : Nat → Option Sig := fun _ => none
def ann103 : List LoopAnn := [{ id := 3, live := [0, 5, 7], frz := [] }]
abbrev ps103 : List Ty := [.sl (.int .u8)]
abbrev rs103 : List Ty := [.int .i64, .int .i64, .int .i64]
noncomputable def d103 : (pk ps103).den → Option (pk rs103).den := fnK tab env103 7 ann103 big Try.f103 [] ps103 rs103 true
noncomputable def sg103 : Sig := { ps := ps103, rs := rs103, own := true, φ := d103 }
theorem envOk103 : ∀ f sg, env103 f = some sg → Contract Try.prog f sg := by
  intro f sg h
  unfold env103 at h
  cases h
theorem l103 : ps103.length ≤ Try.f103.ntmps := of_decide_eq_true (by kernel_rfl)
theorem h103 : ∀ x y, d103 x = some y → fnD tab env103 7 ann103 big Try.f103 [] ps103 rs103 true x = some y := fun x y h => by rw [d103, ← fnK_eq l103] at h; exact h
theorem r103 : resOK tab Try.f103.results.toList rs103 = true := by kernel_rfl
theorem n103 : nodupB (Try.f103.results.toList.map rSlot) = true := by kernel_rfl
theorem does103 : Does Try.prog 103 ps103 rs103 true d103 := fn_does mixed tabOK envOk103 Try.func103 r103 n103 l103 h103
theorem k103 : Callable Try.prog 103 := ⟨Try.f103, Try.func103, by kernel_rfl, by kernel_rfl⟩
theorem c103 : Contract Try.prog 103 sg103 := by rw [sg103]; exact Contract.of k103 does103
noncomputable def env102 : Nat → Option Sig := fun n => match n with
  | 99 => some sg99
  | 101 => some sg101
  | 103 => some sg103
  | _ => none
def ann102 : List LoopAnn := [{ id := 11, live := [0, 6, 8, 9, 35, 36, 37], frz := [] }]
abbrev ps102 : List Ty := [.sl (.int .u8)]
abbrev rs102 : List Ty := [.sl (.int .u8), .int .i64, .int .i64]
noncomputable def d102 : (pk ps102).den → Option (pk rs102).den := fnK tab env102 12 ann102 big Try.f102 [] ps102 rs102 true
noncomputable def sg102 : Sig := { ps := ps102, rs := rs102, own := true, φ := d102 }
theorem envOk102 : ∀ f sg, env102 f = some sg → Contract Try.prog f sg := by
  intro f sg h
  unfold env102 at h
  split at h
  · injection h with h; subst h; exact c99
  · injection h with h; subst h; exact c101
  · injection h with h; subst h; exact c103
  · cases h
theorem l102 : ps102.length ≤ Try.f102.ntmps := of_decide_eq_true (by kernel_rfl)
theorem h102 : ∀ x y, d102 x = some y → fnD tab env102 12 ann102 big Try.f102 [] ps102 rs102 true x = some y := fun x y h => by rw [d102, ← fnK_eq l102] at h; exact h
theorem r102 : resOK tab Try.f102.results.toList rs102 = true := by kernel_rfl
theorem n102 : nodupB (Try.f102.results.toList.map rSlot) = true := by kernel_rfl
theorem does102 : Does Try.prog 102 ps102 rs102 true d102 := fn_does mixed tabOK envOk102 Try.func102 r102 n102 l102 h102
theorem k102 : Callable Try.prog 102 := ⟨Try.f102, Try.func102, by kernel_rfl, by kernel_rfl⟩
theorem c102 : Contract Try.prog 102 sg102 := by rw [sg102]; exact Contract.of k102 does102
end Go.Proofs.Ytbapfiaglcllnaa.D
end

section
open Go Go.GD Go.Proofs
namespace Go.Proofs.Ytbapfiaglcllnaa.D
noncomputable def env71 : Nat → Option Sig := fun n => match n with
  | 68 => some sg68
  | 102 => some sg102
  | 103 => some sg103
  | _ => none
def ann71 : List LoopAnn := [{ id := 7, live := [1, 4, 7, 8, 10, 11, 30], frz := [] }, { id := 19, live := [1, 4, 7, 8, 10, 11, 16, 65, 66, 67], frz := [] }]
abbrev ps71 : List Ty := [.sl (.int .u8), .int .u64]
abbrev rs71 : List Ty := [.pair (.int .i64) (.pair (.int .i64) (.pair (.int .i64) (.pair (.int .i64) (.pair (.int .i64) (.pair (.int .i64) (.int .i64)))))), .int .u64, .int .i64]
noncomputable def d71 : (pk ps71).den → Option ((pk rs71).den ⊕ Nat) := fnPK tab env71 20 ann71 big Try.f71 ps71 rs71 true
theorem envOk71 : ∀ f sg, env71 f = some sg → Contract Try.prog f sg := by
  intro f sg h
  unfold env71 at h
  split at h
  · injection h with h; subst h; exact c68
  · injection h with h; subst h; exact c102
  · injection h with h; subst h; exact c103
  · cases h
theorem l71 : ps71.length ≤ Try.f71.ntmps := of_decide_eq_true (by kernel_rfl)
theorem h71 : ∀ x y, d71 x = some y → fnP tab env71 20 ann71 big Try.f71 ps71 rs71 true x = some y := fun x y h => by rw [d71, ← fnPK_eq l71] at h; exact h
theorem r71 : resOK tab Try.f71.results.toList rs71 = true := by kernel_rfl
theorem n71 : nodupB (Try.f71.results.toList.map rSlot) = true := by kernel_rfl
theorem does71 : DoesP Try.prog 71 ps71 rs71 true d71 := fn_doesP mixed tabOK envOk71 Try.func71 r71 n71 l71 h71
theorem k71 : Callable Try.prog 71 := ⟨Try.f71, Try.func71, by kernel_rfl, by kernel_rfl⟩
end Go.Proofs.Ytbapfiaglcllnaa.D
end
