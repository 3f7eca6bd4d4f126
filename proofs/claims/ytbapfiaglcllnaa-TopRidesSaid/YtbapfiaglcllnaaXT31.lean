import Derived.Test.YtbapfiaglcllnaaXHbb
import Derived.Test.YtbapfiaglcllnaaXT24a
open Go Go.GD Go.Proofs
namespace Go.Proofs.Ytbapfiaglcllnaa.D
def env10 : Nat → Option Sig := fun _ => none
def ann10 : List LoopAnn := []
abbrev ps10 : List Ty := [.int .i64]
abbrev rs10 : List Ty := [.pair (.int .i64) (.pair (.int .i64) (.sl (.pair (.int .i64) (.pair (.int .i64) (.pair (.int .i64) (.pair (.int .i64) (.pair (.int .i64) (.pair (.int .i64) (.int .i64))))))))), .pair (.int .i64) (.pair (.int .i64) (.pair (.sl (.pair (.int .i64) (.pair (.int .i64) (.pair (.int .i64) (.pair (.int .i64) (.pair (.int .i64) (.pair (.int .i64) (.int .i64)))))))) (.sl (.pair (.int .i64) (.pair (.int .i64) (.pair (.int .i64) (.pair (.int .i64) (.pair (.int .i64) (.pair (.int .i64) (.int .i64))))))))))]
noncomputable def d10 : (pk ps10).den → Option (pk rs10).den := fnK tab env10 4 ann10 big Try.f10 [] ps10 rs10 true
noncomputable def sg10 : Sig := { ps := ps10, rs := rs10, own := true, φ := d10 }
theorem envOk10 : ∀ f sg, env10 f = some sg → Contract Try.prog f sg := by
  intro f sg h
  unfold env10 at h
  cases h
theorem l10 : ps10.length ≤ Try.f10.ntmps := of_decide_eq_true (by kernel_rfl)
theorem h10 : ∀ x y, d10 x = some y → fnD tab env10 4 ann10 big Try.f10 [] ps10 rs10 true x = some y := fun x y h => by rw [d10, ← fnK_eq l10] at h; exact h
theorem r10 : resOK tab Try.f10.results.toList rs10 = true := by kernel_rfl
theorem n10 : nodupB (Try.f10.results.toList.map rSlot) = true := by kernel_rfl
theorem does10 : Does Try.prog 10 ps10 rs10 true d10 := fn_does mixed tabOK envOk10 Try.func10 r10 n10 l10 h10
theorem k10 : Callable Try.prog 10 := ⟨Try.f10, Try.func10, by kernel_rfl, by kernel_rfl⟩
theorem c10 : Contract Try.prog 10 sg10 := by rw [sg10]; exact Contract.of k10 does10
def env29 : Nat → Option Sig := fun _ => none
def ann29 : List LoopAnn := []
abbrev ps29 : List Ty := [.sl (.pair (.int .i64) (.pair (.int .i64) (.pair (.int .i64) (.pair (.int .i64) (.pair (.int .i64) (.pair (.int .i64) (.int .i64)))))))]
abbrev rs29 : List Ty := [.sl (.pair (.int .i64) (.pair (.int .i64) (.pair (.int .i64) (.pair (.int .i64) (.pair (.int .i64) (.pair (.int .i64) (.int .i64)))))))]
noncomputable def d29r : (pk ps29).den → Option (pk rs29).den := fnK tab env29 3 ann29 big Try.f29 [] ps29 rs29 true
theorem envOk29 : ∀ f sg, env29 f = some sg → Contract Try.prog f sg := by
  intro f sg h
  unfold env29 at h
  cases h
theorem l29 : ps29.length ≤ Try.f29.ntmps := of_decide_eq_true (by kernel_rfl)
theorem h29r : ∀ x y, d29r x = some y → fnD tab env29 3 ann29 big Try.f29 [] ps29 rs29 true x = some y := fun x y h => by rw [d29r, ← fnK_eq l29] at h; exact h
theorem r29 : resOK tab Try.f29.results.toList rs29 = true := by kernel_rfl
theorem n29 : nodupB (Try.f29.results.toList.map rSlot) = true := by kernel_rfl
theorem does29r : Does Try.prog 29 ps29 rs29 true d29r := fn_does mixed tabOK envOk29 Try.func29 r29 n29 l29 h29r
theorem raw29 (s : List ((Int) × ((Int) × ((Int) × ((Int) × ((Int) × ((Int) × (Int)))))))) : d29r s = (
  bif List.isEmpty s then (
    bothO (some ([] : List ((Int) × ((Int) × ((Int) × ((Int) × ((Int) × ((Int) × (Int))))))))) (bif (Nat.ble ((List.length ([] : List ((Int) × ((Int) × ((Int) × ((Int) × ((Int) × ((Int) × (Int)))))))) + List.length s) * 56) appendLimit && Nat.ble (List.length ([] : List ((Int) × ((Int) × ((Int) × ((Int) × ((Int) × ((Int) × (Int)))))))) + List.length s) 9223372036854775807) then some (([] : List ((Int) × ((Int) × ((Int) × ((Int) × ((Int) × ((Int) × (Int)))))))) ++ s)
    else none))
  else bif (Nat.ble ((List.length ([] : List ((Int) × ((Int) × ((Int) × ((Int) × ((Int) × ((Int) × (Int)))))))) + List.length s) * 56) appendLimit && Nat.ble (List.length ([] : List ((Int) × ((Int) × ((Int) × ((Int) × ((Int) × ((Int) × (Int)))))))) + List.length s) 9223372036854775807) then some (([] : List ((Int) × ((Int) × ((Int) × ((Int) × ((Int) × ((Int) × (Int)))))))) ++ s)
  else none : Option (List ((Int) × ((Int) × ((Int) × ((Int) × ((Int) × ((Int) × (Int))))))))) := by kernel_rfl
def d29 : (pk ps29).den → Option (pk rs29).den := fun (s : List ((Int) × ((Int) × ((Int) × ((Int) × ((Int) × ((Int) × (Int)))))))) => bif (Nat.ble ((List.length ([] : List ((Int) × ((Int) × ((Int) × ((Int) × ((Int) × ((Int) × (Int)))))))) + List.length s) * 56) appendLimit && Nat.ble (List.length ([] : List ((Int) × ((Int) × ((Int) × ((Int) × ((Int) × ((Int) × (Int)))))))) + List.length s) 9223372036854775807) then some (([] : List ((Int) × ((Int) × ((Int) × ((Int) × ((Int) × ((Int) × (Int)))))))) ++ s) else none
def sg29 : Sig := { ps := ps29, rs := rs29, own := true, φ := d29 }
theorem le29 : ∀ x y, d29 x = some y → d29r x = some y := by
  intro x y h
  refine (raw29 x).trans ?_
  cases x with
  | nil =>
    have e : d29 ([] : List ((Int) × ((Int) × ((Int) × ((Int) × ((Int) × ((Int) × (Int)))))))) = some ([] : List ((Int) × ((Int) × ((Int) × ((Int) × ((Int) × ((Int) × (Int)))))))) := by kernel_rfl
    have e2 : y = ([] : List ((Int) × ((Int) × ((Int) × ((Int) × ((Int) × ((Int) × (Int)))))))) := (Option.some.inj (e.symm.trans h)).symm
    subst e2
    show bothO (some ([] : List ((Int) × ((Int) × ((Int) × ((Int) × ((Int) × ((Int) × (Int))))))))) (d29 ([] : List ((Int) × ((Int) × ((Int) × ((Int) × ((Int) × ((Int) × (Int))))))))) = _
    rw [e]
    unfold bothO
    rw [if_pos rfl]
  | cons a l => exact h
theorem does29 : Does Try.prog 29 ps29 rs29 true d29 := fun w Ok cs x y hx hy => does29r w Ok cs x y hx (le29 x y hy)
theorem k29 : Callable Try.prog 29 := ⟨Try.f29, Try.func29, by kernel_rfl, by kernel_rfl⟩
theorem c29 : Contract Try.prog 29 sg29 := Contract.of k29 does29
noncomputable def env24 : Nat → Option Sig := fun n => match n with
  | 29 => some sg29
  | _ => none
def ann24 : List LoopAnn := []
abbrev ps24 : List Ty := [.pair (.int .i64) (.pair (.int .i64) (.sl (.pair (.int .i64) (.pair (.int .i64) (.pair (.int .i64) (.pair (.int .i64) (.pair (.int .i64) (.pair (.int .i64) (.int .i64))))))))), .pair (.int .i64) (.pair (.int .i64) (.pair (.int .i64) (.pair (.int .i64) (.pair (.int .i64) (.pair (.int .i64) (.int .i64))))))]
abbrev rs24 : List Ty := [.pair (.int .i64) (.pair (.int .i64) (.sl (.pair (.int .i64) (.pair (.int .i64) (.pair (.int .i64) (.pair (.int .i64) (.pair (.int .i64) (.pair (.int .i64) (.int .i64))))))))), .int .i64]
noncomputable def d24 : (pk ps24).den → Option (pk rs24).den := fnK tab env24 6 ann24 big Try.f24 [] ps24 rs24 false
noncomputable def sg24 : Sig := { ps := ps24, rs := rs24, own := false, φ := d24 }
theorem envOk24 : ∀ f sg, env24 f = some sg → Contract Try.prog f sg := by
  intro f sg h
  unfold env24 at h
  split at h
  · injection h with h; subst h; exact c29
  · cases h
theorem l24 : ps24.length ≤ Try.f24.ntmps := of_decide_eq_true (by kernel_rfl)
theorem h24 : ∀ x y, d24 x = some y → fnD tab env24 6 ann24 big Try.f24 [] ps24 rs24 false x = some y := fun x y h => by rw [d24, ← fnK_eq l24] at h; exact h
theorem r24 : resOK tab Try.f24.results.toList rs24 = true := by kernel_rfl
theorem n24 : nodupB (Try.f24.results.toList.map rSlot) = true := by kernel_rfl
theorem does24 : Does Try.prog 24 ps24 rs24 false d24 := fn_does mixed tabOK envOk24 Try.func24 r24 n24 l24 h24
theorem k24 : Callable Try.prog 24 := ⟨Try.f24, Try.func24, by kernel_rfl, by kernel_rfl⟩
theorem c24 : Contract Try.prog 24 sg24 := by rw [sg24]; exact Contract.of k24 does24
abbrev ps64 : List Ty := [.sl Up.rideTy, .fn Up.rideTy .bool]
abbrev rs64 : List Ty := [.sl Up.rideTy]
def d64 : (pk ps64).den → Option (pk rs64).den := Up.dfD
def sg64 : Sig := { ps := ps64, rs := rs64, own := true, eat := true, φ := d64 }
theorem k64 : Callable Try.prog 64 := ⟨Try.f64, Try.func64, by kernel_rfl, by kernel_rfl⟩
theorem c64 : Contract Try.prog 64 sg64 := Contract.ofEat k64 Up.df_eats
def env65 : Nat → Option Sig := fun _ => none
def ann65 : List LoopAnn := []
abbrev ps65 : List Ty := [.pair (.int .i64) (.pair (.int .i64) (.pair (.int .i64) (.pair (.int .i64) (.pair (.int .i64) (.pair (.int .i64) (.int .i64)))))), .ptr (.int .i64)]
abbrev rs65 : List Ty := [.bool]
noncomputable def d65 : (pk ps65).den → Option (pk rs65).den := fnK tab env65 4 ann65 big Try.f65 [] ps65 rs65 true
noncomputable def sg65 : Sig := { ps := ps65, rs := rs65, own := true, φ := d65 }
theorem envOk65 : ∀ f sg, env65 f = some sg → Contract Try.prog f sg := by
  intro f sg h
  unfold env65 at h
  cases h
theorem l65 : ps65.length ≤ Try.f65.ntmps := of_decide_eq_true (by kernel_rfl)
theorem h65 : ∀ x y, d65 x = some y → fnD tab env65 4 ann65 big Try.f65 [] ps65 rs65 true x = some y := fun x y h => by rw [d65, ← fnK_eq l65] at h; exact h
theorem r65 : resOK tab Try.f65.results.toList rs65 = true := by kernel_rfl
theorem n65 : nodupB (Try.f65.results.toList.map rSlot) = true := by kernel_rfl
theorem does65 : Does Try.prog 65 ps65 rs65 true d65 := fn_does mixed tabOK envOk65 Try.func65 r65 n65 l65 h65
theorem k65 : Callable Try.prog 65 := ⟨Try.f65, Try.func65, by kernel_rfl, by kernel_rfl⟩
theorem c65 : Contract Try.prog 65 sg65 := by rw [sg65]; exact Contract.of k65 does65
noncomputable def env25 : Nat → Option Sig := fun n => match n with
  | 29 => some sg29
  | 64 => some sg64
  | 65 => some sg65
  | _ => none
def ann25 : List LoopAnn := []
abbrev ps25 : List Ty := [.pair (.int .i64) (.pair (.int .i64) (.sl (.pair (.int .i64) (.pair (.int .i64) (.pair (.int .i64) (.pair (.int .i64) (.pair (.int .i64) (.pair (.int .i64) (.int .i64))))))))), .int .i64]
abbrev rs25 : List Ty := [.pair (.int .i64) (.pair (.int .i64) (.sl (.pair (.int .i64) (.pair (.int .i64) (.pair (.int .i64) (.pair (.int .i64) (.pair (.int .i64) (.pair (.int .i64) (.int .i64)))))))))]
noncomputable def d25 : (pk ps25).den → Option (pk rs25).den := fnK tab env25 5 ann25 big Try.f25 [] ps25 rs25 true
noncomputable def sg25 : Sig := { ps := ps25, rs := rs25, own := true, φ := d25 }
theorem envOk25 : ∀ f sg, env25 f = some sg → Contract Try.prog f sg := by
  intro f sg h
  unfold env25 at h
  split at h
  · injection h with h; subst h; exact c29
  · injection h with h; subst h; exact c64
  · injection h with h; subst h; exact c65
  · cases h
theorem l25 : ps25.length ≤ Try.f25.ntmps := of_decide_eq_true (by kernel_rfl)
theorem h25 : ∀ x y, d25 x = some y → fnD tab env25 5 ann25 big Try.f25 [] ps25 rs25 true x = some y := fun x y h => by rw [d25, ← fnK_eq l25] at h; exact h
theorem r25 : resOK tab Try.f25.results.toList rs25 = true := by kernel_rfl
theorem n25 : nodupB (Try.f25.results.toList.map rSlot) = true := by kernel_rfl
theorem does25 : Does Try.prog 25 ps25 rs25 true d25 := fn_does mixed tabOK envOk25 Try.func25 r25 n25 l25 h25
theorem k25 : Callable Try.prog 25 := ⟨Try.f25, Try.func25, by kernel_rfl, by kernel_rfl⟩
theorem c25 : Contract Try.prog 25 sg25 := by rw [sg25]; exact Contract.of k25 does25
def env31 : Nat → Option Sig := fun _ => none
def ann31 : List LoopAnn := []
abbrev ps31 : List Ty := [.pair (.int .i64) (.pair (.int .i64) (.pair (.int .i64) (.pair (.int .i64) (.pair (.int .i64) (.pair (.int .i64) (.int .i64)))))), .ptr (.pair (.int .i64) (.pair (.int .i64) (.pair (.sl (.pair (.int .i64) (.pair (.int .i64) (.pair (.int .i64) (.pair (.int .i64) (.pair (.int .i64) (.pair (.int .i64) (.int .i64)))))))) (.sl (.pair (.int .i64) (.pair (.int .i64) (.pair (.int .i64) (.pair (.int .i64) (.pair (.int .i64) (.pair (.int .i64) (.int .i64)))))))))))]
abbrev rs31 : List Ty := [.bool]
noncomputable def d31 : (pk ps31).den → Option (pk rs31).den := fnK tab env31 4 ann31 big Try.f31 [] ps31 rs31 true
noncomputable def sg31 : Sig := { ps := ps31, rs := rs31, own := true, φ := d31 }
theorem envOk31 : ∀ f sg, env31 f = some sg → Contract Try.prog f sg := by
  intro f sg h
  unfold env31 at h
  cases h
theorem l31 : ps31.length ≤ Try.f31.ntmps := of_decide_eq_true (by kernel_rfl)
theorem h31 : ∀ x y, d31 x = some y → fnD tab env31 4 ann31 big Try.f31 [] ps31 rs31 true x = some y := fun x y h => by rw [d31, ← fnK_eq l31] at h; exact h
theorem r31 : resOK tab Try.f31.results.toList rs31 = true := by kernel_rfl
theorem n31 : nodupB (Try.f31.results.toList.map rSlot) = true := by kernel_rfl
theorem does31 : Does Try.prog 31 ps31 rs31 true d31 := fn_does mixed tabOK envOk31 Try.func31 r31 n31 l31 h31
theorem k31 : Callable Try.prog 31 := ⟨Try.f31, Try.func31, by kernel_rfl, by kernel_rfl⟩
theorem c31 : Contract Try.prog 31 sg31 := by rw [sg31]; exact Contract.of k31 does31
abbrev ps32 : List Ty := [.sl (.pair (.int .i64) (.pair (.int .i64) (.pair (.int .i64) (.pair (.int .i64) (.pair (.int .i64) (.pair (.int .i64) (.int .i64))))))), .int .i64, .int .i64]
abbrev rs32 : List Ty := [.sl (.pair (.int .i64) (.pair (.int .i64) (.pair (.int .i64) (.pair (.int .i64) (.pair (.int .i64) (.pair (.int .i64) (.int .i64)))))))]
def d32 : (pk ps32).den → Option (pk rs32).den := delD (.pair (.int .i64) (.pair (.int .i64) (.pair (.int .i64) (.pair (.int .i64) (.pair (.int .i64) (.pair (.int .i64) (.int .i64)))))))
def sg32 : Sig := { ps := ps32, rs := rs32, own := true, eat := true, φ := d32 }
theorem k32 : Callable Try.prog 32 := ⟨Try.f32, Try.func32, by kernel_rfl, by kernel_rfl⟩
theorem c32 : Contract Try.prog 32 sg32 :=
  del_contract (f := 32) (T := 24) (El := 40) mixed "slices.Delete[[]skiarea/api.Ride,skiarea/api.Ride]" (by rw [Try.func32]; kernel_rfl) (by kernel_rfl) (by kernel_rfl) (by kernel_rfl) (by kernel_rfl) (by kernel_rfl) (by kernel_rfl) (by kernel_rfl) (by kernel_rfl) (by kernel_rfl) (by kernel_rfl) (by kernel_rfl) (by kernel_rfl) tabOK (.pair (.int .i64) (.pair (.int .i64) (.pair (.int .i64) (.pair (.int .i64) (.pair (.int .i64) (.pair (.int .i64) (.int .i64))))))) (by kernel_rfl) (by kernel_rfl) (by kernel_rfl) k32
noncomputable def env33 : Nat → Option Sig := fun n => match n with
  | 30 => some sg30
  | _ => none
def ann33 : List LoopAnn := []
abbrev ps33 : List Ty := [.sl (.pair (.int .i64) (.pair (.int .i64) (.pair (.int .i64) (.pair (.int .i64) (.pair (.int .i64) (.pair (.int .i64) (.int .i64))))))), .fn (.pair (.int .i64) (.pair (.int .i64) (.pair (.int .i64) (.pair (.int .i64) (.pair (.int .i64) (.pair (.int .i64) (.int .i64))))))) (.bool)]
abbrev rs33 : List Ty := [.bool]
noncomputable def d33 : (pk ps33).den → Option (pk rs33).den := fnK tab env33 5 ann33 big Try.f33 [] ps33 rs33 true
noncomputable def sg33 : Sig := { ps := ps33, rs := rs33, own := true, φ := d33 }
theorem envOk33 : ∀ f sg, env33 f = some sg → Contract Try.prog f sg := by
  intro f sg h
  unfold env33 at h
  split at h
  · injection h with h; subst h; exact c30
  · cases h
theorem l33 : ps33.length ≤ Try.f33.ntmps := of_decide_eq_true (by kernel_rfl)
theorem h33 : ∀ x y, d33 x = some y → fnD tab env33 5 ann33 big Try.f33 [] ps33 rs33 true x = some y := fun x y h => by rw [d33, ← fnK_eq l33] at h; exact h
theorem r33 : resOK tab Try.f33.results.toList rs33 = true := by kernel_rfl
theorem n33 : nodupB (Try.f33.results.toList.map rSlot) = true := by kernel_rfl
theorem does33 : Does Try.prog 33 ps33 rs33 true d33 := fn_does mixed tabOK envOk33 Try.func33 r33 n33 l33 h33
theorem k33 : Callable Try.prog 33 := ⟨Try.f33, Try.func33, by kernel_rfl, by kernel_rfl⟩
theorem c33 : Contract Try.prog 33 sg33 := by rw [sg33]; exact Contract.of k33 does33
def env34 : Nat → Option Sig := fun _ => none
def ann34 : List LoopAnn := []
abbrev ps34 : List Ty := [.pair (.int .i64) (.pair (.int .i64) (.pair (.int .i64) (.pair (.int .i64) (.pair (.int .i64) (.pair (.int .i64) (.int .i64)))))), .ptr (.pair (.int .i64) (.pair (.int .i64) (.pair (.int .i64) (.pair (.int .i64) (.pair (.int .i64) (.pair (.int .i64) (.int .i64)))))))]
abbrev rs34 : List Ty := [.bool]
noncomputable def d34 : (pk ps34).den → Option (pk rs34).den := fnK tab env34 4 ann34 big Try.f34 [] ps34 rs34 true
noncomputable def sg34 : Sig := { ps := ps34, rs := rs34, own := true, φ := d34 }
theorem envOk34 : ∀ f sg, env34 f = some sg → Contract Try.prog f sg := by
  intro f sg h
  unfold env34 at h
  cases h
theorem l34 : ps34.length ≤ Try.f34.ntmps := of_decide_eq_true (by kernel_rfl)
theorem h34 : ∀ x y, d34 x = some y → fnD tab env34 4 ann34 big Try.f34 [] ps34 rs34 true x = some y := fun x y h => by rw [d34, ← fnK_eq l34] at h; exact h
theorem r34 : resOK tab Try.f34.results.toList rs34 = true := by kernel_rfl
theorem n34 : nodupB (Try.f34.results.toList.map rSlot) = true := by kernel_rfl
theorem does34 : Does Try.prog 34 ps34 rs34 true d34 := fn_does mixed tabOK envOk34 Try.func34 r34 n34 l34 h34
theorem k34 : Callable Try.prog 34 := ⟨Try.f34, Try.func34, by kernel_rfl, by kernel_rfl⟩
theorem c34 : Contract Try.prog 34 sg34 := by rw [sg34]; exact Contract.of k34 does34
def env35 : Nat → Option Sig := fun _ => none
def ann35 : List LoopAnn := []
abbrev ps35 : List Ty := [.pair (.int .i64) (.pair (.int .i64) (.pair (.int .i64) (.pair (.int .i64) (.pair (.int .i64) (.pair (.int .i64) (.int .i64)))))), .ptr (.pair (.int .i64) (.pair (.int .i64) (.pair (.int .i64) (.pair (.int .i64) (.pair (.int .i64) (.pair (.int .i64) (.int .i64)))))))]
abbrev rs35 : List Ty := [.bool]
noncomputable def d35 : (pk ps35).den → Option (pk rs35).den := fnK tab env35 4 ann35 big Try.f35 [] ps35 rs35 true
noncomputable def sg35 : Sig := { ps := ps35, rs := rs35, own := true, φ := d35 }
theorem envOk35 : ∀ f sg, env35 f = some sg → Contract Try.prog f sg := by
  intro f sg h
  unfold env35 at h
  cases h
theorem l35 : ps35.length ≤ Try.f35.ntmps := of_decide_eq_true (by kernel_rfl)
theorem h35 : ∀ x y, d35 x = some y → fnD tab env35 4 ann35 big Try.f35 [] ps35 rs35 true x = some y := fun x y h => by rw [d35, ← fnK_eq l35] at h; exact h
theorem r35 : resOK tab Try.f35.results.toList rs35 = true := by kernel_rfl
theorem n35 : nodupB (Try.f35.results.toList.map rSlot) = true := by kernel_rfl
theorem does35 : Does Try.prog 35 ps35 rs35 true d35 := fn_does mixed tabOK envOk35 Try.func35 r35 n35 l35 h35
theorem k35 : Callable Try.prog 35 := ⟨Try.f35, Try.func35, by kernel_rfl, by kernel_rfl⟩
theorem c35 : Contract Try.prog 35 sg35 := by rw [sg35]; exact Contract.of k35 does35
abbrev ps36 : List Ty := [.sl Up.rideTy, .int .i64, .sl Up.rideTy]
abbrev rs36 : List Ty := [.sl Up.rideTy]
def d36 : (pk ps36).den → Option (pk rs36).den := Up.insD
def sg36 : Sig := { ps := ps36, rs := rs36, own := true, eat := true, φ := d36 }
theorem k36 : Callable Try.prog 36 := ⟨Try.f36, Try.func36, by kernel_rfl, by kernel_rfl⟩
theorem c36 : Contract Try.prog 36 sg36 := Contract.ofEat k36 Up.ins_eats
noncomputable def env11 : Nat → Option Sig := fun n => match n with
  | 29 => some sg29
  | 30 => some sg30
  | 31 => some sg31
  | 32 => some sg32
  | 33 => some sg33
  | 34 => some sg34
  | 35 => some sg35
  | 36 => some sg36
  | _ => none
def ann11 : List LoopAnn := [{ id := 7, live := [2, 4], frz := [] }, { id := 1000017, live := [], frz := [2] }]
abbrev ps11 : List Ty := [.pair (.int .i64) (.pair (.int .i64) (.pair (.sl (.pair (.int .i64) (.pair (.int .i64) (.pair (.int .i64) (.pair (.int .i64) (.pair (.int .i64) (.pair (.int .i64) (.int .i64)))))))) (.sl (.pair (.int .i64) (.pair (.int .i64) (.pair (.int .i64) (.pair (.int .i64) (.pair (.int .i64) (.pair (.int .i64) (.int .i64)))))))))), .pair (.int .i64) (.pair (.int .i64) (.pair (.int .i64) (.pair (.int .i64) (.pair (.int .i64) (.pair (.int .i64) (.int .i64))))))]
abbrev rs11 : List Ty := [.pair (.int .i64) (.pair (.int .i64) (.pair (.sl (.pair (.int .i64) (.pair (.int .i64) (.pair (.int .i64) (.pair (.int .i64) (.pair (.int .i64) (.pair (.int .i64) (.int .i64)))))))) (.sl (.pair (.int .i64) (.pair (.int .i64) (.pair (.int .i64) (.pair (.int .i64) (.pair (.int .i64) (.pair (.int .i64) (.int .i64)))))))))), .int .i64]
noncomputable def d11 : (pk ps11).den → Option (pk rs11).den := fnK tab env11 8 ann11 big Try.f11 [] ps11 rs11 false
noncomputable def sg11 : Sig := { ps := ps11, rs := rs11, own := false, φ := d11 }
theorem envOk11 : ∀ f sg, env11 f = some sg → Contract Try.prog f sg := by
  intro f sg h
  unfold env11 at h
  split at h
  · injection h with h; subst h; exact c29
  · injection h with h; subst h; exact c30
  · injection h with h; subst h; exact c31
  · injection h with h; subst h; exact c32
  · injection h with h; subst h; exact c33
  · injection h with h; subst h; exact c34
  · injection h with h; subst h; exact c35
  · injection h with h; subst h; exact c36
  · cases h
theorem l11 : ps11.length ≤ Try.f11.ntmps := of_decide_eq_true (by kernel_rfl)
theorem h11 : ∀ x y, d11 x = some y → fnD tab env11 8 ann11 big Try.f11 [] ps11 rs11 false x = some y := fun x y h => by rw [d11, ← fnK_eq l11] at h; exact h
theorem r11 : resOK tab Try.f11.results.toList rs11 = true := by kernel_rfl
theorem n11 : nodupB (Try.f11.results.toList.map rSlot) = true := by kernel_rfl
theorem does11 : Does Try.prog 11 ps11 rs11 false d11 := fn_does mixed tabOK envOk11 Try.func11 r11 n11 l11 h11
theorem k11 : Callable Try.prog 11 := ⟨Try.f11, Try.func11, by kernel_rfl, by kernel_rfl⟩
theorem c11 : Contract Try.prog 11 sg11 := by rw [sg11]; exact Contract.of k11 does11
def env6 : Nat → Option Sig := fun _ => none
def ann6 : List LoopAnn := [{ id := 3, live := [0, 1, 5, 6], frz := [] }]
abbrev ps6 : List Ty := [.int .i64, .int .i64]
abbrev rs6 : List Ty := [.sl (.pair (.int .i64) (.pair (.int .i64) (.pair (.int .i64) (.pair (.int .i64) (.pair (.int .i64) (.pair (.int .i64) (.int .i64)))))))]
noncomputable def d6 : (pk ps6).den → Option (pk rs6).den := fnK tab env6 7 ann6 big Try.f6 [] ps6 rs6 true
noncomputable def sg6 : Sig := { ps := ps6, rs := rs6, own := true, φ := d6 }
theorem envOk6 : ∀ f sg, env6 f = some sg → Contract Try.prog f sg := by
  intro f sg h
  unfold env6 at h
  cases h
theorem l6 : ps6.length ≤ Try.f6.ntmps := of_decide_eq_true (by kernel_rfl)
theorem h6 : ∀ x y, d6 x = some y → fnD tab env6 7 ann6 big Try.f6 [] ps6 rs6 true x = some y := fun x y h => by rw [d6, ← fnK_eq l6] at h; exact h
theorem r6 : resOK tab Try.f6.results.toList rs6 = true := by kernel_rfl
theorem n6 : nodupB (Try.f6.results.toList.map rSlot) = true := by kernel_rfl
theorem does6 : Does Try.prog 6 ps6 rs6 true d6 := fn_does mixed tabOK envOk6 Try.func6 r6 n6 l6 h6
theorem k6 : Callable Try.prog 6 := ⟨Try.f6, Try.func6, by kernel_rfl, by kernel_rfl⟩
theorem c6 : Contract Try.prog 6 sg6 := by rw [sg6]; exact Contract.of k6 does6
def env9 : Nat → Option Sig := fun _ => none
def ann9 : List LoopAnn := [{ id := 4, live := [0, 1, 5], frz := [] }]
abbrev ps9 : List Ty := [.sl (.pair (.int .i64) (.pair (.int .i64) (.pair (.int .i64) (.pair (.int .i64) (.pair (.int .i64) (.pair (.int .i64) (.int .i64))))))), .sl (.pair (.int .i64) (.pair (.int .i64) (.pair (.int .i64) (.pair (.int .i64) (.pair (.int .i64) (.pair (.int .i64) (.int .i64)))))))]
abbrev rs9 : List Ty := [.bool]
noncomputable def d9 : (pk ps9).den → Option (pk rs9).den := fnK tab env9 6 ann9 big Try.f9 [] ps9 rs9 true
noncomputable def sg9 : Sig := { ps := ps9, rs := rs9, own := true, φ := d9 }
theorem envOk9 : ∀ f sg, env9 f = some sg → Contract Try.prog f sg := by
  intro f sg h
  unfold env9 at h
  cases h
theorem l9 : ps9.length ≤ Try.f9.ntmps := of_decide_eq_true (by kernel_rfl)
theorem h9 : ∀ x y, d9 x = some y → fnD tab env9 6 ann9 big Try.f9 [] ps9 rs9 true x = some y := fun x y h => by rw [d9, ← fnK_eq l9] at h; exact h
theorem r9 : resOK tab Try.f9.results.toList rs9 = true := by kernel_rfl
theorem n9 : nodupB (Try.f9.results.toList.map rSlot) = true := by kernel_rfl
theorem does9 : Does Try.prog 9 ps9 rs9 true d9 := fn_does mixed tabOK envOk9 Try.func9 r9 n9 l9 h9
theorem k9 : Callable Try.prog 9 := ⟨Try.f9, Try.func9, by kernel_rfl, by kernel_rfl⟩
theorem c9 : Contract Try.prog 9 sg9 := by rw [sg9]; exact Contract.of k9 does9
def env38 : Nat → Option Sig := fun _ => none
def ann38 : List LoopAnn := []
abbrev ps38 : List Ty := [.pair (.int .i64) (.pair (.int .i64) (.pair (.int .i64) (.pair (.int .i64) (.pair (.int .i64) (.pair (.int .i64) (.int .i64))))))]
abbrev rs38 : List Ty := [.bool]
noncomputable def d38 : (pk ps38).den → Option (pk rs38).den := fnK tab env38 3 ann38 big Try.f38 [] ps38 rs38 true
noncomputable def sg38 : Sig := { ps := ps38, rs := rs38, own := true, φ := d38 }
theorem envOk38 : ∀ f sg, env38 f = some sg → Contract Try.prog f sg := by
  intro f sg h
  unfold env38 at h
  cases h
theorem l38 : ps38.length ≤ Try.f38.ntmps := of_decide_eq_true (by kernel_rfl)
theorem h38 : ∀ x y, d38 x = some y → fnD tab env38 3 ann38 big Try.f38 [] ps38 rs38 true x = some y := fun x y h => by rw [d38, ← fnK_eq l38] at h; exact h
theorem r38 : resOK tab Try.f38.results.toList rs38 = true := by kernel_rfl
theorem n38 : nodupB (Try.f38.results.toList.map rSlot) = true := by kernel_rfl
theorem does38 : Does Try.prog 38 ps38 rs38 true d38 := fn_does mixed tabOK envOk38 Try.func38 r38 n38 l38 h38
theorem k38 : Callable Try.prog 38 := ⟨Try.f38, Try.func38, by kernel_rfl, by kernel_rfl⟩
theorem c38 : Contract Try.prog 38 sg38 := by rw [sg38]; exact Contract.of k38 does38
def env39 : Nat → Option Sig := fun _ => none
def ann39 : List LoopAnn := []
abbrev ps39 : List Ty := [.pair (.int .i64) (.pair (.int .i64) (.pair (.int .i64) (.pair (.int .i64) (.pair (.int .i64) (.pair (.int .i64) (.int .i64)))))), .pair (.int .i64) (.pair (.int .i64) (.pair (.int .i64) (.pair (.int .i64) (.pair (.int .i64) (.pair (.int .i64) (.int .i64))))))]
abbrev rs39 : List Ty := [.bool]
noncomputable def d39 : (pk ps39).den → Option (pk rs39).den := fnK tab env39 5 ann39 big Try.f39 [] ps39 rs39 true
noncomputable def sg39 : Sig := { ps := ps39, rs := rs39, own := true, φ := d39 }
theorem envOk39 : ∀ f sg, env39 f = some sg → Contract Try.prog f sg := by
  intro f sg h
  unfold env39 at h
  cases h
theorem l39 : ps39.length ≤ Try.f39.ntmps := of_decide_eq_true (by kernel_rfl)
theorem h39 : ∀ x y, d39 x = some y → fnD tab env39 5 ann39 big Try.f39 [] ps39 rs39 true x = some y := fun x y h => by rw [d39, ← fnK_eq l39] at h; exact h
theorem r39 : resOK tab Try.f39.results.toList rs39 = true := by kernel_rfl
theorem n39 : nodupB (Try.f39.results.toList.map rSlot) = true := by kernel_rfl
theorem does39 : Does Try.prog 39 ps39 rs39 true d39 := fn_does mixed tabOK envOk39 Try.func39 r39 n39 l39 h39
theorem k39 : Callable Try.prog 39 := ⟨Try.f39, Try.func39, by kernel_rfl, by kernel_rfl⟩
theorem c39 : Contract Try.prog 39 sg39 := by rw [sg39]; exact Contract.of k39 does39
noncomputable def env13 : Nat → Option Sig := fun n => match n with
  | 38 => some sg38
  | 39 => some sg39
  | _ => none
def ann13 : List LoopAnn := [{ id := 4, live := [0, 3], frz := [] }]
abbrev ps13 : List Ty := [.sl (.pair (.int .i64) (.pair (.int .i64) (.pair (.int .i64) (.pair (.int .i64) (.pair (.int .i64) (.pair (.int .i64) (.int .i64)))))))]
abbrev rs13 : List Ty := [.int .i64]
noncomputable def d13 : (pk ps13).den → Option (pk rs13).den := fnK tab env13 4 ann13 big Try.f13 [] ps13 rs13 true
noncomputable def sg13 : Sig := { ps := ps13, rs := rs13, own := true, φ := d13 }
theorem envOk13 : ∀ f sg, env13 f = some sg → Contract Try.prog f sg := by
  intro f sg h
  unfold env13 at h
  split at h
  · injection h with h; subst h; exact c38
  · injection h with h; subst h; exact c39
  · cases h
theorem l13 : ps13.length ≤ Try.f13.ntmps := of_decide_eq_true (by kernel_rfl)
theorem h13 : ∀ x y, d13 x = some y → fnD tab env13 4 ann13 big Try.f13 [] ps13 rs13 true x = some y := fun x y h => by rw [d13, ← fnK_eq l13] at h; exact h
theorem r13 : resOK tab Try.f13.results.toList rs13 = true := by kernel_rfl
theorem n13 : nodupB (Try.f13.results.toList.map rSlot) = true := by kernel_rfl
theorem does13 : Does Try.prog 13 ps13 rs13 true d13 := fn_does mixed tabOK envOk13 Try.func13 r13 n13 l13 h13
theorem k13 : Callable Try.prog 13 := ⟨Try.f13, Try.func13, by kernel_rfl, by kernel_rfl⟩
theorem c13 : Contract Try.prog 13 sg13 := by rw [sg13]; exact Contract.of k13 does13
def env14 : Nat → Option Sig := fun _ => none
def ann14 : List LoopAnn := [{ id := 3, live := [1, 5, 8, 9, 10], frz := [] }]
abbrev ps14 : List Ty := [.sl (.pair (.int .i64) (.pair (.int .i64) (.pair (.int .i64) (.pair (.int .i64) (.pair (.int .i64) (.pair (.int .i64) (.int .i64))))))), .int .i64]
abbrev rs14 : List Ty := [.int .i64]
noncomputable def d14 : (pk ps14).den → Option (pk rs14).den := fnK tab env14 8 ann14 big Try.f14 [] ps14 rs14 true
noncomputable def sg14 : Sig := { ps := ps14, rs := rs14, own := true, φ := d14 }
theorem envOk14 : ∀ f sg, env14 f = some sg → Contract Try.prog f sg := by
  intro f sg h
  unfold env14 at h
  cases h
theorem l14 : ps14.length ≤ Try.f14.ntmps := of_decide_eq_true (by kernel_rfl)
theorem h14 : ∀ x y, d14 x = some y → fnD tab env14 8 ann14 big Try.f14 [] ps14 rs14 true x = some y := fun x y h => by rw [d14, ← fnK_eq l14] at h; exact h
theorem r14 : resOK tab Try.f14.results.toList rs14 = true := by kernel_rfl
theorem n14 : nodupB (Try.f14.results.toList.map rSlot) = true := by kernel_rfl
theorem does14 : Does Try.prog 14 ps14 rs14 true d14 := fn_does mixed tabOK envOk14 Try.func14 r14 n14 l14 h14
theorem k14 : Callable Try.prog 14 := ⟨Try.f14, Try.func14, by kernel_rfl, by kernel_rfl⟩
theorem c14 : Contract Try.prog 14 sg14 := by rw [sg14]; exact Contract.of k14 does14
def env74 : Nat → Option Sig := fun _ => none
def ann74 : List LoopAnn := []
abbrev ps74 : List Ty := [.int .i64]
abbrev rs74 : List Ty := [.bool]
noncomputable def d74 : (pk ps74).den → Option (pk rs74).den := fnK tab env74 3 ann74 big Try.f74 [] ps74 rs74 true
noncomputable def sg74 : Sig := { ps := ps74, rs := rs74, own := true, φ := d74 }
theorem envOk74 : ∀ f sg, env74 f = some sg → Contract Try.prog f sg := by
  intro f sg h
  unfold env74 at h
  cases h
theorem l74 : ps74.length ≤ Try.f74.ntmps := of_decide_eq_true (by kernel_rfl)
theorem h74 : ∀ x y, d74 x = some y → fnD tab env74 3 ann74 big Try.f74 [] ps74 rs74 true x = some y := fun x y h => by rw [d74, ← fnK_eq l74] at h; exact h
theorem r74 : resOK tab Try.f74.results.toList rs74 = true := by kernel_rfl
theorem n74 : nodupB (Try.f74.results.toList.map rSlot) = true := by kernel_rfl
theorem does74 : Does Try.prog 74 ps74 rs74 true d74 := fn_does mixed tabOK envOk74 Try.func74 r74 n74 l74 h74
theorem k74 : Callable Try.prog 74 := ⟨Try.f74, Try.func74, by kernel_rfl, by kernel_rfl⟩
theorem c74 : Contract Try.prog 74 sg74 := by rw [sg74]; exact Contract.of k74 does74
noncomputable def env37 : Nat → Option Sig := fun n => match n with
  | 74 => some sg74
  | _ => none
def ann37 : List LoopAnn := []
abbrev ps37 : List Ty := [.pair (.int .i64) (.pair (.int .i64) (.pair (.int .i64) (.pair (.int .i64) (.pair (.int .i64) (.pair (.int .i64) (.int .i64))))))]
abbrev rs37 : List Ty := [.bool]
noncomputable def d37 : (pk ps37).den → Option (pk rs37).den := fnK tab env37 3 ann37 big Try.f37 [] ps37 rs37 true
noncomputable def sg37 : Sig := { ps := ps37, rs := rs37, own := true, φ := d37 }
theorem envOk37 : ∀ f sg, env37 f = some sg → Contract Try.prog f sg := by
  intro f sg h
  unfold env37 at h
  split at h
  · injection h with h; subst h; exact c74
  · cases h
theorem l37 : ps37.length ≤ Try.f37.ntmps := of_decide_eq_true (by kernel_rfl)
theorem h37 : ∀ x y, d37 x = some y → fnD tab env37 3 ann37 big Try.f37 [] ps37 rs37 true x = some y := fun x y h => by rw [d37, ← fnK_eq l37] at h; exact h
theorem r37 : resOK tab Try.f37.results.toList rs37 = true := by kernel_rfl
theorem n37 : nodupB (Try.f37.results.toList.map rSlot) = true := by kernel_rfl
theorem does37 : Does Try.prog 37 ps37 rs37 true d37 := fn_does mixed tabOK envOk37 Try.func37 r37 n37 l37 h37
theorem k37 : Callable Try.prog 37 := ⟨Try.f37, Try.func37, by kernel_rfl, by kernel_rfl⟩
theorem c37 : Contract Try.prog 37 sg37 := by rw [sg37]; exact Contract.of k37 does37
noncomputable def env41 : Nat → Option Sig := fun n => match n with
  | 51 => some sg51
  | 52 => some sg52
  | _ => none
def ann41 : List LoopAnn := []
abbrev ps41 : List Ty := [.pair (.int .i64) (.pair (.int .i64) (.pair (.int .i64) (.pair (.int .i64) (.pair (.int .i64) (.pair (.int .i64) (.int .i64)))))), .pair (.int .i64) (.pair (.int .i64) (.pair (.int .i64) (.pair (.int .i64) (.pair (.int .i64) (.pair (.int .i64) (.int .i64))))))]
abbrev rs41 : List Ty := [.int .i64]
noncomputable def d41 : (pk ps41).den → Option (pk rs41).den := fnK tab env41 5 ann41 big Try.f41 [] ps41 rs41 true
theorem envOk41 : ∀ f sg, env41 f = some sg → Contract Try.prog f sg := by
  intro f sg h
  unfold env41 at h
  split at h
  · injection h with h; subst h; exact c51
  · injection h with h; subst h; exact c52
  · cases h
theorem l41 : ps41.length ≤ Try.f41.ntmps := of_decide_eq_true (by kernel_rfl)
theorem h41 : ∀ x y, d41 x = some y → fnD tab env41 5 ann41 big Try.f41 [] ps41 rs41 true x = some y := fun x y h => by rw [d41, ← fnK_eq l41] at h; exact h
theorem r41 : resOK tab Try.f41.results.toList rs41 = true := by kernel_rfl
theorem n41 : nodupB (Try.f41.results.toList.map rSlot) = true := by kernel_rfl
theorem does41 : Does Try.prog 41 ps41 rs41 true d41 := fn_does mixed tabOK envOk41 Try.func41 r41 n41 l41 h41
end Go.Proofs.Ytbapfiaglcllnaa.D
