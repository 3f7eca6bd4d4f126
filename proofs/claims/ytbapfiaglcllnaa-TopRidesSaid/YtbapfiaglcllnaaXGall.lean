import Derived.Test.YtbapfiaglcllnaaEXT31
import Derived.Test.YtbapfiaglcllnaaGDT
import Derived.Test.YtbapfiaglcllnaaXSall
import Derived.Test.YtbapfiaglcllnaaEXT24a
import Derived.Test.YtbapfiaglcllnaaGDG
section
set_option linter.unusedVariables false
open Go Go.GD Go.Proofs
namespace Go.Proofs.Ytbapfiaglcllnaa.D.Mg
open Up
abbrev Rd := Int × Int × Int × Int × Int × Int × Int
noncomputable def env15 : Nat → Option Sig := fun n => match n with
  | 29 => some sg29
  | _ => none
def ann15 : List LoopAnn := [{ id := 3, live := [0, 1, 4, 5, 6, 16, 17, 18, 19], frz := [] }, { id := 9, live := [4, 5, 6, 9, 16, 33, 34, 35], frz := [] }]
theorem envOk15 : ∀ f sg, env15 f = some sg → Contract Try.prog f sg := by
  intro f sg h
  unfold env15 at h
  split at h
  · injection h with h; subst h; exact c29
  · cases h
noncomputable abbrev E15 : Env := { tab, fn := env15, nv := 14, res := [4, 5, 9] }
noncomputable def body15 : Code := Try.f15.body.getD .skip
theorem body15_eq : Try.f15.body = some body15 := by kernel_rfl
def end15 (e : Ex) (σ : St) : Option (List Rd ⊕ (List Rd × Int)) := match e with
  | .normal => bif Nat.beq σ.length 68 then readRes [.tmp 9] true [.sl rideTy] σ (fun xs => some (.inl xs)) else none
  | .ret => readRes [.tmp 4, .tmp 5] true [.sl rideTy, .int .i64] σ (fun y => some (.inr y))
  | _ => none
noncomputable def mergeH (fuel : Nat) (a b : List Rd) : Option (List Rd ⊕ (List Rd × Int)) := codeC E15 ann15 fuel (cutAt 19 body15) end15 (initArgs [] [.sl rideTy, .sl rideTy] (a, b) ++ List.replicate (Try.f15.ntmps - 2) topSlot)
theorem has15 : hasAt 19 body15 = true := by kernel_rfl
noncomputable def lp15_1 (fuel : Nat)  (v6₀ : List Rd) (v7₀ : Int) (out₀ : List Rd) (v8₀ : List (Int × (((Int) × (Int)) × ((Int) × ((Int) × ((Int) × ((Int) × ((Int) × ((Int) × (Int)))))))))) (v9₀ : List Rd) (v10₀ : Int) (v11₀ : Int) : Option (List Rd ⊕ (List Rd × Int)) :=
  iter (fun F1 ((v6, v7, out, v8, v9, v10, v11) : (List Rd) × Int × (List Rd) × (List (Int × (((Int) × (Int)) × ((Int) × ((Int) × ((Int) × ((Int) × ((Int) × ((Int) × (Int)))))))))) × (List Rd) × Int × Int) =>
    bif decide (v11 < v10) then (
      (idx v9 v11).bind fun e =>
      bif Option.isSome (pget (.pair (.int .i64) (.int .i64)) (rideTy) v8 (e.1, e.2.1)) then (
        bif (!(((Option.getD (pget (.pair (.int .i64) (.int .i64)) (rideTy) v8 (e.1, e.2.1)) (0, 0, 0, 0, 0, 0, 0)).1 == e.1) && ((((Option.getD (pget (.pair (.int .i64) (.int .i64)) (rideTy) v8 (e.1, e.2.1)) (0, 0, 0, 0, 0, 0, 0)).2).1 == e.2.1) && (((((Option.getD (pget (.pair (.int .i64) (.int .i64)) (rideTy) v8 (e.1, e.2.1)) (0, 0, 0, 0, 0, 0, 0)).2).2).1 == e.2.2.1) && ((((((Option.getD (pget (.pair (.int .i64) (.int .i64)) (rideTy) v8 (e.1, e.2.1)) (0, 0, 0, 0, 0, 0, 0)).2).2).2).1 == e.2.2.2.1) && (((((((Option.getD (pget (.pair (.int .i64) (.int .i64)) (rideTy) v8 (e.1, e.2.1)) (0, 0, 0, 0, 0, 0, 0)).2).2).2).2).1 == e.2.2.2.2.1) && ((((((((Option.getD (pget (.pair (.int .i64) (.int .i64)) (rideTy) v8 (e.1, e.2.1)) (0, 0, 0, 0, 0, 0, 0)).2).2).2).2).2).1 == e.2.2.2.2.2.1) && (((((((Option.getD (pget (.pair (.int .i64) (.int .i64)) (rideTy) v8 (e.1, e.2.1)) (0, 0, 0, 0, 0, 0, 0)).2).2).2).2).2).2 == e.2.2.2.2.2.2)))))))) then some (.inr (([] : List Rd), 15))
        else bif (!Option.isSome (pget (.pair (.int .i64) (.int .i64)) (rideTy) v8 (e.1, e.2.1))) then (
          bif (Nat.ble ((List.length out + List.length [e]) * 56) appendLimit && Nat.ble (List.length out + List.length [e]) 9223372036854775807) then F1 (v6, v7, out ++ [e], v8, v9, v10, IntKind.i64.wrap (v11 + 1))
          else none)
        else F1 (v6, v7, out, v8, v9, v10, IntKind.i64.wrap (v11 + 1)))
      else bif (!Option.isSome (pget (.pair (.int .i64) (.int .i64)) (rideTy) v8 (e.1, e.2.1))) then (
        bif (Nat.ble ((List.length out + List.length [e]) * 56) appendLimit && Nat.ble (List.length out + List.length [e]) 9223372036854775807) then F1 (v6, v7, out ++ [e], v8, v9, v10, IntKind.i64.wrap (v11 + 1))
        else none)
      else F1 (v6, v7, out, v8, v9, v10, IntKind.i64.wrap (v11 + 1)))
    else bif decide ((List.length out : Int) > 2000) then some (.inr (([] : List Rd), 9))
    else some (.inl out)) fuel (v6₀, v7₀, out₀, v8₀, v9₀, v10₀, v11₀)
theorem f15_1  (v6 : List Rd) (v7 : Int) (out : List Rd) (v8 : List (Int × (((Int) × (Int)) × ((Int) × ((Int) × ((Int) × ((Int) × ((Int) × ((Int) × (Int)))))))))) (v9 : List Rd) (hl : (v9).length ≤ maxLen) : lp15_1 big v6 v7 out v8 v9 (List.length v9 : Int) 0 =
  forE (fun  el (out : (List Rd)) K =>
    (bif Option.isSome (pget (.pair (.int .i64) (.int .i64)) (rideTy) v8 (el.1, el.2.1)) then (
      bif (!(((Option.getD (pget (.pair (.int .i64) (.int .i64)) (rideTy) v8 (el.1, el.2.1)) (0, 0, 0, 0, 0, 0, 0)).1 == el.1) && ((((Option.getD (pget (.pair (.int .i64) (.int .i64)) (rideTy) v8 (el.1, el.2.1)) (0, 0, 0, 0, 0, 0, 0)).2).1 == el.2.1) && (((((Option.getD (pget (.pair (.int .i64) (.int .i64)) (rideTy) v8 (el.1, el.2.1)) (0, 0, 0, 0, 0, 0, 0)).2).2).1 == el.2.2.1) && ((((((Option.getD (pget (.pair (.int .i64) (.int .i64)) (rideTy) v8 (el.1, el.2.1)) (0, 0, 0, 0, 0, 0, 0)).2).2).2).1 == el.2.2.2.1) && (((((((Option.getD (pget (.pair (.int .i64) (.int .i64)) (rideTy) v8 (el.1, el.2.1)) (0, 0, 0, 0, 0, 0, 0)).2).2).2).2).1 == el.2.2.2.2.1) && ((((((((Option.getD (pget (.pair (.int .i64) (.int .i64)) (rideTy) v8 (el.1, el.2.1)) (0, 0, 0, 0, 0, 0, 0)).2).2).2).2).2).1 == el.2.2.2.2.2.1) && (((((((Option.getD (pget (.pair (.int .i64) (.int .i64)) (rideTy) v8 (el.1, el.2.1)) (0, 0, 0, 0, 0, 0, 0)).2).2).2).2).2).2 == el.2.2.2.2.2.2)))))))) then some (.inr (([] : List Rd), 15))
      else bif (!Option.isSome (pget (.pair (.int .i64) (.int .i64)) (rideTy) v8 (el.1, el.2.1))) then (
        bif (Nat.ble ((List.length out + List.length [el]) * 56) appendLimit && Nat.ble (List.length out + List.length [el]) 9223372036854775807) then K (out ++ [el])
        else none)
      else K out)
    else bif (!Option.isSome (pget (.pair (.int .i64) (.int .i64)) (rideTy) v8 (el.1, el.2.1))) then (
      bif (Nat.ble ((List.length out + List.length [el]) * 56) appendLimit && Nat.ble (List.length out + List.length [el]) 9223372036854775807) then K (out ++ [el])
      else none)
    else K out : Option (List Rd ⊕ (List Rd × Int))))
    (fun (out : (List Rd)) =>
    (bif decide ((List.length out : Int) > 2000) then some (.inr (([] : List Rd), 9))
    else some (.inl out) : Option (List Rd ⊕ (List Rd × Int)))) v9 out := by
  refine iter_forE v9 (fun ix (out : (List Rd)) => (v6, v7, out, v8, v9, (List.length v9 : Int), (ix : Int))) _ _ ?_ ?_ (len_lt_big hl) out
  · rintro F k h out
    simp only [dec_lt h, condT, idx_get h, bindS, wrap_succ h hl]
  · rintro F out
    simp only [dec_end, condF]
noncomputable def lp15_3 (fuel : Nat)  (a1₀ : List Rd) (b1₀ : List Rd) (v₀ : List Rd) (v1₀ : Int) (v2₀ : List (Int × (((Int) × (Int)) × ((Int) × ((Int) × ((Int) × ((Int) × ((Int) × ((Int) × (Int)))))))))) (v3₀ : List Rd) (v4₀ : Int) (v5₀ : Int) : Option (List Rd ⊕ (List Rd × Int)) :=
  iter (fun F ((a1, b1, v, v1, v2, v3, v4, v5) : (List Rd) × (List Rd) × (List Rd) × Int × (List (Int × (((Int) × (Int)) × ((Int) × ((Int) × ((Int) × ((Int) × ((Int) × ((Int) × (Int)))))))))) × (List Rd) × Int × Int) =>
    bif decide (v5 < v4) then (
      (idx v3 v5).bind fun e =>
      F (a1, b1, v, v1, pset (.pair (.int .i64) (.int .i64)) (rideTy) v2 (e.1, e.2.1) e, v3, v4, IntKind.i64.wrap (v5 + 1)))
    else (D29 a1).bind fun r =>
    lp15_1 fuel v v1 r v2 b1 (List.length b1 : Int) 0) fuel (a1₀, b1₀, v₀, v1₀, v2₀, v3₀, v4₀, v5₀)
theorem f15_3  (a1 : List Rd) (b1 : List Rd) (v : List Rd) (v1 : Int) (v2 : List (Int × (((Int) × (Int)) × ((Int) × ((Int) × ((Int) × ((Int) × ((Int) × ((Int) × (Int)))))))))) (v3 : List Rd) (hl : (v3).length ≤ maxLen) : lp15_3 big a1 b1 v v1 v2 v3 (List.length v3 : Int) 0 =
  forE (fun  el (v2 : (List (Int × (((Int) × (Int)) × ((Int) × ((Int) × ((Int) × ((Int) × ((Int) × ((Int) × (Int))))))))))) K =>
    (K (pset (.pair (.int .i64) (.int .i64)) (rideTy) v2 (el.1, el.2.1) el) : Option (List Rd ⊕ (List Rd × Int))))
    (fun (v2 : (List (Int × (((Int) × (Int)) × ((Int) × ((Int) × ((Int) × ((Int) × ((Int) × ((Int) × (Int))))))))))) =>
    ((D29 a1).bind fun r =>
    lp15_1 big v v1 r v2 b1 (List.length b1 : Int) 0 : Option (List Rd ⊕ (List Rd × Int)))) v3 v2 := by
  refine iter_forE v3 (fun ix (v2 : (List (Int × (((Int) × (Int)) × ((Int) × ((Int) × ((Int) × ((Int) × ((Int) × ((Int) × (Int))))))))))) => (a1, b1, v, v1, v2, v3, (List.length v3 : Int), (ix : Int))) _ _ ?_ ?_ (len_lt_big hl) v2
  · rintro F k h v2
    simp only [dec_lt h, condT, idx_get h, bindS, wrap_succ h hl]
  · rintro F v2
    simp only [dec_end, condF]
theorem mergeH_g (fuel : Nat) (a b : List Rd) : mergeH fuel a b = lp15_3 fuel a b ([] : List Rd) 0 ([] : List (Int × (((Int) × (Int)) × Rd))) a (List.length a : Int) 0 := by kernel_rfl
end Go.Proofs.Ytbapfiaglcllnaa.D.Mg
end

section
namespace Go.Proofs.Ytbapfiaglcllnaa.D.Mg
set_option maxRecDepth 10000
open Go Go.GD Go.Proofs Up
theorem k41 : Callable Try.prog 41 := ⟨Try.f41, Try.func41, by kernel_rfl, by kernel_rfl⟩
theorem k40 : Callable Try.prog 40 := ⟨Try.f40, Try.func40, by kernel_rfl, by kernel_rfl⟩
theorem k15 : Callable Try.prog 15 := ⟨Try.f15, Try.func15, by kernel_rfl, by kernel_rfl⟩
theorem size15 : Try.f15.ntmps = 68 := by kernel_rfl
theorem res15 : Try.f15.results.toList = [.tmp 4, .tmp 5] := by kernel_rfl
noncomputable def ops15 (n : Nat) : Array Oper := ((Try.f15.body).bind (regOf n)).getD #[]
noncomputable abbrev N (n : Nat) : Code := .region n (ops15 n) false
theorem tail15 : tailAt 19 body15 = .seq (N 19) (.seq (N 20) .ret) := by kernel_rfl
theorem sn19 : shg (ops15 19).toList = [(.move (.tmp 9), some 65, none), (.call { callee := .value (.func 40), args := #[(.tmp 65), (.func 41)], argTypes := #[24, 86] }, some 66, none)] := by kernel_rfl
theorem sn20 : shg (ops15 20).toList = [(.move (.tmp 9), some 67, none), (.assign (.tmp 67), some 4, none), (.assign (.const (.int .i64 0)), some 5, none)] := by kernel_rfl
def cmpI (x y : Int) : Int := if x < y then -1 else if x > y then 1 else 0
def cfR (a b : Rd) : Int := if cmpI a.1 b.1 ≠ 0 then cmpI a.1 b.1 else cmpI a.2.1 b.2.1
theorem cfR_lt (a b : Rd) : ltOf cfR a b = decide (a.1 < b.1 ∨ a.1 = b.1 ∧ a.2.1 < b.2.1) := by
  unfold ltOf cfR cmpI
  rw [decide_eq_decide]
  repeat' split
  all_goals omega
theorem cfR_swo : Go.Sort.SWO (ltOf cfR) where
  irrefl x := by rw [cfR_lt]; simp
  trans x y z h1 h2 := by rw [cfR_lt, decide_eq_true_eq] at *; omega
  ntrans x y z h1 h2 := by rw [cfR_lt, decide_eq_false_iff_not] at *; omega
theorem D52_eq (x y : Int) : D52 x y = some (cmpI x y) := by
  rw [e52, e94, e94]
  have h1 : (x != x) = false := by simp
  have h2 : (y != y) = false := by simp
  rw [h1, h2]
  unfold cmpI
  by_cases h : x < y
  · simp [h]
  · by_cases h' : x > y
    · simp [h, h']
    · simp [h, h']
theorem D51_eq (x y : Int) : D51 [x, y] = some (if x ≠ 0 then x else y) := by
  rw [e51]
  show lp51_1 big 0 [x, y] (List.length [x, y] : Int) 0 = _
  rw [f51_1 0 [x, y] (by unfold maxLen; simp)]
  simp only [forE]
  by_cases h : x = 0
  · subst h
    by_cases h2 : y = 0
    · subst h2; simp
    · have h3 : (y != 0) = true := by simpa using h2
      simp [h3]
  · have h3 : (x != 0) = true := by simpa using h
    simp [h3, h]
theorem D41_eq (a b : Rd) : d41 (a, b) = some (cfR a b) := by
  show D41 a b = _
  rw [e41, D52_eq, D52_eq]
  simp only [Option.bind_some]
  rw [D51_eq]
  simp only [Option.bind_some]
  rfl
instance : Inhabited rideTy.den := ⟨((0, 0, 0, 0, 0, 0, 0) : Rd)⟩
noncomputable def mergeD (x : List Rd × List Rd) : Option (List Rd × Int) := (mergeH big x.1 x.2).bind fun r => match r with
  | .inl xs => bif Nat.ble xs.length 4611686018427387903 then some (sortD (α := rideTy.den) cfR xs, 0) else none
  | .inr y => some y
theorem res2 {f : Nat → Value} {a b : Value} (w : World) (h6 : f 4 = a) (h7 : f 5 = b) : (results Try.f15 (Fr 68 f []).tmps).run Try.prog w = .ok (.tuple #[a, b]) w := by
  have g4 : (Fr 68 f []).tmps[4]?.getD undef = a := by rw [← Array.getD_eq_getD_getElem?, Fr.get (by decide), h6]
  have g5 : (Fr 68 f []).tmps[5]?.getD undef = b := by rw [← Array.getD_eq_getD_getElem?, Fr.get (by decide), h7]
  refine (run_results (vs := [a, b]) (by
    rw [res15]
    simp [readOne, g4, g5])).trans rfl
set_option maxHeartbeats 1000000 in
theorem tail_run {w : World} {a : Option Addr} {cap : Nat} {xs : List rideTy.den} {B : Nat → Prop} {f : Nat → Value} {R : Ending → World → Prop} (h9 : f 9 = .slice a xs.length cap) (hold : HoldS 7 w B (fun cs x => cs = rc x) a xs.length cap xs) (hlen : xs.length < 4611686018427387904)
    (hR : ∀ w', HoldS 7 w' B (fun cs x => cs = rc x) a xs.length cap (sortD (α := rideTy.den) cfR xs) → w.heap.size ≤ w'.heap.size → (∀ c, c < w.heap.size → ¬ B c → w'.heap[c]? = w.heap[c]?) → SameIO w w' → R (.returned (.tuple #[.slice a xs.length cap, .int .i64 0])) w') :
    (Code.seq (N 19) (.seq (N 20) .ret)).wp Try.prog (bodyPost Try.prog Try.f15 R) (Fr 68 f []) w := by
  refine wp_seq (reg_sh sn19 ?_)
  refine sh_move (v := .slice a xs.length cap) (by decide) (by simp [Fr.tmp, h9]) ?_
  refine sh_call (g := 40) (args := #[.slice a xs.length cap, .func (.func 41) #[] #[]]) (w' := w) (by decide) (fun p hp => by
    have kf : ∀ a : Act, a.eval (.func 40) = .func (.func 40) #[] #[] := fun _ => rfl
    have kf' : ∀ a : Act, a.eval (.func 41) = .func (.func 41) #[] #[] := fun _ => rfl
    simp [execOp, hp, resolve, Deferred.ofValue, invoke, kf, kf', Fr.tmp, put_, k40.run]) ?_
  have hs := sort_run sortR 7 (by decide) Try.isAgg40 Try.sizeOf40 (t := rideTy) rc (fun _ => rfl) (fun x v hv => by simp [rc] at hv; rcases hv with rfl | rfl | rfl | rfl | rfl | rfl | rfl <;> rfl) rfl (fun w Ok x => repC_rc.2 rfl) rfl cfR cfR_swo 41 k41 does41 D41_eq hold hlen
  refine Calls.mono (show Calls Try.prog 40 #[.slice a xs.length cap, .func (.func 41) #[] #[]] w _ from hs) ?_
  rintro ex w' ⟨rfl, q1, q2, q3, q4⟩
  refine ⟨_, rfl, ?_⟩
  refine wp_seq (reg_sh sn20 ?_)
  refine sh_move (v := .slice a xs.length cap) (by decide) (by simp [Fr.tmp, put_, h9]) ?_
  refine sh_assign (v := .slice a xs.length cap) (by decide) (by simp [Fr.tmp, put_]) ?_
  refine sh_assign (v := .int .i64 0) (by decide) rfl ?_
  exact Go.wp_ret ⟨rfl, _, res2 w' (by simp [put_]) (by simp [put_]), hR w' q1 q2 q3 q4⟩
theorem slot_own {σ : St} {s : Nat} {t : Ty} {xs : (pk [t.sl]).den} (hr : readRes [.tmp s] true [t.sl] σ some = some xs) : (listGet σ s).a = .val ⟨t.sl, xs, [.own]⟩ := by
  unfold readRes at hr
  cases ha : (listGet σ s).a with
  | val v =>
    have e : resTV (.tmp s) σ = some v := by show (match (listGet σ s).a with | .val v => some v | _ => none) = _; rw [ha]
    rw [e] at hr
    obtain ⟨vt, vx, vms⟩ := v
    simp only at hr
    split at hr
    case isFalse => cases hr
    rename_i hmk
    split at hr
    case h_2 => cases hr
    rename_i z hz
    injection hr with hr
    subst hr
    obtain ⟨ety, hz⟩ := castO_some hz
    subst ety
    have hms : vms = [.own] := by
      have : marksBeq vms (ownMarks (.sl t)) = true := hmk
      exact marksBeq_eq this
    subst hms
    subst hz
    rfl
  | _ =>
    have e : resTV (.tmp s) σ = none := by show (match (listGet σ s).a with | .val v => some v | _ => none) = _; rw [ha]
    rw [e] at hr
    cases hr
set_option maxHeartbeats 1000000 in
theorem merge_does : Does Try.prog 15 [.sl rideTy, .sl rideTy] [.sl rideTy, .int .i64] true mergeD := by
  intro w Ok cs x y hx hy
  simp only [mergeD] at hy
  obtain ⟨r, hr, hy⟩ := Option.bind_eq_some_iff.1 hy
  unfold mergeH at hr
  have hOK : EnvOK (ctxOf Try.prog w Ok) E15 := ⟨envOk15, (fun _ _ h => by cases h), fun s hs => absurd rfl hs⟩
  refine call_head (E := E15) Try.func15 body15_eq (by rw [size15]; decide) hx
    (Q' := Exit.then ((tailAt 19 body15).wp Try.prog (bodyPost Try.prog Try.f15 _)) (bodyPost Try.prog Try.f15 _))
    (fun g σ tm h hr hp => head_sound (C := ctxOf Try.prog w Ok) mixed tabOK hOK 19 body15 has15 _ g σ tm w h hr hp) hr fun e g6 σ6 tm6 w6 h6 hk => ?_
  cases e with
  | exit id => cases hk
  | pan T => cases hk
  | ret =>
    have hk : (readRes [.tmp 4, .tmp 5] true [.sl rideTy, .int .i64] σ6 fun y => some (.inr y)) = some r := hk
    have := readRes_map (ρ' := List Rd ⊕ (List Rd × Int)) Sum.inr [.tmp 4, .tmp 5] true [.sl rideTy, .int .i64] σ6 some
    rw [show (fun y : (pk [.sl rideTy, .int .i64]).den => (some y).map Sum.inr) = fun y => some (Sum.inr y : List Rd ⊕ (List Rd × Int)) from rfl, hk] at this
    obtain ⟨z, hz, e⟩ := Option.map_eq_some_iff.1 this.symm
    subst e
    injection hy with hy
    subst hy
    exact ret_results tabOK (by rw [res15]; rfl) (by rw [res15]; rfl) h6 (by rw [res15]; exact hz) fun _ _ h => h
  | normal =>
  have hk : (bif Nat.beq σ6.length 68 then readRes [.tmp 9] true [.sl rideTy] σ6 (fun xs => some (.inl xs)) else none) = some r := hk
  cases hsz : Nat.beq σ6.length 68 with
  | false => rw [hsz] at hk; cases hk
  | true =>
  rw [hsz, cond_true] at hk
  have hsz := Nat.eq_of_beq_eq_true hsz
  have := readRes_map (ρ' := List Rd ⊕ (List Rd × Int)) Sum.inl [.tmp 9] true [.sl rideTy] σ6 some
  rw [show (fun y : (pk [.sl rideTy]).den => (some y).map Sum.inl) = fun y => some (Sum.inl y : List Rd ⊕ (List Rd × Int)) from rfl, hk] at this
  obtain ⟨xs, hz, e⟩ := Option.map_eq_some_iff.1 this.symm
  subst e
  have hy : (bif Nat.ble xs.length 4611686018427387903 then some (sortD (α := rideTy.den) cfR xs, (0 : Int)) else none) = some y := hy
  cases hM : Nat.ble xs.length 4611686018427387903 with
  | false => rw [hM] at hy; cases hy
  | true =>
  rw [hM, cond_true] at hy
  injection hy with hy
  have hM := Nat.le_of_ble_eq_true hM
  have hv := slot_own hz
  have hs9 := h6.slots 9 (by omega)
  rw [hv] at hs9
  obtain ⟨c9, ev, a, len, cap, m, rfl, em, hsay⟩ := hs9
  simp only [List.cons.injEq, and_true] at em
  subst em
  obtain ⟨hold, _⟩ := hsay
  have hlenx := hold.1
  have hold' : HoldS 7 w6 (fun b => g6 b = some (9, some 0)) (fun cs x => cs = rc x) a len cap xs := hold.mono ⟨Nat.le_refl _, fun _ _ h => ⟨rfl, h⟩⟩ fun _ _ h => repC_rc.1 h
  subst hlenx
  have hsz6 : tm6.size = 68 := h6.len.trans hsz
  have ev : tm6.getD 9 undef = .slice a (List.length xs) cap := ev
  subst hy
  show (tailAt 19 body15).wp Try.prog _ _ _
  rw [tail15, Fr.of (N := 68) (a := { tmps := tm6, defers := [] }) hsz6]
  refine tail_run (xs := xs) (a := a) (cap := cap) ev hold' (by omega) fun w' q1 q2 q3 q4 => ?_
  let g' : Nat → Option Nat := fun b => if g6 b = some (9, some 0) then some 0 else none
  have hg' : ∀ b, g' b ≠ none → g6 b = some (9, some 0) := by
    intro b hb
    by_cases h : g6 b = some (9, some 0)
    · exact h
    · exact absurd (if_neg h) hb
  have hold_ : ∀ b, b < w.heap.size → ¬ g6 b = some (9, some 0) := by
    intro b hb hg
    have := h6.gok b (by rw [hg]; intro e; cases e)
    rcases this.2 with h | h
    · exact absurd (show w.heap.size ≤ b from h) (by omega)
    · exact h
  have hs6 : w.heap.size ≤ w6.heap.size := h6.size
  refine ⟨[.slice a (List.length xs) cap, .int .i64 0], g', rfl, ⟨[.slice a (List.length xs) cap], [.int .i64 0], [.own], [.shr], rfl, rfl, ⟨a, _, cap, .own, rfl, rfl, ?_, trivial⟩, ⟨.shr, rfl, rfl⟩⟩, by omega, fun b hb => ?_, fun b hb => ?_, h6.io.trans q4⟩
  · have q1 := q1.mono (B' := fun b => g' b = some 0) (R' := RepC Try.prog rideTy w' fun b => (w.heap.size ≤ b ∨ Ok b) ∧ g' b = none) (w' := w') ⟨Nat.le_refl _, fun b _ h => ⟨rfl, if_pos h⟩⟩ fun cs x h => repC_rc.2 h
    exact q1
  · rw [q3 b (by omega) (hold_ b hb)]
    exact h6.frame b hb fun h => h
  · have h := hg' b hb
    have := h6.gok b (by rw [h]; intro e; cases e)
    rcases this.2 with h' | h'
    · exact ⟨h', by omega⟩
    · exact absurd h' fun h => h
end Go.Proofs.Ytbapfiaglcllnaa.D.Mg
end
