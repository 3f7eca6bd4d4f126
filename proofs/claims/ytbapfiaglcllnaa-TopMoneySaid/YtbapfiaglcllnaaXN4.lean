import Derived.Test.YtbapfiaglcllnaaXN3
namespace Go.Proofs.Ytbapfiaglcllnaa.D.Nt
set_option maxRecDepth 10000
open Go Go.GD Go.Proofs
theorem repRI {w : World} {Ok : Nat → Prop} {cs : List Value} {x : trTy.den} : RepC Try.prog trTy w Ok cs x ↔ cs = rc3 x := repC_rc3
set_option maxHeartbeats 1000000 in
theorem tail18 {w : World} {a : Option Addr} {cap : Nat} {xs : List trTy.den} {B : Nat → Prop} {f : Nat → Value} {R : Ending → World → Prop} (h5 : f 5 = .slice a xs.length cap) (hold : HoldS 3 w B (fun cs x => cs = rc3 x) a xs.length cap xs) (hlen : xs.length < 4611686018427387904)
    (hR : ∀ w', HoldS 3 w' B (fun cs x => cs = rc3 x) a xs.length cap (sortD (α := trTy.den) cfT xs) → w.heap.size ≤ w'.heap.size → (∀ c, c < w.heap.size → ¬ B c → w'.heap[c]? = w.heap[c]?) → SameIO w w' → R (.returned (.slice a xs.length cap)) w') :
    (Code.seq (N 21) (.seq (N 22) .ret)).wp Try.prog (bodyPost Try.prog Try.f18 R) (Fr 75 f []) w := by
  refine wp_seq (reg_sh sn21 ?_)
  refine sh_move (v := .slice a xs.length cap) (by decide) (by simp [Fr.tmp, h5]) ?_
  refine sh_call (g := 49) (args := #[.slice a xs.length cap, .func (.func 50) #[] #[]]) (w' := w) (by decide) (fun p hp => by
    have kf : ∀ a : Act, a.eval (.func 49) = .func (.func 49) #[] #[] := fun _ => rfl
    have kf' : ∀ a : Act, a.eval (.func 50) = .func (.func 50) #[] #[] := fun _ => rfl
    have k49 : Callable Try.prog 49 := ⟨Try.f49, Try.func49, by kernel_rfl, by kernel_rfl⟩
    simp [execOp, hp, resolve, Deferred.ofValue, invoke, kf, kf', Fr.tmp, put_, k49.run]) ?_
  have hs := sort_run sortT 3 (by decide) Try.isAgg110 Try.sizeOf110 (t := trTy) rc3 (fun _ => rfl) (fun x v hv => by simp [rc3] at hv; rcases hv with rfl | rfl | rfl <;> rfl) rfl (fun w Ok x => repC_rc3.2 rfl) rfl cfT cfT_swo 50 k50 does50 D50_eq hold hlen
  refine Calls.mono (show Calls Try.prog 49 #[.slice a xs.length cap, .func (.func 50) #[] #[]] w _ from hs) ?_
  rintro ex w' ⟨rfl, q1, q2, q3, q4⟩
  refine ⟨_, rfl, ?_⟩
  refine wp_seq (reg_sh sn22 ?_)
  refine sh_move (v := .slice a xs.length cap) (by decide) (by simp [Fr.tmp, put_, h5]) ?_
  refine sh_assign (v := .slice a xs.length cap) (by decide) (by simp [Fr.tmp, put_]) ?_
  exact Go.wp_ret ⟨rfl, .slice a xs.length cap, res_at w' res18 (by decide) (fr_same _ _ _), hR w' q1 q2 q3 q4⟩
theorem step {C : Ctx} (hm : C.P.follows .mixedOrders = true) (hE : TabOK C.P E18.tab) (hOK : EnvOK C E18) {a b c : Code} {g : Own} {σ : St} {tm : Array Value} {w : World} {Q : Exit → Act → World → Prop} {r : List Tr}
    (h : SRep C g σ tm w) (hr : codeC E18 ann18 big (.seq a b) end18 σ = some r)
    (next : ∀ g σ tm w, SRep C g σ tm w → codeC E18 ann18 big b end18 σ = some r → c.wp C.P Q ⟨tm, []⟩ w) : (Code.seq a c).wp C.P Q ⟨tm, []⟩ w := by
  have hr' : codeC E18 ann18 big a (fun e σ' => match e with | .normal => codeC E18 ann18 big b end18 σ' | e => end18 e σ') σ = some r := hr
  refine wp_seq (code_sound hm hE hOK a _ _ g σ tm w h hr' fun e g σ tm w h hk => ?_)
  cases e with
  | exit => cases hk
  | ret => cases hk
  | normal => exact next g σ tm w h hk
theorem slot_own {σ : St} {s : Nat} {t : Ty} {xs : (pk [t.sl]).den} (hr : readRes [.tmp s] true [t.sl] σ some = some xs) : (listGet σ s).a = .val ⟨t.sl, xs, [.own]⟩ := by
  unfold readRes at hr
  cases ha : (listGet σ s).a with
  | val v =>
    have e : resTV (.tmp s) σ = some v := by show (match (listGet σ s).a with | .val v => some v | _ => none) = _; rw [ha]
    rw [e] at hr
    obtain ⟨vt, vx, vms⟩ := v
    simp only at hr
    split at hr
    case isFalse => cases hr
    rename_i hmk
    split at hr
    case h_2 => cases hr
    rename_i z hz
    injection hr with hr
    subst hr
    obtain ⟨ety, hz⟩ := castO_some hz
    subst ety
    have hms : vms = [.own] := by
      have : marksBeq vms (ownMarks (.sl t)) = true := hmk
      exact marksBeq_eq this
    subst hms
    subst hz
    rfl
  | _ =>
    have e : resTV (.tmp s) σ = none := by show (match (listGet σ s).a with | .val v => some v | _ => none) = _; rw [ha]
    rw [e] at hr
    cases hr
set_option maxHeartbeats 1000000 in
theorem net_does : Does Try.prog 18 [.sl shTy] [.sl trTy] true netD := by
  intro w Ok cs x y hx hy
  simp only [netD] at hy
  obtain ⟨xs, hxs, hy⟩ := Option.bind_eq_some_iff.1 hy
  cases hM : Nat.ble xs.length 4611686018427387903 with
  | false => rw [hM] at hy; cases hy
  | true =>
  rw [hM, cond_true] at hy
  injection hy with hy
  have hM := Nat.le_of_ble_eq_true hM
  have hr : netH big x = some xs := (netH_eq x).trans hxs
  unfold netH at hr
  let C : Ctx := { P := Try.prog, base := w.heap.size, Ok0 := Ok, G := fun _ => False, h0 := w.heap, w0 := w }
  let g : Own := fun _ => none
  have hx' : RepC C.P (pk [.sl shTy]) w (Shd C g) cs x := RepC.mono _ ⟨Nat.le_refl _, fun b _ hb => ⟨rfl, .inr (.inl hb), rfl⟩⟩ hx
  have hal := argVals_length [.sl shTy] cs
  have hil := (initArgs_rep (σ := []) (tm := #[]) [.sl shTy] hx').1
  refine calls_of_wp Try.func18 body18 ?_
  have hn : Try.f18.ntmps = 75 := size18
  have hlen : (initArgs [] [.sl shTy] x ++ List.replicate 74 topSlot).length = 75 := by
    rw [List.length_append, hil, List.length_replicate]; rfl
  have h0 : SRep C g (initArgs [] [.sl shTy] x ++ List.replicate 74 topSlot) ((argVals [.sl shTy] cs).toArray ++ Array.replicate (Try.f18.ntmps - (argVals [.sl shTy] cs).toArray.size) undef) w := by
    refine ⟨?_, fun s hs => ?_, fun s hs => ?_, fun b hb => absurd rfl hb, fun _ _ _ => rfl, Nat.le_refl _, .refl w, fun _ _ hv => by cases hv⟩
    · rw [hlen, Array.size_append, Array.size_replicate, List.size_toArray, hal, hn]; rfl
    · rcases Nat.lt_or_ge s 1 with hl | hl
      · rw [listGet_append_left _ _ _ (by rw [hil]; exact hl)]
        have := ((initArgs_rep (σ := initArgs [] [.sl shTy] x ++ List.replicate 74 topSlot) (tm := (argVals [.sl shTy] cs).toArray ++ Array.replicate (Try.f18.ntmps - (argVals [.sl shTy] cs).toArray.size) undef) [.sl shTy] hx').2 s hl s).1
        have e : ((argVals [.sl shTy] cs).toArray ++ Array.replicate (Try.f18.ntmps - (argVals [.sl shTy] cs).toArray.size) undef).getD s undef = (argVals [.sl shTy] cs)[s]?.getD undef := by
          rw [Array.getD_eq_getD_getElem?, Array.getElem?_append_left (by rw [List.size_toArray, hal]; exact hl), List.getElem?_toArray]
        rw [e]; exact this
      · rw [listGet_append_right _ _ _ (by rw [hil]; exact hl), listGet_replicate]; trivial
    · rcases Nat.lt_or_ge s 1 with hl | hl
      · rw [listGet_append_left _ _ _ (by rw [hil]; exact hl)]
        exact ((initArgs_rep (tm := #[]) [.sl shTy] hx').2 s hl s).2
      · rw [listGet_append_right _ _ _ (by rw [hil]; exact hl), listGet_replicate]; trivial
  have hOK : EnvOK C E18 := ⟨envOk18, (fun _ _ h => by cases h), fun s hs => absurd rfl hs⟩
  have h0r : codeC E18 ann18 big hd18 end18 (initArgs [] [.sl shTy] x ++ List.replicate 74 topSlot) = some xs := hr
  clear hr
  refine step (C := C) mixed tabOK hOK (b := _) (a := N 0) h0 h0r fun g0 σ0 tm0 w0 h0 hr => ?_
  refine step (C := C) mixed tabOK hOK (b := _) (a := N 1) h0 hr fun g1 σ1 tm1 w1 h1 hr => ?_
  refine step (C := C) mixed tabOK hOK (b := _) (a := N 2) h1 hr fun g2 σ2 tm2 w2 h2 hr => ?_
  refine step (C := C) mixed tabOK hOK (b := _) (a := N 3) h2 hr fun g3 σ3 tm3 w3 h3 hr => ?_
  refine step (C := C) mixed tabOK hOK (b := _) (a := N 4) h3 hr fun g4 σ4 tm4 w4 h4 hr => ?_
  refine step (C := C) mixed tabOK hOK (b := _) (a := N 5) h4 hr fun g5 σ5 tm5 w5 h5 hr => ?_
  refine wp_seq (code_sound mixed tabOK hOK blk18 end18 _ g5 σ5 tm5 w5 h5 hr fun e g6 σ6 tm6 w6 h6 hr => ?_)
  cases e with
  | exit => cases hr
  | ret => cases hr
  | normal =>
  have hr : (bif Nat.beq σ6.length 75 then readRes [.tmp 5] true [.sl trTy] σ6 some else none) = some xs := hr
  cases hsz : Nat.beq σ6.length 75 with
  | false => rw [hsz] at hr; cases hr
  | true =>
  rw [hsz, cond_true] at hr
  have hsz := Nat.eq_of_beq_eq_true hsz
  have hv := slot_own hr
  have hs5 := h6.slots 5 (by omega)
  rw [hv] at hs5
  obtain ⟨c5, ev, a, len, cap, m, rfl, em, hsay⟩ := hs5
  simp only [List.cons.injEq, and_true] at em
  subst em
  obtain ⟨hold, _⟩ := hsay
  have hlenx := hold.1
  have hold' : HoldS 3 w6 (fun b => g6 b = some (5, some 0)) (fun cs x => cs = rc3 x) a len cap xs := hold.mono ⟨Nat.le_refl _, fun _ _ h => ⟨rfl, h⟩⟩ fun _ _ h => repRI.1 h
  subst hlenx
  have hsz6 : tm6.size = 75 := h6.len.trans hsz
  have ev : tm6.getD 5 undef = .slice a (List.length xs) cap := ev
  subst hy
  rw [Fr.of (N := 75) (a := { tmps := tm6, defers := [] }) hsz6]
  refine tail18 (xs := xs) (a := a) (cap := cap) ev hold' (by omega) fun w' q1 q2 q3 q4 => ?_
  let g' : Nat → Option Nat := fun b => if g6 b = some (5, some 0) then some 0 else none
  have hg' : ∀ b, g' b ≠ none → g6 b = some (5, some 0) := by
    intro b hb
    by_cases h : g6 b = some (5, some 0)
    · exact h
    · exact absurd (if_neg h) hb
  have hold_ : ∀ b, b < w.heap.size → ¬ g6 b = some (5, some 0) := by
    intro b hb hg
    have := h6.gok b (by rw [hg]; intro e; cases e)
    rcases this.2 with h | h
    · exact absurd (show w.heap.size ≤ b from h) (by omega)
    · exact h
  have hs6 : w.heap.size ≤ w6.heap.size := h6.size
  refine ⟨[.slice a (List.length xs) cap], g', rfl, ⟨a, _, cap, .own, rfl, rfl, ?_, trivial⟩, by omega, fun b hb => ?_, fun b hb => ?_, h6.io.trans q4⟩
  · have q1 := q1.mono (B' := fun b => g' b = some 0) (R' := RepC Try.prog trTy w' fun b => (w.heap.size ≤ b ∨ Ok b) ∧ g' b = none) (w' := w') ⟨Nat.le_refl _, fun b _ h => ⟨rfl, if_pos h⟩⟩ fun cs x h => repC_rc3.2 h
    have e : List.length (sortD (α := trTy.den) cfT xs) = List.length xs := (sortD_perm (α := trTy.den) cfT_swo xs).1.length_eq
    exact q1
  · rw [q3 b (by omega) (hold_ b hb)]
    exact h6.frame b hb fun h => h
  · have h := hg' b hb
    have := h6.gok b (by rw [h]; intro e; cases e)
    rcases this.2 with h' | h'
    · exact ⟨h', by omega⟩
    · exact absurd h' fun h => h
end Go.Proofs.Ytbapfiaglcllnaa.D.Nt
