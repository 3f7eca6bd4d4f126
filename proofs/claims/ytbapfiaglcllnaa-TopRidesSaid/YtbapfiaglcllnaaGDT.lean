import Derived.Test.YtbapfiaglcllnaaGDK
namespace Go.GD
open Go
section
variable {P : Program} {tab : List TE} {fnE : Nat → Option Sig} {nv : Nat} {ann : List LoopAnn} {fuel : Nat}
abbrev ctxOf (P : Program) (w : World) (Ok : Nat → Prop) : Ctx := { P, base := w.heap.size, Ok0 := Ok, G := fun _ => False, h0 := w.heap, w0 := w }
theorem init_rep {ps : List Ty} {n : Nat} {w : World} {Ok : Nat → Prop} (hps : ps.length ≤ n) {cs : List Value} {x : (pk ps).den} (hx : RepC P (pk ps) w Ok cs x) :
    SRep (ctxOf P w Ok) (fun _ => none) (initArgs [] ps x ++ List.replicate (n - ps.length) topSlot) ((argVals ps cs).toArray ++ Array.replicate (n - (argVals ps cs).toArray.size) undef) w := by
  let C : Ctx := ctxOf P w Ok
  let g : Own := fun _ => none
  have hx' : RepC C.P (pk ps) w (Shd C g) cs x := RepC.mono _ ⟨Nat.le_refl _, fun b _ hb => ⟨rfl, .inr (.inl hb), rfl⟩⟩ hx
  have hal := argVals_length ps cs
  have hil := (initArgs_rep (σ := []) (tm := #[]) ps hx').1
  have hlen : (initArgs [] ps x ++ List.replicate (n - ps.length) topSlot).length = n := by
    rw [List.length_append, hil, List.length_replicate]; omega
  refine ⟨?_, fun s hs => ?_, fun s hs => ?_, fun b hb => absurd rfl hb, fun _ _ _ => rfl, Nat.le_refl _, .refl w, fun _ _ hv => by cases hv⟩
  · rw [hlen, Array.size_append, Array.size_replicate, List.size_toArray, hal]; omega
  · rcases Nat.lt_or_ge s ps.length with hl | hl
    · rw [listGet_append_left _ _ _ (by omega)]
      have := ((initArgs_rep (σ := initArgs [] ps x ++ List.replicate (n - ps.length) topSlot) (tm := (argVals ps cs).toArray ++ Array.replicate (n - (argVals ps cs).toArray.size) undef) ps hx').2 s hl s).1
      have e : ((argVals ps cs).toArray ++ Array.replicate (n - (argVals ps cs).toArray.size) undef).getD s undef = (argVals ps cs)[s]?.getD undef := by
        rw [Array.getD_eq_getD_getElem?, Array.getElem?_append_left (by rw [List.size_toArray, hal]; exact hl), List.getElem?_toArray]
      rw [e]; exact this
    · rw [listGet_append_right _ _ _ (by omega), listGet_replicate]; trivial
  · rcases Nat.lt_or_ge s ps.length with hl | hl
    · rw [listGet_append_left _ _ _ (by omega)]
      exact ((initArgs_rep (tm := #[]) ps hx').2 s hl s).2
    · rw [listGet_append_right _ _ _ (by omega), listGet_replicate]; trivial
theorem call_head {E : Env} {f : Nat} {fn : Func} {ps : List Ty} {c hd : Code} {R : Ending → World → Prop} {Q' : Exit → Act → World → Prop} {ρ : Type} {k : Ex → St → Option ρ} {r : ρ}
    {w : World} {Ok : Nat → Prop} (hf : P.funcs[f]? = some fn) (hbody : fn.body = some c)
    (hps : ps.length ≤ fn.ntmps) {cs : List Value} {x : (pk ps).den} (hx : RepC P (pk ps) w Ok cs x)
    (snd : ∀ g σ tm, SRep (ctxOf P w Ok) g σ tm w → codeC E ann fuel hd k σ = some r → Post (ctxOf P w Ok) r [] k Q' → c.wp P (bodyPost P fn R) ⟨tm, []⟩ w)
    (hr : codeC E ann fuel hd k (initArgs [] ps x ++ List.replicate (fn.ntmps - ps.length) topSlot) = some r)
    (post : ∀ e g2 σ2 tm2 w2, SRep (ctxOf P w Ok) g2 σ2 tm2 w2 → k e σ2 = some r → Q' e.to ⟨tm2, []⟩ w2) : Calls P f (argVals ps cs).toArray w R :=
  calls_of_wp hf hbody (snd _ _ _ (init_rep hps hx) hr fun e g2 σ2 tm2 w2 h2 hk => post e g2 σ2 tm2 w2 h2 hk)
def Returned (P : Program) (w : World) (Ok : Nat → Prop) (rs : List Ty) (own : Bool) (y : (pk rs).den) (e : Ending) (w' : World) : Prop :=
  ∃ us g', e = .returned (resV rs us) ∧
    RepX P w' (fun b => (w.heap.size ≤ b ∨ Ok b) ∧ g' b = none) (clR g') (pk rs) 0 us y (rMarks own (pk rs)) ∧
    w.heap.size ≤ w'.heap.size ∧ (∀ b, b < w.heap.size → w'.heap[b]? = w.heap[b]?) ∧ (∀ b, g' b ≠ none → w.heap.size ≤ b ∧ b < w'.heap.size) ∧ SameIO w w'
theorem ret_results {fn : Func} {rs : List Ty} {own : Bool} {y : (pk rs).den} {w : World} {Ok : Nat → Prop} {R : Ending → World → Prop} (hE : TabOK P tab) (hres : resOK tab fn.results.toList rs = true) (hnd : nodupB (fn.results.toList.map rSlot) = true)
    {g2 : Own} {σ2 : St} {tm2 : Array Value} {w2 : World} (h2 : SRep (ctxOf P w Ok) g2 σ2 tm2 w2) (hk : readRes fn.results.toList own rs σ2 some = some y)
    (hR : ∀ e w', Returned P w Ok rs own y e w' → R e w') : bodyPost P fn R .ret ⟨tm2, []⟩ w2 := by
  let g' : Nat → Option Nat := fun b => if own = true then resOwn g2 fn.results.toList rs 0 b else none
  have hsh : Mono w2 (Shd (ctxOf P w Ok) g2) w2 (fun b => (w.heap.size ≤ b ∨ Ok b) ∧ g' b = none) := ⟨Nat.le_refl _, fun b _ hb => ⟨rfl, hb.1.imp id fun h => h.resolve_right id, by
    show (if own = true then resOwn g2 fn.results.toList rs 0 b else none) = none
    rw [resOwn_none hb.2]; split <;> rfl⟩⟩
  obtain ⟨y', us, q1, q2, q3⟩ := read_results (own := own) (g' := g') h2 hE hsh (S := fun _ => True) (fun ho b _ s c _ hb => ⟨.inl ((h2.gok b (by rw [hb]; simp)).2.resolve_right id), by
    show (if own = true then resOwn g2 fn.results.toList rs 0 b else none) = none
    rw [ho]; rfl⟩) fn.results.toList rs (c := 0) (fun _ _ => trivial) hres hnd (fun ho b s j _ _ => by
    show (if own = true then resOwn g2 fn.results.toList rs 0 b else none) = _
    rw [if_pos ho]) hk
  injection q1 with q1
  subst q1
  refine ⟨rfl, resV rs us, run_results q2, hR _ _ ⟨us, g', rfl, q3, h2.size, fun b hb => h2.frame b hb id, fun b hb => ?_, h2.io⟩⟩
  have hgb : g2 b ≠ none := fun e => hb (by
    show (if own = true then resOwn g2 fn.results.toList rs 0 b else none) = none
    rw [resOwn_none e]; split <;> rfl)
  have := h2.gok b hgb
  exact ⟨this.2.resolve_right id, this.1⟩
def Panicked (w : World) (T : Nat) (e : Ending) (w' : World) : Prop :=
  e = .panicked [{ v := .iface T (.agg #[]), recovered := false }] ∧ w.heap.size ≤ w'.heap.size ∧ (∀ b, b < w.heap.size → w'.heap[b]? = w.heap[b]?) ∧ SameIO w w'
def EndsP (P : Program) (w : World) (Ok : Nat → Prop) (rs : List Ty) (own : Bool) : (pk rs).den ⊕ Nat → Ending → World → Prop
  | .inl y => Returned P w Ok rs own y
  | .inr T => Panicked w T
def DoesP (P : Program) (f : Nat) (ps rs : List Ty) (own : Bool) (φ : (pk ps).den → Option ((pk rs).den ⊕ Nat)) : Prop :=
  ∀ (w : World) (Ok : Nat → Prop) (cs : List Value) (x : (pk ps).den) (y : (pk rs).den ⊕ Nat), RepC P (pk ps) w Ok cs x → φ x = some y →
    Calls P f (argVals ps cs).toArray w (EndsP P w Ok rs own y)
noncomputable def fnP (tab : List TE) (fn : Nat → Option Sig) (nv : Nat) (ann : List LoopAnn) (fuel : Nat) (f : Func) (ps rs : List Ty) (own : Bool) (x : (pk ps).den) : Option ((pk rs).den ⊕ Nat) :=
  match f.body with
  | none => none
  | some c =>
    codeC { tab, fn, nv, res := resSlots f.results.toList } ann fuel c (fun e σ => match e with
      | .normal | .ret => readRes f.results.toList own rs σ fun y => some (.inl y)
      | .pan T => some (.inr T)
      | _ => none) (initArgs [] ps x ++ List.replicate (f.ntmps - ps.length) topSlot)
noncomputable def fnPK (tab : List TE) (fn : Nat → Option Sig) (nv : Nat) (ann : List LoopAnn) (fuel : Nat) (f : Func) (ps rs : List Ty) (own : Bool) (x : (pk ps).den) : Option ((pk rs).den ⊕ Nat) :=
  match f.body with
  | none => none
  | some c =>
    let σ := initArgs [] ps x ++ List.replicate (f.ntmps - ps.length) topSlot
    let N := f.ntmps
    codeK { tab, fn, nv, res := resSlots f.results.toList } ann fuel (Nat.log2 N + 1) N c (fun e T => match e with
      | .normal | .ret => readRes f.results.toList own rs (tl T 0 N) fun y => some (.inl y)
      | .pan T => some (.inr T)
      | _ => none) (ofL (Nat.log2 N + 1) σ)
theorem readRes_map {ρ ρ' : Type} (g : ρ → ρ') : (l : List ResultVar) → (own : Bool) → (ts : List Ty) → (σ : St) → (k : (pk ts).den → Option ρ) → readRes l own ts σ (fun y => (k y).map g) = (readRes l own ts σ k).map g
  | [], _, [], _, _ => rfl
  | [], _, _ :: _, _, _ => rfl
  | [_], _, [], _, _ => rfl
  | [r], own, [t], σ, k => by
    simp only [readRes]
    split
    · split
      · split <;> rfl
      · rfl
    · rfl
  | [_], _, _ :: _ :: _, _, _ => rfl
  | _ :: _ :: _, _, [], _, _ => rfl
  | _ :: _ :: _, _, [_], _, _ => rfl
  | r :: r' :: rs, own, t :: t' :: ts, σ, k => by
    simp only [readRes]
    split
    · split
      · split
        · exact readRes_map g (r' :: rs) own (t' :: ts) σ _
        · rfl
      · rfl
    · rfl
theorem fnPK_eq {f : Func} {ps rs : List Ty} {own : Bool} {x : (pk ps).den} (hps : ps.length ≤ f.ntmps) :
    fnP tab fnE nv ann fuel f ps rs own x = fnPK tab fnE nv ann fuel f ps rs own x := by
  unfold fnP fnPK
  generalize f.body = bd
  cases bd with
  | none => rfl
  | some c =>
    refine (codeK_eq _ _ _ c (Sim.ofL ?_ ?_) fun e T' σ' h' => ?_).symm
    · rw [List.length_append, initArgs_length, List.length_replicate]; omega
    · exact Nat.le_of_lt Nat.lt_log2_self
    · cases e with
      | normal => simp only [h'.tl]
      | ret => simp only [h'.tl]
      | _ => rfl
theorem fn_doesP {f : Nat} {fn : Func} {ps rs : List Ty} {own : Bool} {φ : (pk ps).den → Option ((pk rs).den ⊕ Nat)} (hm : P.follows .mixedOrders = true) (hE : TabOK P tab)
    (hfn : ∀ f sg, fnE f = some sg → Contract P f sg) (hf : P.funcs[f]? = some fn) (hres : resOK tab fn.results.toList rs = true) (hnd : nodupB (fn.results.toList.map rSlot) = true)
    (hps : ps.length ≤ fn.ntmps) (hφ : ∀ x y, φ x = some y → fnP tab fnE nv ann fuel fn ps rs own x = some y) : DoesP P f ps rs own φ := by
  intro w Ok cs x y hx hy
  have hr := hφ x y hy
  unfold fnP at hr
  split at hr
  case h_1 => cases hr
  rename_i c hbody
  refine call_head (E := { tab, fn := fnE, nv, res := resSlots fn.results.toList }) hf hbody hps hx (Q' := bodyPost P fn _)
    (fun g σ tm h hr hp => code_sound (C := ctxOf P w Ok) hm hE ⟨hfn, (fun _ _ h => by cases h), fun s hs => absurd rfl hs⟩ c _ _ g σ tm w h hr hp) hr fun e g2 σ2 tm2 w2 h2 hk => ?_
  have fin : (readRes fn.results.toList own rs σ2 fun y => some (.inl y)) = some y → bodyPost P fn (EndsP P w Ok rs own y) .ret ⟨tm2, []⟩ w2 := fun hk => by
    have := readRes_map (ρ' := (pk rs).den ⊕ Nat) Sum.inl fn.results.toList own rs σ2 some
    rw [show (fun y : (pk rs).den => (some y).map Sum.inl) = fun y => some (Sum.inl y : (pk rs).den ⊕ Nat) from rfl, hk] at this
    obtain ⟨z, hz, e⟩ := Option.map_eq_some_iff.1 this.symm
    subst e
    exact ret_results hE hres hnd h2 hz fun _ _ h => h
  cases e with
  | normal => exact fin hk
  | exit id => cases hk
  | ret => exact fin hk
  | pan T =>
    injection hk with hk
    subst hk
    exact ⟨rfl, rfl, h2.size, fun b hb => h2.frame b hb id, h2.io⟩
theorem DoesP.returns {f : Nat} {ps rs : List Ty} {own : Bool} {φ : (pk ps).den → Option ((pk rs).den ⊕ Nat)} (h : DoesP P f ps rs own φ) {ψ : (pk ps).den → Option (pk rs).den} (hψ : ∀ x y, ψ x = some y → φ x = some (.inl y)) : Does P f ps rs own ψ :=
  fun w Ok cs x y hx hy => h w Ok cs x (.inl y) hx (hψ x y hy)
end
def cutAt (n : Nat) : Code → Code
  | .seq a (.seq (.region m ops dr) c) => if Nat.beq m n then a else .seq a (cutAt n (.seq (.region m ops dr) c))
  | .seq a b => .seq a (cutAt n b)
  | c => c
def tailAt (n : Nat) : Code → Code
  | .seq _ (.seq (.region m ops dr) c) => if Nat.beq m n then .seq (.region m ops dr) c else tailAt n (.seq (.region m ops dr) c)
  | .seq _ b => tailAt n b
  | _ => .skip
def hasAt (n : Nat) : Code → Bool
  | .seq _ (.seq (.region m ops dr) c) => if Nat.beq m n then true else hasAt n (.seq (.region m ops dr) c)
  | .seq _ b => hasAt n b
  | _ => false
theorem head_sound {C : Ctx} {E : Env} {ann : List LoopAnn} {fuel : Nat} {ds : List Deferred} {ρ : Type} {r : ρ} (hm : C.P.follows .mixedOrders = true) (hE : TabOK C.P E.tab) (hfn : EnvOK C E) (n : Nat) {Q : Exit → Act → World → Prop} : (c : Code) → hasAt n c = true →
    ∀ (k : Ex → St → Option ρ) (g : Own) (σ : St) (tm : Array Value) (w : World), SRep C g σ tm w → codeC E ann fuel (cutAt n c) k σ = some r → Post C r ds k (Exit.then ((tailAt n c).wp C.P Q) Q) → c.wp C.P Q ⟨tm, ds⟩ w := by
  intro c
  induction c with
  | seq a b _ ih =>
    intro hh k g σ tm w h hr hp
    have go : hasAt n b = true → codeC E ann fuel (.seq a (cutAt n b)) k σ = some r → Post C r ds k (Exit.then ((tailAt n b).wp C.P Q) Q) → (Code.seq a b).wp C.P Q ⟨tm, ds⟩ w := by
      intro hh hr hp
      have hr' : codeC E ann fuel a (fun e σ' => match e with | .normal => codeC E ann fuel (cutAt n b) k σ' | e => k e σ') σ = some r := hr
      refine wp_seq (code_sound hm hE hfn a _ _ g σ tm w h hr' fun e g σ tm w h hk => ?_)
      cases e with
      | normal => exact ih hh k g σ tm w h hk hp
      | exit id => exact hp _ _ _ _ _ h hk
      | ret => exact hp _ _ _ _ _ h hk
      | pan T => exact hp _ _ _ _ _ h hk
    cases b with
    | seq x y =>
      cases x with
      | region m ops dr =>
        simp only [hasAt, cutAt, tailAt] at hh hr hp
        cases hmn : Nat.beq m n with
        | true =>
          rw [hmn, if_pos rfl] at hr hp
          refine wp_seq (code_sound hm hE hfn a _ _ g σ tm w h hr hp)
        | false =>
          rw [hmn, if_neg (by decide)] at hh hr hp
          exact go hh hr hp
      | _ => exact go hh hr hp
    | _ => exact go hh hr hp
  | _ => intro hh; cases hh
end Go.GD
