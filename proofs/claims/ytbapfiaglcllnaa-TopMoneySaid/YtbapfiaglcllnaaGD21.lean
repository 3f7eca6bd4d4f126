import Derived.Test.YtbapfiaglcllnaaGD20
namespace Go.GD
open Go
def Ex.to : Ex → Exit
  | .normal => .normal
  | .exit id => .exit id
  | .ret => .ret
section
variable {C : Ctx} {E : Env} {ρ : Type} {ann : List LoopAnn} {fuel : Nat} {r : ρ} {ds : List Deferred}
def Post (C : Ctx) (r : ρ) (ds : List Deferred) (k : Ex → St → Option ρ) (Q : Exit → Act → World → Prop) : Prop :=
  ∀ e g σ tm w, SRep C g σ tm w → k e σ = some r → Q e.to ⟨tm, ds⟩ w
theorem loop_sound {c : Code} {a : LoopAnn} {k : Ex → St → Option ρ} {Q : Exit → Act → World → Prop} {f : (Ex → St → Option ρ) → St → Option ρ}
    (hc : ∀ (k : Ex → St → Option ρ) (Q : Exit → Act → World → Prop) (g : Own) (σ : St) (tm : Array Value) (w : World), SRep C g σ tm w → f k σ = some r → Post C r ds k Q → c.wp C.P Q ⟨tm, ds⟩ w)
    {g : Own} {σ : St} {tm : Array Value} {w : World} (h : SRep C g σ tm w) (hr : loopC fuel f a k σ = some r) (hQ : Post C r ds k Q) : (Code.loop c).wp C.P Q ⟨tm, ds⟩ w := by
  unfold loopC at hr
  simp only at hr
  have hok : ShOK a.live 0 (shapes σ a.live a.frz 0 σ) := shapes_ok σ 0
  generalize shapes σ a.live a.frz 0 σ = sh at hr hok
  split at hr
  case h_2 => cases hr
  rename_i l hl
  split at hr
  case h_2 => cases hr
  rename_i s hs
  let step : ((pk (shTys sh)).den → Option ρ) → (pk (shTys sh)).den → Option ρ := fun F s => f (nextK sh a.live a.frz F k) (inject sh (unpackL (shTys sh) s))
  let J : Nat → Act → World → Prop := fun n x w => x.defers = ds ∧ ∃ g s, SRep C g (inject sh (unpackL (shTys sh) s)) x.tmps w ∧ iter step n s = some r
  have hex : ∀ (x : Act) (w : World), (∃ n, J n x w) → ∃ n, J n x w ∧ ∀ m, J m x w → n ≤ m := by
    intro x w ⟨n, hn⟩
    induction n using Nat.strongRecOn with
    | _ n ih =>
      by_cases hm : ∃ m, m < n ∧ J m x w
      · obtain ⟨m, hlt, hj⟩ := hm
        exact ih m hlt hj
      · exact ⟨n, hn, fun m hj => Nat.le_of_not_lt fun hlt => hm ⟨m, hlt, hj⟩⟩
  let μ : Act → World → Nat := fun x w => open Classical in if hx : ∃ n, J n x w then (hex x w hx).choose else 0
  have hμ : ∀ x w, (∃ n, J n x w) → J (μ x w) x w ∧ ∀ m, J m x w → μ x w ≤ m := by
    intro x w hx
    have e : μ x w = (hex x w hx).choose := by simp only [μ]; rw [dif_pos hx]
    rw [e]
    exact (hex x w hx).choose_spec
  have start : ∀ g' σ' tm' w' l' s' n, SRep C g' σ' tm' w' → dataAt σ' a.live a.frz 0 sh σ' = some l' → packL (shTys sh) l' = some s' → iter step n s' = some r → J n ⟨tm', ds⟩ w' := by
    intro g' σ' tm' w' l' s' n h' hl' hs' hi
    obtain ⟨g2, h2⟩ := norm_sound h' hl' hok
    refine ⟨rfl, g2, s', ?_, hi⟩
    rw [unpack_pack _ _ hs']
    exact h2
  refine wp_loop (fun x w => ∃ n, J n x w) μ ⟨fuel, start g σ tm w l s fuel h hl hs hr⟩ fun x w hx => ?_
  obtain ⟨⟨hd, g1, s1, h1, hi⟩, hmin⟩ := hμ x w hx
  obtain ⟨tm1, ds1⟩ := x
  simp only at hd
  subst hd
  cases hn : μ ⟨tm1, ds1⟩ w with
  | zero => rw [hn] at hi; cases hi
  | succ m =>
    rw [hn] at hi
    have hi' : f (nextK sh a.live a.frz (iter step m) k) (inject sh (unpackL (shTys sh) s1)) = some r := hi
    refine hc _ _ g1 _ tm1 w h1 hi' fun e g' σ' tm' w' h' hk' => ?_
    cases e with
    | normal =>
      simp only [nextK] at hk'
      split at hk'
      case h_2 => cases hk'
      rename_i l' hl'
      split at hk'
      case h_2 => cases hk'
      rename_i s' hs'
      have hj := start g' σ' tm' w' l' s' m h' hl' hs' hk'
      exact ⟨⟨m, hj⟩, Nat.lt_succ_of_le ((hμ _ _ ⟨m, hj⟩).2 m hj)⟩
    | exit id => exact hQ _ g' σ' tm' w' h' hk'
    | ret => exact hQ _ g' σ' tm' w' h' hk'
theorem freeze_sound {tm : Array Value} {w : World} {K : St → Option ρ} : (l : List Nat) → ∀ {g : Own} {σ : St}, SRep C g σ tm w → (freezeP l).run σ K = some r → ∃ g' σ', SRep C g' σ' tm w ∧ K σ' = some r
  | [], g, σ, h, hr => ⟨g, σ, h, hr⟩
  | s :: l, g, σ, h, hr => by
    simp only [freezeP, Prog.run] at hr
    cases ha : (listGet σ s).a with
    | val tv =>
      rw [ha] at hr
      simp only [A.tv] at hr
      obtain ⟨cs, _, hx, hn, hb⟩ := h.val ha
      obtain ⟨g1, σ1, ms', h1, _, _, _, _, h6, _⟩ := takeMarks_inv _ [] rfl h (hx.place σ.length 0 hn) (fun _ hm => by cases hm) hn hb hr
      exact freeze_sound l h1 h6
    | box tv =>
      have hl := h.lt (s := s) (by rw [ha]; intro e; cases e)
      have hs := h.slots s hl
      have hbnd := h.bnd s hl
      rw [ha] at hs hbnd hr
      simp only [A.tv] at hr
      obtain ⟨b, e, cs, ht, hg, hh, hx⟩ := hs
      have hrefs := RepX.refs tv.t hx (fun i hi => by
        simp only [placeV, ha, ht, Nat.zero_add]
        rw [cell_of_block hh]) (fun i hi => by
        rw [ha, Nat.zero_add]
        simp [A.mark, hi, Mk.isOwn])
      have hn := refMarks_noOwn s (listGet σ s).gen 0 tv.ms
      obtain ⟨g1, σ1, ms', h1, _, _, _, _, h6, _⟩ := takeMarks_inv _ [] rfl h (hrefs.place σ.length 0 hn) (fun _ hm => by cases hm) hn (refMarks_bnd _ _ hbnd) hr
      exact freeze_sound l h1 h6
    | _ =>
      rw [ha] at hr
      exact freeze_sound l h hr
theorem code_sound (hm : C.P.follows .mixedOrders = true) (hE : TabOK C.P E.tab) (hfn : EnvOK C E) (c : Code) :
    ∀ (k : Ex → St → Option ρ) (Q : Exit → Act → World → Prop) (g : Own) (σ : St) (tm : Array Value) (w : World), SRep C g σ tm w → codeC E ann fuel c k σ = some r → Post C r ds k Q → c.wp C.P Q ⟨tm, ds⟩ w := by
  induction c with
  | skip =>
    intro k Q g σ tm w h hr hQ
    exact wp_skip (hQ .normal g σ tm w h hr)
  | region id ops draw =>
    intro k Q g σ tm w h hr hQ
    cases draw with
    | false =>
      refine wp_region ?_
      have := region_sound (ops := ops) (Q := Q) (K := fun σ' => k .normal σ') (r := r) (ds := ds) hE hfn (fun g' σ' a' w' h' hd hk => by
        obtain ⟨tm', ds'⟩ := a'
        simp only at hd
        subst hd
        exact hQ .normal g' σ' tm' w' h' hk) ops.toList 0 g σ tm w rfl h hr
      simpa using this
    | true =>
      obtain ⟨g1, σ1, h1, hr1⟩ := freeze_sound _ h hr
      exact drawn_sound hm hE hfn h1 hr1 fun g' σ' tm' w' h' hk => hQ .normal g' σ' tm' w' h' hk
  | seq x y ihx ihy =>
    intro k Q g σ tm w h hr hQ
    refine wp_seq (ihx _ _ g σ tm w h hr fun e g' σ' tm' w' h' hk => ?_)
    cases e with
    | normal => exact ihy _ _ g' σ' tm' w' h' hk hQ
    | exit id => exact hQ (.exit id) g' σ' tm' w' h' hk
    | ret => exact hQ .ret g' σ' tm' w' h' hk
  | cond x a b iha ihb =>
    intro k Q g σ tm w h hr hQ
    cases x with
    | tmp s =>
      simp only [codeC] at hr
      split at hr
      case h_2 => cases hr
      rename_i t ms hs
      have hlt := h.lt (s := s) (by rw [hs]; intro e; cases e)
      have hv := h.slots s hlt
      rw [hs] at hv
      obtain ⟨cs, e, m, _, hcs⟩ := hv
      have hb : tm.getD s undef = .bool t := by rw [e, show cs = _ from hcs]; rfl
      refine wp_cond (t := t) hb ?_
      cases t with
      | true => exact iha _ _ g σ tm w h hr hQ
      | false => exact ihb _ _ g σ tm w h hr hQ
    | _ => cases hr
  | block id c ih =>
    intro k Q g σ tm w h hr hQ
    refine wp_block (ih _ _ g σ tm w h hr fun e g' σ' tm' w' h' hk => ?_)
    cases e with
    | normal => exact hQ .normal g' σ' tm' w' h' hk
    | exit i =>
      show Exit.inBlock id Q (.exit i) _ _
      simp only [Exit.inBlock]
      simp only at hk
      split at hk
      · rename_i hi
        rw [if_pos (Nat.eq_of_beq_eq_true hi)]
        exact hQ .normal g' σ' tm' w' h' hk
      · rename_i hi
        rw [if_neg (fun e => hi (by rw [e]; exact Nat.beq_refl _))]
        exact hQ (.exit i) g' σ' tm' w' h' hk
    | ret => exact hQ .ret g' σ' tm' w' h' hk
  | loop c ih =>
    intro k Q g σ tm w h hr hQ
    exact loop_sound (fun k Q g σ tm w => ih k Q g σ tm w) h hr hQ
  | exit id =>
    intro k Q g σ tm w h hr hQ
    exact wp_exit (hQ (.exit id) g σ tm w h hr)
  | ret =>
    intro k Q g σ tm w h hr hQ
    exact wp_ret (hQ .ret g σ tm w h hr)
  | _ => intro k Q g σ tm w h hr hQ; simp [codeC] at hr
def Reads (C : Ctx) (E : Env) (ann : List LoopAnn) (fuel : Nat) (ds : List Deferred) {ρ : Type} (r : ρ) (c0 c1 : Code) : Prop :=
  ∀ (k : Ex → St → Option ρ) (Q : Exit → Act → World → Prop) (g : Own) (σ : St) (tm : Array Value) (w : World), SRep C g σ tm w → codeC E ann fuel c1 k σ = some r → Post C r ds k Q → c0.wp C.P Q ⟨tm, ds⟩ w
end
end Go.GD
