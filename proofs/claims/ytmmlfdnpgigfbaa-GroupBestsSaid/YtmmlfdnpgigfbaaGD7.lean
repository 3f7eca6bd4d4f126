import Derived.Test.YtmmlfdnpgigfbaaGD6
namespace Go.GD
open Go

def A.handy (a : A) : Prop := ∀ i, (a.mark i).isOwn = false

/-- what is in hand (nothing of it owned) speaks of the later state too -/
structure HandLe (C : Ctx) (g : Own) (σ : St) (tm : Array Value) (w : World) (g' : Own) (σ' : St) (tm' : Array Value) (w' : World) : Prop where
  sh : Mono w (Shd C g) w' (Shd C g')
  gens : ∀ s, (listGet σ s).gen ≤ (listGet σ' s).gen ∧ (listGet σ s).id ≤ (listGet σ' s).id
  len : σ'.length = σ.length
  rep : ∀ v a, a.handy → bndA σ a → SlotRep C g σ tm w σ.length v a → SlotRep C g' σ' tm' w' σ.length v a

theorem HandLe.refl (C : Ctx) (g : Own) (σ : St) (tm : Array Value) (w : World) : HandLe C g σ tm w g σ tm w :=
  ⟨Mono.refl _ _, fun _ => ⟨Nat.le_refl _, Nat.le_refl _⟩, rfl, fun _ _ _ _ h => h⟩

theorem HandLe.trans {C : Ctx} {g g1 g2 : Own} {σ σ1 σ2 : St} {tm tm1 tm2 : Array Value} {w w1 w2 : World} (h : HandLe C g σ tm w g1 σ1 tm1 w1) (h' : HandLe C g1 σ1 tm1 w1 g2 σ2 tm2 w2) :
    HandLe C g σ tm w g2 σ2 tm2 w2 :=
  ⟨h.sh.trans h'.sh, fun s => ⟨Nat.le_trans (h.gens s).1 (h'.gens s).1, Nat.le_trans (h.gens s).2 (h'.gens s).2⟩, h'.len.trans h.len, fun v a ha hb hr => by
    have h1 := h.rep v a ha hb hr
    have h2 := h'.rep v a ha (bndA_mono h.gens hb) (by rw [h.len]; exact h1)
    rwa [h.len] at h2⟩

theorem Carry.hand {C : Ctx} {g g' : Own} {σ σ' : St} {tm tm' : Array Value} {w w' : World} (h : Carry C g σ tm w g' σ' tm' w' σ.length)
    (hg : ∀ s, (listGet σ s).gen ≤ (listGet σ' s).gen ∧ (listGet σ s).id ≤ (listGet σ' s).id) (hl : σ'.length = σ.length) : HandLe C g σ tm w g' σ' tm' w' :=
  ⟨h.sh, hg, hl, fun v a ha hb hr => h.slotRep' (fun i hi => by rw [ha i] at hi; cases hi) hb hr⟩

def Laid (ms : List Mk) : Prop := ∀ m, m ∈ ms → m = .own ∨ m = .shr ∨ m = .nil

theorem markAt_mid (dn : List Mk) (m : Mk) (l : List Mk) : markAt (dn ++ m :: l) dn.length = m := by
  have := markAt_append_right dn (m :: l) 0
  simpa [markAt] using this

theorem markAt_mid_left (dn : List Mk) (m : Mk) (l : List Mk) (i : Nat) (h : i < dn.length) : markAt (dn ++ m :: l) i = markAt dn i := markAt_append_left _ _ _ h

theorem markAt_mid_right (dn : List Mk) (m : Mk) (l : List Mk) (i : Nat) : markAt (dn ++ m :: l) (dn.length + 1 + i) = markAt l i := by
  have := markAt_append_right dn (m :: l) (1 + i)
  rw [← Nat.add_assoc] at this
  rw [this, Nat.add_comm 1 i]; rfl

theorem cle_same {w : World} {Sh : Nat → Prop} (k : Claim) : CLe w w Sh k k := by
  cases k with
  | skip => exact .skip _
  | nilc => exact .nil
  | share n => exact .share _
  | hold B V => exact .hold _ _ _ _ (Mono.refl _ _) (fun _ h => h)

/-- a value is laid down: what it looks at is taken over (its blocks are the hand's, slot σ.length) or shared -/
theorem takeMarks_inv {C : Ctx} {tm : Array Value} {w : World} {steal : Nat → Bool} {kn : Bool} {ρ : Type} {K : St → Option ρ} {r : ρ} {t : Ty} {cs : List Value} {x : t.den} {N : Nat} :
    (ms : List Mk) → ∀ {k : List Mk → Prog} {g : Own} {σ : St} (dn : List Mk), N = σ.length → SRep C g σ tm w →
    RepX C.P w (Shd C g) (cl g σ tm w N) t 0 cs x (dn ++ ms) → Laid dn → NoOwn ms → (∀ m, m ∈ ms → bndM σ m) →
    (takeMarks steal kn ms k).run σ K = some r →
    ∃ g1 σ1 ms', SRep C g1 σ1 tm w ∧ HandLe C g σ tm w g1 σ1 tm w ∧ ms'.length = ms.length ∧ Laid (dn ++ ms') ∧
      RepX C.P w (Shd C g1) (cl g1 σ1 tm w N) t 0 cs x (dn ++ ms') ∧ (k ms').run σ1 K = some r ∧ (∀ b, g b = none → g1 b = none) ∧ ((∀ s, steal s = false) → kn = true → ∀ m, m ∈ ms' → m = .shr ∨ m = .nil)
  | [], k, g, σ, dn, hN, h, hx, hd, _, _, hr => ⟨g, σ, [], h, .refl .., rfl, by simpa using hd, hx, hr, fun _ h => h, fun _ _ _ h => by cases h⟩
  | m :: l, k, g, σ, dn, hN, h, hx, hd, hn, hb, hr => by
    have hlen := (RepX.length _ hx).2
    have hn' : NoOwn l := fun m hm => hn m (List.mem_cons_of_mem _ hm)
    have hb' : ∀ m, m ∈ l → bndM σ m := fun m hm => hb m (List.mem_cons_of_mem _ hm)
    -- a mark that becomes another one where the state stays
    have easy : ∀ m2, (m2 = .own ∧ kn = false ∨ m2 = .shr ∨ m2 = .nil) → CLe w w (Shd C g) (cl g σ tm w N dn.length m) (cl g σ tm w N dn.length m2) →
        (takeMarks steal kn l fun r => k (m2 :: r)).run σ K = some r →
        ∃ g1 σ1 ms', SRep C g1 σ1 tm w ∧ HandLe C g σ tm w g1 σ1 tm w ∧ ms'.length = (m :: l).length ∧ Laid (dn ++ ms') ∧
          RepX C.P w (Shd C g1) (cl g1 σ1 tm w N) t 0 cs x (dn ++ ms') ∧ (k ms').run σ1 K = some r ∧ (∀ b, g b = none → g1 b = none) ∧ ((∀ s, steal s = false) → kn = true → ∀ m, m ∈ ms' → m = .shr ∨ m = .nil) := by
      intro m2 hm2 hc hr
      have hx2 : RepX C.P w (Shd C g) (cl g σ tm w N) t 0 cs x ((dn ++ [m2]) ++ l) := by
        refine RepX.trans (Mono.refl _ _) t hx (by simp) fun i hi => ?_
        rw [Nat.zero_add, List.append_assoc, List.singleton_append]
        rcases Nat.lt_trichotomy i dn.length with hlt | rfl | hgt
        · rw [markAt_mid_left _ _ _ _ hlt, markAt_mid_left _ _ _ _ hlt]; exact cle_same _
        · rw [markAt_mid, markAt_mid]; exact hc
        · obtain ⟨j, rfl⟩ : ∃ j, i = dn.length + 1 + j := ⟨i - (dn.length + 1), by omega⟩
          rw [markAt_mid_right, markAt_mid_right]; exact cle_same _
      obtain ⟨g1, σ1, ms', h1, h2, h3, h4, h5, h6, h7⟩ := takeMarks_inv l (dn ++ [m2]) hN h hx2 (fun m hm => by
        rcases List.mem_append.1 hm with hm | hm
        · exact hd m hm
        · rw [List.mem_singleton.1 hm]; exact hm2.imp (·.1) id) hn' hb' hr
      exact ⟨g1, σ1, m2 :: ms', h1, h2, by simp [h3], by simpa using h4, by simpa using h5, h6, h7.1, fun hst hk => List.forall_mem_cons.2 ⟨hm2.resolve_left (fun hh => by rw [hk] at hh; exact absurd hh.2 (by simp)), h7.2 hst hk⟩⟩
    -- a look at a place
    have look : ∀ s c gn, (m = .ref s c gn ∨ m = .sub s c gn) →
        (Prog.get s fun sl => match Nat.beq sl.gen gn && (sl.a.mark c).isOwn with
          | true => match steal s with
            | true => .put s { sl with a := sl.a.setMark c .dead } (takeMarks steal kn l fun r => k (.own :: r))
            | false => .put s { sl with a := sl.a.setMark c .shr } (takeMarks steal kn l fun r => k (.shr :: r))
          | false => .fail).run σ K = some r →
        ∃ g1 σ1 ms', SRep C g1 σ1 tm w ∧ HandLe C g σ tm w g1 σ1 tm w ∧ ms'.length = (m :: l).length ∧ Laid (dn ++ ms') ∧
          RepX C.P w (Shd C g1) (cl g1 σ1 tm w N) t 0 cs x (dn ++ ms') ∧ (k ms').run σ1 K = some r ∧ (∀ b, g b = none → g1 b = none) ∧ ((∀ s, steal s = false) → kn = true → ∀ m, m ∈ ms' → m = .shr ∨ m = .nil) := by
      intro s c gn hm hr
      simp only [Prog.run] at hr
      split at hr
      case h_2 => simp [Prog.run] at hr
      rename_i hv
      have hvalid : validB σ s c gn = true := hv
      have hown : ((listGet σ s).a.mark c).isOwn = true := by simp only [Bool.and_eq_true] at hv; exact hv.2
      have hsl := validB_lt hvalid
      have hbl : cl g σ tm w N dn.length m = .hold (fun b => g b = some (s, some c)) (cl g σ tm w N dn.length m |> fun | .hold _ V => V | _ => fun _ => True) := by
        rcases hm with rfl | rfl <;> simp only [clm, hvalid, cond]
      -- both ways: mark m2 at the place, blocks to p, mark m3 in hand
      have go : ∀ (m2 : Mk) (p : Option (Nat × Option Nat)) (m3 : Mk), (m2 = .dead ∨ (m2 = .shr ∧ p = none)) → (m3 = .own ∧ steal s = true ∨ m3 = .shr) →
          (∀ g' σ', g' = struck g s c p → CLe w w (Shd C g') (.hold (fun b => g b = some (s, some c)) (fun _ => True)) (cl g' σ' tm w N dn.length m3)) →
          (takeMarks steal kn l fun r => k (m3 :: r)).run (listSet σ s { listGet σ s with a := (listGet σ s).a.setMark c m2 }) K = some r →
          ∃ g1 σ1 ms', SRep C g1 σ1 tm w ∧ HandLe C g σ tm w g1 σ1 tm w ∧ ms'.length = (m :: l).length ∧ Laid (dn ++ ms') ∧
            RepX C.P w (Shd C g1) (cl g1 σ1 tm w N) t 0 cs x (dn ++ ms') ∧ (k ms').run σ1 K = some r ∧ (∀ b, g b = none → g1 b = none) ∧ ((∀ s, steal s = false) → kn = true → ∀ m, m ∈ ms' → m = .shr ∨ m = .nil) := by
        intro m2 p m3 hm2 hm3 hc hr
        have hS := h.strike hm2 hown
        have hF := struck_facts (C := C) (g := g) (tm := tm) (w := w) (p := p) (m := m2) (by rcases hm2 with rfl | ⟨rfl, _⟩ <;> rfl) hown
        have hsN : N ≠ s := by omega
        have hcar := hF.carry N hsN
        have hlen' : (listSet σ s { listGet σ s with a := (listGet σ s).a.setMark c m2 }).length = σ.length := listSet_length _ _ _
        generalize listSet σ s { listGet σ s with a := (listGet σ s).a.setMark c m2 } = σ' at *
        have hmg : ∀ s, (listGet σ s).gen ≤ (listGet σ' s).gen ∧ (listGet σ s).id ≤ (listGet σ' s).id := fun s => ⟨Nat.le_of_eq (hF.gens s).1.symm, Nat.le_of_eq (hF.gens s).2.symm⟩
        have hx2 : RepX C.P w (Shd C (struck g s c p)) (cl (struck g s c p) σ' tm w N) t 0 cs x ((dn ++ [m3]) ++ l) := by
          refine RepX.trans hF.sh t hx (by simp) fun i hi => ?_
          rw [Nat.zero_add, List.append_assoc, List.singleton_append]
          rcases Nat.lt_trichotomy i dn.length with hlt | rfl | hgt
          · rw [markAt_mid_left _ _ _ _ hlt, markAt_mid_left _ _ _ _ hlt]
            rcases hd _ (mem_of_markAt dn i hlt) with e | e | e <;> rw [e]
            · exact .hold _ _ _ _ (hF.place N (some i) (fun e => hsN (by injection e))) (fun _ h => h)
            · exact .share _
            · exact .nil
          · rw [markAt_mid, markAt_mid]
            have hcc := hc _ σ' rfl
            rw [hbl]
            generalize cl (struck g s c p) σ' tm w N dn.length m3 = k3 at hcc ⊢
            cases hcc with
            | skip => exact .skip _
            | hold B B' V V' hB hV => exact .hold _ _ _ _ hB (fun v _ => hV v trivial)
            | hold_share B V hB => exact .hold_share _ _ hB
          · obtain ⟨j, rfl⟩ : ∃ j, i = dn.length + 1 + j := ⟨i - (dn.length + 1), by omega⟩
            rw [markAt_mid_right, markAt_mid_right]
            have hj : j < l.length := by simp at hlen; omega
            exact hcar.cle _ _ (hb' _ (mem_of_markAt l j hj)) (fun e => absurd e (hn' _ (mem_of_markAt l j hj)))
        obtain ⟨g1, σ1, ms', h1, h2, h3, h4, h5, h6, h7⟩ := takeMarks_inv l (dn ++ [m3]) (hN.trans hlen'.symm) hS hx2 (fun m hm => by
          rcases List.mem_append.1 hm with hm | hm
          · exact hd m hm
          · rw [List.mem_singleton.1 hm]; exact hm3.imp (·.1) .inl) hn' (fun m hm => bndM_mono (fun s => (hmg s).1) (hb' m hm)) hr
        subst hN
        exact ⟨g1, σ1, m3 :: ms', h1, (hcar.hand hmg hlen').trans h2, by simp [h3], by simpa using h4, by simpa using h5, h6, fun b hb => h7.1 b (struck_none hb), fun hst hk => List.forall_mem_cons.2 ⟨.inl (hm3.resolve_left (fun hh => by rw [hst s] at hh; exact absurd hh.2 (by simp))), h7.2 hst hk⟩⟩
      split at hr
      · rename_i hst
        refine go .dead (some (N, some dn.length)) .own (.inl rfl) (.inl ⟨rfl, hst⟩) (fun g' σ' e => ?_) hr
        subst e
        exact .hold _ _ _ _ ⟨Nat.le_refl _, fun b _ hb => ⟨rfl, struck_same hb⟩⟩ (fun _ h => h)
      · refine go .shr none .shr (.inr ⟨rfl, rfl⟩) (.inr rfl) (fun g' σ' e => ?_) hr
        subst e
        refine .hold_share _ _ ⟨Nat.le_refl _, fun b _ hb => ⟨rfl, ?_, struck_same hb⟩⟩
        have := (h.gok b (by rw [show g b = _ from hb]; simp)).2
        rcases this with this | this
        · exact .inl this
        · exact .inr (.inr this)
    cases m with
    | shr => exact easy .shr (.inr (.inl rfl)) (.share _) hr
    | nn => exact easy .shr (.inr (.inl rfl)) (.share_weak _) hr
    | nil =>
      cases hk : kn with
      | false => subst hk; exact easy .own (.inl ⟨rfl, rfl⟩) (.nil_hold _ _ trivial) hr
      | true => subst hk; exact easy .nil (.inr (.inr rfl)) .nil hr
    | own => exact absurd rfl (hn _ (List.mem_cons_self ..))
    | dead => simp [takeMarks, Prog.run] at hr
    | bor q => simp [takeMarks, Prog.run] at hr
    | ref s c gn => exact look s c gn (.inl rfl) hr
    | sub s c gn => exact look s c gn (.inr rfl) hr
end Go.GD
