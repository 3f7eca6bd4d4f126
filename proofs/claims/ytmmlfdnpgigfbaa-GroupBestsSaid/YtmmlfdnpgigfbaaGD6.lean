import Derived.Test.YtmmlfdnpgigfbaaGD5
namespace Go.GD
open Go

/-! ### what an operation reads -/

def NoOwn (ms : List Mk) : Prop := ∀ m, m ∈ ms → m ≠ .own

def okM (σ : St) : Mk → Prop
  | .own | .dead => False
  | .ref s c g | .sub s c g => validB σ s c g = true
  | .bor q => borOk σ q = true
  | _ => True

section
variable (C : Ctx) (g : Own) (σ : St) (tm : Array Value) (w : World)

/-- a value that is read: nothing in it is owned -/
def Val (v : Value) (tv : TV) : Prop :=
  ∃ cs, v = mkV tv.t cs ∧ RepX C.P w (Shd C g) (cl g σ tm w 0) tv.t 0 cs tv.x tv.ms ∧ NoOwn tv.ms ∧ ∀ m, m ∈ tv.ms → bndM σ m

def AV (v : Value) : A → Prop
  | .val tv => Val C g σ tm w v tv
  | .tup vs => ∃ vals : List Value, v = .tuple vals.toArray ∧ vals.length = vs.length ∧ ∀ (i : Nat) (u : Value) (tv : TV), vals[i]? = some u → vs[i]? = some tv → Val C g σ tm w u tv
  | .top => False
  | .box _ => False
  | .bptr s off id => SlotRep C g σ tm w 0 v (.bptr s off id) ∧ bndA σ (.bptr s off id)
  | .eptr s c gn i t x off => SlotRep C g σ tm w 0 v (.eptr s c gn i t x off) ∧ bndA σ (.eptr s c gn i t x off)
  | .cptr t x b => SlotRep C g σ tm w 0 v (.cptr t x b) ∧ bndA σ (.cptr t x b)
  | .mp _ _ => False
  | .mref s id => SlotRep C g σ tm w 0 v (.mref s id) ∧ bndA σ (.mref s id)

end

theorem refMarks_length (s gn : Nat) : (c : Nat) → (ms : List Mk) → (refMarks s gn c ms).length = ms.length
  | _, [] => rfl
  | c, _ :: l => by simp [refMarks, refMarks_length s gn (c + 1) l]

theorem refMarks_append (s gn : Nat) : (c : Nat) → (m1 m2 : List Mk) → refMarks s gn c (m1 ++ m2) = refMarks s gn c m1 ++ refMarks s gn (c + m1.length) m2
  | _, [], _ => by simp [refMarks]
  | c, a :: l, m2 => by simp [refMarks, refMarks_append s gn (c + 1) l m2, Nat.add_comm, Nat.add_left_comm]

theorem refMarks_noOwn (s gn : Nat) : (c : Nat) → (ms : List Mk) → NoOwn (refMarks s gn c ms)
  | _, [] => fun _ h => by cases h
  | c, a :: l => fun m h => by
    rcases List.mem_cons.1 h with rfl | h
    · cases a <;> simp [refMark]
    · exact refMarks_noOwn s gn (c + 1) l m h

theorem refMarks_bnd {σ : St} {s : Nat} : (c : Nat) → (ms : List Mk) → (∀ m, m ∈ ms → bndM σ m) → ∀ m, m ∈ refMarks s (listGet σ s).gen c ms → bndM σ m
  | _, [], _ => fun _ h => by cases h
  | c, a :: l, hb => fun m h => by
    rcases List.mem_cons.1 h with rfl | h
    · have := hb a (List.mem_cons_self ..)
      cases a with
      | own => exact Nat.le_refl _
      | _ => exact this
    · exact refMarks_bnd (c + 1) l (fun m hm => hb m (List.mem_cons_of_mem _ hm)) m h

theorem clm_noOwn {σ : St} {g : Own} {pv : Nat → Nat → Option Value} {m : Mk} (h : m ≠ .own) (s c s' c' : Nat) : clm σ g pv s c m = clm σ g pv s' c' m := by
  cases m <;> first | rfl | exact absurd rfl h

/-- without own marks it does not matter where the cells stand -/
theorem RepX.place {C : Ctx} {g : Own} {σ : St} {tm : Array Value} {w : World} {t : Ty} {s c : Nat} (s' c' : Nat) {cs : List Value} {x : t.den} {ms : List Mk}
    (h : RepX C.P w (Shd C g) (cl g σ tm w s) t c cs x ms) (hn : NoOwn ms) : RepX C.P w (Shd C g) (cl g σ tm w s') t c' cs x ms := by
  have hl := RepX.length _ h
  refine RepX.trans (Mono.refl _ _) t h rfl fun i hi => ?_
  have hm := hn _ (mem_of_markAt ms i (by omega))
  show CLe w w _ (clm _ _ _ s (c + i) _) (clm _ _ _ s' (c' + i) _)
  rw [clm_noOwn hm s' (c' + i) s (c + i)]
  generalize clm σ g (placeV σ tm w) s (c + i) (markAt ms i) = k
  cases k with
  | skip => exact .skip _
  | nilc => exact .nil
  | share n => exact .share _
  | hold B V => exact .hold _ _ _ _ (Mono.refl _ _) (fun _ h => h)

/-- cells as they are read off their slot -/
theorem RepX.refs {C : Ctx} {g : Own} {σ : St} {tm : Array Value} {w : World} {s : Nat} : (t : Ty) → ∀ {c : Nat} {cs : List Value} {x : t.den} {ms : List Mk},
    RepX C.P w (Shd C g) (cl g σ tm w s) t c cs x ms → (∀ i, i < t.size → placeV σ tm w s (c + i) = cs[i]?) →
    (∀ i, markAt ms i = .own → ((listGet σ s).a.mark (c + i)).isOwn = true) →
    RepX C.P w (Shd C g) (cl g σ tm w s) t c cs x (refMarks s (listGet σ s).gen c ms)
  | .unit, _, _, _, _, h, _, _ => by obtain ⟨h1, h2⟩ := h; subst h2; exact ⟨h1, rfl⟩
  | .int _, _, _, _, _, h, _, _ => by obtain ⟨m, e, h⟩ := h; subst e; exact ⟨_, rfl, h⟩
  | .bool, _, _, _, _, h, _, _ => by obtain ⟨m, e, h⟩ := h; subst e; exact ⟨_, rfl, h⟩
  | .str, _, _, _, _, h, _, _ => by obtain ⟨m, e, h⟩ := h; subst e; exact ⟨_, rfl, h⟩
  | .ptr _, _, _, _, _, h, _, _ => by obtain ⟨m, e, h⟩ := h; subst e; exact ⟨_, rfl, h⟩
  | .sl t, c, _, _, _, h, hp, ho => by
    obtain ⟨a, len, cap, m, rfl, rfl, h⟩ := h
    refine ⟨a, len, cap, _, rfl, rfl, ?_⟩
    cases m with
    | own =>
      have hv : validB σ s c (listGet σ s).gen = true := by
        have := ho 0 rfl
        simp only [validB, Bool.and_eq_true]
        exact ⟨Nat.beq_refl _, by simpa using this⟩
      show ((cl g σ tm w s c (.ref s c (listGet σ s).gen))).says _ _ _ _ _ _ _ _
      simp only [clm, hv, cond]
      exact ⟨h.1, by have := hp 0 (by simp [Ty.size]); simpa using this⟩
    | _ => exact h
  | .fn a b, c, _, _, _, h, hp, ho => by
    obtain ⟨v, m, rfl, rfl, hv, h⟩ := h
    refine ⟨v, _, rfl, rfl, hv, ?_⟩
    cases m with
    | own =>
      have hv : validB σ s c (listGet σ s).gen = true := by
        have := ho 0 rfl
        simp only [validB, Bool.and_eq_true]
        exact ⟨Nat.beq_refl _, by simpa using this⟩
      show ((cl g σ tm w s c (.ref s c (listGet σ s).gen))) ≠ .skip → _
      intro _
      have := h (by simp [clm])
      refine RepC.mono (.fn a b) ⟨Nat.le_refl _, fun b _ hb => ⟨rfl, hb.imp id fun hb => ?_⟩⟩ this
      simp only [refMark, clm, hv, cond]
      exact hb
    | _ => exact h
  | .pair a b, c, _, _, _, h, hp, ho => by
    obtain ⟨c1, c2, m1, m2, rfl, rfl, h1, h2⟩ := h
    have l1 := RepX.length a h1
    have l2 := RepX.length b h2
    refine ⟨c1, c2, refMarks s _ c m1, refMarks s _ (c + a.size) m2, rfl, by rw [refMarks_append, l1.2], RepX.refs a h1 (fun i hi => ?_) (fun i hi => ?_), RepX.refs b h2 (fun i hi => ?_) (fun i hi => ?_)⟩
    · rw [hp i (by simp only [Ty.size]; omega), List.getElem?_append_left (by omega)]
    · refine ho i ?_
      rcases Nat.lt_or_ge i m1.length with hlt | hge
      · rw [markAt_append_left _ _ _ hlt]; exact hi
      · exfalso
        have : markAt m1 i = .dead := by
          clear h1 l1 ho hp
          induction m1 generalizing i with
          | nil => rfl
          | cons a l ih =>
            cases i with
            | zero => simp at hge
            | succ i => exact ih i hi (by simpa using hge)
        rw [this] at hi; cases hi
    · have := hp (a.size + i) (by simp only [Ty.size]; omega)
      rw [← Nat.add_assoc] at this
      rw [this, List.getElem?_append_right (by omega), l1.1, show a.size + i - a.size = i by omega]
    · have := ho (a.size + i) (by rw [← l1.2]; rw [markAt_append_right]; exact hi)
      rwa [← Nat.add_assoc] at this

theorem cells_of_repX {C : Ctx} {g : Own} {σ : St} {tm : Array Value} {w : World} {s c : Nat} {t : Ty} {cs : List Value} {x : t.den} {ms : List Mk}
    (h : RepX C.P w (Shd C g) (cl g σ tm w s) t c cs x ms) : (mkV t cs).cells.toList = cs := by rw [mkV_cells h]

theorem SRep.val {C : Ctx} {g : Own} {σ : St} {tm : Array Value} {w : World} (h : SRep C g σ tm w) {s : Nat} {tv : TV} (ha : (listGet σ s).a = .val tv) :
    Val C g σ tm w (tm.getD s undef) { tv with ms := refMarks s (listGet σ s).gen 0 tv.ms } := by
  have hl : s < σ.length := by
    rcases Nat.lt_or_ge s σ.length with h' | h'
    · exact h'
    · rw [listGet_out _ _ h'] at ha; cases ha
  have hr := h.slots s hl
  have hb := h.bnd s hl
  rw [ha] at hr hb
  obtain ⟨cs, e, hr⟩ := hr
  refine ⟨cs, e, RepX.place 0 0 (RepX.refs tv.t hr (fun i hi => ?_) (fun i hi => ?_)) (refMarks_noOwn _ _ _ _), refMarks_noOwn _ _ _ _, refMarks_bnd _ _ hb⟩
  · simp only [placeV, ha, e, Nat.zero_add]
    rw [cells_of_repX hr]
  · rw [ha, Nat.zero_add]; simp [A.mark, hi, Mk.isOwn]

theorem SRep.tup {C : Ctx} {g : Own} {σ : St} {tm : Array Value} {w : World} (h : SRep C g σ tm w) {s : Nat} {vs : List TV} (ha : (listGet σ s).a = .tup vs) :
    AV C g σ tm w (tm.getD s undef) (.tup (refTup s (listGet σ s).gen 0 vs)) := by
  have hl : s < σ.length := by
    rcases Nat.lt_or_ge s σ.length with h' | h'
    · exact h'
    · rw [listGet_out _ _ h'] at ha; cases ha
  have hr := h.slots s hl
  have hb := h.bnd s hl
  rw [ha] at hr hb
  obtain ⟨vals, e, hr⟩ := hr
  refine ⟨vals, e, ?_⟩
  have hcells : ∀ i, placeV σ tm w s i = (vals.flatMap fun v => v.cells.toList)[i]? := by
    intro i
    simp only [placeV, ha, e, tupCells]
  have hmk : ∀ i, (markTup vs i).isOwn = true → ((listGet σ s).a.mark i).isOwn = true := by
    intro i hi; rw [ha]; exact hi
  -- over the rest of the tuple
  have key : ∀ (vs : List TV) (c : Nat) (vals : List Value), (∀ v, v ∈ vs → ∀ m, m ∈ v.ms → bndM σ m) →
      (∀ i v, (vals.flatMap fun v => v.cells.toList)[i]? = some v → placeV σ tm w s (c + i) = some v) →
      (∀ i, (markTup vs i).isOwn = true → ((listGet σ s).a.mark (c + i)).isOwn = true) → TupRep C g σ tm w s c vals vs →
      vals.length = (refTup s (listGet σ s).gen c vs).length ∧ ∀ (i : Nat) (u : Value) (tv : TV), vals[i]? = some u → (refTup s (listGet σ s).gen c vs)[i]? = some tv → Val C g σ tm w u tv := by
    intro vs
    induction vs with
    | nil =>
      intro c vals _ _ _ hr
      cases vals with
      | nil => exact ⟨rfl, fun i u tv h => by simp at h⟩
      | cons _ _ => exact hr.elim
    | cons tv l ih =>
      intro c vals hb hp ho hr
      cases vals with
      | nil => exact hr.elim
      | cons v vals =>
        obtain ⟨⟨cs, e, h1⟩, h2⟩ := hr
        have hlen := RepX.length _ h1
        have hcv : v.cells.toList = cs := by rw [e]; exact cells_of_repX h1
        have h0 : Val C g σ tm w v { tv with ms := refMarks s (listGet σ s).gen c tv.ms } := by
          refine ⟨cs, e, RepX.place 0 0 (RepX.refs tv.t h1 (fun i hi => ?_) (fun i hi => ?_)) (refMarks_noOwn _ _ _ _), refMarks_noOwn _ _ _ _, refMarks_bnd _ _ (hb tv (List.mem_cons_self ..))⟩
          · have hi' : i < cs.length := by omega
            rw [List.getElem?_eq_getElem hi']
            refine hp i _ ?_
            rw [List.flatMap_cons, hcv, List.getElem?_append_left hi', List.getElem?_eq_getElem hi']
          · refine ho i ?_
            have hlt : i < tv.ms.length := by
              rcases Nat.lt_or_ge i tv.ms.length with h | h
              · exact h
              · exfalso
                have : markAt tv.ms i = .dead := by
                  clear h1 h2 ho hb hp hlen
                  generalize tv.ms = ms at *
                  induction ms generalizing i with
                  | nil => rfl
                  | cons a l ih =>
                    cases i with
                    | zero => simp at h
                    | succ i => exact ih i hi (by simpa using h)
                rw [this] at hi; cases hi
            simp [markTup, hlt, Nat.blt_eq, hi, Mk.isOwn]
        obtain ⟨hl2, hv2⟩ := ih (c + tv.ms.length) vals (fun v hv => hb v (List.mem_cons_of_mem _ hv)) (fun i u hu => by
            have := hp (cs.length + i) u (by rw [List.flatMap_cons, hcv, List.getElem?_append_right (by omega), show cs.length + i - cs.length = i by omega]; exact hu)
            rw [show c + tv.ms.length + i = c + (cs.length + i) by omega]; exact this)
          (fun i hi => by
            have := ho (tv.ms.length + i) (by
              have : ¬ tv.ms.length + i < tv.ms.length := by omega
              simp only [markTup, Nat.blt_eq, this, ↓reduceIte]
              rw [show tv.ms.length + i - tv.ms.length = i by omega]; exact hi)
            rwa [← Nat.add_assoc] at this) h2
        refine ⟨by simp [refTup, hl2], fun i u tv' hu htv => ?_⟩
        cases i with
        | zero =>
          simp only [refTup, List.getElem?_cons_zero, Option.some.injEq] at hu htv
          subst hu; subst htv; exact h0
        | succ i =>
          simp only [refTup, List.getElem?_cons_succ] at hu htv
          exact hv2 i u tv' hu htv
  exact key vs 0 vals hb (fun i v hv => by rw [Nat.zero_add, hcells]; exact hv) (fun i hi => by rw [Nat.zero_add]; exact hmk i hi) hr

theorem SRep.lt {C : Ctx} {g : Own} {σ : St} {tm : Array Value} {w : World} (_ : SRep C g σ tm w) {s : Nat} (ha : (listGet σ s).a ≠ .top) : s < σ.length := by
  rcases Nat.lt_or_ge s σ.length with h' | h'
  · exact h'
  · rw [listGet_out _ _ h'] at ha; exact absurd rfl ha

/-- an operand as it is read -/
theorem rdA_inv {C : Ctx} {g : Own} {σ : St} {tm : Array Value} {w : World} {E : Env} {T : Nat} {o : Operand} {k : A → Prog} {ρ : Type} {K : St → Option ρ} {r : ρ} {ds : List Deferred}
    (h : SRep C g σ tm w) (hr : (rdA E T o k).run σ K = some r) : ∃ a, AV C g σ tm w (Act.eval ⟨tm, ds⟩ o) a ∧ (k a).run σ K = some r := by
  cases o with
  | tmp s =>
    simp only [rdA, Prog.run] at hr
    cases ha : (listGet σ s).a with
    | top => rw [ha] at hr; simp [Prog.run] at hr
    | val tv =>
      rw [ha] at hr
      exact ⟨.val _, h.val ha, hr⟩
    | tup vs =>
      rw [ha] at hr
      exact ⟨.tup _, h.tup ha, hr⟩
    | box tv =>
      rw [ha] at hr
      have hl := h.lt (s := s) (by rw [ha]; intro e; cases e)
      exact ⟨.bptr s 0 (listGet σ s).id, ⟨fun _ b hb => hb, Nat.le_refl _⟩, hr⟩
    | mp t ks =>
      rw [ha] at hr
      exact ⟨.mref s (listGet σ s).id, ⟨fun _ => rfl, Nat.le_refl _⟩, hr⟩
    | mref s' id =>
      rw [ha] at hr
      have hl := h.lt (s := s) (by rw [ha]; intro e; cases e)
      have := h.slots s hl
      have hb := h.bnd s hl
      rw [ha] at this hb
      exact ⟨.mref s' id, ⟨this, hb⟩, hr⟩
    | bptr s' off id =>
      rw [ha] at hr
      have hl := h.lt (s := s) (by rw [ha]; intro e; cases e)
      have := h.slots s hl
      have hb := h.bnd s hl
      rw [ha] at this hb
      exact ⟨.bptr s' off id, ⟨this, hb⟩, hr⟩
    | eptr s' c gn i t x off =>
      rw [ha] at hr
      have hl := h.lt (s := s) (by rw [ha]; intro e; cases e)
      have := h.slots s hl
      have hb := h.bnd s hl
      rw [ha] at this hb
      exact ⟨.eptr s' c gn i t x off, ⟨this, hb⟩, hr⟩
    | cptr t x b =>
      rw [ha] at hr
      have hl := h.lt (s := s) (by rw [ha]; intro e; cases e)
      have := h.slots s hl
      have hb := h.bnd s hl
      rw [ha] at this hb
      refine ⟨.cptr t x b, ⟨?_, hb⟩, hr⟩
      cases b with
      | none => exact this
      | some m => obtain ⟨s', c', g'⟩ := m; exact this
  | const v =>
    simp only [rdA] at hr
    cases ht : E.ty T with
    | none => rw [ht] at hr; simp [Prog.run] at hr
    | some t =>
      rw [ht] at hr
      simp only at hr
      cases hd : constD t v with
      | none => rw [hd] at hr; simp [Prog.run] at hr
      | some d =>
        rw [hd] at hr
        refine ⟨.val d, ?_, hr⟩
        show Val C g σ tm w v d
        unfold constD at hd
        split at hd
        · split at hd
          · injection hd with hd; subst hd
            rename_i k k' n hk
            refine ⟨[.int k n], ?_, ⟨_, rfl, rfl⟩, fun m hm => by simp at hm; subst hm; simp, fun m hm => by simp at hm; subst hm; trivial⟩
            rw [kindBeq_eq hk]; rfl
          · cases hd
        · injection hd with hd; subst hd
          exact ⟨_, rfl, ⟨_, rfl, rfl⟩, fun m hm => by simp at hm; subst hm; simp, fun m hm => by simp at hm; subst hm; trivial⟩
        · injection hd with hd; subst hd
          rename_i s
          exact ⟨_, rfl, ⟨_, rfl, rfl⟩, fun m hm => by simp at hm; subst hm; simp, fun m hm => by simp at hm; subst hm; trivial⟩
        · injection hd with hd; subst hd
          exact ⟨_, rfl, ⟨none, 0, 0, _, rfl, rfl, rfl, rfl, rfl, rfl⟩, fun m hm => by simp at hm; subst hm; simp, fun m hm => by simp at hm; subst hm; trivial⟩
        · cases hd
  | global _ => simp [rdA, Prog.run] at hr
  | func _ => simp [rdA, Prog.run] at hr

theorem useBor_inv {σ : St} {p : Prog} {ρ : Type} {K : St → Option ρ} {r : ρ} : (q : List (Nat × Nat × List Nat)) → (useBor q p).run σ K = some r → borOk σ q = true ∧ p.run σ K = some r
  | [], h => ⟨rfl, h⟩
  | (s, gn, cs) :: l, h => by
    simp only [useBor, Prog.run] at h
    split at h
    · rename_i hb
      obtain ⟨h1, h2⟩ := useBor_inv l h
      exact ⟨by simp only [borOk, borOk1, hb, h1]; rfl, h2⟩
    · simp [Prog.run] at h

theorem useMarks_inv {σ : St} {p : Prog} {ρ : Type} {K : St → Option ρ} {r : ρ} : (ms : List Mk) → (useMarks ms p).run σ K = some r → (∀ m, m ∈ ms → okM σ m) ∧ p.run σ K = some r
  | [], h => ⟨(fun _ h => by cases h), h⟩
  | m :: l, h => by
    cases m with
    | shr | nil | nn =>
      obtain ⟨h1, h2⟩ := useMarks_inv l h
      exact ⟨List.forall_mem_cons.2 ⟨trivial, h1⟩, h2⟩
    | own | dead => simp [useMarks, Prog.run] at h
    | ref s c gn | sub s c gn =>
      simp only [useMarks, Prog.run] at h
      split at h
      · rename_i hb
        obtain ⟨h1, h2⟩ := useMarks_inv l h
        exact ⟨List.forall_mem_cons.2 ⟨hb, h1⟩, h2⟩
      · simp [Prog.run] at h
    | bor q =>
      simp only [useMarks] at h
      obtain ⟨hq, h⟩ := useBor_inv q h
      obtain ⟨h1, h2⟩ := useMarks_inv l h
      exact ⟨List.forall_mem_cons.2 ⟨hq, h1⟩, h2⟩

theorem rdV_inv {C : Ctx} {g : Own} {σ : St} {tm : Array Value} {w : World} {E : Env} {T : Nat} {o : Operand} {k : TV → Prog} {ρ : Type} {K : St → Option ρ} {r : ρ} {ds : List Deferred}
    (h : SRep C g σ tm w) (hr : (rdV E T o k).run σ K = some r) : ∃ tv, Val C g σ tm w (Act.eval ⟨tm, ds⟩ o) tv ∧ (∀ m, m ∈ tv.ms → okM σ m) ∧ (k tv).run σ K = some r := by
  obtain ⟨a, ha, hr⟩ := rdA_inv (ds := ds) h hr
  cases a with
  | val tv =>
    obtain ⟨h1, h2⟩ := useMarks_inv _ hr
    exact ⟨tv, ha, h1, h2⟩
  | _ => simp [Prog.run] at hr

theorem rdInt_inv {C : Ctx} {g : Own} {σ : St} {tm : Array Value} {w : World} {o : Operand} {k : IntKind → Int → Prog} {ρ : Type} {K : St → Option ρ} {r : ρ} {ds : List Deferred}
    (h : SRep C g σ tm w) (hr : (rdInt o k).run σ K = some r) : ∃ kd n, Act.eval ⟨tm, ds⟩ o = .int kd n ∧ (k kd n).run σ K = some r := by
  cases o with
  | tmp s =>
    simp only [rdInt, Prog.run] at hr
    split at hr
    · rename_i kd x ms ha
      obtain ⟨cs, e, hx, _⟩ := h.val ha
      refine ⟨kd, x, ?_, hr⟩
      obtain ⟨m, _, hx⟩ := hx
      show tm.getD s undef = _
      rw [e, show cs = _ from hx]; rfl
    · simp [Prog.run] at hr
  | const v =>
    cases v <;> first
      | (simp [rdInt, Prog.run] at hr; done)
      | exact ⟨_, _, rfl, hr⟩
  | global _ => simp [rdInt, Prog.run] at hr
  | func _ => simp [rdInt, Prog.run] at hr

theorem rdBool_inv {C : Ctx} {g : Own} {σ : St} {tm : Array Value} {w : World} {o : Operand} {k : Bool → Prog} {ρ : Type} {K : St → Option ρ} {r : ρ} {ds : List Deferred}
    (h : SRep C g σ tm w) (hr : (rdBool o k).run σ K = some r) : ∃ b, Act.eval ⟨tm, ds⟩ o = .bool b ∧ (k b).run σ K = some r := by
  cases o with
  | tmp s =>
    simp only [rdBool, Prog.run] at hr
    split at hr
    · rename_i x ms ha
      obtain ⟨cs, e, hx, _⟩ := h.val ha
      refine ⟨x, ?_, hr⟩
      obtain ⟨m, _, hx⟩ := hx
      show tm.getD s undef = _
      rw [e, show cs = _ from hx]; rfl
    · simp [Prog.run] at hr
  | const v =>
    cases v <;> first
      | (simp [rdBool, Prog.run] at hr; done)
      | exact ⟨_, rfl, hr⟩
  | global _ => simp [rdBool, Prog.run] at hr
  | func _ => simp [rdBool, Prog.run] at hr

theorem rdSl_inv {C : Ctx} {g : Own} {σ : St} {tm : Array Value} {w : World} {o : Operand} {k : (t : Ty) → List t.den → Mk → Prog} {ρ : Type} {K : St → Option ρ} {r : ρ} {ds : List Deferred}
    (h : SRep C g σ tm w) (hr : (rdSl o k).run σ K = some r) : ∃ t xs m a len cap, Act.eval ⟨tm, ds⟩ o = .slice a len cap ∧ okM σ m ∧ m ≠ .own ∧ bndM σ m ∧
      (cl g σ tm w 0 0 m).says t.size w (Shd C g) (RepC C.P t w (Shd C g)) a len cap xs ∧ (k t xs m).run σ K = some r := by
  cases o with
  | tmp s =>
    simp only [rdSl, Prog.run] at hr
    split at hr
    · rename_i t xs m ha
      obtain ⟨cs, e, hx, hn, hb⟩ := h.val ha
      obtain ⟨h1, h2⟩ := useMarks_inv _ hr
      obtain ⟨a, len, cap, m', e1, e2, hs⟩ := hx
      simp only [refMarks, List.cons.injEq, and_true] at e2
      subst e2
      refine ⟨t, xs, _, a, len, cap, ?_, h1 _ (List.mem_cons_self ..), hn _ (List.mem_cons_self ..), hb _ (List.mem_cons_self ..), hs, h2⟩
      show tm.getD s undef = _
      rw [e, e1]; rfl
    · simp [Prog.run] at hr
  | const v => simp [rdSl, Prog.run] at hr
  | global _ => simp [rdSl, Prog.run] at hr
  | func _ => simp [rdSl, Prog.run] at hr

theorem rdP_inv {C : Ctx} {g : Own} {σ : St} {tm : Array Value} {w : World} {o : Operand} {k : A → Prog} {ρ : Type} {K : St → Option ρ} {r : ρ} {ds : List Deferred}
    (h : SRep C g σ tm w) (hr : (rdP o k).run σ K = some r) : ∃ a, AV C g σ tm w (Act.eval ⟨tm, ds⟩ o) a ∧ (k a).run σ K = some r ∧ (∀ tv, a ≠ .val tv) ∧ (∀ vs, a ≠ .tup vs) := by
  cases o with
  | tmp s =>
    simp only [rdP, Prog.run] at hr
    cases ha : (listGet σ s).a with
    | top | val | tup | mp | mref => rw [ha] at hr; simp [Prog.run] at hr
    | box tv =>
      rw [ha] at hr
      exact ⟨.bptr s 0 (listGet σ s).id, ⟨fun _ b hb => hb, Nat.le_refl _⟩, hr, (fun _ e => by cases e), (fun _ e => by cases e)⟩
    | bptr s' off id =>
      rw [ha] at hr
      have hl := h.lt (s := s) (by rw [ha]; intro e; cases e)
      have := h.slots s hl
      have hb := h.bnd s hl
      rw [ha] at this hb
      exact ⟨.bptr s' off id, ⟨this, hb⟩, hr, (fun _ e => by cases e), (fun _ e => by cases e)⟩
    | eptr s' c gn i t x off =>
      rw [ha] at hr
      have hl := h.lt (s := s) (by rw [ha]; intro e; cases e)
      have := h.slots s hl
      have hb := h.bnd s hl
      rw [ha] at this hb
      exact ⟨.eptr s' c gn i t x off, ⟨this, hb⟩, hr, (fun _ e => by cases e), (fun _ e => by cases e)⟩
    | cptr t x b =>
      rw [ha] at hr
      have hl := h.lt (s := s) (by rw [ha]; intro e; cases e)
      have := h.slots s hl
      have hb := h.bnd s hl
      rw [ha] at this hb
      refine ⟨.cptr t x b, ⟨?_, hb⟩, hr, (fun _ e => by cases e), (fun _ e => by cases e)⟩
      cases b with
      | none => exact this
      | some m => obtain ⟨s', c', g'⟩ := m; exact this
  | const v => simp [rdP, Prog.run] at hr
  | global _ => simp [rdP, Prog.run] at hr
  | func _ => simp [rdP, Prog.run] at hr
end Go.GD
