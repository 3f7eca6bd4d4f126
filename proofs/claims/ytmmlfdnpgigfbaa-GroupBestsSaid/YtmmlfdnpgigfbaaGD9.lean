import Derived.Test.YtmmlfdnpgigfbaaGD8
namespace Go.GD
open Go

/-- memory grows; what lives keeps its place -/
structure Grow (C : Ctx) (g : Own) (σ : St) (w : World) (g' : Own) (w' : World) : Prop where
  hs : w.heap.size ≤ w'.heap.size
  hH : ∀ b, b < w.heap.size → w'.heap[b]? = w.heap[b]?
  hn : ∀ b, b < w.heap.size → g b = none → g' b = none
  ho : ∀ b, b < w.heap.size → ∀ s c, ((listGet σ s).a.mark c).isOwn = true → g b = some (s, some c) → g' b = some (s, some c)
  hbx : ∀ b, b < w.heap.size → ∀ s, g b = some (s, none) → g' b = some (s, none)
  hok : ∀ b, g' b ≠ none → b < w'.heap.size ∧ (C.base ≤ b ∨ C.G b)
  io : SameIO w w'

theorem Grow.refl {C : Ctx} {g : Own} {σ : St} {tm : Array Value} {w : World} (h : SRep C g σ tm w) : Grow C g σ w g w :=
  ⟨Nat.le_refl _, fun _ _ => rfl, fun _ _ h => h, fun _ _ _ _ _ h => h, fun _ _ _ h => h, h.gok, .refl w⟩

/-- a world that only drew, or the same heap -/
theorem Grow.heap {C : Ctx} {g : Own} {σ : St} {tm : Array Value} {w w' : World} (h : SRep C g σ tm w) (he : w'.heap = w.heap) (hio : SameIO w w') : Grow C g σ w g w' :=
  ⟨by rw [he]; exact Nat.le_refl _, fun _ _ => by rw [he], fun _ _ h => h, fun _ _ _ _ _ h => h, fun _ _ _ h => h, fun b hb => by rw [he]; exact h.gok b hb, hio⟩

theorem Grow.step {C : Ctx} {g g' : Own} {σ : St} {tm tm' : Array Value} {w w' : World} {d : Nat} {a' : A} {i' n' : Nat} (gr : Grow C g σ w g' w')
    (htm : tm'.size = tm.size) (htm' : ∀ s, s ≠ d → tm'.getD s undef = tm.getD s undef) (hgen : (listGet σ d).gen < n')
    (hid : (i' = (listGet σ d).id ∧ tm'.getD d undef = tm.getD d undef) ∨ (listGet σ d).id < i') (hpin : ∀ v, C.pin d = some v → a'.isBox = true → tm'.getD d undef = v) : Step C g σ tm w g' tm' w' d a' i' n' :=
  ⟨gr.hs, fun b hb _ => gr.hH b hb, gr.hn, fun b hb s c _ => gr.ho b hb s c, fun b hb s _ => gr.hbx b hb s, gr.hok, htm, htm', hgen, hid, gr.io, hpin⟩

theorem getD_set_same {tm : Array Value} {d : Nat} {v : Value} (h : d < tm.size) : (tm.setIfInBounds d v).getD d undef = v := by
  simp [Array.getD, h]

theorem getD_set_other {tm : Array Value} {d s : Nat} {v : Value} (h : s ≠ d) : (tm.setIfInBounds d v).getD s undef = tm.getD s undef := by
  simp only [Array.getD_eq_getD_getElem?, Array.getElem?_setIfInBounds]
  rw [if_neg (fun e => h e.symm)]

/-- no slot is written -/
theorem SRep.grow {C : Ctx} {g g' : Own} {σ : St} {tm : Array Value} {w w' : World} (h : SRep C g σ tm w) (gr : Grow C g σ w g' w') : SRep C g' σ tm w' := by
  have st : Step C g σ tm w g' tm w' σ.length .top 1 1 := gr.step rfl (fun _ _ => rfl) (by rw [listGet_out _ _ (Nat.le_refl _)]; exact Nat.one_pos) (.inr (by rw [listGet_out _ _ (Nat.le_refl _)]; exact Nat.one_pos)) (fun _ _ hb => by cases hb)
  have := h.replace st (fun hl => absurd hl (Nat.lt_irrefl _))
  rwa [listSet_out _ _ _ (Nat.le_refl _)] at this

theorem put_sound {C : Ctx} {g g' : Own} {σ : St} {tm : Array Value} {w w' : World} {dst : Option Nat} {a0 : A} {v : Value} {ρ : Type} {K : St → Option ρ} {r : ρ} {ds : List Deferred}
    (h : SRep C g σ tm w) (gr : Grow C g σ w g' w')
    (new : ∀ d, dst = some d → d < σ.length → ∀ σ' tm', HandLe C g σ tm w g' σ' tm' w' → SlotRep C g' σ' tm' w' d v a0 ∧ bndA σ' a0)
    (hr : (putA dst a0 .fin).run σ K = some r) (hbox : a0.isBox = false ∨ ∀ d, dst = some d → C.pin d = none := by exact .inl rfl) :
    ∃ σ', SRep C g' σ' ((⟨tm, ds⟩ : Act).put dst v).tmps w' ∧ K σ' = some r ∧ ((⟨tm, ds⟩ : Act).put dst v).defers = ds := by
  cases dst with
  | none => exact ⟨σ, h.grow gr, hr, rfl⟩
  | some d =>
    simp only [putA, Prog.run] at hr
    have st : Step C g σ tm w g' (tm.setIfInBounds d v) w' d a0 ((listGet σ d).id + 1) ((listGet σ d).gen + 1) :=
      gr.step (by simp) (fun s hs => getD_set_other hs) (by omega) (.inr (by omega)) (fun v' hv hb => by
        rcases hbox with hbox | hbox
        · rw [hbox] at hb; cases hb
        · rw [hbox d rfl] at hv; cases hv)
    refine ⟨_, h.replace st (fun hl => ?_), hr, rfl⟩
    have hN : σ.length ≠ d := by omega
    have := new d rfl hl _ _ ((st.carry h _ hN).hand st.gens (listSet_length _ _ _))
    change SlotRep C g' _ (tm.setIfInBounds d v) w' d ((tm.setIfInBounds d v).getD d undef) a0 ∧ _
    rw [getD_set_same (by rw [h.len]; exact hl)]
    exact this

section
variable {C : Ctx} {g g' : Own} {σ σ' : St} {tm tm' : Array Value} {w w' : World}

theorem handy_val {tv : TV} (h : NoOwn tv.ms) : (A.val tv).handy := by
  intro i
  have : ∀ (ms : List Mk) (i : Nat), NoOwn ms → (markAt ms i).isOwn = false := by
    intro ms
    induction ms with
    | nil => intro i _; rfl
    | cons a l ih =>
      intro i hn
      cases i with
      | zero =>
        have := hn a (List.mem_cons_self ..)
        cases a <;> first | rfl | exact absurd rfl this
      | succ i => exact ih i (fun m hm => hn m (List.mem_cons_of_mem _ hm))
  exact this _ _ h

theorem Val.later (hv : HandLe C g σ tm w g' σ' tm' w') {v : Value} {tv : TV} (h : Val C g σ tm w v tv) : Val C g' σ' tm' w' v tv := by
  obtain ⟨cs, e, hx, hn, hb⟩ := h
  obtain ⟨cs', e', hx'⟩ := hv.rep v (.val tv) (handy_val hn) hb ⟨cs, e, hx.place _ _ hn⟩
  exact ⟨cs', e', hx'.place _ _ hn, hn, fun m hm => bndM_mono (fun s => (hv.gens s).1) (hb m hm)⟩

theorem Val.slot {v : Value} {tv : TV} (h : Val C g σ tm w v tv) (d c : Nat) : ValRep C g σ tm w d c v tv := by
  obtain ⟨cs, e, hx, hn, hb⟩ := h
  exact ⟨cs, e, hx.place _ _ hn⟩

theorem TupRep.of_vals {d : Nat} : (vs : List TV) → (c : Nat) → (vals : List Value) → vals.length = vs.length →
    (∀ (i : Nat) (u : Value) (tv : TV), vals[i]? = some u → vs[i]? = some tv → Val C g σ tm w u tv) → TupRep C g σ tm w d c vals vs
  | [], _, [], _, _ => trivial
  | [], _, _ :: _, hl, _ => by simp at hl
  | _ :: _, _, [], hl, _ => by simp at hl
  | tv :: vs, c, v :: vals, hl, h =>
    ⟨(h 0 v tv rfl rfl).slot d c, TupRep.of_vals vs _ vals (by simpa using hl) fun i u tv hu htv => h (i + 1) u tv hu htv⟩

theorem AV.new {v : Value} {a : A} (h : AV C g σ tm w v a) (hv : HandLe C g σ tm w g' σ' tm' w') (d : Nat) : SlotRep C g' σ' tm' w' d v a ∧ bndA σ' a := by
  cases a with
  | top => exact h.elim
  | box _ => exact h.elim
  | val tv =>
    have := Val.later hv h
    exact ⟨this.slot d 0, this.choose_spec.2.2.2⟩
  | tup vs =>
    obtain ⟨vals, e, hl, hp⟩ := h
    refine ⟨⟨vals, e, TupRep.of_vals vs 0 vals hl fun i u tv hu htv => Val.later hv (hp i u tv hu htv)⟩, fun tv htv m hm => ?_⟩
    obtain ⟨i, hi, he⟩ := List.mem_iff_getElem.1 htv
    have := Val.later hv (hp i (vals[i]'(by omega)) tv (List.getElem?_eq_getElem _) (by rw [List.getElem?_eq_getElem hi, he]))
    exact this.choose_spec.2.2.2 m hm
  | mp _ _ => exact h.elim
  | mref s id => exact ⟨hv.rep v _ (fun _ => rfl) h.2 h.1, bndA_mono hv.gens h.2⟩
  | bptr s off id => exact ⟨hv.rep v _ (fun _ => rfl) h.2 h.1, bndA_mono hv.gens h.2⟩
  | eptr s c gn i t x off => exact ⟨hv.rep v _ (fun _ => rfl) h.2 h.1, bndA_mono hv.gens h.2⟩
  | cptr t x b =>
    obtain ⟨h1, h2⟩ := h
    have := hv.rep v (.cptr t x b) (fun _ => rfl) h2 (by cases b <;> exact h1)
    exact ⟨by cases b <;> exact this, bndA_mono hv.gens h2⟩

/-- a plain value -/
theorem Val.int (k : IntKind) (n : Int) : Val C g σ tm w (.int k n) ⟨.int k, n, [.shr]⟩ :=
  ⟨_, rfl, ⟨_, rfl, rfl⟩, fun m hm => by simp at hm; subst hm; simp, fun m hm => by simp at hm; subst hm; trivial⟩

theorem Val.bool (b : Bool) : Val C g σ tm w (.bool b) ⟨.bool, b, [.shr]⟩ :=
  ⟨_, rfl, ⟨_, rfl, rfl⟩, fun m hm => by simp at hm; subst hm; simp, fun m hm => by simp at hm; subst hm; trivial⟩

end

def Good {ρ : Type} (C : Ctx) (K : St → Option ρ) (r : ρ) (ds : List Deferred) (next : Act → World → Prop) : Prop :=
  ∀ g' σ' (a' : Act) w', SRep C g' σ' a'.tmps w' → a'.defers = ds → K σ' = some r → next a' w'

/-- an operation whose value is known, of which nothing is owned -/
theorem av_sound {C : Ctx} {g g' : Own} {σ : St} {tm : Array Value} {w w' : World} {o : Oper} {a0 : A} {v : Value} {ρ : Type} {K : St → Option ρ} {r : ρ} {ds : List Deferred}
    {next : Act → World → Prop} {Q : Exit → Act → World → Prop}
    (h : SRep C g σ tm w) (gr : Grow C g σ w g' w') (hexec : (execOp (Act.eval ⟨tm, ds⟩) o).run C.P w = .ok (.value v) w')
    (ha : AV C g σ tm w v a0) (hr : (putA o.dst a0 .fin).run σ K = some r) (hK : Good C K r ds next) : o.wp C.P ⟨tm, ds⟩ w next Q := by
  unfold Oper.wp
  rw [hexec, Oper.upon_value]
  obtain ⟨σ', h1, h2, h3⟩ := put_sound (v := v) (ds := ds) h gr (fun d _ _ σ' tm' hv => ha.new hv d) hr (by
    cases a0 with
    | box _ => exact ha.elim
    | _ => exact .inl rfl)
  exact hK _ _ _ _ h1 h3 h2

/-- an operation with a value that is laid into a new slot content -/
theorem new_sound {C : Ctx} {g g' : Own} {σ : St} {tm : Array Value} {w w' : World} {o : Oper} {a0 : A} {v : Value} {ρ : Type} {K : St → Option ρ} {r : ρ} {ds : List Deferred}
    {next : Act → World → Prop} {Q : Exit → Act → World → Prop}
    (h : SRep C g σ tm w) (gr : Grow C g σ w g' w') {w0 : World} (hexec : (execOp (Act.eval ⟨tm, ds⟩) o).run C.P w0 = .ok (.value v) w')
    (new : ∀ d, o.dst = some d → d < σ.length → ∀ σ' tm', HandLe C g σ tm w g' σ' tm' w' → SlotRep C g' σ' tm' w' d v a0 ∧ bndA σ' a0)
    (hr : (putA o.dst a0 .fin).run σ K = some r) (hK : Good C K r ds next) (hbox : a0.isBox = false ∨ ∀ d, o.dst = some d → C.pin d = none := by exact .inl rfl) : o.wp C.P ⟨tm, ds⟩ w0 next Q := by
  unfold Oper.wp
  rw [hexec, Oper.upon_value]
  obtain ⟨σ', h1, h2, h3⟩ := put_sound (v := v) (ds := ds) h gr new hr hbox
  exact hK _ _ _ _ h1 h3 h2

/-- the hand's blocks become a slot's -/
def handTo (g : Own) (N d off : Nat) : Own := fun b =>
  match g b with
  | some (s, some c) => if s = N then some (d, some (off + c)) else some (s, some c)
  | x => x

theorem handTo_none {g : Own} {N d off b : Nat} (h : g b = none) : handTo g N d off b = none := by simp [handTo, h]
theorem handTo_box {g : Own} {N d off b s : Nat} (h : g b = some (s, none)) : handTo g N d off b = some (s, none) := by simp [handTo, h]
theorem handTo_other {g : Own} {N d off b s c : Nat} (h : g b = some (s, some c)) (hs : s ≠ N) : handTo g N d off b = some (s, some c) := by simp [handTo, h, hs]
theorem handTo_hand {g : Own} {N d off b c : Nat} (h : g b = some (N, some c)) : handTo g N d off b = some (d, some (off + c)) := by simp [handTo, h]
theorem handTo_le {g : Own} {N d off b : Nat} (h : handTo g N d off b ≠ none) : g b ≠ none := fun hb => h (handTo_none hb)

theorem Grow.handTo {C : Ctx} {g : Own} {σ : St} {tm : Array Value} {w : World} (h : SRep C g σ tm w) (d off : Nat) : Grow C g σ w (handTo g σ.length d off) w := by
  refine ⟨Nat.le_refl _, fun _ _ => rfl, fun b _ hb => handTo_none hb, fun b _ s c hm hb => handTo_other hb ?_, fun b _ s hb => handTo_box hb, fun b hb => h.gok b (handTo_le hb), .refl w⟩
  intro e
  rw [e, listGet_out _ _ (Nat.le_refl _)] at hm
  cases hm

/-- a laid value, out of the hand into its cells -/
theorem laid_cells {C : Ctx} {g1 g' : Own} {σ1 σ' : St} {tm tm' : Array Value} {w w' : World} {N d off : Nat} {t : Ty} {cs : List Value} {x : t.den} {ms : List Mk}
    (hx : RepX C.P w (Shd C g1) (cl g1 σ1 tm w N) t 0 cs x ms) (hl : Laid ms) (hsh : Mono w (Shd C g1) w' (Shd C g'))
    (hp : ∀ c, Mono w (fun b => g1 b = some (N, some c)) w' (fun b => g' b = some (d, some (off + c)))) :
    RepX C.P w' (Shd C g') (cl g' σ' tm' w' d) t off cs x ms := by
  have hlen := RepX.length _ hx
  refine RepX.trans hsh t hx rfl fun i hi => ?_
  rw [Nat.zero_add]
  rcases hl _ (mem_of_markAt ms i (by omega)) with e | e | e <;> rw [e]
  · exact .hold _ _ _ _ (hp i) (fun _ h => h)
  · exact .share _
  · exact .nil

theorem laid_bnd {σ : St} {ms : List Mk} (hl : Laid ms) : ∀ m, m ∈ ms → bndM σ m := by
  intro m hm
  rcases hl m hm with rfl | rfl | rfl <;> trivial

theorem mono_handTo {C : Ctx} {g : Own} {w : World} (N d off : Nat) : Mono w (Shd C g) w (Shd C (handTo g N d off)) :=
  ⟨Nat.le_refl _, fun _ _ hb => ⟨rfl, hb.1, handTo_none hb.2⟩⟩

end Go.GD
