import Derived.Test.YtmmlfdnpgigfbaaGD4
namespace Go.GD
open Go

theorem bndM_mono {σ σ' : St} (h : ∀ s, (listGet σ s).gen ≤ (listGet σ' s).gen) {m : Mk} (hb : bndM σ m) : bndM σ' m := by
  cases m with
  | ref s c g => exact Nat.le_trans hb (h s)
  | sub s c g => exact Nat.le_trans hb (h s)
  | bor q => exact fun s g cs hm => Nat.le_trans (hb s g cs hm) (h s)
  | _ => trivial

theorem bndA_mono {σ σ' : St} (h : ∀ s, (listGet σ s).gen ≤ (listGet σ' s).gen ∧ (listGet σ s).id ≤ (listGet σ' s).id) {a : A} (hb : bndA σ a) : bndA σ' a := by
  cases a with
  | val v => exact fun m hm => bndM_mono (fun s => (h s).1) (hb m hm)
  | box v => exact fun m hm => bndM_mono (fun s => (h s).1) (hb m hm)
  | tup vs => exact fun v hv m hm => bndM_mono (fun s => (h s).1) (hb v hv m hm)
  | bptr s off id => exact Nat.le_trans hb (h s).2
  | eptr s c g i t x off => exact Nat.le_trans hb (h s).1
  | cptr t x bor =>
    cases bor with
    | none => trivial
    | some m => obtain ⟨s, c, g⟩ := m; exact Nat.le_trans hb (h s).1
  | top => trivial
  | mp t ks => trivial
  | mref s id => exact Nat.le_trans hb (h s).2

theorem mark_top_dead (c : Nat) : (A.mark .top c).isOwn = false := rfl

theorem validB_lt {σ : St} {s c g : Nat} (h : validB σ s c g = true) : s < σ.length := by
  rcases Nat.lt_or_ge s σ.length with h' | h'
  · exact h'
  · rw [validB, listGet_out _ _ h'] at h
    simp [A.mark, Mk.isOwn] at h

theorem borOk1_lt {σ : St} {s g : Nat} {cs : List Nat} (h : borOk1 σ s g cs = true) : s < σ.length := by
  rcases Nat.lt_or_ge s σ.length with h' | h'
  · exact h'
  · rw [borOk1, listGet_out _ _ h'] at h
    simp [A.isBox] at h

theorem owns_mem {a : A} : (cs : List Nat) → a.owns cs = true → ∀ c, c ∈ cs → (a.mark c).isOwn = true
  | [], _, _, h => by cases h
  | c :: l, ho, c', h => by
    simp only [A.owns, Bool.and_eq_true] at ho
    rcases List.mem_cons.1 h with rfl | h
    · exact ho.1
    · exact owns_mem l ho.2 c' h

theorem tm_get_out {tm : Array Value} {s : Nat} (h : tm.size ≤ s) : tm.getD s undef = undef := by
  simp [Array.getD, Nat.not_lt.2 h]

/-- the conditions of a step after which slot d has a new content; memory may grow, and the slot's own blocks may change -/
structure Step (C : Ctx) (g : Own) (σ : St) (tm : Array Value) (w : World) (g' : Own) (tm' : Array Value) (w' : World) (d : Nat) (a' : A) (i' n' : Nat) : Prop where
  hs : w.heap.size ≤ w'.heap.size
  hH : ∀ b, b < w.heap.size → (∀ x, g b ≠ some (d, x)) → w'.heap[b]? = w.heap[b]?
  hn : ∀ b, b < w.heap.size → g b = none → g' b = none
  ho : ∀ b, b < w.heap.size → ∀ s c, s ≠ d → ((listGet σ s).a.mark c).isOwn = true → g b = some (s, some c) → g' b = some (s, some c)
  hbx : ∀ b, b < w.heap.size → ∀ s, s ≠ d → g b = some (s, none) → g' b = some (s, none)
  hok : ∀ b, g' b ≠ none → b < w'.heap.size ∧ (C.base ≤ b ∨ C.G b)
  htm : tm'.size = tm.size
  htm' : ∀ s, s ≠ d → tm'.getD s undef = tm.getD s undef
  hgen : (listGet σ d).gen < n'
  hid : (i' = (listGet σ d).id ∧ tm'.getD d undef = tm.getD d undef) ∨ (listGet σ d).id < i'
  io : SameIO w w'
  hpin : ∀ v, C.pin d = some v → a'.isBox = true → tm'.getD d undef = v

theorem Step.carry {C : Ctx} {g g' : Own} {σ : St} {tm tm' : Array Value} {w w' : World} {d : Nat} {a' : A} {i' n' : Nat} (h : SRep C g σ tm w)
    (st : Step C g σ tm w g' tm' w' d a' i' n') (s : Nat) (hsd : s ≠ d) : Carry C g σ tm w g' (listSet σ d ⟨a', i', n'⟩) tm' w' s := by
  obtain ⟨hs, hH, hn, ho, hbx, hok, htm, htm', hgen, hid, _⟩ := st
  have get_d : d < σ.length → listGet (listSet σ d ⟨a', i', n'⟩) d = ⟨a', i', n'⟩ := listGet_set_same _ _ _
  have get_o : ∀ s, s ≠ d → listGet (listSet σ d ⟨a', i', n'⟩) s = listGet σ s := fun s hs => listGet_set_other _ _ _ _ hs
  have hnotd : ∀ b s x, s ≠ d → g b = some (s, x) → ∀ y, g b ≠ some (d, y) := by
    intro b s x hsd hb y hy
    rw [hb] at hy
    injection hy with hy
    injection hy with hy _
    exact hsd hy
  have ref : ∀ s' c' g0, validB (listSet σ d ⟨a', i', n'⟩) s' c' g0 = true → g0 ≤ (listGet σ s').gen → s' ≠ d ∧ validB σ s' c' g0 = true := by
    intro s' c' g0 hv hg
    have hl := validB_lt hv
    rw [listSet_length] at hl
    by_cases hd : s' = d
    · subst hd
      rw [validB, get_d hl] at hv
      simp only [Bool.and_eq_true] at hv
      have : n' = g0 := Nat.eq_of_beq_eq_true hv.1
      omega
    · refine ⟨hd, ?_⟩
      rw [validB, get_o s' hd] at hv
      exact hv
  refine ⟨⟨hs, fun b hb hk => ?_⟩, fun c hc => ⟨hs, fun b hb hk => ?_⟩, ⟨hs, fun b hb hk => ?_⟩, fun s' c' g0 hv hg => ?_, fun s' g0 cs hv hg => ?_, fun s' id hi hle => ?_⟩
  · exact ⟨hH b hb (fun x hx => by rw [hk.2] at hx; cases hx), hk.1, hn b hb hk.2⟩
  · exact ⟨hH b hb (hnotd b s _ hsd hk), ho b hb s c hsd hc hk⟩
  · exact ⟨hH b hb (hnotd b s _ hsd hk), hbx b hb s hsd hk⟩
  · obtain ⟨hd, hv'⟩ := ref s' c' g0 hv hg
    have hl := validB_lt hv'
    have hown : ((listGet σ s').a.mark c').isOwn = true := by simp only [validB, Bool.and_eq_true] at hv'; exact hv'.2
    refine ⟨hv', ⟨hs, fun b hb hk => ⟨hH b hb (hnotd b s' _ hd hk), ho b hb s' c' hd hown hk⟩⟩, ?_⟩
    have hsl := h.slots s' hl
    unfold placeV
    rw [get_o s' hd, htm' s' hd]
    cases ha : (listGet σ s').a with
    | box tv =>
      rw [ha] at hsl
      obtain ⟨b, e, cs, hv2, hg2, hh, _⟩ := hsl
      rw [hv2]
      exact cell_congr (hH b (heap_lt hh) (hnotd b s' _ hd hg2))
    | _ => rfl
  · have hl := borOk1_lt hv
    rw [listSet_length] at hl
    by_cases hd : s' = d
    · subst hd
      rw [borOk1, get_d hl] at hv
      simp only [Bool.and_eq_true] at hv
      have : n' = g0 := Nat.eq_of_beq_eq_true hv.1
      omega
    · have hv' : borOk1 σ s' g0 cs = true := by rw [borOk1, get_o s' hd] at hv; exact hv
      have hown : ∀ c, c ∈ cs → ((listGet σ s').a.mark c).isOwn = true := by
        simp only [borOk1, Bool.and_eq_true] at hv'; exact owns_mem cs hv'.2.2
      exact ⟨hv', ⟨hs, fun b hb hk => ⟨hH b hb (hnotd b s' _ hd hk), hbx b hb s' hd hk⟩⟩,
        fun c hc => ⟨hs, fun b hb hk => ⟨hH b hb (hnotd b s' _ hd hk), ho b hb s' c hd (hown c hc) hk⟩⟩⟩
  · by_cases hd : s' = d
    · subst hd
      rcases Nat.lt_or_ge s' σ.length with hl | hl
      · rw [get_d hl] at hi
        simp only at hi
        rcases hid with hid | hid
        · exact ⟨hid.1.symm.trans hi, hid.2⟩
        · omega
      · rw [listSet_out _ _ _ hl] at hi
        exact ⟨hi, by rw [tm_get_out (by rw [htm, h.len]; exact hl), tm_get_out (by rw [h.len]; exact hl)]⟩
    · rw [get_o s' hd] at hi
      exact ⟨hi, htm' s' hd⟩

theorem Step.gens {C : Ctx} {g g' : Own} {σ : St} {tm tm' : Array Value} {w w' : World} {d : Nat} {a' : A} {i' n' : Nat}
    (st : Step C g σ tm w g' tm' w' d a' i' n') (s : Nat) :
    (listGet σ s).gen ≤ (listGet (listSet σ d ⟨a', i', n'⟩) s).gen ∧ (listGet σ s).id ≤ (listGet (listSet σ d ⟨a', i', n'⟩) s).id := by
  by_cases hsd : s = d
  · subst hsd
    rcases Nat.lt_or_ge s σ.length with hl | hl
    · rw [listGet_set_same _ _ _ hl]
      refine ⟨Nat.le_of_lt st.hgen, ?_⟩
      rcases st.hid with hid | hid
      · exact Nat.le_of_eq hid.1.symm
      · exact Nat.le_of_lt hid
    · rw [listSet_out _ _ _ hl]; exact ⟨Nat.le_refl _, Nat.le_refl _⟩
  · rw [listGet_set_other _ _ _ _ hsd]; exact ⟨Nat.le_refl _, Nat.le_refl _⟩

theorem SRep.replace {C : Ctx} {g g' : Own} {σ : St} {tm tm' : Array Value} {w w' : World} {d : Nat} {a' : A} {i' n' : Nat} (h : SRep C g σ tm w)
    (st : Step C g σ tm w g' tm' w' d a' i' n')
    (new : d < σ.length → SlotRep C g' (listSet σ d ⟨a', i', n'⟩) tm' w' d (tm'.getD d undef) a' ∧ bndA (listSet σ d ⟨a', i', n'⟩) a') :
    SRep C g' (listSet σ d ⟨a', i', n'⟩) tm' w' := by
  refine ⟨by rw [st.htm, h.len, listSet_length], fun s hl => ?_, fun s hl => ?_, st.hok, fun b hb hG => ?_, Nat.le_trans h.size st.hs, h.io.trans st.io, fun s v hv hbx => ?_⟩
  · rw [listSet_length] at hl
    by_cases hsd : s = d
    · subst hsd
      rw [listGet_set_same _ _ _ hl]
      exact (new hl).1
    · rw [listGet_set_other _ _ _ _ hsd, st.htm' s hsd]
      exact (st.carry h s hsd).slotRep (h.bnd s hl) (h.slots s hl)
  · rw [listSet_length] at hl
    by_cases hsd : s = d
    · subst hsd
      rw [listGet_set_same _ _ _ hl]
      exact (new hl).2
    · rw [listGet_set_other _ _ _ _ hsd]
      exact bndA_mono st.gens (h.bnd s hl)
  · rw [← h.frame b hb hG]
    refine st.hH b (Nat.lt_of_lt_of_le hb h.size) fun x hx => ?_
    have := (h.gok b (by rw [hx]; simp)).2
    rcases this with this | this
    · omega
    · exact hG this
  · by_cases hsd : s = d
    · subst hsd
      rcases Nat.lt_or_ge s σ.length with hl | hl
      · rw [listGet_set_same _ _ _ hl] at hbx; exact st.hpin v hv hbx
      · rw [listSet_out _ _ _ hl, listGet_out _ _ hl] at hbx; cases hbx
    · rw [listGet_set_other _ _ _ _ hsd] at hbx
      rw [st.htm' s hsd]
      exact h.pin s v hv hbx

/-! ### a mark is struck -/

theorem markAt_setMarkL : (ms : List Mk) → (c i : Nat) → (m : Mk) → c < ms.length → markAt (setMarkL ms c m) i = if i = c then m else markAt ms i
  | [], _, _, _, h => by simp at h
  | _ :: _, 0, 0, _, _ => by simp [setMarkL, markAt]
  | _ :: _, 0, i + 1, _, _ => by simp [setMarkL, markAt]
  | _ :: _, c + 1, 0, _, _ => by simp [setMarkL, markAt]
  | _ :: l, c + 1, i + 1, m, h => by
    have := markAt_setMarkL l c i m (by simpa using h)
    simp only [setMarkL, markAt, this]
    by_cases hi : i = c <;> simp [hi]

theorem setMarkL_length : (ms : List Mk) → (c : Nat) → (m : Mk) → (setMarkL ms c m).length = ms.length
  | [], _, _ => rfl
  | _ :: _, 0, _ => rfl
  | _ :: l, c + 1, m => by simp [setMarkL, setMarkL_length l c m]

theorem setMarkL_out : (ms : List Mk) → (c : Nat) → (m : Mk) → ms.length ≤ c → setMarkL ms c m = ms
  | [], _, _, _ => rfl
  | _ :: _, 0, _, h => by simp at h
  | _ :: l, c + 1, m, h => by rw [setMarkL, setMarkL_out l c m (by simpa using h)]

theorem isOwn_setMarkL {ms : List Mk} {c i : Nat} {m : Mk} (hm : m.isOwn = false) (h : (markAt (setMarkL ms c m) i).isOwn = true) :
    (markAt ms i).isOwn = true ∧ (i = c → False) := by
  rcases Nat.lt_or_ge c ms.length with hc | hc
  · rw [markAt_setMarkL _ _ _ _ hc] at h
    split at h
    · rw [hm] at h; cases h
    · rename_i hne; exact ⟨h, hne⟩
  · rw [setMarkL_out _ _ _ hc] at h
    refine ⟨h, fun e => ?_⟩
    subst e
    have : markAt ms i = .dead := by
      clear h
      induction ms generalizing i with
      | nil => rfl
      | cons a l ih =>
        cases i with
        | zero => simp at hc
        | succ i => exact ih (by simpa using hc)
    rw [this] at h; cases h

theorem isOwn_setMarkTup : (vs : List TV) → (c i : Nat) → (m : Mk) → m.isOwn = false → (markTup (setMarkTup vs c m) i).isOwn = true → (markTup vs i).isOwn = true ∧ i ≠ c
  | [], _, _, _, _, h => by cases h
  | v :: l, c, i, m, hm, h => by
    by_cases hc : c < v.ms.length
    · simp only [setMarkTup, Nat.blt_eq, hc, ↓reduceIte, markTup, setMarkL_length] at h
      by_cases hi : i < v.ms.length
      · simp only [hi, ↓reduceIte] at h
        have := isOwn_setMarkL hm h
        simp only [markTup, Nat.blt_eq, hi, ↓reduceIte]
        exact ⟨this.1, this.2⟩
      · simp only [hi, ↓reduceIte] at h
        simp only [markTup, Nat.blt_eq, hi, ↓reduceIte]
        exact ⟨h, by omega⟩
    · simp only [setMarkTup, Nat.blt_eq, hc, ↓reduceIte, markTup] at h
      by_cases hi : i < v.ms.length
      · simp only [hi, ↓reduceIte] at h
        simp only [markTup, Nat.blt_eq, hi, ↓reduceIte]
        exact ⟨h, by omega⟩
      · simp only [hi, ↓reduceIte] at h
        have := isOwn_setMarkTup l (c - v.ms.length) (i - v.ms.length) m hm h
        simp only [markTup, Nat.blt_eq, hi, ↓reduceIte]
        exact ⟨this.1, by omega⟩

theorem isOwn_setMark {a : A} {c i : Nat} {m : Mk} (hm : m.isOwn = false) (h : ((a.setMark c m).mark i).isOwn = true) : (a.mark i).isOwn = true ∧ i ≠ c := by
  cases a with
  | val v => exact isOwn_setMarkL hm h
  | box v => exact isOwn_setMarkL hm h
  | tup vs => exact isOwn_setMarkTup vs c i m hm h
  | _ => cases h

theorem isBox_setMark (a : A) (c : Nat) (m : Mk) : (a.setMark c m).isBox = a.isBox := by cases a <;> rfl

theorem owns_setMark {a : A} {c : Nat} {m : Mk} (hm : m.isOwn = false) : (cs : List Nat) → (a.setMark c m).owns cs = true → a.owns cs = true ∧ ∀ i, i ∈ cs → i ≠ c
  | [], _ => ⟨rfl, fun _ h => by cases h⟩
  | i :: l, h => by
    simp only [A.owns, Bool.and_eq_true] at h ⊢
    have h1 := isOwn_setMark hm h.1
    have h2 := owns_setMark hm l h.2
    refine ⟨⟨h1.1, h2.1⟩, fun j hj => ?_⟩
    rcases List.mem_cons.1 hj with rfl | hj
    · exact h1.2
    · exact h2.2 j hj

/-- what the blocks of a place become: another place's, or everybody's -/
def struck (g : Own) (s c : Nat) (p : Option (Nat × Option Nat)) : Own := fun b => if g b = some (s, some c) then p else g b

theorem struck_other {g : Own} {s c : Nat} {p : Option (Nat × Option Nat)} {b : Nat} (h : g b ≠ some (s, some c)) : struck g s c p b = g b := by
  unfold struck; rw [if_neg h]

theorem struck_same {g : Own} {s c : Nat} {p : Option (Nat × Option Nat)} {b : Nat} (h : g b = some (s, some c)) : struck g s c p b = p := by
  unfold struck; rw [if_pos h]

theorem struck_none {g : Own} {s c : Nat} {p : Option (Nat × Option Nat)} {b : Nat} (h : g b = none) : struck g s c p b = none := by
  rw [struck_other (by rw [h]; simp)]; exact h

theorem struck_le {g : Own} {s c : Nat} {p : Option (Nat × Option Nat)} {b : Nat} (h : struck g s c p b ≠ none) : g b ≠ none := fun hb => h (struck_none hb)

/-- what a struck mark leaves of the others -/
structure Struck (C : Ctx) (g : Own) (σ : St) (tm : Array Value) (w : World) (s c : Nat) (m : Mk) (p : Option (Nat × Option Nat)) (σ' : St) : Prop where
  gens : ∀ t, (listGet σ' t).gen = (listGet σ t).gen ∧ (listGet σ' t).id = (listGet σ t).id
  place : ∀ t x, (t, x) ≠ (s, some c) → Mono w (fun b => g b = some (t, x)) w (fun b => struck g s c p b = some (t, x))
  sh : Mono w (Shd C g) w (Shd C (struck g s c p))
  pv : ∀ t i, placeV σ' tm w t i = placeV σ tm w t i
  ref : ∀ s' c' g0, validB σ' s' c' g0 = true → validB σ s' c' g0 = true ∧ (s', some c') ≠ (s, some c)
  bor : ∀ s' g0 cs, borOk1 σ' s' g0 cs = true → borOk1 σ s' g0 cs = true ∧ ∀ i, i ∈ cs → (s', some i) ≠ (s, some c)
  carry : ∀ t, t ≠ s → Carry C g σ tm w (struck g s c p) σ' tm w t

theorem struck_facts {C : Ctx} {g : Own} {σ : St} {tm : Array Value} {w : World} {s c : Nat} {m : Mk} {p : Option (Nat × Option Nat)} (hmo : m.isOwn = false)
    (hs : ((listGet σ s).a.mark c).isOwn = true) : Struck C g σ tm w s c m p (listSet σ s { listGet σ s with a := (listGet σ s).a.setMark c m }) := by
  have hl : s < σ.length := by
    rcases Nat.lt_or_ge s σ.length with h' | h'
    · exact h'
    · rw [listGet_out _ _ h'] at hs; cases hs
  have get_s : listGet (listSet σ s { listGet σ s with a := (listGet σ s).a.setMark c m }) s = { listGet σ s with a := (listGet σ s).a.setMark c m } := listGet_set_same _ _ _ hl
  have get_o : ∀ t, t ≠ s → listGet (listSet σ s { listGet σ s with a := (listGet σ s).a.setMark c m }) t = listGet σ t := fun t ht => listGet_set_other _ _ _ _ ht
  generalize hσ' : listSet σ s { listGet σ s with a := (listGet σ s).a.setMark c m } = σ' at *
  have gens : ∀ t, (listGet σ' t).gen = (listGet σ t).gen ∧ (listGet σ' t).id = (listGet σ t).id := by
    intro t
    by_cases ht : t = s
    · subst ht; rw [get_s]; exact ⟨rfl, rfl⟩
    · rw [get_o t ht]; exact ⟨rfl, rfl⟩
  have marks : ∀ t i, ((listGet σ' t).a.mark i).isOwn = true → ((listGet σ t).a.mark i).isOwn = true ∧ (t, some i) ≠ (s, some c) := by
    intro t i hi
    by_cases ht : t = s
    · subst ht; rw [get_s] at hi
      have := isOwn_setMark hmo hi
      exact ⟨this.1, fun e => this.2 (by injection e with _ e; injection e)⟩
    · rw [get_o t ht] at hi
      exact ⟨hi, fun e => ht (by injection e)⟩
  have mono_place : ∀ t x, (t, x) ≠ (s, some c) → Mono w (fun b => g b = some (t, x)) w (fun b => struck g s c p b = some (t, x)) := by
    intro t x hx
    refine ⟨Nat.le_refl _, fun b _ hb => ⟨rfl, ?_⟩⟩
    show struck g s c p b = _
    rw [struck_other (by rw [show g b = _ from hb]; intro e; injection e with e; exact hx e)]; exact hb
  have mono_sh : Mono w (Shd C g) w (Shd C (struck g s c p)) := ⟨Nat.le_refl _, fun b _ hb => ⟨rfl, hb.1, struck_none hb.2⟩⟩
  have pv : ∀ t i, placeV σ' tm w t i = placeV σ tm w t i := by
    intro t i
    unfold placeV
    by_cases ht : t = s
    · subst ht; rw [get_s]
      cases (listGet σ t).a <;> rfl
    · rw [get_o t ht]
  have href : ∀ s' c' g0, validB σ' s' c' g0 = true → validB σ s' c' g0 = true ∧ (s', some c') ≠ (s, some c) := by
    intro s' c' g0 hv
    simp only [validB, Bool.and_eq_true] at hv ⊢
    have := marks s' c' hv.2
    rw [(gens s').1] at hv
    exact ⟨⟨hv.1, this.1⟩, this.2⟩
  have hbor : ∀ s' g0 cs, borOk1 σ' s' g0 cs = true → borOk1 σ s' g0 cs = true ∧ ∀ i, i ∈ cs → (s', some i) ≠ (s, some c) := by
    intro s' g0 cs hv
    simp only [borOk1, Bool.and_eq_true] at hv ⊢
    rw [(gens s').1] at hv
    by_cases ht : s' = s
    · subst ht
      rw [get_s] at hv
      simp only [isBox_setMark] at hv
      have := owns_setMark hmo cs hv.2.2
      exact ⟨⟨hv.1, hv.2.1, this.1⟩, fun i hi e => this.2 i hi (by injection e with _ e; injection e)⟩
    · rw [get_o s' ht] at hv
      exact ⟨hv, fun i hi e => ht (by injection e)⟩
  refine ⟨gens, mono_place, mono_sh, pv, href, hbor, fun t ht => ?_⟩
  refine ⟨mono_sh, fun i hi => mono_place t _ (fun e => ht (by injection e)), mono_place t _ (fun e => by injection e with _ e; cases e), fun s' c' g0 hv _ => ?_, fun s' g0 cs hv _ => ?_, fun s' id hi _ => ?_⟩
  · have := href s' c' g0 hv
    exact ⟨this.1, mono_place _ _ this.2, pv _ _⟩
  · have := hbor s' g0 cs hv
    exact ⟨this.1, mono_place _ _ (fun e => by injection e with _ e; cases e), fun i hi => mono_place _ _ (this.2 i hi)⟩
  · rw [(gens s').2] at hi; exact ⟨hi, rfl⟩

theorem SRep.strike {C : Ctx} {g : Own} {σ : St} {tm : Array Value} {w : World} (h : SRep C g σ tm w) {s c : Nat} {m : Mk} {p : Option (Nat × Option Nat)}
    (hm : m = .dead ∨ (m = .shr ∧ p = none)) (hs : ((listGet σ s).a.mark c).isOwn = true) :
    SRep C (struck g s c p) (listSet σ s { listGet σ s with a := (listGet σ s).a.setMark c m }) tm w := by
  have hmo : m.isOwn = false := by rcases hm with rfl | ⟨rfl, _⟩ <;> rfl
  have hl : s < σ.length := by
    rcases Nat.lt_or_ge s σ.length with h' | h'
    · exact h'
    · rw [listGet_out _ _ h'] at hs; cases hs
  have get_s : listGet (listSet σ s { listGet σ s with a := (listGet σ s).a.setMark c m }) s = { listGet σ s with a := (listGet σ s).a.setMark c m } := listGet_set_same _ _ _ hl
  have get_o : ∀ t, t ≠ s → listGet (listSet σ s { listGet σ s with a := (listGet σ s).a.setMark c m }) t = listGet σ t := fun t ht => listGet_set_other _ _ _ _ ht
  obtain ⟨gens, mono_place, mono_sh, pv, href, hbor, carry⟩ := struck_facts (C := C) (g := g) (tm := tm) (w := w) (p := p) hmo hs
  generalize hσ' : listSet σ s { listGet σ s with a := (listGet σ s).a.setMark c m } = σ' at *
  have cle : ∀ i m', bndM σ m' → (m' = .own → i ≠ c ∧ True) → CLe w w (Shd C (struck g s c p)) (cl g σ tm w s i m') (cl (struck g s c p) σ' tm w s i m') := by
    intro i m' hb ho
    cases m' with
    | shr => exact .share _
    | nn => exact .share _
    | nil => exact .nil
    | dead => exact .skip _
    | own => exact .hold _ _ _ _ (mono_place s _ (fun e => (ho rfl).1 (by injection e with _ e; injection e))) (fun _ h => h)
    | ref s' c' g0 =>
      simp only [clm]
      cases hv : validB σ' s' c' g0 with
      | false => exact .skip _
      | true =>
        obtain ⟨h1, h2⟩ := href s' c' g0 hv
        rw [h1]
        exact .hold _ _ _ _ (mono_place _ _ h2) (fun v hv => (pv _ _).trans hv)
    | sub s' c' g0 =>
      simp only [clm]
      cases hv : validB σ' s' c' g0 with
      | false => exact .skip _
      | true =>
        obtain ⟨h1, h2⟩ := href s' c' g0 hv
        rw [h1]
        exact .hold _ _ _ _ (mono_place _ _ h2) (fun v hv => hv)
    | bor q =>
      simp only [clm]
      cases hv : borOk σ' q with
      | false => exact .skip _
      | true =>
        have : borOk σ q = true ∧ Mono w (borBlocks g q) w (borBlocks (struck g s c p) q) := by
          clear hb ho
          induction q with
          | nil => exact ⟨rfl, Nat.le_refl _, fun b _ hb => by obtain ⟨_, _, _, hm, _⟩ := hb; cases hm⟩
          | cons p0 l ih =>
            obtain ⟨s', g0, cs⟩ := p0
            simp only [borOk, Bool.and_eq_true] at hv
            obtain ⟨h1, h2⟩ := ih hv.2
            obtain ⟨h3, h4⟩ := hbor s' g0 cs hv.1
            refine ⟨by simp [borOk, h3, h1], Nat.le_refl _, fun b hb hk => ?_⟩
            obtain ⟨t, gn, ds, hm, hor⟩ := hk
            rcases List.mem_cons.1 hm with he | hm
            · injection he with e1 e2; injection e2 with e2 e3
              subst e1; subst e2; subst e3
              rcases hor with hor | ⟨i, hc, hor⟩
              · exact ⟨rfl, _, _, _, List.mem_cons_self .., .inl ((mono_place t none (fun e => by injection e with _ e; cases e)).2 b hb hor).2⟩
              · exact ⟨rfl, _, _, _, List.mem_cons_self .., .inr ⟨i, hc, ((mono_place t _ (h4 i hc)).2 b hb hor).2⟩⟩
            · obtain ⟨e, t', gn', ds', hm', hor'⟩ := h2.2 b hb ⟨t, gn, ds, hm, hor⟩
              exact ⟨e, t', gn', ds', List.mem_cons_of_mem _ hm', hor'⟩
        rw [this.1]
        exact .hold _ _ _ _ this.2 (fun v hv => hv)
  have cle_c : CLe w w (Shd C (struck g s c p)) (cl g σ tm w s c .own) (cl (struck g s c p) σ' tm w s c m) := by
    rcases hm with rfl | ⟨rfl, rfl⟩
    · exact .skip _
    · refine .hold_share _ _ ⟨Nat.le_refl _, fun b _ hb => ⟨rfl, ?_, ?_⟩⟩
      · have := (h.gok b (by rw [show g b = _ from hb]; simp)).2
        rcases this with this | this
        · exact .inl this
        · exact .inr (.inr this)
      · exact struck_same hb
  -- a value in slot s from cell c0 on
  have valS : ∀ (c0 : Nat) (cs : List Value) (tv : TV), (∀ m, m ∈ tv.ms → bndM σ m) → RepX C.P w (Shd C g) (cl g σ tm w s) tv.t c0 cs tv.x tv.ms →
      (c < c0 ∨ c0 + tv.ms.length ≤ c → RepX C.P w (Shd C (struck g s c p)) (cl (struck g s c p) σ' tm w s) tv.t c0 cs tv.x tv.ms) ∧
      (∀ i, c = c0 + i → markAt tv.ms i = .own → RepX C.P w (Shd C (struck g s c p)) (cl (struck g s c p) σ' tm w s) tv.t c0 cs tv.x (setMarkL tv.ms i m)) := by
    intro c0 cs tv hb hr
    have hlen := RepX.length _ hr
    refine ⟨fun hc => ?_, fun i hi hown => ?_⟩
    · exact RepX.trans mono_sh tv.t hr rfl fun j hj => cle _ _ (hb _ (mem_of_markAt _ _ (by omega))) (fun _ => ⟨by omega, trivial⟩)
    · refine RepX.trans mono_sh tv.t hr (setMarkL_length _ _ _) fun j hj => ?_
      have hil : i < tv.ms.length := by
        rcases Nat.lt_or_ge i tv.ms.length with h' | h'
        · exact h'
        · exfalso
          have : markAt tv.ms i = .dead := by
            clear hown hi hr hb hlen hj
            generalize tv.ms = ms at *
            induction ms generalizing i with
            | nil => rfl
            | cons a l ih =>
              cases i with
              | zero => simp at h'
              | succ i => exact ih i (by simpa using h')
          rw [this] at hown; cases hown
      rw [markAt_setMarkL _ _ _ _ hil]
      by_cases hji : j = i
      · subst hji
        rw [if_pos rfl, hown, ← hi]
        exact cle_c
      · rw [if_neg hji]
        exact cle _ _ (hb _ (mem_of_markAt _ _ (by omega))) (fun _ => ⟨by omega, trivial⟩)
  have tupS : ∀ (vs : List TV) (c0 i : Nat) (vals : List Value), c = c0 + i → (∀ v, v ∈ vs → ∀ m, m ∈ v.ms → bndM σ m) → (markTup vs i).isOwn = true →
      TupRep C g σ tm w s c0 vals vs → TupRep C (struck g s c p) σ' tm w s c0 vals (setMarkTup vs i m) := by
    intro vs
    induction vs with
    | nil => intro c0 i vals _ _ ho _; cases ho
    | cons tv l ih =>
      intro c0 i vals hc hb ho hr
      cases vals with
      | nil => exact hr.elim
      | cons v vals =>
        obtain ⟨⟨cs, e, h1⟩, h2⟩ := hr
        have hv := valS c0 cs tv (hb tv (List.mem_cons_self ..)) h1
        by_cases hi : i < tv.ms.length
        · simp only [markTup, Nat.blt_eq, hi, ↓reduceIte] at ho
          have hown : markAt tv.ms i = .own := by
            generalize markAt tv.ms i = x at ho
            cases x <;> first | rfl | cases ho
          simp only [setMarkTup, Nat.blt_eq, hi, ↓reduceIte]
          refine ⟨⟨cs, e, hv.2 i hc hown⟩, ?_⟩
          simp only [setMarkL_length]
          -- the rest is not touched
          have rest : ∀ (l : List TV) (c1 : Nat) (vals : List Value), c < c1 → (∀ v, v ∈ l → ∀ m, m ∈ v.ms → bndM σ m) → TupRep C g σ tm w s c1 vals l → TupRep C (struck g s c p) σ' tm w s c1 vals l := by
            intro l
            induction l with
            | nil => intro c1 vals _ _ hr; cases vals with
              | nil => trivial
              | cons _ _ => exact hr.elim
            | cons tv l ih =>
              intro c1 vals hlt hb hr
              cases vals with
              | nil => exact hr.elim
              | cons v vals =>
                obtain ⟨⟨cs, e, h1⟩, h2⟩ := hr
                exact ⟨⟨cs, e, (valS c1 cs tv (hb tv (List.mem_cons_self ..)) h1).1 (.inl hlt)⟩, ih _ _ (by omega) (fun v hv => hb v (List.mem_cons_of_mem _ hv)) h2⟩
          exact rest l _ vals (by omega) (fun v hv => hb v (List.mem_cons_of_mem _ hv)) h2
        · simp only [markTup, Nat.blt_eq, hi, ↓reduceIte] at ho
          simp only [setMarkTup, Nat.blt_eq, hi, ↓reduceIte]
          exact ⟨⟨cs, e, hv.1 (.inr (by omega))⟩, ih _ _ vals (by omega) (fun v hv => hb v (List.mem_cons_of_mem _ hv)) ho h2⟩
  have hpin : ∀ t v, C.pin t = some v → (listGet σ' t).a.isBox = true → tm.getD t undef = v := fun t v hv hb => by
    by_cases ht : t = s
    · subst ht
      rw [get_s] at hb
      simp only [isBox_setMark] at hb
      exact h.pin t v hv hb
    · rw [get_o t ht] at hb
      exact h.pin t v hv hb
  refine ⟨by rw [h.len, ← hσ', listSet_length], fun t ht => ?_, fun t ht => ?_, fun b hb => h.gok b (struck_le hb), h.frame, h.size, h.io, hpin⟩
  · rw [← hσ', listSet_length] at ht
    by_cases hts : t = s
    · subst hts
      rw [get_s]
      have hsl := h.slots t ht
      have hbl := h.bnd t ht
      cases ha : (listGet σ t).a with
      | val tv =>
        rw [ha] at hsl hbl hs
        obtain ⟨cs, e, hr⟩ := hsl
        have hown : markAt tv.ms c = .own := by
          change (markAt tv.ms c).isOwn = true at hs
          generalize markAt tv.ms c = x at hs
          cases x <;> first | rfl | cases hs
        exact ⟨cs, e, (valS 0 cs tv hbl hr).2 c (by omega) hown⟩
      | tup vs =>
        rw [ha] at hsl hbl hs
        obtain ⟨vals, e, hr⟩ := hsl
        exact ⟨vals, e, tupS vs 0 c vals (by omega) hbl hs hr⟩
      | box tv =>
        rw [ha] at hsl hbl hs
        obtain ⟨b, e, cs, hv, hg, hh, hr⟩ := hsl
        have hown : markAt tv.ms c = .own := by
          change (markAt tv.ms c).isOwn = true at hs
          generalize markAt tv.ms c = x at hs
          cases x <;> first | rfl | cases hs
        refine ⟨b, e, cs, hv, ?_, hh, (valS 0 cs tv hbl hr).2 c (by omega) hown⟩
        rw [struck_other (by rw [hg]; intro e; injection e with e; injection e with _ e; cases e)]; exact hg
      | _ => rw [ha] at hs; cases hs
    · rw [get_o t hts]
      exact (carry t hts).slotRep (h.bnd t ht) (h.slots t ht)
  · rw [← hσ', listSet_length] at ht
    have hbl := h.bnd t ht
    have mg : ∀ s, (listGet σ s).gen ≤ (listGet σ' s).gen ∧ (listGet σ s).id ≤ (listGet σ' s).id := fun s => ⟨Nat.le_of_eq (gens s).1.symm, Nat.le_of_eq (gens s).2.symm⟩
    by_cases hts : t = s
    · subst hts
      rw [get_s]
      have hmm : ∀ m', m' = m → bndM σ' m' := by rintro _ rfl; rcases hm with rfl | ⟨rfl, _⟩ <;> trivial
      have lem : ∀ (ms : List Mk) (c : Nat), (∀ m', m' ∈ ms → bndM σ m') → ∀ m', m' ∈ setMarkL ms c m → bndM σ' m' := by
        intro ms
        induction ms with
        | nil => intro c _ m' hm'; cases hm'
        | cons a l ih =>
          intro c hb m' hm'
          cases c with
          | zero =>
            rcases List.mem_cons.1 hm' with e | hm'
            · exact hmm _ e
            · exact bndM_mono (fun s => (mg s).1) (hb _ (List.mem_cons_of_mem _ hm'))
          | succ c =>
            rcases List.mem_cons.1 hm' with rfl | hm'
            · exact bndM_mono (fun s => (mg s).1) (hb _ (List.mem_cons_self ..))
            · exact ih c (fun m'' h'' => hb _ (List.mem_cons_of_mem _ h'')) m' hm'
      cases ha : (listGet σ t).a with
      | val tv => rw [ha] at hbl; exact lem tv.ms c hbl
      | box tv => rw [ha] at hbl; exact lem tv.ms c hbl
      | tup vs =>
        rw [ha] at hbl
        have lt : ∀ (vs : List TV) (c : Nat), (∀ v, v ∈ vs → ∀ m', m' ∈ v.ms → bndM σ m') → ∀ v, v ∈ setMarkTup vs c m → ∀ m', m' ∈ v.ms → bndM σ' m' := by
          intro vs
          induction vs with
          | nil => intro c _ v hv; cases hv
          | cons tv l ih =>
            intro c hb v hv m' hm'
            by_cases hc : c < tv.ms.length
            · simp only [setMarkTup, Nat.blt_eq, hc, ↓reduceIte] at hv
              rcases List.mem_cons.1 hv with rfl | hv
              · exact lem tv.ms c (hb tv (List.mem_cons_self ..)) m' hm'
              · exact bndM_mono (fun s => (mg s).1) (hb v (List.mem_cons_of_mem _ hv) m' hm')
            · simp only [setMarkTup, Nat.blt_eq, hc, ↓reduceIte] at hv
              rcases List.mem_cons.1 hv with rfl | hv
              · exact bndM_mono (fun s => (mg s).1) (hb _ (List.mem_cons_self ..) m' hm')
              · exact ih _ (fun v hv => hb v (List.mem_cons_of_mem _ hv)) v hv m' hm'
        exact lt vs c hbl
      | _ => rw [ha] at hs; cases hs
    · rw [get_o t hts]
      exact bndA_mono mg hbl
end Go.GD
