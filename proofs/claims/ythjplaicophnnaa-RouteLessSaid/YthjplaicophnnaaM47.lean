import Derived.Test.YthjplaicophnnaaGD25
namespace Go.Proofs.Ythjplaicophnnaa.D

/-! ### plans of tasks: those that a search finds, and all -/

structure Prob where
  n : Nat
  k : Nat
  sec : Nat → Int
  ok : Nat → Nat → Bool
  cl : Nat → Nat → Bool

structure Prob.Good (X : Prob) : Prop where
  sec : ∀ i, i < X.n → 1 ≤ X.sec i ∧ X.sec i ≤ 86400
  sym : ∀ i j, i < X.n → j < X.n → X.cl i j = X.cl j i

abbrev Pl := Nat × Nat × Int

def maxT (l : List Int) : Int := l.foldl max 0
theorem foldl_max : ∀ (l : List Int) (a : Int), a ≤ l.foldl max a ∧ (∀ x, x ∈ l → x ≤ l.foldl max a) ∧ (l.foldl max a = a ∨ l.foldl max a ∈ l)
  | [], a => ⟨Int.le_refl a, nofun, .inl rfl⟩
  | y :: l, a => by
    obtain ⟨h1, h2, h3⟩ := foldl_max l (max a y)
    refine ⟨by simp only [List.foldl_cons]; omega, fun x hx => ?_, ?_⟩
    · simp only [List.foldl_cons]
      rcases List.mem_cons.1 hx with rfl | hx
      · omega
      · exact h2 x hx
    · simp only [List.foldl_cons, List.mem_cons]
      rcases h3 with h3 | h3
      · rw [h3]; omega
      · exact .inr (.inr h3)
theorem maxT_nonneg (l : List Int) : 0 ≤ maxT l := (foldl_max l 0).1
theorem maxT_ub {l : List Int} {x : Int} (h : x ∈ l) : x ≤ maxT l := (foldl_max l 0).2.1 x h
theorem maxT_att (l : List Int) : maxT l = 0 ∨ maxT l ∈ l := (foldl_max l 0).2.2
theorem maxT_le {l : List Int} {b : Int} (h0 : 0 ≤ b) (h : ∀ x, x ∈ l → x ≤ b) : maxT l ≤ b := by
  rcases maxT_att l with e | e
  · omega
  · exact h _ e
theorem maxT_append (l : List Int) (x : Int) : maxT (l ++ [x]) = max (maxT l) x := by simp [maxT, List.foldl_append]
theorem maxT_uniq {l : List Int} {e : Int} (h0 : 0 ≤ e) (h : ∀ x, x ∈ l → x ≤ e) (ha : e = 0 ∨ e ∈ l) : e = maxT l := by
  have h1 := maxT_le h0 h
  rcases ha with rfl | ha
  · have := maxT_nonneg l; omega
  · have := maxT_ub ha; omega

section
variable (X : Prob)
def toT (x : Pl) : Int := x.2.2 + X.sec x.1
def conf (i g : Nat) (x : Pl) : Bool := x.2.1 == g || X.cl i x.1
def early (p : List Pl) (i g : Nat) : Int := maxT ((p.filter (conf X i g)).map (toT X))
def endOf (p : List Pl) : Int := maxT (p.map (toT X))

/-- the ways in which a search goes on; nd: the beginnings must not decrease -/
inductive Run (nd : Bool) : List Pl → List Pl → Prop where
  | refl (p : List Pl) : Run nd p p
  | step (p q : List Pl) (i g : Nat) (hi : i < X.n) (hp : ∀ x, x ∈ p → x.1 ≠ i) (hg : 1 ≤ g) (hk : g ≤ X.k) (ho : X.ok i g = true) (hn : nd = true → ∀ x, x ∈ p → x.2.2 ≤ early X p i g)
      (h : Run nd (p ++ [(i, g, early X p i g)]) q) : Run nd p q

structure Inv (p : List Pl) : Prop where
  rng : ∀ x, x ∈ p → x.1 < X.n ∧ 1 ≤ x.2.1 ∧ x.2.1 ≤ X.k ∧ X.ok x.1 x.2.1 = true ∧ 0 ≤ x.2.2
  nd : (p.map (·.1)).Nodup
  ap : p.Pairwise fun x y => (x.2.1 = y.2.1 ∨ X.cl y.1 x.1 = true) → toT X x ≤ y.2.2
  bd : ∀ x, x ∈ p → toT X x ≤ p.length * 86400

structure VP (G : Nat → Nat) (F : Nat → Int) : Prop where
  rng : ∀ i, i < X.n → 1 ≤ G i ∧ G i ≤ X.k ∧ X.ok i (G i) = true ∧ 0 ≤ F i
  ap : ∀ i j, i < X.n → j < X.n → i ≠ j → (G i = G j ∨ X.cl i j = true) → F i + X.sec i ≤ F j ∨ F j + X.sec j ≤ F i
end

section
variable {X : Prob}
theorem early_nonneg (p : List Pl) (i g : Nat) : 0 ≤ early X p i g := maxT_nonneg _
theorem early_ub {p : List Pl} {i g : Nat} {x : Pl} (h : x ∈ p) (hc : conf X i g x = true) : toT X x ≤ early X p i g := maxT_ub (List.mem_map.2 ⟨x, List.mem_filter.2 ⟨h, hc⟩, rfl⟩)
theorem early_att (p : List Pl) (i g : Nat) : early X p i g = 0 ∨ ∃ x, x ∈ p ∧ conf X i g x = true ∧ toT X x = early X p i g := by
  rcases maxT_att ((p.filter (conf X i g)).map (toT X)) with h | h
  · exact .inl h
  · obtain ⟨x, hx, e⟩ := List.mem_map.1 h
    exact .inr ⟨x, (List.mem_filter.1 hx).1, (List.mem_filter.1 hx).2, e⟩
theorem early_le {p : List Pl} {i g : Nat} {b : Int} (h0 : 0 ≤ b) (h : ∀ x, x ∈ p → conf X i g x = true → toT X x ≤ b) : early X p i g ≤ b := maxT_le h0 fun y hy => by
  obtain ⟨x, hx, rfl⟩ := List.mem_map.1 hy
  exact h x (List.mem_filter.1 hx).1 (List.mem_filter.1 hx).2
theorem endOf_ub {p : List Pl} {x : Pl} (h : x ∈ p) : toT X x ≤ endOf X p := maxT_ub (List.mem_map.2 ⟨x, h, rfl⟩)
theorem endOf_le {p : List Pl} {b : Int} (h0 : 0 ≤ b) (h : ∀ x, x ∈ p → toT X x ≤ b) : endOf X p ≤ b := maxT_le h0 fun y hy => by
  obtain ⟨x, hx, rfl⟩ := List.mem_map.1 hy
  exact h x hx
theorem endOf_append (p : List Pl) (x : Pl) : endOf X (p ++ [x]) = max (endOf X p) (toT X x) := by simp [endOf, maxT_append]
theorem endOf_nonneg (p : List Pl) : 0 ≤ endOf X p := maxT_nonneg _

theorem Run.trans {nd : Bool} {p q r : List Pl} (h : Run X nd p q) (k : Run X nd q r) : Run X nd p r := by
  induction h with
  | refl p => exact k
  | step p q i g hi hp hg hk ho hn _ ih => exact .step p r i g hi hp hg hk ho hn (ih k)
theorem Run.pre {nd : Bool} {p q : List Pl} (h : Run X nd p q) : ∃ r, q = p ++ r := by
  induction h with
  | refl p => exact ⟨[], by simp⟩
  | step p q i g hi hp hg hk ho hn _ ih =>
    obtain ⟨r, rfl⟩ := ih
    exact ⟨(i, g, early X p i g) :: r, by simp⟩
theorem Run.forget {nd : Bool} {p q : List Pl} (h : Run X nd p q) : Run X false p q := by
  induction h with
  | refl p => exact .refl p
  | step p q i g hi hp hg hk ho hn _ ih => exact .step p q i g hi hp hg hk ho (fun h => by cases h) ih
theorem Run.end_le {nd : Bool} {p q : List Pl} (h : Run X nd p q) : endOf X p ≤ endOf X q := by
  obtain ⟨r, rfl⟩ := h.pre
  exact endOf_le (endOf_nonneg _) fun x hx => endOf_ub (List.mem_append_left _ hx)
theorem Run.full {nd : Bool} {p q : List Pl} (h : Run X nd p q) (hl : q.length ≤ p.length) : q = p := by
  obtain ⟨r, rfl⟩ := h.pre
  cases r with
  | nil => simp
  | cons x r => simp at hl; omega

theorem Inv.nil : Inv X [] := ⟨nofun, List.nodup_nil, .nil, nofun⟩
theorem Inv.step (hX : X.Good) {p : List Pl} (h : Inv X p) {i g : Nat} (hi : i < X.n) (hp : ∀ x, x ∈ p → x.1 ≠ i) (hg : 1 ≤ g) (hk : g ≤ X.k) (ho : X.ok i g = true) : Inv X (p ++ [(i, g, early X p i g)]) := by
  have hle : early X p i g ≤ p.length * 86400 := early_le (by omega) fun x hx _ => h.bd x hx
  refine ⟨fun x hx => ?_, ?_, ?_, fun x hx => ?_⟩
  · rcases List.mem_append.1 hx with hx | hx
    · exact h.rng x hx
    · rw [List.mem_singleton.1 hx]; exact ⟨hi, hg, hk, ho, early_nonneg _ _ _⟩
  · rw [List.map_append, List.map_singleton, List.nodup_append]
    refine ⟨h.nd, by simp, fun a ha b hb => ?_⟩
    obtain ⟨x, hx, rfl⟩ := List.mem_map.1 ha
    rw [List.mem_singleton.1 hb]
    exact hp x hx
  · rw [List.pairwise_append]
    refine ⟨h.ap, List.pairwise_singleton _ _, fun x hx y hy hc => ?_⟩
    rw [List.mem_singleton.1 hy] at hc ⊢
    refine early_ub hx ?_
    unfold conf
    rcases hc with hc | hc
    · simp [hc]
    · simp only [] at hc; simp [hc]
  · rw [List.length_append, List.length_singleton]
    rcases List.mem_append.1 hx with hx | hx
    · have := h.bd x hx; omega
    · rw [List.mem_singleton.1 hx]
      have := (hX.sec i hi).2
      show early X p i g + X.sec i ≤ _
      omega
theorem Run.inv (hX : X.Good) {nd : Bool} {p q : List Pl} (h : Run X nd p q) (hp : Inv X p) : Inv X q := by
  induction h with
  | refl p => exact hp
  | step p q i g hi hp' hg hk ho hn _ ih => exact ih (hp.step hX hi hp' hg hk ho)

/-! a list without doubles -/
theorem nd_len : ∀ (l m : List Nat), l.Nodup → (∀ x, x ∈ l → x ∈ m) → l.length ≤ m.length
  | [], _, _, _ => Nat.zero_le _
  | a :: l, m, hn, hs => by
    have ha := hs a (List.mem_cons_self ..)
    have := nd_len l (m.erase a) (List.nodup_cons.1 hn).2 fun x hx => by
      refine (List.mem_erase_of_ne ?_).2 (hs x (List.mem_cons_of_mem _ hx))
      rintro rfl
      exact (List.nodup_cons.1 hn).1 hx
    rw [List.length_erase_of_mem ha] at this
    have hp : 0 < m.length := List.length_pos_of_mem ha
    simp only [List.length_cons]
    omega
theorem nd_all {l : List Nat} {n : Nat} (hn : l.Nodup) (hl : ∀ x, x ∈ l → x < n) (hlen : l.length = n) {i : Nat} (hi : i < n) : i ∈ l := by
  refine Classical.byContradiction fun h => ?_
  have := nd_len (i :: l) (List.range n) (List.nodup_cons.2 ⟨h, hn⟩) fun x hx => by
    rcases List.mem_cons.1 hx with rfl | hx
    · exact List.mem_range.2 hi
    · exact List.mem_range.2 (hl x hx)
  simp only [List.length_cons, List.length_range] at this
  omega
theorem nd_le {l : List Nat} {n : Nat} (hn : l.Nodup) (hl : ∀ x, x ∈ l → x < n) : l.length ≤ n := by
  have := nd_len l (List.range n) hn fun x hx => List.mem_range.2 (hl x hx)
  simpa using this
theorem nd_free {l : List Nat} {n : Nat} (hlen : l.length < n) : ∃ i, i < n ∧ i ∉ l := by
  refine Classical.byContradiction fun h => ?_
  have := nd_len (List.range n) l List.nodup_range fun x hx => by
    refine Classical.byContradiction fun hx' => h ⟨x, List.mem_range.1 hx, hx'⟩
  simp only [List.length_range] at this
  omega
theorem Inv.len {p : List Pl} (h : Inv X p) : p.length ≤ X.n := by
  have := nd_le h.nd fun x hx => by
    obtain ⟨y, hy, rfl⟩ := List.mem_map.1 hx
    exact (h.rng y hy).1
  simpa using this
theorem Inv.has {p : List Pl} (h : Inv X p) (hl : p.length = X.n) {i : Nat} (hi : i < X.n) : ∃ x, x ∈ p ∧ x.1 = i := by
  have := nd_all h.nd (n := X.n) (fun x hx => by
    obtain ⟨y, hy, rfl⟩ := List.mem_map.1 hx
    exact (h.rng y hy).1) (by simpa using hl) hi
  exact List.mem_map.1 this
theorem nodup_inj {p : List Pl} (h : (p.map (·.1)).Nodup) {x y : Pl} (hx : x ∈ p) (hy : y ∈ p) (e : x.1 = y.1) : x = y := by
  induction p with
  | nil => cases hx
  | cons a p ih =>
    rw [List.map_cons, List.nodup_cons] at h
    rcases List.mem_cons.1 hx with rfl | hx' <;> rcases List.mem_cons.1 hy with rfl | hy'
    · rfl
    · exact absurd (List.mem_map.2 ⟨y, hy', e.symm⟩) h.1
    · exact absurd (List.mem_map.2 ⟨x, hx', e⟩) h.1
    · exact ih h.2 hx' hy'
theorem Inv.inj {p : List Pl} (h : Inv X p) {x y : Pl} (hx : x ∈ p) (hy : y ∈ p) (e : x.1 = y.1) : x = y := nodup_inj h.nd hx hy e

/-- the shift of a task -/
def atOf (p : List Pl) (i : Nat) : Pl := (p.find? fun x => x.1 == i).getD (i, 0, 0)
theorem atOf_mem {p : List Pl} {i : Nat} (h : ∃ x, x ∈ p ∧ x.1 = i) : atOf p i ∈ p ∧ (atOf p i).1 = i := by
  unfold atOf
  cases hf : p.find? fun x => x.1 == i with
  | none =>
    obtain ⟨x, hx, e⟩ := h
    have := List.find?_eq_none.1 hf x hx
    simp [e] at this
  | some y => exact ⟨List.mem_of_find?_eq_some hf, by simpa using List.find?_some hf⟩
theorem pairwise_mem {α : Type} {R : α → α → Prop} : ∀ {l : List α}, l.Pairwise R → ∀ {x y : α}, x ∈ l → y ∈ l → x = y ∨ R x y ∨ R y x
  | [], _, x, y, hx, _ => by cases hx
  | a :: l, h, x, y, hx, hy => by
    rw [List.pairwise_cons] at h
    rcases List.mem_cons.1 hx with rfl | hx' <;> rcases List.mem_cons.1 hy with rfl | hy'
    · exact .inl rfl
    · exact .inr (.inl (h.1 y hy'))
    · exact .inr (.inr (h.1 x hx'))
    · exact pairwise_mem h.2 hx' hy'
theorem Inv.vp (hX : X.Good) {p : List Pl} (h : Inv X p) (hl : p.length = X.n) : VP X (fun i => (atOf p i).2.1) (fun i => (atOf p i).2.2) := by
  have at_ := fun i (hi : i < X.n) => atOf_mem (h.has hl hi)
  refine ⟨fun i hi => ?_, fun i j hi hj hne hc => ?_⟩
  · obtain ⟨h1, h2⟩ := at_ i hi
    have := h.rng _ h1
    rw [h2] at this
    exact this.2
  · obtain ⟨h1, h2⟩ := at_ i hi
    obtain ⟨k1, k2⟩ := at_ j hj
    have ti : toT X (atOf p i) = (atOf p i).2.2 + X.sec i := by unfold toT; rw [h2]
    have tj : toT X (atOf p j) = (atOf p j).2.2 + X.sec j := by unfold toT; rw [k2]
    rcases pairwise_mem h.ap h1 k1 with e | e | e
    · exfalso; apply hne; rw [← h2, ← k2, e]
    · left
      rw [← ti]
      refine e (hc.imp (fun h => h) fun h => ?_)
      rw [h2, k2, hX.sym j i hj hi]; exact h
    · right
      rw [← tj]
      refine e (hc.imp (fun h => h.symm) fun h => ?_)
      rw [h2, k2]; exact h

/-! every plan is as good as one that the search with beginnings that do not decrease finds -/
def sumF (F : Nat → Int) : Nat → Nat
  | 0 => 0
  | n + 1 => sumF F n + (F n).toNat
theorem sumF_upd {F : Nat → Int} {i : Nat} {e : Int} (h0 : 0 ≤ e) (h : e < F i) : ∀ n, sumF (fun j => if j = i then e else F j) n ≤ sumF F n ∧ (i < n → sumF (fun j => if j = i then e else F j) n < sumF F n)
  | 0 => ⟨Nat.le_refl _, fun h => by omega⟩
  | n + 1 => by
    obtain ⟨h1, h2⟩ := sumF_upd h0 h n
    simp only [sumF]
    by_cases hn : n = i
    · subst hn
      rw [if_pos rfl]
      exact ⟨by omega, fun _ => by omega⟩
    · rw [if_neg hn]
      exact ⟨by omega, fun hi => by have := h2 (by omega); omega⟩

theorem exists_min (F : Nat → Int) (S : Nat → Prop) : ∀ n, (∃ i, i < n ∧ S i) → ∃ i, i < n ∧ S i ∧ ∀ j, j < n → S j → F i ≤ F j
  | 0, ⟨i, h, _⟩ => by omega
  | n + 1, hex => by
    by_cases hs : ∃ i, i < n ∧ S i
    · obtain ⟨i, h1, h2, h3⟩ := exists_min F S n hs
      by_cases hn : S n ∧ F n < F i
      · refine ⟨n, by omega, hn.1, fun j hj hS => ?_⟩
        by_cases e : j = n
        · subst e; omega
        · have := h3 j (by omega) hS; omega
      · refine ⟨i, by omega, h2, fun j hj hS => ?_⟩
        by_cases e : j = n
        · subst e
          rcases Int.lt_or_le (F j) (F i) with h | h
          · exact absurd ⟨hS, h⟩ hn
          · exact h
        · exact h3 j (by omega) hS
    · obtain ⟨i, h1, h2⟩ := hex
      have e : i = n := by
        refine Classical.byContradiction fun e => hs ⟨i, by omega, h2⟩
      subst e
      refine ⟨i, by omega, h2, fun j hj hS => ?_⟩
      have : j = i := Classical.byContradiction fun e => hs ⟨j, by omega, hS⟩
      subst this; omega

/-- either the plan is found, or a task of it can begin earlier -/
theorem found_or (hX : X.Good) {G : Nat → Nat} {F : Nat → Int} (hv : VP X G F) : ∀ (m : Nat) (p : List Pl), X.n - p.length = m → Inv X p → (∀ x, x ∈ p → x.2.1 = G x.1 ∧ x.2.2 = F x.1) →
    (∀ x, x ∈ p → ∀ j, j < X.n → (∀ y, y ∈ p → y.1 ≠ j) → F x.1 ≤ F j) →
    (∃ q, Run X true p q ∧ q.length = X.n ∧ ∀ x, x ∈ q → x.2.1 = G x.1 ∧ x.2.2 = F x.1) ∨
    ∃ F', VP X G F' ∧ (∀ i, F' i ≤ F i) ∧ sumF F' X.n < sumF F X.n := by
  intro m
  induction m with
  | zero =>
    intro p hm hI hF _
    have := hI.len
    exact .inl ⟨p, .refl p, by omega, hF⟩
  | succ m ih =>
    intro p hm hI hF hmin
    obtain ⟨j0, hj0, hj0'⟩ := nd_free (l := p.map (·.1)) (n := X.n) (by rw [List.length_map]; omega)
    obtain ⟨i, hi, hS, hle⟩ := exists_min F (fun j => ∀ y, y ∈ p → y.1 ≠ j) X.n ⟨j0, hj0, fun y hy e => hj0' (List.mem_map.2 ⟨y, hy, e⟩)⟩
    have hr := hv.rng i hi
    have hsi := (hX.sec i hi).1
    have hub : early X p i (G i) ≤ F i := early_le hr.2.2.2 fun x hx hc => by
      obtain ⟨e1, e2⟩ := hF x hx
      have hxn := (hI.rng x hx).1
      have hc' : G i = G x.1 ∨ X.cl i x.1 = true := by
        unfold conf at hc
        rw [Bool.or_eq_true] at hc
        exact hc.imp (fun h => by rw [← e1]; exact (beq_iff_eq.1 h).symm) (fun h => h)
      have hx0 := hmin x hx i hi hS
      show x.2.2 + X.sec x.1 ≤ F i
      rw [e2]
      rcases hv.ap i x.1 hi hxn (fun e => hS x hx e.symm) hc' with h | h
      · omega
      · exact h
    rcases Int.lt_or_eq_of_le hub with hlt | heq
    · right
      refine ⟨fun j => if j = i then early X p i (G i) else F j, ⟨fun j hj => ?_, fun a b ha hb hne hc => ?_⟩, fun j => ?_, (sumF_upd (early_nonneg _ _ _) hlt X.n).2 hi⟩
      · have := hv.rng j hj
        split
        · rename_i e; subst e; exact ⟨this.1, this.2.1, this.2.2.1, early_nonneg _ _ _⟩
        · exact this
      · -- the task that moves against another one
        have key : ∀ j, j < X.n → j ≠ i → (G i = G j ∨ X.cl i j = true) → early X p i (G i) + X.sec i ≤ F j ∨ F j + X.sec j ≤ early X p i (G i) := by
          intro j hj hji hc
          by_cases hjp : ∃ y, y ∈ p ∧ y.1 = j
          · obtain ⟨y, hy, rfl⟩ := hjp
            obtain ⟨e1, e2⟩ := hF y hy
            right
            have := early_ub (X := X) (i := i) (g := G i) hy (by
              unfold conf
              rw [Bool.or_eq_true]
              exact hc.imp (fun h => by rw [beq_iff_eq, e1]; exact h.symm) (fun h => h))
            unfold toT at this
            rw [e2] at this
            exact this
          · have hj' : ∀ y, y ∈ p → y.1 ≠ j := fun y hy e => hjp ⟨y, hy, e⟩
            have h1 := hle j hj hj'
            have hsj := (hX.sec j hj).1
            left
            rcases hv.ap i j hi hj (fun e => hji e.symm) hc with h | h <;> omega
        show (if a = i then _ else _) + _ ≤ (if b = i then _ else _) ∨ (if b = i then _ else _) + _ ≤ (if a = i then _ else _)
        by_cases ea : a = i
        · subst ea
          rw [if_pos rfl, if_neg (fun e => hne e.symm)]
          exact key b hb (fun e => hne e.symm) hc
        · rw [if_neg ea]
          by_cases eb : b = i
          · subst eb
            rw [if_pos rfl]
            refine (key a ha ea ?_).symm
            rcases hc with h | h
            · exact .inl h.symm
            · right; rw [hX.sym b a hb ha]; exact h
          · rw [if_neg eb]
            exact hv.ap a b ha hb hne hc
      · show (if j = i then _ else _) ≤ F j
        split
        · rename_i e; subst e; omega
        · exact Int.le_refl _
    · have hI' := hI.step hX hi hS hr.1 hr.2.1 hr.2.2.1
      have hmem : ∀ x, x ∈ p ++ [(i, G i, early X p i (G i))] → x ∈ p ∨ x = (i, G i, early X p i (G i)) := fun x hx => (List.mem_append.1 hx).imp (fun h => h) List.mem_singleton.1
      rcases ih (p ++ [(i, G i, early X p i (G i))]) (by rw [List.length_append, List.length_singleton]; omega) hI' (fun x hx => by
          rcases hmem x hx with hx | rfl
          · exact hF x hx
          · exact ⟨rfl, heq⟩) (fun x hx j hj hj' => by
          have hjp : ∀ y, y ∈ p → y.1 ≠ j := fun y hy => hj' y (List.mem_append_left _ hy)
          rcases hmem x hx with hx | rfl
          · exact hmin x hx j hj hjp
          · exact hle j hj hjp) with ⟨q, h1, h2, h3⟩ | h
      · refine .inl ⟨q, .step p q i (G i) hi hS hr.1 hr.2.1 hr.2.2.1 (fun _ x hx => ?_) h1, h2, h3⟩
        rw [heq, (hF x hx).2]
        exact hmin x hx i hi hS
      · exact .inr h

theorem found (hX : X.Good) : ∀ (m : Nat) {G : Nat → Nat} {F : Nat → Int}, sumF F X.n = m → VP X G F → ∃ q, Run X true [] q ∧ q.length = X.n ∧ ∀ x, x ∈ q → x.2.1 = G x.1 ∧ x.2.2 ≤ F x.1 := by
  intro m
  induction m using Nat.strongRecOn with
  | _ m ih =>
    intro G F hm hv
    rcases found_or hX hv X.n [] (by simp) Inv.nil (fun _ h => by cases h) (fun _ h => by cases h) with ⟨q, h1, h2, h3⟩ | ⟨F', h1, h2, h3⟩
    · exact ⟨q, h1, h2, fun x hx => ⟨(h3 x hx).1, by rw [(h3 x hx).2]; exact Int.le_refl _⟩⟩
    · obtain ⟨q, k1, k2, k3⟩ := ih (sumF F' X.n) (by omega) rfl h1
      exact ⟨q, k1, k2, fun x hx => ⟨(k3 x hx).1, Int.le_trans (k3 x hx).2 (h2 x.1)⟩⟩

/-! ### what a search does -/
section
variable {β : Type} (rep : List Pl → β → Prop)
/-- of the plans S: the end and the plan kept before, and after -/
def Srch (X : Prob) (S : List Pl → Prop) (E : Int) (b : β) (E' : Int) (b' : β) : Prop :=
  E' ≤ E ∧ ((E' = E ∧ b' = b) ∨ ∃ q, S q ∧ endOf X q = E' ∧ rep q b') ∧ ∀ q, S q → E' ≤ endOf X q
variable {rep}
theorem Srch.none {S : List Pl → Prop} (h : ∀ q, ¬ S q) (E : Int) (b : β) : Srch rep X S E b E b := ⟨Int.le_refl _, .inl ⟨rfl, rfl⟩, fun q hq => absurd hq (h q)⟩
theorem Srch.cut {S : List Pl → Prop} {E : Int} {b : β} (h : ∀ q, S q → E ≤ endOf X q) : Srch rep X S E b E b := ⟨Int.le_refl _, .inl ⟨rfl, rfl⟩, h⟩
theorem Srch.seq {S T U : List Pl → Prop} {E E1 E2 : Int} {b b1 b2 : β} (h : Srch rep X S E b E1 b1) (k : Srch rep X T E1 b1 E2 b2) (hU : ∀ q, U q ↔ S q ∨ T q) : Srch rep X U E b E2 b2 := by
  obtain ⟨h1, h2, h3⟩ := h
  obtain ⟨k1, k2, k3⟩ := k
  refine ⟨Int.le_trans k1 h1, ?_, fun q hq => ?_⟩
  · rcases k2 with ⟨e1, e2⟩ | ⟨q, q1, q2, q3⟩
    · subst e1 e2
      rcases h2 with h2 | ⟨q, q1, q2, q3⟩
      · exact .inl h2
      · exact .inr ⟨q, (hU q).2 (.inl q1), q2, q3⟩
    · exact .inr ⟨q, (hU q).2 (.inr q1), q2, q3⟩
  · rcases (hU q).1 hq with hq | hq
    · exact Int.le_trans k1 (h3 q hq)
    · exact k3 q hq
theorem Srch.iff {S T : List Pl → Prop} {E E1 : Int} {b b1 : β} (h : Srch rep X S E b E1 b1) (hU : ∀ q, T q ↔ S q) : Srch rep X T E b E1 b1 :=
  ⟨h.1, h.2.1.imp (fun h => h) fun ⟨q, q1, q2⟩ => ⟨q, (hU q).2 q1, q2⟩, fun q hq => h.2.2 q ((hU q).1 hq)⟩
end

/-- the whole plans beyond a part of one -/
def Fin (X : Prob) (nd : Bool) (p q : List Pl) : Prop := Run X nd p q ∧ q.length = X.n
/-- those whose next task is done next by g -/
def Via (X : Prob) (nd : Bool) (p : List Pl) (i g : Nat) (q : List Pl) : Prop :=
  i < X.n ∧ (∀ x, x ∈ p → x.1 ≠ i) ∧ 1 ≤ g ∧ g ≤ X.k ∧ X.ok i g = true ∧ (nd = true → ∀ x, x ∈ p → x.2.2 ≤ early X p i g) ∧ Fin X nd (p ++ [(i, g, early X p i g)]) q
theorem fin_iff {nd : Bool} {p : List Pl} (h : p.length < X.n) (q : List Pl) : Fin X nd p q ↔ ∃ i g, Via X nd p i g q := by
  constructor
  · rintro ⟨hr, hl⟩
    cases hr with
    | refl => omega
    | step _ _ i g hi hp hg hk ho hn h => exact ⟨i, g, hi, hp, hg, hk, ho, hn, h, hl⟩
  · rintro ⟨i, g, hi, hp, hg, hk, ho, hn, h, hl⟩
    exact ⟨.step p q i g hi hp hg hk ho hn h, hl⟩
theorem fin_full {nd : Bool} {p : List Pl} (h : p.length = X.n) (q : List Pl) : Fin X nd p q ↔ q = p := by
  constructor
  · rintro ⟨hr, hl⟩
    exact hr.full (by omega)
  · rintro rfl
    exact ⟨.refl _, h⟩

/-- all one after the other -/
def before (sec : Nat → Int) : Nat → Int
  | 0 => 0
  | n + 1 => before sec n + sec n
theorem before_mono {sec : Nat → Int} {n : Nat} (h : ∀ i, i < n → 0 ≤ sec i) : ∀ m, m ≤ n → ∀ j, j ≤ m → before sec j ≤ before sec m
  | 0, _, j, hj => by obtain rfl : j = 0 := by omega
                      exact Int.le_refl _
  | m + 1, hm, j, hj => by
    by_cases e : j = m + 1
    · subst e; exact Int.le_refl _
    · have := before_mono h m (by omega) j (by omega)
      have := h m (by omega)
      simp only [before]; omega
theorem vp_seq (hX : X.Good) {G : Nat → Nat} (hG : ∀ i, i < X.n → 1 ≤ G i ∧ G i ≤ X.k ∧ X.ok i (G i) = true) : VP X G (before X.sec) := by
  have hp : ∀ i, i < X.n → 0 ≤ X.sec i := fun i hi => by have := (hX.sec i hi).1; omega
  refine ⟨fun i hi => ⟨(hG i hi).1, (hG i hi).2.1, (hG i hi).2.2, before_mono hp i (by omega) 0 (by omega)⟩, fun i j hi hj hne _ => ?_⟩
  rcases Nat.lt_or_gt_of_ne hne with h | h
  · left; exact before_mono hp j (by omega) (i + 1) (by omega)
  · right; exact before_mono hp i (by omega) (j + 1) (by omega)

/-- what is found in the end -/
theorem srch_end (hX : X.Good) {β : Type} {rep : List Pl → β → Prop} {nd : Bool} {E' : Int} {b b' : β} {G : Nat → Nat} (hG : ∀ i, i < X.n → 1 ≤ G i ∧ G i ≤ X.k ∧ X.ok i (G i) = true)
    (h : Srch rep X (Fin X nd []) (1 + before X.sec X.n) b E' b') :
    (∃ q, Run X nd [] q ∧ q.length = X.n ∧ endOf X q = E' ∧ rep q b') ∧ E' ≤ before X.sec X.n ∧
    ∀ G F, VP X G F → ∀ m, 0 ≤ m → (∀ i, i < X.n → F i + X.sec i ≤ m) → E' ≤ m := by
  have hall : ∀ G F, VP X G F → ∀ m, 0 ≤ m → (∀ i, i < X.n → F i + X.sec i ≤ m) → E' ≤ m := by
    intro G F hv m h0 hm
    obtain ⟨q, q1, q2, q3⟩ := found hX _ rfl hv
    have hq : Run X nd [] q := by
      cases nd with
      | true => exact q1
      | false => exact q1.forget
    refine Int.le_trans (h.2.2 q ⟨hq, q2⟩) (endOf_le h0 fun x hx => ?_)
    have := (q3 x hx).2
    have := hm x.1 ((q1.inv hX Inv.nil).rng x hx).1
    unfold toT; omega
  have hp : ∀ i, i < X.n → 0 ≤ X.sec i := fun i hi => by have := (hX.sec i hi).1; omega
  have hle := hall G (before X.sec) (vp_seq hX hG) (before X.sec X.n) (before_mono hp X.n (Nat.le_refl _) 0 (Nat.zero_le _)) fun i hi => before_mono hp X.n (Nat.le_refl _) (i + 1) (by omega)
  refine ⟨?_, hle, hall⟩
  rcases h.2.1 with ⟨e, _⟩ | ⟨q, q1, q2, q3⟩
  · omega
  · exact ⟨q, q1.1, q1.2, q2, q3⟩
end
end Go.Proofs.Ythjplaicophnnaa.D
