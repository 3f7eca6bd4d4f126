import Derived.Test.YtaipbppgebjdeaaL53c
open Go Go.GD Go.Proofs
namespace Go.Proofs.Ytaipbppgebjdeaa.D
/-- the numbers of a checklist that Right accepts -/
def Rng (l : Ck) : Prop := l.1.length ≤ 64 ∧ l.2.2.length ≤ 200 ∧ 1 ≤ l.2.1 ∧ l.2.1 ≤ 604800 ∧ ∀ g, g ∈ l.2.2 → 0 ≤ g.2.2 ∧ g.2.2 ≤ 20000000
theorem in_rng {n lo hi : Int} (h : (!(bif decide (n < lo) then false else !decide (n > hi))) = false) : lo ≤ n ∧ n ≤ hi := by
  cases h1 : decide (n < lo) with
  | true => rw [h1] at h; cases h
  | false =>
    cases h2 : decide (n > hi) with
    | true => rw [h1, h2] at h; cases h
    | false => simp only [decide_eq_false_iff_not] at h1 h2; omega
theorem rng35 (l : Ck) (h : D35 l = some 0) : Rng l := by
  rw [e35] at h
  obtain ⟨h1, h⟩ := pass_bif h (by decide)
  obtain ⟨h2, h⟩ := pass_bif h (by decide)
  simp only [decide_eq_false_iff_not] at h1 h2
  rw [in52, bindS] at h
  obtain ⟨h3, h⟩ := pass_bif h (by decide)
  have h3 := in_rng h3
  rw [f35_3 l (by rw [maxLen_val]; omega)] at h
  obtain ⟨_, h⟩ := forI_pass (fun _ _ => True) l.1 0 (fun i hi K hK => by
    rw [in52, bindS] at hK
    obtain ⟨_, hK⟩ := pass_bif hK (by decide)
    refine ⟨trivial, ?_⟩
    have hlt : (List.drop (Int.toNat 0) (List.take (Int.toNat ((0 + i : Nat) : Int)) l.1)).length ≤ maxLen := by rw [maxLen_val]; simp; omega
    rw [has53 _ _ hlt, bindS] at hK
    cases hc : (decide (0 ≤ (0 : Int)) && (decide ((0 : Int) ≤ ((0 + i : Nat) : Int)) && decide (((0 + i : Nat) : Int) ≤ (l.1.length : Int)))) with
    | false => rw [hc] at hK; cases hK
    | true =>
      rw [hc, condT] at hK
      exact (pass_bif hK (by decide)).2) h
  rw [f35_1 l (by rw [maxLen_val]; omega)] at h
  obtain ⟨g, _⟩ := forI_pass (fun _ (x : Sg) => 0 ≤ x.2.2 ∧ x.2.2 ≤ 20000000) l.2.2 0 (fun i hi K hK => by
    rw [has53 _ _ (by rw [maxLen_val]; omega), bindS] at hK
    obtain ⟨_, hK⟩ := pass_bif hK (by decide)
    rw [in52, bindS] at hK
    obtain ⟨_, hK⟩ := pass_bif hK (by decide)
    rw [in52, bindS] at hK
    obtain ⟨hg, hK⟩ := pass_bif hK (by decide)
    refine ⟨in_rng hg, ?_⟩
    cases hd : decide (((0 + i : Nat) : Int) > 0) with
    | false => rw [hd, condF] at hK; exact hK
    | true =>
      rw [hd, condT] at hK
      cases hx : idx l.2.2 (IntKind.i64.wrap (((0 + i : Nat) : Int) - 1)) with
      | none => rw [hx] at hK; cases hK
      | some e =>
        rw [hx, bindS] at hK
        exact (pass_bif hK (by decide)).2) h
  refine ⟨by omega, by omega, h3.1, h3.2, fun r hr => ?_⟩
  obtain ⟨i, hi, rfl⟩ := List.getElem_of_mem hr
  exact g i hi

def valid (l : Ck) (item t : Int) (g : Sg) : Bool := bif g.1 == item then (bif decide (g.2.2 ≤ t) then decide (t < g.2.2 + l.2.1) else false) else false
theorem v58 (l : Ck) (item t : Int) (g : Sg) (h : Rng l) (hg : g ∈ l.2.2) : D58 g item t l = some (valid l item t g) := by
  obtain ⟨_, _, h1, h2, h3⟩ := h
  have := h3 g hg
  rw [e58, wrap_i64 (by omega) (by omega), valid]
  cases g.1 == item <;> cases decide (g.2.2 ≤ t) <;> rfl
theorem any59 (s : List Sg) (f : Sg → Option Bool) (b : Sg → Bool) (hf : ∀ x, x ∈ s → f x = some (b x)) (hl : s.length ≤ maxLen) : D59 s f = some (s.any b) := by
  rw [e59, e62, f62_1 s f hl]
  have := forI_congr (body := fun ix el (_ : Unit) K => ((f el).bind fun r => bif r then some (ix : Int) else K () : Option Int)) (body' := fun ix el (s : Unit) K => bif b el then some (ix : Int) else K s) (fin := fun (_ : Unit) => some (-1)) (fin' := fun _ => some (-1)) s 0
    (fun i h u K => by rw [hf _ (List.getElem_mem h), bindS]) (fun _ => rfl) ()
  rw [this, forI_find b s 0 (), bindS, findI_ge]
theorem any42 (s : List Sg) (f : Sg → Option Bool) (b : Sg → Bool) (hf : ∀ x, x ∈ s → f x = some (b x)) (hl : s.length ≤ maxLen) : D42 s f = some (s.any b) := by
  rw [e42, e48, f48_1 s f hl]
  have := forI_congr (body := fun ix el (_ : Unit) K => ((f el).bind fun r => bif r then some (ix : Int) else K () : Option Int)) (body' := fun ix el (s : Unit) K => bif b el then some (ix : Int) else K s) (fin := fun (_ : Unit) => some (-1)) (fin' := fun _ => some (-1)) s 0
    (fun i h u K => by rw [hf _ (List.getElem_mem h), bindS]) (fun _ => rfl) ()
  rw [this, forI_find b s 0 (), bindS, findI_ge]
theorem end61 (l : Ck) (item t : Int) (h : Rng l) : ∃ r, D61 l item t = some r ∧ (r == t) = !l.2.2.any (valid l item t) := by
  obtain ⟨_, hl, h1, h2, h3⟩ := h
  rw [e61, f61_1 _ _ _ _ (by rw [maxLen_val]; omega)]
  suffices key : ∀ (ys : List Sg), (∀ g, g ∈ ys → 0 ≤ g.2.2 ∧ g.2.2 ≤ 20000000) → ∀ out, t ≤ out → ∃ r, forE _ _ ys out = some r ∧ (r == t) = ((out == t) && !ys.any (valid l item t)) from by
    obtain ⟨r, hr, he⟩ := key l.2.2 h3 t (Int.le_refl _)
    exact ⟨r, hr, by rw [he, beq_self_eq_true, Bool.true_and]⟩
  intro ys
  induction ys with
  | nil => intro _ out ho; exact ⟨out, rfl, by simp⟩
  | cons g ys ih =>
    intro hg out ho
    have hgr := hg g (List.mem_cons_self ..)
    have ih := ih (fun x hx => hg x (List.mem_cons_of_mem _ hx))
    rw [forE, wrap_i64 (n := g.2.2 + l.2.1) (by omega) (by omega), List.any_cons]
    cases c1 : g.1 == item with
    | false =>
      have hv : valid l item t g = false := by rw [valid, c1]; rfl
      rw [hv, Bool.false_or]
      exact ih out ho
    | true =>
      cases c2 : decide (g.2.2 ≤ t) with
      | false =>
        have hv : valid l item t g = false := by rw [valid, c1, c2]; rfl
        rw [hv, Bool.false_or]
        exact ih out ho
      | true =>
        cases c3 : decide (t < g.2.2 + l.2.1) with
        | false =>
          have hv : valid l item t g = false := by rw [valid, c1, c2, c3]; rfl
          rw [hv, Bool.false_or]
          exact ih out ho
        | true =>
          have hv : valid l item t g = true := by rw [valid, c1, c2, c3]; rfl
          have hlt := of_decide_eq_true c3
          rw [hv, Bool.true_or, Bool.not_true, Bool.and_false]
          have hne : ∀ o : Int, t < o → (o == t) = false := fun o ho => by simp; omega
          cases c4 : decide (g.2.2 + l.2.1 > out) with
          | true =>
            obtain ⟨r, hr, he⟩ := ih (g.2.2 + l.2.1) (by omega)
            exact ⟨r, hr, by rw [he, hne _ hlt, Bool.false_and]⟩
          | false =>
            simp only [decide_eq_false_iff_not] at c4
            obtain ⟨r, hr, he⟩ := ih out ho
            exact ⟨r, hr, by rw [he, hne out (by omega), Bool.false_and]⟩
def openC (l : Ck) (t : Int) : List Int := l.1.filter fun it => !l.2.2.any (valid l it t)
theorem open45 (l : Ck) (t : Int) (h : Rng l) : D45 l t = some (openC l t) := by
  have hl := h.1
  have hl2 := h.2.1
  rw [e45, f45_1 _ _ _ _ (by rw [maxLen_val]; omega)]
  refine forE_inv (fun pre => pre.filter fun it => !l.2.2.any (valid l it t)) (fun r => r = _) l.1 (fun pre x post e K hK => ?_) rfl rfl
  have hlen : pre.length + 1 + post.length = l.1.length := by rw [e]; simp; omega
  have := List.length_filter_le (fun it => !l.2.2.any (valid l it t)) pre
  rw [any59 _ _ (valid l x t) (fun g hg => v58 l x t g h hg) (by rw [maxLen_val]; omega), bindS]
  rw [List.filter_append] at hK
  cases hx : !l.2.2.any (valid l x t) with
  | true =>
    rw [condT, limOk (by decide) (by simp only [List.length_singleton]; omega), condT]
    simp only [List.filter_cons, hx, if_true, List.filter_nil] at hK
    exact hK
  | false =>
    simp only [List.filter_cons, hx, Bool.false_eq_true, if_false, List.filter_nil, List.append_nil] at hK
    rw [condF]
    exact hK
theorem open57 (l : Ck) (t : Int) (h : Rng l) : D57 l t = some (openC l t) := by
  have hl := h.1
  rw [e57, f57_1 _ _ _ (by rw [maxLen_val]; omega)]
  refine forE_inv (fun pre => pre.filter fun it => !l.2.2.any (valid l it t)) (fun r => r = _) l.1 (fun pre x post e K hK => ?_) rfl rfl
  have hlen : pre.length + 1 + post.length = l.1.length := by rw [e]; simp; omega
  have := List.length_filter_le (fun it => !l.2.2.any (valid l it t)) pre
  obtain ⟨r, hr, he⟩ := end61 l x t h
  rw [hr, bindS, he]
  rw [List.filter_append] at hK
  cases hx : !l.2.2.any (valid l x t) with
  | true =>
    rw [condT, limOk (by decide) (by simp only [List.length_singleton]; omega), condT]
    simp only [List.filter_cons, hx, if_true, List.filter_nil] at hK
    exact hK
  | false =>
    simp only [List.filter_cons, hx, Bool.false_eq_true, if_false, List.filter_nil, List.append_nil] at hK
    rw [condF]
    exact hK
def doneC (l : Ck) (t : Int) : Bool := ((openC l t).length : Int) == 0
theorem done27 (l : Ck) (t : Int) (h : Rng l) : D27 l t = some (doneC l t) := by rw [e27, open45 l t h, bindS]; rfl
theorem done44 (l : Ck) (t : Int) (h : Rng l) : D44 l t = some (doneC l t) := by rw [e44, open57 l t h, bindS]; rfl

/-- what is known and accepted -/
structure Acc (p : Pt) : Prop where
  few : p.1.length ≤ 64 ∧ p.2.length ≤ 200
  one : ∀ i (h : i < p.2.length), (p.2.take i).any (fun x => x.1 == p.2[i].1) = false
  rng : ∀ r, r ∈ p.1 → Rng r.2
theorem acc_of {p : Pt} (h : D13 p = some 0) : Acc p := by
  obtain ⟨h1, h2, h3, h4⟩ := right_facts p h
  exact ⟨⟨h1, h2⟩, h3, fun r hr => rng35 _ (h4 r hr)⟩
theorem ready22 (p : Pt) (run t : Int) (h : Acc p) : ∃ b, D22 p run t = some b ∧ D23 p run t = some b := by
  obtain ⟨⟨h1, h2⟩, _, h3⟩ := h
  have m1 : p.1.length ≤ maxLen := by rw [maxLen_val]; omega
  have m2 : p.2.length ≤ maxLen := by rw [maxLen_val]; omega
  rw [e22, e23, list34 _ _ m1, at36 _ _ m1, bindS, bindS]
  rcases runAt_cases p run with ⟨hr, _⟩ | ⟨i, hi, hr, _⟩
  · have hd : decide ((-1 : Int) < 0) = true := rfl
    rw [hr, hd, condT, condT]
    exact ⟨_, rfl, rfl⟩
  · have hd : decide ((i : Int) < 0) = false := decide_eq_false (by omega)
    have hR := h3 _ (List.getElem_mem hi)
    rw [hr, hd, condF, condF, idx_get hi, bindS, bindS, done27 _ _ hR, done44 _ _ hR, bindS, bindS]
    cases !doneC (p.1[i]).2 t with
    | true => exact ⟨_, rfl, rfl⟩
    | false =>
      rw [condF, condF, any42 p.2 _ (fun h => h.2.1 == run) (fun x _ => e43 x run) m2, bindS, f23_1 _ _ m2, forE_any]
      cases p.2.any (fun h => h.2.1 == run) with
      | true => exact ⟨_, rfl, rfl⟩
      | false => exact ⟨_, rfl, rfl⟩
theorem int24 (l : List Int) (h : l.length ≤ 1000) : D24 l l = some true := by
  rw [e24, bne_self_eq_false, condF, f24_1 l l (by rw [maxLen_val]; omega)]
  refine forI_inv (fun _ => ()) (fun r => r = some true) l (fun pre x post e K hK => ?_) rfl rfl
  have hk : pre.length < l.length := by rw [e]; simp
  have hx : l[pre.length] = x := by simp [e]
  rw [idx_get hk, hx]
  simp only [bindS, bne_self_eq_false, condF]
  exact hK
theorem open25 (p : Pt) (t : Int) (h : Acc p) : ∃ o : List Int, D25 p t = some o ∧ D26 p t = some o ∧ o.length ≤ 64 := by
  have h1 := h.few.1
  have m1 : p.1.length ≤ maxLen := by rw [maxLen_val]; omega
  rw [e25, e26, f25_1 _ _ _ _ m1, f26_1 _ _ _ m1]
  suffices key : ∀ (ys : List Rl) (out : List Int), out.length + ys.length ≤ 64 → ∃ o : List Int, forE _ _ ys out = some o ∧ forE _ _ ys out = some o ∧ o.length ≤ 64 from key p.1 [] (by simpa using h1)
  intro ys
  induction ys with
  | nil => intro out ho; exact ⟨out, rfl, rfl, by simpa using ho⟩
  | cons y ys ih =>
    intro out ho
    rw [List.length_cons] at ho
    obtain ⟨b, hb1, hb2⟩ := ready22 p y.1 t h
    rw [forE, forE]
    simp only [hb1, hb2, bindS]
    cases b with
    | true => exact ih out (by omega)
    | false =>
      simp only [Bool.not_false, condT]
      rw [limOk (by decide) (by simp only [List.length_singleton]; omega)]
      exact ih (out ++ [y.1]) (by simp only [List.length_append, List.length_singleton]; omega)
theorem fits6 (p : Pt) (run t : Int) (hl : p.1.length ≤ maxLen) : D6 p run t = some true := by
  obtain ⟨b, hb, hs⟩ := acc14 p hl
  rw [e6, aliveD, hb]
  simp only [bindS, Bool.not_true, condF]
  cases b with
  | false => rfl
  | true =>
    have hA := acc_of (hs rfl).2
    obtain ⟨r, r1, r2⟩ := ready22 p run t hA
    obtain ⟨o, o1, o2, o3⟩ := open25 p t hA
    rw [r1, r2, o1, o2]
    simp only [Bool.not_true, condF, bindS, condT, beq_self_eq_true, int24 o (by omega)]
theorem law6 (x : (pk ps6).den) (h : Valid (pk ps6) x) : d6 x = some true := fits6 x.1 x.2.1 x.2.2 h.1.1.1
end Go.Proofs.Ytaipbppgebjdeaa.D
