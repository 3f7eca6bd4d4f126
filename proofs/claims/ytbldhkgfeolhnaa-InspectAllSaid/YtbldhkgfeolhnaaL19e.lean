import Derived.Test.YtbldhkgfeolhnaaL19d
open Go Go.GD Go.Proofs
namespace Go.Proofs.Ytbldhkgfeolhnaa.D
theorem has26 (l : List Int) (n : Int) (hl : l.length ≤ maxLen) : D26 l n = some (l.any (· == n)) := by
  rw [e26, f26_1 l n hl, forE_any]
  cases l.any (· == n) <;> rfl
theorem any_mem {l : List Int} {n : Int} : l.any (· == n) = true ↔ n ∈ l := by
  rw [List.any_eq_true]
  exact ⟨fun ⟨x, h, e⟩ => by rw [beq_iff_eq] at e; exact e ▸ h, fun h => ⟨n, h, by simp⟩⟩
theorem any_open (l : Ck) (v n : Int) : (openC l v).any (· == n) = (l.1.any (· == n) && !cov l n v) := by
  rw [Bool.eq_iff_iff, any_mem, Bool.and_eq_true, any_mem, openC, List.mem_filter]
  rfl
theorem Good.mem {l : Ck} (h : Good l) {g : Sg} (hg : g ∈ l.2.2) : l.1.any (· == g.1) = true ∧ (1 ≤ g.2.1 ∧ g.2.1 ≤ 9999) ∧ (0 ≤ g.2.2 ∧ g.2.2 ≤ 20000000) := by
  obtain ⟨i, hi, rfl⟩ := List.getElem_of_mem hg
  exact h.sg i hi
theorem signed_mem {l : Ck} {a b c : Int} {g : Sg} : g ∈ (signed l a b c).2.2 ↔ (g ∈ l.2.2 ∧ g.1 ≠ a) ∨ g = (a, b, c) := by
  show g ∈ l.2.2.filter (fun g => g.1 != a) ++ [(a, b, c)] ↔ _
  rw [List.mem_append, List.mem_filter, List.mem_singleton, bne_iff_ne]
theorem cov_same (l : Ck) (a b c v : Int) : cov (signed l a b c) a v = true ↔ c ≤ v ∧ v < c + l.2.1 := by
  rw [cov_iff]
  constructor
  · rintro ⟨g, hg, e, h1, h2⟩
    rcases signed_mem.1 hg with ⟨_, hn⟩ | rfl
    · exact absurd e hn
    · exact ⟨h1, h2⟩
  · rintro ⟨h1, h2⟩
    exact ⟨(a, b, c), signed_mem.2 (.inr rfl), rfl, h1, h2⟩
theorem cov_other (l : Ck) (a b c n v : Int) (hn : n ≠ a) : cov (signed l a b c) n v = cov l n v := by
  rw [Bool.eq_iff_iff, cov_iff, cov_iff]
  constructor
  · rintro ⟨g, hg, e, h1, h2⟩
    rcases signed_mem.1 hg with ⟨hg, _⟩ | rfl
    · exact ⟨g, hg, e, h1, h2⟩
    · exact absurd e.symm hn
  · rintro ⟨g, hg, e, h1, h2⟩
    exact ⟨g, signed_mem.2 (.inl ⟨hg, by rw [e]; exact hn⟩), e, h1, h2⟩
theorem loops9 : lp9_1 = lp9_5 ∧ lp9_3 = lp9_5 := ⟨rfl, rfl⟩
theorem tail9 (l : Ck) (item b c v : Int) (h : l.1.length ≤ 1000) : lp9_5 big item l (openC l v) (openC (signed l item b c) v) 0 = some true := by
  have m1 : (openC l v).length ≤ maxLen := by have := List.length_filter_le (fun it => !l.2.2.any (valid l it v)) l.1; rw [maxLen_val, openC]; omega
  have m2 : (openC (signed l item b c) v).length ≤ maxLen := by have := List.length_filter_le (fun it => !(signed l item b c).2.2.any (valid (signed l item b c) it v)) l.1; rw [maxLen_val, openC]; show (List.filter _ l.1).length ≤ _; omega
  rw [f9_5 _ _ _ _ (by rw [maxLen_val]; omega)]
  refine forE_inv (fun _ => ()) (fun r => r = some true) l.1 (fun pre x post e K hK => ?_) rfl rfl
  cases hx : x != item with
  | false => rw [condF]; exact hK
  | true =>
    rw [bne_iff_ne] at hx
    rw [condT, has26 _ _ m1, has26 _ _ m2, bindS, bindS, any_open, any_open, cov_other l item b c x v hx]
    show (bif !(((l.1.any (· == x)) && !cov l x v) == (l.1.any (· == x) && !cov l x v)) then some false else K ()) = some true
    rw [beq_self_eq_true]
    exact hK
theorem signed9 (l : Ck) (item b t v : Int) (hv : -9223372036854775808 ≤ v ∧ v ≤ 9223372036854775807) : D9 l item b t v = some true := by
  obtain ⟨h1, r, h2⟩ := rightIR l
  rw [e9, aliveD, bindS, h2]
  simp only [bindS, Bool.not_true, condF]
  cases decide ((l.1.length : Int) > 80) with
  | true => rfl
  | false =>
  cases decide ((l.2.2.length : Int) > 220) with
  | true => rfl
  | false =>
  cases hz : r != 0 with
  | true => rfl
  | false =>
  have h0 : D13 l = some 0 := by rw [← h1, h2, show r = 0 by simpa using hz]
  have hG := good_of l h0
  have hli := hG.li
  have hb : l.1.length ≤ 900 ∧ l.2.2.length ≤ 900 := ⟨by omega, by have := hG.ls; omega⟩
  obtain ⟨k1, r1, k2⟩ := rightIR (signed l item b t)
  rw [signI _ _ _ _ hb, k2]
  simp only [condF, bindS]
  cases hz1 : r1 != 0 with
  | true =>
    simp only [condT, bindS, hz1]
    rfl
  | false =>
    simp only [condF, bindS, bne_self_eq_false]
    have hr1 : r1 = 0 := by simpa using hz1
    subst hr1
    have hM := good_of (signed l item b t) (by rw [← k1, k2])
    have hm := hM.mem (g := (item, b, t)) (signed_mem.2 (.inr rfl))
    obtain ⟨m1, m2, m3⟩ := hm
    have m1 : l.1.any (· == item) = true := m1
    have m3 : 0 ≤ t ∧ t ≤ 20000000 := m3
    have hev := hG.ev
    have hol : ∀ v, (openC (signed l item b t) v).length ≤ maxLen := fun v => by
      have := List.length_filter_le (fun it => !(signed l item b t).2.2.any (valid (signed l item b t) it v)) l.1
      rw [maxLen_val, openC]; show (List.filter _ l.1).length ≤ _; omega
    have ho : ∀ v, (openC (signed l item b t) v).any (· == item) = !cov (signed l item b t) item v := fun v => by
      rw [any_open]
      show (l.1.any (· == item) && _) = _
      rw [m1, Bool.true_and]
    have hc1 : cov (signed l item b t) item t = true := (cov_same l item b t t).2 ⟨Int.le_refl _, by omega⟩
    have hc2 : cov (signed l item b t) item (t + l.2.1) = false := by
      rw [Bool.eq_false_iff]; intro h; have := (cov_same l item b t _).1 h; omega
    rw [k2, wrap_i64 (n := t + l.2.1) (by omega) (by omega)]
    simp only [openI _ _ hM.rng, openI _ _ hG.rng, bindS, has26 _ _ (hol _), ho, hc1, hc2, bne_self_eq_false, condF, Bool.not_true, Bool.not_false]
    obtain ⟨q1, q2⟩ := loops9
    rw [q1, q2]
    simp only [tail9 l item b t v (by omega)]
    by_cases hvt : v ≥ t
    · rw [decide_eq_true hvt, condT, wrap_i64 (n := v - t) (by omega) (by omega)]
      by_cases hlt : v - t < l.2.1
      · rw [decide_eq_true hlt, condT, (cov_same l item b t v).2 ⟨hvt, by omega⟩]
        rfl
      · rw [decide_eq_false hlt]; rfl
    · rw [decide_eq_false hvt]; rfl
theorem law9 (x : (pk ps9).den) (h : Valid (pk ps9) x) : d9 x = some true := signed9 x.1 x.2.1 x.2.2.1 x.2.2.2.1 x.2.2.2.2 (valid_i64 h.2.2.2.2)

theorem pw_of {l : Ck} (h : Good l) : l.2.2.Pairwise (fun a b => a.2.2 ≤ b.2.2) := by
  rw [List.pairwise_iff_getElem]
  intro i j hi hj hij
  have := so_le h (j - i) i (by omega)
  simpa only [show i + (j - i) = j by omega] using this
theorem good_signed {l : Ck} {a b c : Int} (h : Good l) (ha : a ∈ l.1) (hb : 1 ≤ b ∧ b ≤ 9999) (hc : 0 ≤ c ∧ c ≤ 20000000) (hl : ∀ g, g ∈ l.2.2 → g.2.2 ≤ c) (hlen : (signed l a b c).2.2.length ≤ 200) : Good (signed l a b c) := by
  have hp : (signed l a b c).2.2.Pairwise (fun a b => a.2.2 ≤ b.2.2) := by
    show (l.2.2.filter (fun g => g.1 != a) ++ [(a, b, c)]).Pairwise _
    rw [List.pairwise_append]
    refine ⟨(pw_of h).filter _, List.pairwise_singleton _ _, fun x hx y hy => ?_⟩
    rw [List.mem_singleton.1 hy]
    exact hl x (List.mem_filter.1 hx).1
  refine ⟨h.li, hlen, h.ev, h.it, fun i hi => ?_, fun i hi => List.pairwise_iff_getElem.1 hp i (i + 1) (by omega) hi (by omega)⟩
  have hm := List.getElem_mem hi
  generalize (signed l a b c).2.2[i] = g at hm ⊢
  rcases signed_mem.1 hm with ⟨hg, _⟩ | rfl
  · exact h.mem hg
  · exact ⟨any_mem.2 ha, hb, hc⟩
theorem all10 (l : Ck) (b t : Int) : D10 l b t = some true := by
  obtain ⟨h1, r, h2⟩ := rightIR l
  rw [e10, aliveD, bindS, h2]
  simp only [bindS, Bool.not_true, condF]
  cases decide ((l.1.length : Int) > 80) with
  | true => rfl
  | false =>
  cases decide ((l.2.2.length : Int) > 220) with
  | true => rfl
  | false =>
  cases hz : r != 0 with
  | true => rfl
  | false =>
  cases b1 : decide (b < 1) with
  | true => rfl
  | false =>
  cases b2 : decide (b > 9999) with
  | true => rfl
  | false =>
  cases t1 : decide (t < 0) with
  | true => rfl
  | false =>
  cases t2 : decide (t > 20000000) with
  | true => rfl
  | false =>
  simp only [decide_eq_false_iff_not] at b1 b2 t1 t2
  have h0 : D13 l = some 0 := by rw [← h1, h2, show r = 0 by simpa using hz]
  have hG := good_of l h0
  have hli := hG.li
  have hls := hG.ls
  simp only [condF]
  rw [f10_3 _ _ _ (by rw [maxLen_val]; omega), forE_any (fun (el : Sg) => decide (el.2.2 > t))]
  cases hlate : l.2.2.any (fun el => decide (el.2.2 > t)) with
  | true => rfl
  | false =>
  have hlate : ∀ g, g ∈ l.2.2 → g.2.2 ≤ t := fun g hg => by
    have := List.any_eq_false.1 hlate g hg
    simp at this; exact this
  rw [condF, openI l t hG.rng, bindS]
  have hol : (openC l t).length ≤ l.1.length := List.length_filter_le _ _
  rw [f10_1 _ _ _ _ (by rw [maxLen_val]; omega)]
  refine forE_rule (fun pre now => Good now ∧ now.1 = l.1 ∧ now.2.1 = l.2.1 ∧ (∀ g, g ∈ now.2.2 → g.2.2 ≤ t) ∧ (∀ it, it ∈ pre → cov now it t = true) ∧ (∀ it, cov l it t = true → cov now it t = true)) (fun r => r = some true) (openC l t)
    (fun pre x post e now hI K hK => ?_) (fun now hI => ?_) ⟨hG, rfl, rfl, hlate, (fun it hit => by cases hit), fun _ h => h⟩
  · obtain ⟨i1, i2, i3, i4, i5, i6⟩ := hI
    have hev := i1.ev
    have hx : x ∈ l.1 := by
      have : x ∈ openC l t := by rw [e]; simp
      exact (List.mem_filter.1 this).1
    have hb : now.1.length ≤ 900 ∧ now.2.2.length ≤ 900 := ⟨by rw [i2]; omega, by have := i1.ls; omega⟩
    rw [signI _ _ _ _ hb]
    by_cases hlen : (signed now x b t).2.2.length ≤ 200
    · have hS := good_signed i1 (by rw [i2]; exact hx) (show 1 ≤ b ∧ b ≤ 9999 by omega) (show 0 ≤ t ∧ t ≤ 20000000 by omega) i4 hlen
      rw [right_of _ hS]
      simp only [bindS, bne_self_eq_false, condF]
      refine hK _ ⟨hS, i2, i3, fun g hg => ?_, fun it hit => ?_, fun it hc => ?_⟩
      · rcases signed_mem.1 hg with ⟨hg, _⟩ | rfl
        · exact i4 g hg
        · exact Int.le_refl _
      · by_cases hq : it = x
        · subst hq; exact (cov_same now it b t t).2 ⟨Int.le_refl _, by omega⟩
        · rw [cov_other _ _ _ _ _ _ hq]
          rcases List.mem_append.1 hit with hit | hit
          · exact i5 it hit
          · exact absurd (List.mem_singleton.1 hit) hq
      · by_cases hq : it = x
        · subst hq; exact (cov_same now it b t t).2 ⟨Int.le_refl _, by omega⟩
        · rw [cov_other _ _ _ _ _ _ hq]; exact i6 it hc
    · have h12 : D12 (signed now x b t) = some 4 := by
        have : (signed now x b t).1.length ≤ 64 := i1.li
        rw [e12, decide_eq_false (by omega), decide_eq_true (by omega)]; rfl
      rw [h12]
      rfl
  · obtain ⟨i1, i2, i3, i4, i5, i6⟩ := hI
    have hall : ∀ it, it ∈ now.1 → cov now it t = true := fun it hit => by
      rw [i2] at hit
      cases hc : cov l it t with
      | true => exact i6 it hc
      | false =>
        refine i5 it (List.mem_filter.2 ⟨hit, ?_⟩)
        show (!cov l it t) = true
        rw [hc]; rfl
    have hd := (done_cov now t).2 hall
    rw [doneI now t i1.rng, bindS, hd, condT]
    obtain ⟨u, hu, hu1, hu2, hu3⟩ := until24 now t i1 hd
    rw [hu, bindS]
    by_cases ht : t < 20000000
    · have : u > t := by
        rcases hu3 with rfl | ⟨it, hit, hu4⟩
        · exact ht
        · rcases Int.lt_or_le t u with h | h
          · exact h
          · have := hall it hit
            rw [show t = u by have := hu4.1; omega, hu4.2.2] at this; cases this
      rw [decide_eq_true this, decide_eq_true ht]; rfl
    · rw [decide_eq_false ht, decide_eq_false (by omega)]; rfl
theorem law10 (x : (pk ps10).den) (_ : Valid (pk ps10) x) : d10 x = some true := all10 x.1 x.2.1 x.2.2
end Go.Proofs.Ytbldhkgfeolhnaa.D
