import Derived.Test.YtbldhkgfeolhnaaL19c
open Go Go.GD Go.Proofs
namespace Go.Proofs.Ytbldhkgfeolhnaa.D
theorem forI_forE {α σ ρ : Type} (b : α → σ → (σ → Option ρ) → Option ρ) (fin : σ → Option ρ) : ∀ (xs : List α) (k : Nat) (s : σ), forI (fun _ el s K => b el s K) fin k xs s = forE b fin xs s
  | [], _, _ => rfl
  | x :: xs, k, s => by
    simp only [forI, forE]
    congr 1
    funext s'
    exact forI_forE b fin xs (k + 1) s'
theorem done_cov (l : Ck) (t : Int) : doneC l t = true ↔ ∀ it, it ∈ l.1 → cov l it t = true := done_iff l t
/-- what Until gives -/
theorem until24 (l : Ck) (t : Int) (h : Good l) (hd : doneC l t = true) : ∃ u, D24 l t = some u ∧ u ≤ 20000000 ∧ (∀ it, it ∈ l.1 → ∀ e, Until1 l it t e → u ≤ e) ∧ (u = 20000000 ∨ ∃ it, it ∈ l.1 ∧ Until1 l it t u) := by
  have h1 := h.li
  rw [e24, doneI l t h.rng, bindS, hd, Bool.not_true, condF, f24_1 _ _ _ _ (by rw [maxLen_val]; omega)]
  refine forE_rule (fun pre u => u ≤ 20000000 ∧ (∀ it, it ∈ pre → ∀ e, Until1 l it t e → u ≤ e) ∧ (u = 20000000 ∨ ∃ it, it ∈ l.1 ∧ Until1 l it t u)) (fun r => ∃ u, r = some u ∧ u ≤ 20000000 ∧ (∀ it, it ∈ l.1 → ∀ e, Until1 l it t e → u ≤ e) ∧ (u = 20000000 ∨ ∃ it, it ∈ l.1 ∧ Until1 l it t u)) l.1
    (fun pre x post e u hI K hK => ?_) (fun u hI => ⟨u, rfl, hI⟩) ⟨Int.le_refl _, (fun it hit => by cases hit), .inl rfl⟩
  obtain ⟨i1, i2, i3⟩ := hI
  have hxm : x ∈ l.1 := by rw [e]; simp
  obtain ⟨e1, he, hu, _⟩ := ends36 l x t h
  rw [he, bindS]
  by_cases hlt : e1 < u
  · rw [decide_eq_true hlt, condT]
    refine hK _ ⟨by omega, fun it hit e' he' => ?_, .inr ⟨x, hxm, hu⟩⟩
    rcases List.mem_append.1 hit with hit | hit
    · have := i2 it hit e' he'; omega
    · rw [List.mem_singleton.1 hit] at he'; rw [hu.uniq he']; exact Int.le_refl _
  · rw [decide_eq_false hlt, condF]
    refine hK _ ⟨i1, fun it hit e' he' => ?_, i3⟩
    rcases List.mem_append.1 hit with hit | hit
    · exact i2 it hit e' he'
    · rw [List.mem_singleton.1 hit] at he'; have := hu.uniq he'; omega
theorem until24_not (l : Ck) (t : Int) (h : Good l) (hd : doneC l t = false) : D24 l t = some t := by
  rw [e24, doneI l t h.rng, bindS, hd]; rfl
theorem end35 (l : Ck) (it u : Int) (h : Good l) : ∃ r, D35 l it u = some r ∧ u ≤ r ∧ (cov l it u = true → u < r) ∧ ∀ v, u ≤ v → v < r → cov l it v = true := by
  have hls := h.ls
  have hev := h.ev
  rw [e35, f35_1 _ _ _ _ (by rw [maxLen_val]; omega)]
  refine forE_rule (fun pre out => u ≤ out ∧ (∀ v, u ≤ v → v < out → cov l it v = true) ∧ (out = u → ∀ g, g ∈ pre → valid l it u g = false)) (fun r => ∃ e, r = some e ∧ u ≤ e ∧ (cov l it u = true → u < e) ∧ ∀ v, u ≤ v → v < e → cov l it v = true) l.2.2
    (fun pre x post e out hI K hK => ?_) (fun out hI => ?_) ⟨Int.le_refl _, (fun v h1 h2 => by omega), fun _ g hg => by cases hg⟩
  · obtain ⟨i1, i2, i3⟩ := hI
    have hk : pre.length < l.2.2.length := by rw [e]; simp
    have hx : l.2.2[pre.length] = x := by simp [e]
    have hxm : x ∈ l.2.2 := by rw [e]; simp
    have hr := (h.sg pre.length hk).2.2
    rw [hx] at hr
    rw [wrap_i64 (n := x.2.2 + l.2.1) (by omega) (by omega)]
    have stay : valid l it u x = false → ∃ e, K out = some e ∧ u ≤ e ∧ (cov l it u = true → u < e) ∧ ∀ v, u ≤ v → v < e → cov l it v = true := fun hv =>
      hK out ⟨i1, i2, fun he g hg => by
        rcases List.mem_append.1 hg with hg | hg
        · exact i3 he g hg
        · rw [List.mem_singleton.1 hg]; exact hv⟩
    cases c1 : x.1 == it with
    | false => exact stay (by rw [valid, c1]; rfl)
    | true =>
      cases c2 : decide (x.2.2 ≤ u) with
      | false => exact stay (by rw [valid, c1, c2]; rfl)
      | true =>
        cases c3 : decide (u < x.2.2 + l.2.1) with
        | false => exact stay (by rw [valid, c1, c2, c3]; rfl)
        | true =>
          simp only [beq_iff_eq] at c1
          have c2 := of_decide_eq_true c2
          have c3 := of_decide_eq_true c3
          simp only [condT]
          by_cases hgt : x.2.2 + l.2.1 > out
          · rw [decide_eq_true hgt, condT]
            refine hK _ ⟨by omega, fun v h1 h2 => cov_iff.2 ⟨x, hxm, c1, by omega, h2⟩, fun he => by omega⟩
          · rw [decide_eq_false hgt, condF]
            exact hK _ ⟨i1, i2, fun he => by omega⟩
  · obtain ⟨i1, i2, i3⟩ := hI
    refine ⟨out, rfl, i1, fun hc => ?_, i2⟩
    by_cases he : out = u
    · unfold cov at hc
      obtain ⟨g, hg, hv⟩ := List.any_eq_true.1 hc
      rw [i3 he g hg] at hv; cases hv
    · omega
theorem until25 (l : Ck) (t : Int) (h : Good l) (hne : l.1 ≠ []) (hd : doneC l t = true) : ∃ u, lp25_3 big l t = some (bif decide ((20000000 : Int) < u) then 20000000 else u) ∧ (∀ it, it ∈ l.1 → ∀ e, Until1 l it t e → u ≤ e) ∧ ∃ it, it ∈ l.1 ∧ Until1 l it t u := by
  have h1 := h.li
  have hlen : 0 < l.1.length := List.length_pos_iff.2 hne
  have ht : 0 ≤ t := by
    have := (done_cov l t).1 hd _ (List.getElem_mem hlen)
    obtain ⟨g, hg, q1, q2, q3⟩ := cov_iff.1 this
    obtain ⟨i, hi, rfl⟩ := List.getElem_of_mem hg
    have := (h.sg i hi).2.2
    omega
  unfold lp25_3
  obtain ⟨r, hr, u, h2, h3, h4⟩ := iter_rule (fun s : Ck × Int => s.1 = l ∧ t ≤ s.2 ∧ ∀ it, it ∈ l.1 → ∀ e, Until1 l it t e → s.2 ≤ e) (fun s => (20604801 - s.2).toNat)
    (fun _ r => ∃ u, r = (bif decide ((20000000 : Int) < u) then 20000000 else u) ∧ (∀ it, it ∈ l.1 → ∀ e, Until1 l it t e → u ≤ e) ∧ ∃ it, it ∈ l.1 ∧ Until1 l it t u)
    (step := (fun F ((l1, u) : Ck × Int) =>
    (D23 l1 u).bind fun r1 =>
    bif r1 then (
      (idx l1.1 0).bind fun e =>
      (D35 l1 e u).bind fun r2 =>
      lp25_1 big F l1 u r2 1)
    else some (bif decide ((20000000 : Int) < u) then 20000000 else u))) (fun F s hI hF => by
      obtain ⟨l', u⟩ := s
      obtain ⟨e0, hu, hI⟩ := hI
      dsimp only at e0 hu hI
      subst e0
      simp only [doneR _ u h.rng, bindS]
      cases hdu : doneC l' u with
      | false =>
        rw [condF]
        refine ⟨_, rfl, u, rfl, hI, ?_⟩
        have : ¬ ∀ it, it ∈ l'.1 → cov l' it u = true := fun hh => by rw [(done_cov l' u).2 hh] at hdu; cases hdu
        have ⟨it, hit, hc⟩ : ∃ it, it ∈ l'.1 ∧ cov l' it u = false := by
          refine Classical.byContradiction fun hn => this fun it hit => ?_
          cases hc : cov l' it u with
          | true => rfl
          | false => exact absurd ⟨it, hit, hc⟩ hn
        obtain ⟨e, _, he, _⟩ := ends36 l' it t h
        have hle := hI it hit e he
        refine ⟨it, hit, ?_⟩
        rcases Int.lt_or_le u e with hlt | hge
        · rw [he.2.1 u hu hlt] at hc; cases hc
        · rw [show u = e by omega]; exact he
      | true =>
        have hcov := (done_cov l' u).1 hdu
        rw [condT, show idx l'.1 0 = some l'.1[0] from idx_get hlen, bindS]
        have bound : ∀ it, it ∈ l'.1 → ∃ r, D35 l' it u = some r ∧ u < r ∧ ∀ e, Until1 l' it t e → r ≤ e := fun it hit => by
          obtain ⟨r, h1, h2, h3, h4⟩ := end35 l' it u h
          refine ⟨r, h1, h3 (hcov it hit), fun e he => ?_⟩
          rcases Int.lt_or_le e r with hlt | hge
          · have := h4 e (hI it hit e he) hlt
            rw [he.2.2] at this; cases this
          · exact hge
        obtain ⟨r0, q1, q2, q3⟩ := bound _ (List.getElem_mem hlen)
        rw [q1, bindS, f25_1 _ _ _ _ (by rw [maxLen_val]; omega) (by omega), forI_forE]
        have hu6 : u < 20604801 := by
          obtain ⟨g, hg, _, _, p3⟩ := cov_iff.1 (hcov _ (List.getElem_mem hlen))
          obtain ⟨i, hi, rfl⟩ := List.getElem_of_mem hg
          have := (h.sg i hi).2.2
          have := h.ev
          omega
        refine forE_rule (fun pre nx => u < nx ∧ ∀ it, it ∈ l'.1[0] :: pre → ∀ e, Until1 l' it t e → nx ≤ e) (fun r => ∃ x, r = some x ∧ ∃ u, x = (bif decide ((20000000 : Int) < u) then 20000000 else u) ∧ (∀ it, it ∈ l'.1 → ∀ e, Until1 l' it t e → u ≤ e) ∧ ∃ it, it ∈ l'.1 ∧ Until1 l' it t u) (List.drop 1 l'.1)
          (fun pre x post e nx hN K hK => ?_) (fun nx hN => ?_) ⟨q2, fun it hit e he => by rw [List.mem_singleton.1 hit] at he; exact q3 e he⟩
        · obtain ⟨n1, n2⟩ := hN
          have hxm : x ∈ l'.1 := List.mem_of_mem_drop (i := 1) (by rw [e]; simp)
          obtain ⟨r1, p1, p2, p3⟩ := bound x hxm
          rw [p1, bindS]
          by_cases hlt : r1 < nx
          · rw [decide_eq_true hlt, condT]
            refine hK _ ⟨p2, fun it hit e' he' => ?_⟩
            rw [← List.cons_append] at hit
            rcases List.mem_append.1 hit with hit | hit
            · have := n2 it hit e' he'; omega
            · rw [List.mem_singleton.1 hit] at he'; exact p3 e' he'
          · rw [decide_eq_false hlt, condF]
            refine hK _ ⟨n1, fun it hit e' he' => ?_⟩
            rw [← List.cons_append] at hit
            rcases List.mem_append.1 hit with hit | hit
            · exact n2 it hit e' he'
            · rw [List.mem_singleton.1 hit] at he'; have := p3 e' he'; omega
        · obtain ⟨n1, n2⟩ := hN
          have hall : l'.1[0] :: List.drop 1 l'.1 = l'.1 := by rw [← List.drop_eq_getElem_cons hlen]; rfl
          rw [hall] at n2
          exact hF (l', nx) ⟨rfl, by show t ≤ nx; omega, n2⟩ (by show (20604801 - nx).toNat < (20604801 - u).toNat; omega)) big (l, t) ⟨rfl, Int.le_refl _, fun it _ e he => he.1⟩ (by show (20604801 - t).toNat < 18446744073709551616; omega)
  exact ⟨u, by rw [hr, h2], h3, h4⟩
theorem untils7 (l : Ck) (t : Int) : D7 l t = some true := by
  obtain ⟨h1, r, h2⟩ := rightIR l
  rw [e7, aliveD, bindS, ← h1, h2]
  simp only [bindS, Bool.not_true, condF]
  cases hz : r != 0 with
  | true => rfl
  | false =>
    have h0 : D13 l = some 0 := by rw [← h1, h2, show r = 0 by simpa using hz]
    have hG := good_of l h0
    have hli := hG.li
    rw [condF, e25]
    cases hd : doneC l t with
    | false =>
      rw [until24_not l t hG hd, bindS, doneR l t hG.rng, bindS, hd]
      cases hn : ((l.1.length : Int) == 0) with
      | true =>
        have hn : l.1 = [] := List.eq_nil_of_length_eq_zero (by simpa using hn)
        have := (done_cov l t).2 (fun it hit => by rw [hn] at hit; cases hit)
        rw [this] at hd; cases hd
      | false => simp only [condF, Bool.not_false, condT, bindS, beq_self_eq_true]
    | true =>
      obtain ⟨u, hu, hu1, hu2, hu3⟩ := until24 l t hG hd
      rw [hu, bindS]
      cases hn : ((l.1.length : Int) == 0) with
      | true =>
        have hn : l.1 = [] := List.eq_nil_of_length_eq_zero (by simpa using hn)
        rw [condT, bindS]
        rcases hu3 with rfl | ⟨it, hit, _⟩
        · rfl
        · rw [hn] at hit; cases hit
      | false =>
        have hne : l.1 ≠ [] := fun e => by rw [e] at hn; cases hn
        obtain ⟨U, hU, hU2, it, hit, hU3⟩ := until25 l t hG hne hd
        rw [condF, doneR l t hG.rng, bindS, hd, Bool.not_true, condF, hU, bindS]
        have hle := hu2 it hit U hU3
        rcases hu3 with rfl | ⟨it', hit', hu4⟩
        · rcases Int.lt_or_le 20000000 U with hlt | hge
          · rw [decide_eq_true hlt]; rfl
          · rw [show U = 20000000 by omega]; rfl
        · have := hU2 it' hit' u hu4
          rw [show U = u by omega, decide_eq_false (by omega), condF, beq_self_eq_true]
theorem law7 (x : (pk ps7).den) (_ : Valid (pk ps7) x) : d7 x = some true := untils7 x.1 x.2

theorem until8 (l : Ck) (t v : Int) : D8 l t v = some true := by
  obtain ⟨h1, r, h2⟩ := rightIR l
  rw [e8, aliveD, bindS, h2]
  simp only [bindS, Bool.not_true, condF]
  cases decide ((l.1.length : Int) > 80) with
  | true => rfl
  | false =>
  cases decide ((l.2.2.length : Int) > 220) with
  | true => rfl
  | false =>
  cases hz : r != 0 with
  | true => rfl
  | false =>
  have h0 : D13 l = some 0 := by rw [← h1, h2, show r = 0 by simpa using hz]
  have hG := good_of l h0
  simp only [condF]
  cases ht : decide (t > 20000000) with
  | true => rfl
  | false =>
  simp only [decide_eq_false_iff_not] at ht
  rw [condF]
  simp only [doneI _ _ hG.rng]
  cases hd : doneC l t with
  | false =>
    rw [until24_not l t hG hd]
    simp only [bindS, Bool.not_false, condT, beq_self_eq_true]
  | true =>
    obtain ⟨u, hu, hu1, hu2, hu3⟩ := until24 l t hG hd
    have hcov := (done_cov l t).1 hd
    have hgt : ∀ it, it ∈ l.1 → ∀ e, Until1 l it t e → t < e := fun it hit e he => by
      have h1 := he.1
      rcases Int.lt_or_le t e with h | h
      · exact h
      · have := hcov it hit
        rw [show t = e by omega, he.2.2] at this; cases this
    have hnd : u < 20000000 → doneC l u = false := fun hlt => by
      rcases hu3 with rfl | ⟨it, hit, hu4⟩
      · omega
      · rw [Bool.eq_false_iff]
        intro hdu
        have := (done_cov l u).1 hdu it hit
        rw [hu4.2.2] at this; cases this
    have hul : u < 20000000 → t < u := fun hlt => by
      rcases hu3 with rfl | ⟨it, hit, hu4⟩
      · omega
      · exact hgt it hit u hu4
    have hin : t ≤ v → v < u → doneC l v = true := fun hv1 hv2 => (done_cov l v).2 fun it hit => by
      obtain ⟨e, _, he, _⟩ := ends36 l it t hG
      exact he.2.1 v hv1 (by have := hu2 it hit e he; omega)
    have last : (bif decide (v < t) then some true else bif decide (v ≥ u) then some true else some (doneC l v)) = some true := by
      cases hv1 : decide (v < t) with
      | true => rfl
      | false =>
        cases hv2 : decide (v ≥ u) with
        | true => rfl
        | false =>
          simp only [decide_eq_false_iff_not] at hv1 hv2
          rw [hin (by omega) (by omega)]; rfl
    rw [hu]
    simp only [bindS, Bool.not_true, condF]
    rw [decide_eq_false (show ¬ u > 20000000 by omega)]
    simp only [condF]
    by_cases hlt : u < 20000000
    · rw [decide_eq_true hlt, decide_eq_false (show ¬ u ≤ t by have := hul hlt; omega), condF, condT, hnd hlt, condF]
      exact last
    · rw [decide_eq_false hlt]
      simp only [condF, last]
      cases decide (u ≤ t) <;> rfl
theorem law8 (x : (pk ps8).den) (_ : Valid (pk ps8) x) : d8 x = some true := until8 x.1 x.2.1 x.2.2
end Go.Proofs.Ytbldhkgfeolhnaa.D
