import Derived.Test.YtaipbppgebjdeaaL53i
open Go Go.GD Go.Proofs
namespace Go.Proofs.Ytaipbppgebjdeaa.D
theorem loops9 : lp9_3 = lp9_15 ∧ lp9_7 = lp9_15 ∧ lp9_11 = lp9_15 := ⟨rfl, rfl, rfl⟩
/-- what Sign leaves -/
def put9 (p : Pt) (i : Nat) (hi : i < p.1.length) (l : Ck) : Pt := (p.1.set i ((p.1[i]'hi).1, l), p.2)
theorem put9_get (p : Pt) (i : Nat) (hi : i < p.1.length) (l : Ck) (j : Nat) (hj : j < (put9 p i hi l).1.length) : (put9 p i hi l).1[j] = if i = j then ((p.1[i]'hi).1, l) else p.1[j]'(by simpa [put9] using hj) := by
  simp only [put9]
  rw [List.getElem_set]
theorem tail9 (p : Pt) (run : Int) (i : Nat) (hi : i < p.1.length) (l : Ck) (hr : (p.1[i].1 == run) = true) (h : Sm p) : lp9_15 big run p (put9 p i hi l) 0 = some true := by
  have h1 := h.1
  have h2 := h.2.1
  have hlen : (put9 p i hi l).1.length = p.1.length := by simp [put9]
  rw [f9_15 _ _ _ (by rw [hlen, maxLen_val]; omega)]
  refine forI_inv (fun _ => ()) (fun r => r = some true) (put9 p i hi l).1 (fun pre x post e K hK => ?_) ?_ rfl
  · have hk : pre.length < (put9 p i hi l).1.length := by rw [e]; simp
    have hk' : pre.length < p.1.length := by rw [← hlen]; exact hk
    have hx : x = (put9 p i hi l).1[pre.length] := by simp [e]
    rw [put9_get] at hx
    rw [idx_get hk']
    by_cases hq : i = pre.length
    · subst hq
      rw [if_pos rfl] at hx
      subst hx
      simp only [bindS, bne_self_eq_false, condF]
      have : (p.1[pre.length].1 != run) = false := by rw [bne, hr]; rfl
      rw [this, condF]
      exact hK
    · rw [if_neg hq] at hx
      subst hx
      simp only [bindS, bne_self_eq_false, condF, same30 _ (h.2.2 _ (List.getElem_mem hk')), Bool.not_true]
      cases p.1[pre.length].1 != run <;> exact hK
  · rw [f9_13 p (put9 p i hi l) (by show p.2.length ≤ maxLen; rw [maxLen_val]; omega)]
    refine forI_inv (fun _ => ()) (fun r => r = some true) p.2 (fun pre x post e K hK => ?_) rfl rfl
    have hk : pre.length < p.2.length := by rw [e]; simp
    have hx : p.2[pre.length] = x := by simp [e]
    rw [idx_get hk, hx]
    simp only [bindS, beq_self_eq_true, Bool.and_self, Bool.not_true, condF]
    exact hK
theorem keep9 (p : Pt) (i : Nat) (hi : i < p.1.length) (a b c : Int) (other t : Int) (hA : Acc p) (h0 : D13 p = some 0) (hB : Acc (put9 p i hi (signed (p.1[i]).2 a b c))) (h0' : D13 (put9 p i hi (signed (p.1[i]).2 a b c)) = some 0)
    (hc : c ≤ t) (hl : ∀ g, g ∈ (p.1[i]).2.2.2 → g.2.2 ≤ c) (h : D22 p other t = some true) : D22 (put9 p i hi (signed (p.1[i]).2 a b c)) other t = some true := by
  cases ho : p.1.any (fun l => l.1 == other) with
  | false => rw [ready_none p other t hA ho] at h; cases h
  | true =>
    obtain ⟨r, hr, he⟩ := List.any_eq_true.1 ho
    rw [beq_iff_eq] at he
    subst he
    obtain ⟨j, hj, rfl⟩ := List.getElem_of_mem hr
    rw [ready_at p t hA h0 _ hr] at h
    have h := Option.some.inj h
    have hj' : j < (put9 p i hi (signed (p.1[i]).2 a b c)).1.length := by simpa [put9] using hj
    have hg := put9_get p i hi (signed (p.1[i]).2 a b c) j hj'
    have hm := List.getElem_mem hj'
    have hz' : ∀ q, hz (put9 p i hi (signed (p.1[i]).2 a b c)) q = hz p q := fun _ => rfl
    rw [rdy, Bool.and_eq_true] at h
    by_cases hq : i = j
    · subst hq
      rw [if_pos rfl] at hg
      have := ready_at _ t hB h0' _ hm
      rw [hg] at this
      rw [this, rdy, hz', done_signed _ a b c t hc hl h.1, h.2]
      rfl
    · rw [if_neg hq] at hg
      have := ready_at _ t hB h0' _ hm
      rw [hg] at this
      rw [this, rdy, hz', h.1, h.2]
      rfl
theorem keeps9 (p : Pt) (run : Int) (s : Sg) (other t : Int) (hl : p.1.length ≤ maxLen) : D9 p run s other t = some true := by
  obtain ⟨b, hb, hs⟩ := small11 p hl
  obtain ⟨r, hr⟩ := (right53 p).2
  rw [e9, aliveD, hb, hr]
  simp only [bindS, Bool.not_true, condF]
  cases b with
  | false => rfl
  | true =>
  cases hz0 : r != 0 with
  | true => rfl
  | false =>
    have hr0 : r = 0 := by simpa using hz0
    subst hr0
    have h0 : D13 p = some 0 := by rw [← (right53 p).1, hr]
    have hA := acc_of h0
    have hS : SmP p := hs rfl
    simp only [Bool.not_true, condF]
    rcases sign_cases p run s.1 s.2.1 s.2.2 hS with ⟨e, he, hD⟩ | ⟨i, hi, hri, hrun, hw, hD⟩
    · rw [hD, bindS]
      have : (e != 0) = true := by simpa using he
      simp only [this, condT]
      rfl
    · rw [hD, bindS]
      simp only [bne_self_eq_false, condF]
      change ((D12 (put9 p i hi (signed (p.1[i]).2 s.1 s.2.1 s.2.2))).bind _) = _
      have hlen : (put9 p i hi (signed (p.1[i]).2 s.1 s.2.1 s.2.2)).1.length = p.1.length := by simp [put9]
      have h12 : D12 (put9 p i hi (signed (p.1[i]).2 s.1 s.2.1 s.2.2)) = some 0 := by
        rw [← hr]
        refine right_set p.1 _ p.2 hA.few.1 hlen fun j hj hj' => ?_
        have hg := put9_get p i hi (signed (p.1[i]).2 s.1 s.2.1 s.2.2) j hj
        change (put9 p i hi (signed (p.1[i]).2 s.1 s.2.1 s.2.2)).1[j].1 = _ ∧ D32 (put9 p i hi (signed (p.1[i]).2 s.1 s.2.1 s.2.2)).1[j].2 = _
        rw [hg]
        by_cases hq : i = j
        · subst hq
          rw [if_pos rfl]
          refine ⟨rfl, ?_⟩
          rw [hw]
          obtain ⟨_, _, _, h4⟩ := right_facts p h0
          rw [(right19 _).1]
          exact (h4 _ (List.getElem_mem hi)).symm
        · rw [if_neg hq]
          exact ⟨rfl, rfl⟩
      have h0' : D13 (put9 p i hi (signed (p.1[i]).2 s.1 s.2.1 s.2.2)) = some 0 := by rw [← (right53 _).1, h12]
      have hB := acc_of h0'
      have l1 : ((p.1.set i (p.1[i].1, signed (p.1[i]).2 s.1 s.2.1 s.2.2)).length : Int) = (p.1.length : Int) := by simp
      rw [h12, bindS]
      simp only [bne_self_eq_false, condF, l1]
      obtain ⟨q1, q2, q3⟩ := loops9
      rw [q1, q2, q3]
      have ht := tail9 p run i hi (signed (p.1[i]).2 s.1 s.2.1 s.2.2) hrun hS.sm
      rw [put9] at ht
      simp only [ht]
      cases hc : decide (s.2.2 ≤ t) with
      | false => rfl
      | true =>
        rw [condT, late29 p run s.2.2 hl (fun r hr => by have := (hS.2.2 r hr).2; rw [maxLen_val]; omega), bindS]
        cases hlt : late p run s.2.2 with
        | false => rfl
        | true =>
          obtain ⟨b, hb2, _⟩ := ready22 p other t hA
          rw [condT, hb2, bindS]
          cases b with
          | false => rfl
          | true =>
            have hk := keep9 p i hi s.1 s.2.1 s.2.2 other t hA h0 hB h0' (of_decide_eq_true hc) (fun g hg => by
              have h1 := List.all_eq_true.1 hlt _ (List.getElem_mem hi)
              rw [hrun, condT] at h1
              have h2 := List.all_eq_true.1 h1 g hg
              simpa using h2) hb2
            rw [put9] at hk
            rw [condT, hk, bindS]
            rfl
theorem law9 (x : (pk ps9).den) (h : Valid (pk ps9) x) : d9 x = some true := keeps9 x.1 x.2.1 x.2.2.1 x.2.2.2.1 x.2.2.2.2 h.1.1.1
end Go.Proofs.Ytaipbppgebjdeaa.D
