import Derived.Test.YtaipbppgebjdeaaL53b
open Go Go.GD Go.Proofs
namespace Go.Proofs.Ytaipbppgebjdeaa.D
theorem forI_pass {α ρ : Type} {body : Nat → α → Unit → (Unit → Option ρ) → Option ρ} {fin : Unit → Option ρ} {r : ρ} (good : Nat → α → Prop) : ∀ (xs : List α) (k : Nat),
    (∀ i (h : i < xs.length) K, body (k + i) xs[i] () K = some r → good (k + i) xs[i] ∧ K () = some r) → forI body fin k xs () = some r → (∀ i (h : i < xs.length), good (k + i) xs[i]) ∧ fin () = some r
  | [], _, _, h => ⟨fun i hi => by simp at hi, h⟩
  | x :: xs, k, hb, h => by
    have h0 := hb 0 (by simp) _ h
    have hr := forI_pass good xs (k + 1) (fun i hi K hK => by
      have := hb (i + 1) (by simpa using hi) K (by rw [show k + (i + 1) = k + 1 + i by omega]; simpa using hK)
      rw [show k + (i + 1) = k + 1 + i by omega] at this
      simpa using this) h0.2
    refine ⟨fun i hi => ?_, hr.2⟩
    cases i with
    | zero => exact h0.1
    | succ i =>
      have := hr.1 i (by simpa using hi)
      rw [show k + 1 + i = k + (i + 1) by omega] at this
      simpa using this
theorem pass_bif {ρ : Type} {c : Bool} {a r : ρ} {b : Option ρ} (h : (bif c then some a else b) = some r) (hne : a ≠ r) : c = false ∧ b = some r := by
  cases c with
  | true => exact absurd (Option.some.inj h) hne
  | false => exact ⟨rfl, h⟩
/-- what Right says of the hazards and the lists -/
theorem right_facts (p : Pt) (h : D13 p = some 0) : p.1.length ≤ 64 ∧ p.2.length ≤ 200 ∧ (∀ i (h : i < p.2.length), (p.2.take i).any (fun x => x.1 == p.2[i].1) = false) ∧ (∀ r, r ∈ p.1 → D35 r.2 = some 0) := by
  rw [e13] at h
  obtain ⟨h1, h⟩ := pass_bif h (by decide)
  obtain ⟨h2, h⟩ := pass_bif h (by decide)
  simp only [decide_eq_false_iff_not] at h1 h2
  have m1 : p.1.length ≤ maxLen := by rw [maxLen_val]; omega
  have m2 : p.2.length ≤ maxLen := by rw [maxLen_val]; omega
  rw [f13_4 p m1] at h
  obtain ⟨g1, h⟩ := forI_pass (fun _ (x : Rl) => D35 x.2 = some 0) p.1 0 (fun i hi K hK => by
    obtain ⟨_, hK⟩ := pass_bif hK (by decide)
    obtain ⟨_, hK⟩ := pass_bif hK (by decide)
    have fin : ∀ {o : Option Int}, (o.bind fun r => bif (r != 0) then some r else K ()) = some 0 → o = some 0 ∧ K () = some 0 := by
      intro o ho
      cases o with
      | none => cases ho
      | some r =>
        rw [bindS] at ho
        cases hz : r != 0 with
        | true => rw [hz, condT] at ho; rw [Option.some.inj ho] at hz; cases hz
        | false => rw [hz, condF] at ho; exact ⟨by rw [show r = 0 by simpa using hz], ho⟩
    cases hd : decide (((0 + i : Nat) : Int) > 0) with
    | false => rw [hd, condF] at hK; exact fin hK
    | true =>
      rw [hd, condT] at hK
      cases hx : idx p.1 (IntKind.i64.wrap (((0 + i : Nat) : Int) - 1)) with
      | none => rw [hx] at hK; cases hK
      | some e =>
        rw [hx, bindS] at hK
        obtain ⟨_, hK⟩ := pass_bif hK (by decide)
        exact fin hK) h
  have hin : lp13_3 big p 0 = forI (fun ix el (_ : Unit) K => (bif decide (el.1 < 1) then some 2 else bif decide (el.1 > 9999) then some 2 else bif decide (el.2.2 < 0) then some 2 else bif decide (el.2.2 > 20000000) then some 2
      else bif (p.2.take ix).any (fun h => h.1 == el.1) then some 7 else (D36 p el.2.1).bind fun r => bif decide (r < 0) then some 8 else K () : Option Int)) (fun (_ : Unit) => some 0) 0 p.2 () := by
    unfold lp13_3
    refine iter_forI p.2 (fun ix (_ : Unit) => (p, (ix : Int))) _ _ (fun F k h _ => ?_) (fun F _ => ?_) (len_lt_big m2) ()
    · simp only [dec_lt h, condT, idx_get h, bindS]
      rw [f13_1 F p (k : Int) p.2[k] (by omega), Int.toNat_natCast, forN_any (fun (e : Sg) => e.1 == (p.2[k]).1) 7 p.2 _ k (by omega), wrap_succ h m2]
    · simp only [dec_end, condF]
  rw [hin] at h
  obtain ⟨g2, _⟩ := forI_pass (fun i (x : Sg) => (p.2.take i).any (fun h => h.1 == x.1) = false) p.2 0 (fun i hi K hK => by
    obtain ⟨_, hK⟩ := pass_bif hK (by decide)
    obtain ⟨_, hK⟩ := pass_bif hK (by decide)
    obtain ⟨_, hK⟩ := pass_bif hK (by decide)
    obtain ⟨_, hK⟩ := pass_bif hK (by decide)
    obtain ⟨hg, hK⟩ := pass_bif hK (by decide)
    refine ⟨hg, ?_⟩
    rw [at36 _ _ m1, bindS] at hK
    exact (pass_bif hK (by decide)).2) h
  refine ⟨by omega, by omega, fun i hi => by have := g2 i hi; rwa [Nat.zero_add] at this, fun r hr => ?_⟩
  obtain ⟨i, hi, rfl⟩ := List.getElem_of_mem hr
  exact g1 i hi

theorem report18 (p : Pt) (h : Sg) (hp : SmP p) : D18 p h = D19 p h ∧ ∃ q, D18 p h = some q ∧ Sm q.1 := by
  have hs := hp.sm
  have hl := hp.2.1
  rw [e18, e19, cp38 _ hs, own40 _ hs, bindS, bindS, limOk (by decide) (by simp only [List.length_singleton]; omega), condT, condT]
  obtain ⟨k1, r, k2⟩ := right53 (p.1, p.2 ++ [h])
  rw [← k1, k2, bindS]
  refine ⟨rfl, ?_⟩
  cases r != 0 with
  | true => exact ⟨_, rfl, zP_sm⟩
  | false => exact ⟨_, rfl, hs.1, by simp only [List.length_append, List.length_singleton]; omega, hs.2.2⟩
theorem filter_one (l : List Sg) (id : Int) (i : Nat) (hi : i < l.length) (h1 : (l[i].1 == id) = true) (hu : ∀ j (h : j < l.length), j ≠ i → (l[j].1 == id) = false) :
    l.filter (fun g => g.1 != id) = l.take i ++ l.drop (i + 1) := by
  have e : l = l.take i ++ (l[i] :: l.drop (i + 1)) := by rw [← List.drop_eq_getElem_cons hi, List.take_append_drop]
  have hall : ∀ (m : List Sg), (∀ x, x ∈ m → (x.1 == id) = false) → m.filter (fun g => g.1 != id) = m := fun m hm => List.filter_eq_self.2 fun x hx => by simp only [bne, hm x hx]; rfl
  have f1 : (l.take i).filter (fun g => g.1 != id) = l.take i := hall _ fun x hx => by
    obtain ⟨j, hj, rfl⟩ := List.getElem_of_mem hx
    rw [List.length_take] at hj
    rw [List.getElem_take]
    exact hu j (by omega) (by omega)
  have f2 : (l.drop (i + 1)).filter (fun g => g.1 != id) = l.drop (i + 1) := hall _ fun x hx => by
    obtain ⟨j, hj, rfl⟩ := List.getElem_of_mem hx
    rw [List.length_drop] at hj
    rw [List.getElem_drop]
    exact hu (i + 1 + j) (by omega) (by omega)
  have hx : (l[i].1 != id) = false := by simp only [bne, h1]; rfl
  conv => lhs; rw [e]
  rw [List.filter_append, List.filter_cons, hx, f1]
  simp only [Bool.false_eq_true, if_false, f2]
theorem remove20 (p : Pt) (id : Int) (hp : SmP p) (hu : ∀ i (h : i < p.2.length), (p.2.take i).any (fun x => x.1 == p.2[i].1) = false) : D20 p id = D21 p id ∧ ∃ q, D20 p id = some q ∧ Sm q.1 := by
  have hs := hp.sm
  have hl := hp.2.1
  have m2 : p.2.length ≤ maxLen := by rw [maxLen_val]; omega
  have href : D21 p id = bif (((p.2.filter (fun g => g.1 != id)).length : Int) == (p.2.length : Int)) then some (([], []), 8) else some ((p.1, p.2.filter (fun g => g.1 != id)), 0) := by
    rw [e21, own40 _ hs, bindS, f21_1 _ _ _ _ m2]
    refine forE_inv (fun pre => (p.1, pre.filter (fun g => g.1 != id))) (fun r => r = _) p.2 (fun pre x post e K hK => ?_) rfl rfl
    have hl : pre.length + 1 + post.length = p.2.length := by rw [e]; simp; omega
    have := List.length_filter_le (fun (g : Sg) => g.1 != id) pre
    rw [List.filter_append] at hK
    cases hx : x.1 != id with
    | true =>
      rw [condT, limOk (by decide) (by simp only [List.length_singleton]; omega), condT]
      simp only [List.filter_cons, hx, if_true, List.filter_nil] at hK
      exact hK
    | false =>
      simp only [List.filter_cons, hx, Bool.false_eq_true, if_false, List.filter_nil, List.append_nil] at hK
      rw [condF]
      exact hK
  rw [href, e20, haz33 _ _ m2, bindS]
  rcases hazAt_cases p.2 id with ⟨hr, hno⟩ | ⟨i, hi, hr, h1, hbef⟩
  · have hf : p.2.filter (fun g => g.1 != id) = p.2 := List.filter_eq_self.2 fun x hx => by
      have := (List.any_eq_false.1 hno) x hx
      simpa using this
    have hd : decide ((-1 : Int) < 0) = true := rfl
    rw [hr, hd, condT, hf, beq_self_eq_true, condT]
    exact ⟨rfl, _, rfl, zP_sm⟩
  · have huniq : ∀ j (h : j < p.2.length), j ≠ i → (p.2[j].1 == id) = false := by
      intro j hj hne
      rcases Nat.lt_or_ge j i with hji | hji
      · exact hbef j hj hji
      · have hji : i < j := by omega
        have := List.any_eq_false.1 (hu j hj) p.2[i] (List.mem_take_iff_getElem.2 ⟨i, by omega, rfl⟩)
        have e1 : p.2[i].1 = id := by simpa using h1
        rw [e1] at this
        cases hq : p.2[j].1 == id with
        | false => rfl
        | true => rw [beq_iff_eq] at hq; rw [hq] at this; simp at this
    have hfil := filter_one p.2 id i hi h1 huniq
    have hd : decide ((i : Int) < 0) = false := decide_eq_false (by omega)
    have hlen : ((((p.2.take i ++ p.2.drop (i + 1)).length : Nat) : Int) == (p.2.length : Int)) = false := by
      rw [List.length_append, List.length_take, List.length_drop, Nat.min_eq_left (by omega)]
      simp; omega
    have hdel : D41 p.2 (i : Int) (IntKind.i64.wrap ((i : Int) + 1)) = some (p.2.take i ++ p.2.drop (i + 1)) := by
      rw [wrap_i64 (by omega) (by omega)]
      show delD (.pair (.int .i64) (.pair (.int .i64) (.int .i64))) (p.2, (i : Int), (i : Int) + 1) = _
      unfold delD
      rw [if_pos ⟨by show (0 : Int) ≤ (i : Int); omega, by show (i : Int) ≤ (i : Int) + 1; omega, by show (i : Int) + 1 ≤ (p.2.length : Int); omega⟩]
      show some (p.2.take (i : Int).toNat ++ p.2.drop ((i : Int) + 1).toNat) = _
      rw [Int.toNat_natCast, show ((i : Int) + 1).toNat = i + 1 by omega]
    rw [hr, hd, condF, cp38 _ hs, bindS, hdel, bindS, hfil, hlen, condF]
    refine ⟨rfl, _, rfl, hs.1, ?_, hs.2.2⟩
    simp only [List.length_append, List.length_take, List.length_drop]
    omega
theorem reports5 (p : Pt) (h : Sg) (id : Int) (hl : p.1.length ≤ maxLen) : D5 p h id = some true := by
  obtain ⟨b, hb, hs⟩ := acc14 p hl
  rw [e5, aliveD, hb]
  simp only [bindS, Bool.not_true, condF]
  cases b with
  | false => rfl
  | true =>
    obtain ⟨s1, s2⟩ := hs rfl
    obtain ⟨k1, q, k2, k3⟩ := report18 p h s1
    obtain ⟨l1, r, l2, l3⟩ := remove20 p id s1 (right_facts p s2).2.2.1
    rw [← k1, k2, ← l1, l2]
    simp only [Bool.not_true, condF, bindS, same17 _ k3, same17 _ l3, condT, beq_self_eq_true]
theorem law5 (x : (pk ps5).den) (h : Valid (pk ps5) x) : d5 x = some true := reports5 x.1 x.2.1 x.2.2 h.1.1.1
end Go.Proofs.Ytaipbppgebjdeaa.D
