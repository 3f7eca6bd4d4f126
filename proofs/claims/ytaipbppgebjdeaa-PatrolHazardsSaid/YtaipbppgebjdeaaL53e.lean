import Derived.Test.YtaipbppgebjdeaaL53d
open Go Go.GD Go.Proofs
namespace Go.Proofs.Ytaipbppgebjdeaa.D
theorem runs_up (p : Pt) (h : D13 p = some 0) : ∀ i (h : i + 1 < p.1.length), (p.1[i]'(by omega)).1 < p.1[i + 1].1 := by
  rw [e13] at h
  obtain ⟨h1, h⟩ := pass_bif h (by decide)
  obtain ⟨h2, h⟩ := pass_bif h (by decide)
  simp only [decide_eq_false_iff_not] at h1 h2
  have m1 : p.1.length ≤ maxLen := by rw [maxLen_val]; omega
  rw [f13_4 p m1] at h
  obtain ⟨g1, h⟩ := forI_pass (fun i (x : Rl) => ∀ j, i = j + 1 → ∀ e, idx p.1 (j : Int) = some e → e.1 < x.1) p.1 0 (fun i hi K hK => by
    obtain ⟨_, hK⟩ := pass_bif hK (by decide)
    obtain ⟨_, hK⟩ := pass_bif hK (by decide)
    have fin : ∀ {o : Option Int}, (o.bind fun r => bif (r != 0) then some r else K ()) = some 0 → K () = some 0 := by
      intro o ho
      cases o with
      | none => cases ho
      | some r =>
        rw [bindS] at ho
        cases hz : r != 0 with
        | true => rw [hz, condT] at ho; rw [Option.some.inj ho] at hz; cases hz
        | false => rw [hz, condF] at ho; exact ho
    cases hd : decide (((0 + i : Nat) : Int) > 0) with
    | false =>
      rw [hd, condF] at hK
      simp only [decide_eq_false_iff_not] at hd
      exact ⟨fun j hj => by omega, fin hK⟩
    | true =>
      rw [hd, condT] at hK
      have hd := of_decide_eq_true hd
      rw [wrap_i64 (by omega) (by omega)] at hK
      cases hx : idx p.1 (((0 + i : Nat) : Int) - 1) with
      | none => rw [hx] at hK; cases hK
      | some e =>
        rw [hx, bindS] at hK
        obtain ⟨hle, hK⟩ := pass_bif hK (by decide)
        simp only [decide_eq_false_iff_not] at hle
        refine ⟨fun j hj e' he' => ?_, fin hK⟩
        rw [show ((0 + i : Nat) : Int) - 1 = (j : Int) by omega, he'] at hx
        rw [Option.some.inj hx]
        omega) h
  intro i hi
  exact g1 (i + 1) hi i (by omega) _ (idx_get (by omega))
theorem runs_lt (p : Pt) (h : D13 p = some 0) : ∀ (d i : Nat) (h : i + d + 1 < p.1.length), (p.1[i]'(by omega)).1 < p.1[i + d + 1].1
  | 0, i, hi => runs_up p h i hi
  | d + 1, i, hi => Int.lt_trans (runs_lt p h d i (by omega)) (runs_up p h (i + d + 1) hi)
theorem runAt_self (p : Pt) (h : D13 p = some 0) (i : Nat) (hi : i < p.1.length) : runAt p p.1[i].1 = (i : Int) := by
  rcases runAt_cases p p.1[i].1 with ⟨_, hn⟩ | ⟨j, hj, hr, he⟩
  · have := List.any_eq_false.1 hn p.1[i] (List.getElem_mem hi)
    simp at this
  · rw [beq_iff_eq] at he
    rw [hr]
    rcases Nat.lt_trichotomy i j with hlt | rfl | hlt
    · have := runs_lt p h (j - i - 1) i (by omega)
      simp only [show i + (j - i - 1) + 1 = j by omega] at this
      omega
    · rfl
    · have := runs_lt p h (i - j - 1) j (by omega)
      simp only [show j + (i - j - 1) + 1 = i by omega] at this
      omega
def hz (p : Pt) (run : Int) : Bool := p.2.any fun h => h.2.1 == run
def rdy (p : Pt) (t : Int) (r : Rl) : Bool := doneC r.2 t && !hz p r.1
theorem ready_none (p : Pt) (run t : Int) (h : Acc p) (hn : p.1.any (fun l => l.1 == run) = false) : D22 p run t = some false := by
  have m1 : p.1.length ≤ maxLen := by have := h.few.1; rw [maxLen_val]; omega
  have hr : runAt p run = -1 := findI_neg _ _ _ hn
  have hd : decide ((-1 : Int) < 0) = true := rfl
  rw [e22, list34 _ _ m1, bindS, hr, hd, condT]
theorem ready_at (p : Pt) (t : Int) (h : Acc p) (h0 : D13 p = some 0) (x : Rl) (hx : x ∈ p.1) : D22 p x.1 t = some (rdy p t x) := by
  obtain ⟨i, hi, rfl⟩ := List.getElem_of_mem hx
  have m1 : p.1.length ≤ maxLen := by have := h.few.1; rw [maxLen_val]; omega
  have m2 : p.2.length ≤ maxLen := by have := h.few.2; rw [maxLen_val]; omega
  have hd : decide ((i : Int) < 0) = false := decide_eq_false (by omega)
  have hR := h.rng _ (List.getElem_mem hi)
  rw [e22, list34 _ _ m1, bindS, runAt_self p h0 i hi, hd, condF, idx_get hi, bindS, done27 _ _ hR, bindS, any42 p.2 _ (fun h => h.2.1 == p.1[i].1) (fun x _ => e43 x _) m2, bindS, rdy, hz]
  cases doneC (p.1[i]).2 t <;> rfl
def opens (p : Pt) (t : Int) (l : List Rl) : List Int := (l.filter fun r => !rdy p t r).map (·.1)
theorem opens_le (p : Pt) (t : Int) (l : List Rl) : (opens p t l).length ≤ l.length := by
  rw [opens, List.length_map]; exact List.length_filter_le _ _
theorem opens_snoc (p : Pt) (t : Int) (l : List Rl) (x : Rl) : opens p t (l ++ [x]) = opens p t l ++ (bif rdy p t x then [] else [x.1]) := by
  rw [opens, List.filter_append, List.map_append]
  cases hx : rdy p t x <;> simp [opens, hx]
theorem open_eq (p : Pt) (t : Int) (h : Acc p) (h0 : D13 p = some 0) : D25 p t = some (opens p t p.1) := by
  have h1 := h.few.1
  have m1 : p.1.length ≤ maxLen := by rw [maxLen_val]; omega
  rw [e25, f25_1 _ _ _ _ m1]
  refine forE_inv (fun pre => opens p t pre) (fun r => r = _) p.1 (fun pre x post e K hK => ?_) rfl rfl
  have hlen : pre.length + 1 + post.length = p.1.length := by rw [e]; simp; omega
  have := opens_le p t pre
  rw [ready_at p t h h0 x (by rw [e]; simp), bindS]
  rw [opens_snoc] at hK
  cases hx : rdy p t x with
  | true =>
    rw [hx, cond_true, List.append_nil] at hK
    exact hK
  | false =>
    rw [hx, cond_false] at hK
    rw [Bool.not_false, condT, limOk (by decide) (by simp only [List.length_singleton]; omega), condT]
    exact hK
theorem haz28 (p : Pt) (run : Int) (h : p.2.length ≤ 200) : ∃ c : Int, D28 p run = some c ∧ (c == 0) = !hz p run := by
  rw [e28, f28_1 _ _ _ (by rw [maxLen_val]; omega)]
  suffices key : ∀ (ys : List Sg) (k : Nat), k + ys.length ≤ 200 → ∃ c : Int, forE _ _ ys (k : Int) = some c ∧ (c == 0) = ((k == 0) && !ys.any fun h => h.2.1 == run) from by
    obtain ⟨c, h1, h2⟩ := key p.2 0 (by omega)
    exact ⟨c, h1, by rw [h2]; rfl⟩
  intro ys
  induction ys with
  | nil => intro k _; refine ⟨k, rfl, ?_⟩; rw [List.any_nil]; cases k <;> simp; omega
  | cons y ys ih =>
    intro k hk
    rw [List.length_cons] at hk
    have hw : IntKind.i64.wrap ((k : Int) + 1) = ((k + 1 : Nat) : Int) := by rw [wrap_i64 (by omega) (by omega)]; rfl
    rw [forE, hw, List.any_cons]
    cases y.2.1 == run with
    | true =>
      obtain ⟨c, h1, h2⟩ := ih (k + 1) (by omega)
      refine ⟨c, h1, ?_⟩
      rw [h2]; simp
    | false =>
      obtain ⟨c, h1, h2⟩ := ih k (by omega)
      exact ⟨c, h1, by rw [h2, Bool.false_or]⟩
set_option maxHeartbeats 4000000 in
theorem ready7 (p : Pt) (run t : Int) (hl : p.1.length ≤ maxLen) : D7 p run t = some true := by
  obtain ⟨b, hb, _⟩ := small11 p hl
  obtain ⟨r, hr⟩ := (right53 p).2
  rw [e7, aliveD, hb, hr]
  simp only [bindS, Bool.not_true, condF]
  cases b with
  | false => rfl
  | true =>
  cases hz0 : r != 0 with
  | true => rfl
  | false =>
    have h0 : D13 p = some 0 := by rw [← (right53 p).1, hr, show r = 0 by simpa using hz0]
    have hA := acc_of h0
    have hf := hA.few
    simp only [Bool.not_true, condF]
    rw [open_eq p t hA h0, bindS, f7_1 _ _ _ _ _ _ hl]
    have hle := opens_le p t p.1
    refine forE_inv (fun pre => (((opens p t pre).length : Int), pre.any (fun l => l.1 == run))) (fun r => r = some true) p.1 (fun pre x post e K hK => ?_) ?_ rfl
    · have hxm : x ∈ p.1 := by rw [e]; simp
      have hlen : pre.length + 1 + post.length = p.1.length := by rw [e]; simp; omega
      have hpl := opens_le p t pre
      have hw : IntKind.i64.wrap (((opens p t pre).length : Int) + 1) = (((opens p t pre).length + 1 : Nat) : Int) := by rw [wrap_i64 (by omega) (by omega)]; rfl
      obtain ⟨c, hc1, hc2⟩ := haz28 p x.1 hf.2
      have hsplit : opens p t p.1 = opens p t (pre ++ [x]) ++ opens p t post := by
        rw [e, show pre ++ x :: post = (pre ++ [x]) ++ post by simp]
        simp only [opens, List.filter_append, List.map_append]
      rw [opens_snoc] at hK hsplit
      have hany : (pre ++ [x]).any (fun l => l.1 == run) = (pre.any (fun l => l.1 == run) || (x.1 == run)) := by simp
      rw [hany] at hK
      simp only [done27 _ _ (hA.rng x hxm), ready_at p t hA h0 x hxm, bindS, hc1, hc2, hw]
      cases hd : doneC x.2 t with
      | true =>
        have hrd : rdy p t x = !hz p x.1 := by rw [rdy, hd, Bool.true_and]
        rw [hrd] at hK hsplit ⊢
        cases hh : hz p x.1 with
        | false =>
          simp only [hh, Bool.not_false, cond_true, List.append_nil] at hK
          simp only [condT, condF, Bool.not_false, Bool.not_true, beq_self_eq_true]
          cases hfd : pre.any (fun l => l.1 == run) with
          | true => rw [hfd, Bool.true_or] at hK; exact hK
          | false => rw [hfd, Bool.false_or] at hK; exact hK
        | true =>
          simp only [hh, Bool.not_true, cond_false, List.length_append, List.length_singleton] at hK hsplit
          have hlt : (opens p t pre).length < (opens p t p.1).length := by rw [hsplit]; simp
          have hge : decide (((opens p t pre).length : Int) ≥ ((opens p t p.1).length : Int)) = false := decide_eq_false (by omega)
          have hix : idx (opens p t p.1) ((opens p t pre).length : Int) = some x.1 := by
            rw [idx_get hlt]; congr 1; simp [hsplit]
          simp only [condT, condF, Bool.not_false, Bool.not_true, beq_self_eq_true, hge, hix, bindS, bne_self_eq_false]
          cases hfd : pre.any (fun l => l.1 == run) with
          | true => rw [hfd, Bool.true_or] at hK; exact hK
          | false => rw [hfd, Bool.false_or] at hK; exact hK
      | false =>
        have hrd : rdy p t x = false := by rw [rdy, hd, Bool.false_and]
        rw [hrd] at hK hsplit ⊢
        simp only [cond_false, List.length_append, List.length_singleton] at hK hsplit
        have hlt : (opens p t pre).length < (opens p t p.1).length := by rw [hsplit]; simp
        have hge : decide (((opens p t pre).length : Int) ≥ ((opens p t p.1).length : Int)) = false := decide_eq_false (by omega)
        have hix : idx (opens p t p.1) ((opens p t pre).length : Int) = some x.1 := by
          rw [idx_get hlt]; congr 1; simp [hsplit]
        simp only [condF, Bool.not_true, beq_self_eq_true, hge, hix, bindS, bne_self_eq_false]
        cases hfd : pre.any (fun l => l.1 == run) with
        | true => rw [hfd, Bool.true_or] at hK; exact hK
        | false => rw [hfd, Bool.false_or] at hK; exact hK
    · show (bif (((opens p t p.1).length : Int) == ((opens p t p.1).length : Int)) then (bif p.1.any (fun l => l.1 == run) then some true else (D22 p run t).bind fun r4 => some (!r4)) else some false) = some true
      rw [beq_self_eq_true, condT]
      cases hfd : p.1.any (fun l => l.1 == run) with
      | true => rfl
      | false => rw [condF, ready_none p run t hA hfd]; rfl
theorem law7 (x : (pk ps7).den) (h : Valid (pk ps7) x) : d7 x = some true := ready7 x.1 x.2.1 x.2.2 h.1.1.1
end Go.Proofs.Ytaipbppgebjdeaa.D
