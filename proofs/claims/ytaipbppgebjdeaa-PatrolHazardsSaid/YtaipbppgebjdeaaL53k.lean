import Derived.Test.YtaipbppgebjdeaaL53e
open Go Go.GD Go.Proofs
namespace Go.Proofs.Ytaipbppgebjdeaa.D
theorem report_is (p : Pt) (h : Sg) (hp : SmP p) : ∃ r, D13 (p.1, p.2 ++ [h]) = some r ∧ D18 p h = some (bif r != 0 then (([], []), r) else ((p.1, p.2 ++ [h]), 0)) := by
  have hl := hp.2.1
  obtain ⟨k1, r, k2⟩ := right53 (p.1, p.2 ++ [h])
  refine ⟨r, by rw [← k1, k2], ?_⟩
  rw [e18, cp38 _ hp.sm, bindS, limOk (by decide) (by simp only [List.length_singleton]; omega), condT, k2, bindS]
  cases r != 0 <;> rfl
theorem remove_last (p : Pt) (h : Sg) (hs : Sm (p.1, p.2 ++ [h])) (hu : p.2.any (fun x => x.1 == h.1) = false) : D20 (p.1, p.2 ++ [h]) h.1 = some (p, 0) := by
  have h2 : (p.2 ++ [h]).length ≤ 1000 := hs.2.1
  rw [e20, haz33 _ _ (by rw [maxLen_val]; show (p.2 ++ [h]).length ≤ _; omega), bindS]
  rcases hazAt_cases (p.2 ++ [h]) h.1 with ⟨_, hno⟩ | ⟨i, hi, hr, h1, hbef⟩
  · rw [List.any_append] at hno
    simp at hno
  · have hl : (p.2 ++ [h]).length = p.2.length + 1 := by simp
    have hie : i = p.2.length := by
      by_cases hlt : i < p.2.length
      · rw [List.getElem_append_left hlt] at h1
        have := List.any_eq_false.1 hu p.2[i] (List.getElem_mem hlt)
        exact absurd h1 this
      · omega
    subst hie
    have hdel : D41 (p.2 ++ [h]) (p.2.length : Int) (IntKind.i64.wrap ((p.2.length : Int) + 1)) = some p.2 := by
      rw [wrap_i64 (by omega) (by omega)]
      show delD (.pair (.int .i64) (.pair (.int .i64) (.int .i64))) (p.2 ++ [h], (p.2.length : Int), (p.2.length : Int) + 1) = _
      unfold delD
      rw [if_pos ⟨by show (0 : Int) ≤ (p.2.length : Int); omega, by show (p.2.length : Int) ≤ (p.2.length : Int) + 1; omega, by show (p.2.length : Int) + 1 ≤ ((p.2 ++ [h]).length : Int); omega⟩]
      show some ((p.2 ++ [h]).take (p.2.length : Int).toNat ++ (p.2 ++ [h]).drop ((p.2.length : Int) + 1).toNat) = _
      rw [Int.toNat_natCast, show ((p.2.length : Int) + 1).toNat = (p.2 ++ [h]).length by omega, List.drop_length, List.append_nil, List.take_left]
    rw [hr, decide_eq_false (by omega), condF, cp38 _ hs, bindS, hdel, bindS]
theorem hz_snoc (p : Pt) (h : Sg) (run : Int) : hz (p.1, p.2 ++ [h]) run = (hz p run || (h.2.1 == run)) := by simp [hz]
theorem hazards8 (p : Pt) (h : Sg) (run t : Int) (hl : p.1.length ≤ maxLen) : D8 p h run t = some true := by
  obtain ⟨b, hb, hsm⟩ := small11 p hl
  obtain ⟨k1, r, k2⟩ := right53 p
  rw [e8, aliveD, hb, k2]
  simp only [bindS, Bool.not_true, condF]
  cases b with
  | false => rfl
  | true =>
  have hS : SmP p := hsm rfl
  rw [Bool.not_true, condF]
  cases hr : r != 0 with
  | true => rfl
  | false =>
    have hr : r = 0 := by simpa using hr
    have h0 : D13 p = some 0 := by rw [← k1, k2, hr]
    have hA := acc_of h0
    obtain ⟨q, q1, q2⟩ := report_is p h hS
    rw [condF, q2, bindS]
    cases hq : q != 0 with
    | true => rw [cond_true, hq]; rfl
    | false =>
      have hq0 : q = 0 := by simpa using hq
      rw [hq0] at q1
      have hAq := acc_of q1
      have hf := right_facts _ q1
      have hs2 : (p.2 ++ [h]).length ≤ 200 := hf.2.1
      have hl2 : (p.2 ++ [h]).length = p.2.length + 1 := by simp
      have hsm : Sm (p.1, p.2 ++ [h]) := ⟨hS.sm.1, by show (p.2 ++ [h]).length ≤ 1000; omega, hS.sm.2.2⟩
      have hu : p.2.any (fun x => x.1 == h.1) = false := by
        have hf3 : ∀ i (hi : i < (p.2 ++ [h]).length), ((p.2 ++ [h]).take i).any (fun x => x.1 == (p.2 ++ [h])[i].1) = false := hf.2.2.1
        have := hf3 p.2.length (by omega)
        rwa [List.take_left, List.getElem_concat_length rfl] at this
      have hno : D22 (p.1, p.2 ++ [h]) h.2.1 t = some false := by
        cases ha : p.1.any (fun l => l.1 == h.2.1) with
        | false => exact ready_none _ _ _ hAq ha
        | true =>
          obtain ⟨x, hx, he⟩ := List.any_eq_true.1 ha
          have he : x.1 = h.2.1 := by simpa using he
          rw [← he, ready_at _ t hAq q1 x hx, rdy, hz_snoc, he, beq_self_eq_true, Bool.or_true, Bool.not_true, Bool.and_false]
      have hsame : (run == h.2.1) = false → D22 (p.1, p.2 ++ [h]) run t = D22 p run t := fun hne => by
        cases ha : p.1.any (fun l => l.1 == run) with
        | false => rw [ready_none _ _ _ hAq ha, ready_none _ _ _ hA ha]
        | true =>
          obtain ⟨x, hx, he⟩ := List.any_eq_true.1 ha
          have he : x.1 = run := by simpa using he
          have hne : (h.2.1 == run) = false := by rw [Bool.beq_comm]; exact hne
          rw [← he, ready_at _ t hAq q1 x hx, ready_at _ t hA h0 x hx, rdy, rdy, hz_snoc, he, hne, Bool.or_false]
      have hlen : ((((p.2 ++ [h]).length : Nat) : Int) == IntKind.i64.wrap ((p.2.length : Int) + 1)) = true := by
        rw [wrap_i64 (by omega) (by omega), beq_iff_eq, hl2]; omega
      show (bif ((0 : Int) != 0) then _ else (D20 (p.1, p.2 ++ [h]) h.1).bind fun r4 => (D22 (p.1, p.2 ++ [h]) h.2.1 t).bind fun r5 =>
        bif (!r5) then (
          bif (run == h.2.1) then (
            bif (r4.2 == 0) then ((D17 r4.1 p).bind fun r6 => bif r6 then some ((((p.2 ++ [h]).length : Nat) : Int) == IntKind.i64.wrap ((p.2.length : Int) + 1)) else some false)
            else some false)
          else (D22 (p.1, p.2 ++ [h]) run t).bind fun r6 => (D22 p run t).bind fun r7 =>
          bif (r6 == r7) then (
            bif (r4.2 == 0) then ((D17 r4.1 p).bind fun r8 => bif r8 then some ((((p.2 ++ [h]).length : Nat) : Int) == IntKind.i64.wrap ((p.2.length : Int) + 1)) else some false)
            else some false)
          else some false)
        else some false : Option Bool) = some true
      rw [remove_last p h hsm hu, hno, bindS, bindS, same17 _ hS.sm, hlen]
      cases hc : run == h.2.1 with
      | true => rfl
      | false =>
        rw [hsame hc]
        obtain ⟨b, hb, _⟩ := ready22 p run t hA
        rw [hb]
        cases b <;> rfl
theorem law8 (x : (pk ps8).den) (h : Valid (pk ps8) x) : d8 x = some true := hazards8 x.1 x.2.1 x.2.2.1 x.2.2.2 h.1.1.1
end Go.Proofs.Ytaipbppgebjdeaa.D
