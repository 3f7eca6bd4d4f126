import Derived.Test.YtchgholmoclbhaaL58c
open Go Go.GD Go.Proofs
namespace Go.Proofs.Ytchgholmoclbhaa.D

/-! what Right accepts -/
def RightOk (sites : Int) (n : Net) : Prop := 1 ≤ sites ∧ sites ≤ 16 ∧ (n.1.length : Int) = sites ∧ okP n.1 = true ∧ n.2.length ≤ 256 ∧ ∀ m, m ∈ n.2 → msgE n m.1 m.2.1 m.2.2 = 0
theorem msgE_len {n n' : Net} (h : n.1.length = n'.1.length) (f t : Int) (b : List Int) : msgE n f t b = msgE n' f t b := by
  unfold msgE site; rw [h]
theorem msgE_body {n : Net} {f t : Int} {b : List Int} (h : msgE n f t b = 0) : b.length ≤ 2000 := by
  unfold msgE at h
  cases hs : site n f with
  | false => rw [hs] at h; simp at h
  | true =>
  cases ht : site n t with
  | false => rw [hs, ht] at h; simp at h
  | true =>
  cases hq : f == t with
  | true => rw [hs, ht, hq] at h; simp at h
  | false =>
  cases hb : decide ((b.length : Int) > 2000) with
  | true => rw [hs, ht, hq, hb] at h; simp at h
  | false => simp only [decide_eq_false_iff_not] at hb; omega
theorem RightOk.mail {sites : Int} {n : Net} (h : RightOk sites n) : Mail n := by
  obtain ⟨h1, h2, h3, _, h5, h6⟩ := h
  exact ⟨by omega, h5, fun m hm => Nat.le_trans (msgE_body (h6 m hm)) (by decide)⟩
theorem right_ok {sites : Int} {n : Net} (h : RightOk sites n) : D21 n = some 0 := by
  obtain ⟨h1, h2, h3, h4, h5, h6⟩ := h
  rw [e21, ok35 _ (by omega), f21_1 n n.2 (by rw [maxLen_val]; omega), h4]
  have c1 : decide ((n.1.length : Int) < 1) = false := decide_eq_false (by omega)
  have c2 : decide ((n.1.length : Int) > 16) = false := decide_eq_false (by omega)
  have c3 : decide ((n.2.length : Int) > 256) = false := decide_eq_false (by omega)
  rw [c1, c2, c3]
  simp only [condF, bindS, Bool.not_true, m36]
  refine forE_inv (σ := Unit) (fun _ => ()) (fun r => r = some (0 : Int)) n.2 (fun pre x post e K hK => ?_) rfl rfl
  rw [h6 x (by rw [e]; simp)]
  exact hK
theorem send_right {sites : Int} {n : Net} (f t : Int) (bd : List Int) (h : RightOk sites n) (h0 : (send n f t bd).2 = 0) : RightOk sites (send n f t bd).1 := by
  obtain ⟨h1, h2, h3, h4, h5, h6⟩ := h
  unfold send at h0 ⊢
  cases hm : msgE n f t bd != 0 with
  | true => rw [hm] at h0; simp only [cond_true] at h0; rw [h0] at hm; cases hm
  | false =>
    rw [hm] at h0
    cases hl : decide ((n.2.length : Int) ≥ 256) with
    | true => rw [hl] at h0; cases h0
    | false =>
      simp only [cond_false]
      simp only [decide_eq_false_iff_not] at hl
      refine ⟨h1, h2, h3, h4, ?_, fun m hmm => ?_⟩
      · simp only [List.length_append, List.length_singleton]; omega
      · refine (msgE_len (n' := n) rfl _ _ _).trans ?_
        rcases List.mem_append.1 hmm with hmm | hmm
        · exact h6 m hmm
        · rw [List.mem_singleton.1 hmm]; simpa using hm
theorem gone_right {sites : Int} {n : Net} (i : Int) (h : RightOk sites n) : RightOk sites (gone n i) := by
  obtain ⟨h1, h2, h3, h4, h5, h6⟩ := h
  refine ⟨h1, h2, h3, h4, ?_, fun m hmm => ?_⟩
  · simp only [gone, List.length_append, List.length_take, List.length_drop]; omega
  · refine (msgE_len (n' := n) rfl _ _ _).trans ?_
    rcases List.mem_append.1 hmm with hmm | hmm
    · exact h6 m (List.mem_of_mem_take hmm)
    · exact h6 m (List.mem_of_mem_drop hmm)
theorem deliver_right {sites : Int} {n : Net} (i : Int) (h : RightOk sites n) (h0 : (deliver n i).2.2 = 0) : RightOk sites (deliver n i).1 := by
  unfold deliver at h0 ⊢
  cases hA : decide (i < 0) with
  | true => rw [hA] at h0; cases h0
  | false =>
  cases hB : decide (i ≥ (n.2.length : Int)) with
  | true => rw [hA, hB] at h0; cases h0
  | false =>
  cases hC : !can n (at_ n i).1 (at_ n i).2.1 with
  | true => rw [hA, hB, hC] at h0; cases h0
  | false => exact gone_right i h
theorem lose_right {sites : Int} {n : Net} (i : Int) (h : RightOk sites n) (h0 : (lose n i).2 = 0) : RightOk sites (lose n i).1 := by
  unfold lose at h0 ⊢
  cases hA : decide (i < 0) with
  | true => rw [hA] at h0; cases h0
  | false =>
  cases hB : decide (i ≥ (n.2.length : Int)) with
  | true => rw [hA, hB] at h0; cases h0
  | false => exact gone_right i h
theorem copy_right {sites : Int} {n : Net} (i : Int) (h : RightOk sites n) (h0 : (copy n i).2 = 0) : RightOk sites (copy n i).1 := by
  obtain ⟨h1, h2, h3, h4, h5, h6⟩ := h
  unfold copy at h0 ⊢
  cases hA : decide (i < 0) with
  | true => rw [hA] at h0; cases h0
  | false =>
  cases hB : decide (i ≥ (n.2.length : Int)) with
  | true => rw [hA, hB] at h0; cases h0
  | false =>
  obtain ⟨_, hab⟩ := at_idx hA hB
  cases hl : decide ((n.2.length : Int) ≥ 256) with
  | true => rw [hA, hB, hl] at h0; cases h0
  | false =>
    simp only [cond_false]
    simp only [decide_eq_false_iff_not] at hl
    refine ⟨h1, h2, h3, h4, ?_, fun m hmm => ?_⟩
    · simp only [List.length_append, List.length_singleton]; omega
    · refine (msgE_len (n' := n) rfl _ _ _).trans ?_
      rcases List.mem_append.1 hmm with hmm | hmm
      · exact h6 m hmm
      · rw [List.mem_singleton.1 hmm]; exact h6 _ (at_mem hab)
theorem split_right {sites : Int} {n : Net} (l : List Int) (h : RightOk sites n) (h0 : (split n l).2 = 0) : RightOk sites (split n l).1 := by
  obtain ⟨h1, h2, h3, h4, h5, h6⟩ := h
  unfold split at h0 ⊢
  cases hA : (l.length : Int) != (n.1.length : Int) with
  | true => rw [hA] at h0; cases h0
  | false =>
  cases hB : okP l with
  | false => rw [hA, hB] at h0; cases h0
  | true =>
    simp only [cond_false, Bool.not_true]
    have hl : (l.length : Int) = (n.1.length : Int) := by simpa using hA
    refine ⟨h1, h2, by show (l.length : Int) = sites; omega, hB, h5, fun m hmm => ?_⟩
    refine (msgE_len (n' := n) (by show l.length = n.1.length; omega) _ _ _).trans ?_
    exact h6 m hmm
theorem step_right {sites : Int} {n : Net} (o : Op) (h : RightOk sites n) : (step n o).2.2 = 0 → RightOk sites (step n o).1 := by
  unfold step
  cases o.1 == 0 with
  | true => exact send_right _ _ _ h
  | false =>
  cases o.1 == 1 with
  | true => exact deliver_right _ h
  | false =>
  cases o.1 == 2 with
  | true => exact lose_right _ h
  | false =>
  cases o.1 == 3 with
  | true => exact copy_right _ h
  | false => exact split_right _ h
theorem new_right {sites : Int} (h : ((newD sites).2 != 0) = false) : RightOk sites (newD sites).1 := by
  unfold newD at h ⊢
  cases h0 : decide (sites < 1) with
  | true => rw [h0] at h; cases h
  | false =>
    cases h1 : decide (sites > 16) with
    | true => rw [h0, h1] at h; cases h
    | false =>
      simp only [cond_false]
      simp only [decide_eq_false_iff_not] at h0 h1
      refine ⟨by omega, by omega, ?_, ?_, Nat.zero_le _, fun m hm => by cases hm⟩
      · rw [List.length_replicate]; omega
      · unfold okP
        rw [List.all_eq_true]
        intro x hx
        rw [(List.mem_replicate.1 hx).2]; rfl
/-- a call's network, or the old one -/
def aft (n : Net) (o : Op) : Net := bif (step n o).2.2 == 0 then (step n o).1 else n
theorem aft_right {sites : Int} {n : Net} (o : Op) (h : RightOk sites n) : RightOk sites (aft n o) := by
  unfold aft
  cases h0 : (step n o).2.2 == 0 with
  | true => exact step_right o h (by simpa using h0)
  | false => exact h
theorem after17 {sites : Int} (l : List Op) (hl : l.length ≤ maxLen) (hs : ∀ o, o ∈ l → SmO o) (n : Net) (h : RightOk sites n) : D17 n l = some (l.foldl aft n) := by
  rw [e17, f17_1 _ _ _ hl]
  revert n
  clear hl
  induction l with
  | nil => intro n _; rfl
  | cons o l ih =>
    intro n h
    rw [forE, step12 n o h.mail.sm (hs o (List.mem_cons_self ..)), bindS, List.foldl_cons]
    have hi := ih (fun x hx => hs x (List.mem_cons_of_mem _ hx)) (aft n o) (aft_right o h)
    unfold aft at hi ⊢
    cases hc : (step n o).2.2 == 0 with
    | true => rw [hc] at hi; exact hi
    | false => rw [hc] at hi; exact hi
theorem bounds (sites : Int) (l : List Op) (hl : l.length ≤ maxLen) : D8 sites l = some true := by
  obtain ⟨b, hb, hs⟩ := small11 l hl
  rw [e8, aliveD, new16, hb]
  simp only [bindS, Bool.not_true, condF]
  cases b with
  | false => rfl
  | true =>
    obtain ⟨h40, hsm⟩ := hs rfl
    simp only [Bool.not_true, condF]
    cases hn : (newD sites).2 != 0 with
    | true => rfl
    | false =>
      rw [condF, f8_1 _ l _ hl]
      suffices h : ∀ (ys pre : List Op), l = pre ++ ys → ∀ n, RightOk sites n → forI _ _ pre.length ys n = some true from h l [] rfl _ (new_right hn)
      intro ys
      induction ys with
      | nil => intro pre _ n _; rfl
      | cons o ys ih =>
        intro pre e n hR
        have hlen : l.length = pre.length + (ys.length + 1) := by rw [e]; simp
        have hw : IntKind.i64.wrap ((pre.length : Int) + 1) = (pre.length : Int) + 1 := wrap_i64 (by omega) (by omega)
        have ho := hsm o (by rw [e]; simp)
        have hR' := aft_right o hR
        have hsub : List.drop (pre.length : Int).toNat (List.take ((pre.length : Int) + 1).toNat l) = [o] := by
          rw [Int.toNat_natCast, show ((pre.length : Int) + 1).toNat = pre.length + 1 by omega, e]
          simp [List.take_append]
        have hc : (decide (0 ≤ (pre.length : Int)) && (decide ((pre.length : Int) ≤ (pre.length : Int) + 1) && decide ((pre.length : Int) + 1 ≤ (l.length : Int)))) = true := by
          simp only [Bool.and_eq_true, decide_eq_true_eq]; omega
        rw [forI]
        simp only [hw, hsub]
        rw [hc, condT, after17 [o] (by rw [maxLen_val, List.length_singleton]; omega) (fun x hx => by rw [List.mem_singleton.1 hx]; exact ho) n hR]
        simp only [List.foldl_cons, List.foldl_nil, bindS, right_ok hR', bne_self_eq_false, condF, hR'.2.2.1]
        have := ih (pre ++ [o]) (by rw [e]; simp) (aft n o) hR'
        rwa [List.length_append, List.length_singleton] at this
theorem law8 (x : (pk ps8).den) (h : Valid (pk ps8) x) : d8 x = some true := bounds x.1 x.2 h.2.1
end Go.Proofs.Ytchgholmoclbhaa.D
