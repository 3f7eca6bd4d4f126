import Derived.Test.YtchgholmoclbhaaL58d
open Go Go.GD Go.Proofs
namespace Go.Proofs.Ytchgholmoclbhaa.D
def eqM (a b : M) : Bool := bif a.1 == b.1 then (bif a.2.1 == b.2.1 then List.map (fun (n : Int) => UInt8.ofNat n.toNat) a.2.2 == List.map (fun (n : Int) => UInt8.ofNat n.toNat) b.2.2 else false) else false
theorem e15M (a b : M) : D15 a b = some (eqM a b) := by
  rw [e15, eqM]
  cases a.1 == b.1 <;> cases a.2.1 == b.2.1 <;> rfl
theorem eqM_self (a : M) : eqM a a = true := by simp [eqM]
def cnt (l : List M) (q : M) : Nat := l.countP (eqM · q)
theorem cnt20 (l : List M) (q : M) (h : l.length ≤ 1000000) : D20 l q = some (cnt l q : Int) := by
  rw [e20, f20_1 l q 0 (by rw [maxLen_val]; omega)]
  simp only [e15M, bindS]
  suffices h : ∀ (ys : List M) (k : Nat), k + ys.length ≤ 1000000 → forE _ _ ys (k : Int) = some (((k + cnt ys q : Nat)) : Int) by
    have := h l 0 (by omega)
    rw [Nat.zero_add] at this
    exact this
  intro ys
  induction ys with
  | nil => intro k _; rfl
  | cons y ys ih =>
    intro k hk
    rw [List.length_cons] at hk
    rw [forE]
    have hw : IntKind.i64.wrap ((k : Int) + 1) = ((k + 1 : Nat) : Int) := by rw [wrap_i64 (by omega) (by omega)]; rfl
    cases he : eqM y q with
    | true =>
      simp only [condT, hw]
      rw [ih (k + 1) (by omega)]
      simp [cnt, he]; omega
    | false =>
      simp only [condF]
      rw [ih k (by omega)]
      simp [cnt, he]
theorem cnt_append (l k : List M) (q : M) : cnt (l ++ k) q = cnt l q + cnt k q := List.countP_append
theorem cnt_pos {l : List M} {m : M} (h : m ∈ l) : 0 < cnt l m := List.countP_pos_iff.2 ⟨m, h, eqM_self m⟩
theorem cnt_le (l : List M) (q : M) : cnt l q ≤ l.length := List.countP_le_length
theorem cnt_gone (n : Net) (i : Int) (h : 0 ≤ i ∧ i < n.2.length) (q : M) : cnt n.2 q = cnt (gone n i).2 q + cnt [at_ n i] q := by
  have hk : i.toNat < n.2.length := by omega
  have hat : at_ n i = n.2[i.toNat] := by simp only [at_, List.getD, List.getElem?_eq_getElem hk, Option.getD_some]
  have e : n.2 = n.2.take i.toNat ++ (at_ n i :: n.2.drop (i.toNat + 1)) := by
    rw [hat, ← List.drop_eq_getElem_cons hk, List.take_append_drop]
  show cnt n.2 q = cnt (n.2.take i.toNat ++ n.2.drop (i.toNat + 1)) q + cnt [at_ n i] q
  have := congrArg (fun l => cnt l q) e
  simp only [cnt_append] at this ⊢
  rw [this]
  simp only [cnt, List.countP_cons, List.countP_nil]
  omega
theorem gone_mem {n : Net} {i : Int} {m : M} (h : m ∈ (gone n i).2) : m ∈ n.2 := by
  rcases List.mem_append.1 h with h | h
  · exact List.mem_of_mem_take h
  · exact List.mem_of_mem_drop h

theorem step_0 (n : Net) (o : Op) (h : (o.1 == 0) = true) (h0 : (step n o).2.2 = 0) : (step n o).1 = (n.1, n.2 ++ [(o.2.1, o.2.2.1, o.2.2.2.1)]) := by
  unfold step at h0 ⊢
  rw [h] at h0 ⊢
  simp only [cond_true] at h0 ⊢
  unfold send at h0 ⊢
  cases hm : msgE n o.2.1 o.2.2.1 o.2.2.2.1 != 0 with
  | true => rw [hm] at h0; simp only [cond_true] at h0; rw [h0] at hm; cases hm
  | false =>
    rw [hm] at h0
    cases hl : decide ((n.2.length : Int) ≥ 256) with
    | true => rw [hl] at h0; cases h0
    | false => rfl
theorem step_1 (n : Net) (o : Op) (h : (o.1 == 0) = false) (h1 : (o.1 == 1) = true) (h0 : (step n o).2.2 = 0) : (0 ≤ o.2.1 ∧ o.2.1 < n.2.length) ∧ (step n o).1 = gone n o.2.1 ∧ (step n o).2.1 = at_ n o.2.1 := by
  unfold step at h0 ⊢
  rw [h, h1] at h0 ⊢
  simp only [cond_true, cond_false] at h0 ⊢
  unfold deliver at h0 ⊢
  cases hA : decide (o.2.1 < 0) with
  | true => rw [hA] at h0; cases h0
  | false =>
  cases hB : decide (o.2.1 ≥ (n.2.length : Int)) with
  | true => rw [hA, hB] at h0; cases h0
  | false =>
  cases hC : !can n (at_ n o.2.1).1 (at_ n o.2.1).2.1 with
  | true => rw [hA, hB, hC] at h0; cases h0
  | false => exact ⟨(at_idx hA hB).2, rfl, rfl⟩
theorem step_2 (n : Net) (o : Op) (h : (o.1 == 0) = false) (h1 : (o.1 == 1) = false) (h0 : (step n o).2.2 = 0) : (∀ m, m ∈ (step n o).1.2 → m ∈ n.2) ∧ ((o.1 == 3) = false → ∀ q, cnt (step n o).1.2 q ≤ cnt n.2 q) := by
  unfold step at h0 ⊢
  rw [h, h1] at h0 ⊢
  simp only [cond_false] at h0 ⊢
  revert h0
  cases o.1 == 2 with
  | true =>
    simp only [cond_true]
    unfold lose
    cases hA : decide (o.2.1 < 0) with
    | true => intro h0; cases h0
    | false =>
    cases hB : decide (o.2.1 ≥ (n.2.length : Int)) with
    | true => intro h0; cases h0
    | false =>
      intro _
      have := cnt_gone n o.2.1 (at_idx hA hB).2
      exact ⟨fun m hm => gone_mem hm, fun _ q => by have := this q; show cnt (gone n o.2.1).2 q ≤ _; omega⟩
  | false =>
  cases o.1 == 3 with
  | true =>
    simp only [cond_true, cond_false]
    unfold copy
    cases hA : decide (o.2.1 < 0) with
    | true => intro h0; cases h0
    | false =>
    cases hB : decide (o.2.1 ≥ (n.2.length : Int)) with
    | true => intro h0; cases h0
    | false =>
    cases hl : decide ((n.2.length : Int) ≥ 256) with
    | true => intro h0; cases h0
    | false =>
      intro _
      refine ⟨fun m hm => ?_, fun e => by cases e⟩
      rcases List.mem_append.1 hm with hm | hm
      · exact hm
      · rw [List.mem_singleton.1 hm]; exact at_mem (at_idx hA hB).2
  | false =>
    simp only [cond_false]
    unfold split
    cases hA : (o.2.2.2.2.length : Int) != (n.1.length : Int) with
    | true => intro h0; cases h0
    | false =>
    cases hB : okP o.2.2.2.2 with
    | false => intro h0; cases h0
    | true => exact fun _ => ⟨fun m hm => hm, fun _ q => Nat.le_refl _⟩

/-- what holds between the calls -/
structure Once (k : Nat) (n : Net) (sent got : List M) (copied : Bool) : Prop where
  mail : Mail n
  sub : ∀ m, m ∈ n.2 → m ∈ sent
  ls : sent.length ≤ k
  lg : got.length ≤ k
  le : copied = false → ∀ q, cnt got q + cnt n.2 q ≤ cnt sent q

theorem once (sites : Int) (l : List Op) (hl : l.length ≤ maxLen) : D6 sites l = some true := by
  obtain ⟨b, hb, hs⟩ := small11 l hl
  rw [e6, aliveD, new16, hb]
  simp only [bindS, Bool.not_true, condF]
  cases b with
  | false => rfl
  | true =>
    obtain ⟨h40, hsm⟩ := hs rfl
    simp only [Bool.not_true, condF]
    cases hn : (newD sites).2 != 0 with
    | true => rfl
    | false =>
      have hmail0 : (newD sites).1.2 = [] := by unfold newD; cases decide (sites < 1) <;> cases decide (sites > 16) <;> rfl
      rw [condF, f6_1 l _ _ _ _ hl]
      suffices h : ∀ (ys : List Op), (∀ o, o ∈ ys → SmO o) → ∀ k n sent got copied, k + ys.length ≤ 40 → Once k n sent got copied → forE _ _ ys (n, sent, got, copied) = some true from
        h l hsm 0 _ [] [] false (by omega) ⟨new_mail sites, (fun m hm => by rw [hmail0] at hm; cases hm), Nat.le_refl _, Nat.le_refl _, fun _ q => by rw [hmail0]; exact Nat.le_refl _⟩
      intro ys
      induction ys with
      | nil => intro _ k n sent got copied _ _; rfl
      | cons o ys ih =>
        intro hys k n sent got copied hk H
        rw [List.length_cons] at hk
        have ho := hys o (List.mem_cons_self ..)
        have ih := ih (fun x hx => hys x (List.mem_cons_of_mem _ hx)) (k + 1)
        have hm := step_mail n o H.mail ho
        have := H.ls
        have := H.lg
        rw [forE]
        simp only [step12 n o H.mail.sm ho, bindS]
        cases h0 : (step n o).2.2 != 0 with
        | true => exact ih n sent got copied (by omega) ⟨H.mail, H.sub, by omega, by omega, H.le⟩
        | false =>
          have h0' : (step n o).2.2 = 0 := by simpa using h0
          simp only [condF]
          cases hz : o.1 == 0 with
          | true =>
            have hz' : o.1 = 0 := by simpa using hz
            have hne : (o.1 != 1) = true := by rw [hz']; rfl
            have h3 : (o.1 == 3) = false := by rw [hz']; rfl
            have hst := step_0 n o hz h0'
            rw [limOk (by decide) (by simp; omega)]
            simp only [condT, hne, h3]
            have key : Once (k + 1) (step n o).1 (sent ++ [(o.2.1, o.2.2.1, o.2.2.2.1)]) got copied := by
              refine ⟨hm, fun m hmm => ?_, by simp; omega, by omega, fun hc q => ?_⟩
              · rw [hst] at hmm
                rcases List.mem_append.1 hmm with hmm | hmm
                · exact List.mem_append_left _ (H.sub m hmm)
                · exact List.mem_append_right _ hmm
              · rw [hst]
                show cnt got q + cnt (n.2 ++ _) q ≤ _
                rw [cnt_append, cnt_append]
                have := H.le hc q
                omega
            cases copied with
            | true => exact ih _ _ _ true (by omega) key
            | false => exact ih _ _ _ false (by omega) key
          | false =>
            simp only [condF]
            cases h1 : o.1 == 1 with
            | false =>
              have hne : (o.1 != 1) = true := by simp only [bne, h1]; rfl
              obtain ⟨q1, q2⟩ := step_2 n o hz h1 h0'
              simp only [hne, condT]
              cases hc : copied with
              | true => exact ih _ _ _ true (by omega) ⟨hm, fun m hmm => H.sub m (q1 m hmm), by omega, by omega, fun e => by cases e⟩
              | false =>
                refine ih _ _ _ (o.1 == 3) (by omega) ⟨hm, fun m hmm => H.sub m (q1 m hmm), by omega, by omega, fun e q => ?_⟩
                have := q2 e q
                have := H.le hc q
                omega
            | true =>
              have h1' : o.1 = 1 := by simpa using h1
              have hne : (o.1 != 1) = false := by rw [h1']; rfl
              have h3 : (o.1 == 3) = false := by rw [h1']; rfl
              obtain ⟨hi, hst, hmg⟩ := step_1 n o hz h1 h0'
              have hcs : (((cnt sent (step n o).2.1 : Nat) : Int) == 0) = false := by
                have : 0 < cnt sent (step n o).2.1 := cnt_pos (by rw [hmg]; exact H.sub _ (at_mem hi))
                simp; omega
              have hcg : ∀ q, cnt n.2 q = cnt (step n o).1.2 q + cnt [(step n o).2.1] q := fun q => by rw [hst, hmg]; exact cnt_gone n o.2.1 hi q
              have hml := hm.2.1
              simp only [hne, h3, condF, Bool.not_false, condT]
              rw [limOk (by decide) (by simp; omega)]
              simp only [condT]
              rw [cnt20 sent _ (by omega), cnt20 (got ++ _) _ (by simp; omega), cnt20 (step n o).1.2 _ (by omega)]
              simp only [bindS, hcs, condF]
              have sub' : ∀ m, m ∈ (step n o).1.2 → m ∈ sent := fun m hmm => H.sub m (gone_mem (by rw [hst] at hmm; exact hmm))
              cases hc : copied with
              | true => exact ih _ _ _ true (by omega) ⟨hm, sub', by omega, by simp; omega, fun e => by cases e⟩
              | false =>
                have hle : ∀ q, cnt (got ++ [(step n o).2.1]) q + cnt (step n o).1.2 q ≤ cnt sent q := fun q => by
                  have := hcg q
                  have := H.le hc q
                  rw [cnt_append]
                  omega
                have hq := hle (step n o).2.1
                have b1 := cnt_le sent (step n o).2.1
                have hd : decide (IntKind.i64.wrap (((cnt (got ++ [(step n o).2.1]) (step n o).2.1 : Nat) : Int) + ((cnt (step n o).1.2 (step n o).2.1 : Nat) : Int)) > ((cnt sent (step n o).2.1 : Nat) : Int)) = false := by
                  rw [wrap_i64 (by omega) (by omega)]
                  exact decide_eq_false (by omega)
                simp only [condF, hd]
                exact ih _ _ _ false (by omega) ⟨hm, sub', by omega, by simp; omega, fun _ q => hle q⟩
theorem law6 (x : (pk ps6).den) (h : Valid (pk ps6) x) : d6 x = some true := once x.1 x.2 h.2.1
end Go.Proofs.Ytchgholmoclbhaa.D
