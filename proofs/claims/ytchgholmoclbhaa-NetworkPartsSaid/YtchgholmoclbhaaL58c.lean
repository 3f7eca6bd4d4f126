import Derived.Test.YtchgholmoclbhaaL58b
open Go Go.GD Go.Proofs
namespace Go.Proofs.Ytchgholmoclbhaa.D

/-! Right -/
theorem right21 (n : Net) (h : n.1.length ≤ 1000 ∧ n.2.length ≤ 1000) : ∃ r, D21 n = some r ∧ D22 n = some r := by
  rw [e21, e22, ok35 _ h.1, ok37 _ h.1, f21_1 n n.2 (by rw [maxLen_val]; omega), f22_1 n (by rw [maxLen_val]; omega)]
  simp only [bindS, m36, m38]
  cases decide ((n.1.length : Int) < 1) with
  | true => exact ⟨_, rfl, rfl⟩
  | false =>
  cases decide ((n.1.length : Int) > 16) with
  | true => exact ⟨_, rfl, rfl⟩
  | false =>
  cases !okP n.1 with
  | true => exact ⟨_, rfl, rfl⟩
  | false =>
  cases decide ((n.2.length : Int) > 256) with
  | true => exact ⟨_, rfl, rfl⟩
  | false =>
    simp only [condF]
    obtain ⟨r, hr⟩ := tot_forE (body := fun (el : M) (_ : Unit) K => bif msgE n el.1 el.2.1 el.2.2 != 0 then some (msgE n el.1 el.2.1 el.2.2) else K ()) (fin := fun _ => some 0) (fun _ => tot_some _) n.2 (fun x _ s K hK => tot_bif (fun _ => tot_some _) fun _ => hK _) ()
    exact ⟨r, hr, hr⟩

theorem checks (sites : Int) (n : Net) : D7 sites n = some true := by
  rw [e7, aliveD]
  simp only [bindS, Bool.not_true, condF]
  cases h1 : decide ((n.1.length : Int) > 300) with
  | true => rfl
  | false =>
  cases h2 : decide ((n.2.length : Int) > 300) with
  | true => rfl
  | false =>
    simp only [decide_eq_false_iff_not] at h1 h2
    have hm := new_mail sites
    obtain ⟨r, hr1, hr2⟩ := right21 n ⟨by omega, by omega⟩
    rw [new10, new16, hr1, hr2]
    simp only [bindS, condF, same14 _ ⟨hm.sm.1, hm.sm.2.1⟩, beq_self_eq_true, condT]
theorem law7 (x : (pk ps7).den) (_ : Valid (pk ps7) x) : d7 x = some true := checks x.1 x.2

theorem full (sites many : Int) (o : Op) : D4 sites many o = some true := by
  rw [e4, aliveD, new10]
  simp only [bindS, Bool.not_true, condF]
  cases hn : (newD sites).2 != 0 with
  | true => rfl
  | false =>
  cases h1 : decide (sites < 2) with
  | true => rfl
  | false =>
  cases h2 : decide (many < 0) with
  | true => rfl
  | false =>
  cases h3 : decide (many > 256) with
  | true => rfl
  | false =>
    obtain ⟨b, hb, hs⟩ := small11 [o] (by rw [maxLen_val, List.length_singleton]; omega)
    rw [hb]
    simp only [bindS, condF]
    cases b with
    | false => rfl
    | true =>
      have ho := (hs rfl).2 o (List.mem_singleton.2 rfl)
      simp only [Bool.not_true, condF]
      cases decide (o.1 < 0) with
      | true => rfl
      | false =>
      cases decide (o.1 > 4) with
      | true => rfl
      | false =>
        simp only [decide_eq_false_iff_not] at h1 h2 h3
        have hm0 := new_mail sites
        have hlen : (newD sites).1.2 = [] := by unfold newD; cases decide (sites < 1) <;> cases decide (sites > 16) <;> rfl
        rw [condF, condF, f4_1 _ _ _ _ (by omega)]
        have hz : (sites == 0) = false := by simp; omega
        have hfin : ∀ n, Mail n → ((D12 n o).bind fun r3 => (D13 n o).bind fun r4 => bif (r3.2.2 == r4.2.2) then ((D14 r3.1 r4.1).bind fun r5 => bif r5 then ((D15 r3.2.1 r4.2.1).bind fun r6 => some r6) else some false) else some false) = some true := by
          intro n hn
          have hm := step_mail n o hn ho
          simp only [step12 n o hn.sm ho, step13 n o hn.sm ho, bindS, beq_self_eq_true, condT, same15, same14 _ ⟨hm.sm.1, hm.sm.2.1⟩]
        simp only [hz, condF]
        suffices h : ∀ (j k : Nat) (n : Net), Mail n → n.2.length = k → k + j ≤ 256 → forN _ _ k j n = some true from h many.toNat 0 _ hm0 (by rw [hlen]; rfl) (by omega)
        intro j
        induction j with
        | zero => intro k n hn _ _; exact hfin n hn
        | succ j ih =>
          intro k n hn hk hj
          rw [forN]
          rw [limOk (by decide) (by have := hn.2.1; simp; omega), condT]
          refine ih (k + 1) (n.1, n.2 ++ [(Int.tmod (k : Int) sites, Int.tmod (IntKind.i64.wrap ((k : Int) + 1)) sites, [IntKind.u8.wrap (k : Int)])]) (snoc_mail hn (by omega) (by show [IntKind.u8.wrap (k : Int)].length ≤ 3000; rw [List.length_singleton]; omega)) ?_ (by omega)
          simp only [List.length_append, List.length_singleton, hk]
theorem law4 (x : (pk ps4).den) (_ : Valid (pk ps4) x) : d4 x = some true := full x.1 x.2.1 x.2.2
end Go.Proofs.Ytchgholmoclbhaa.D
