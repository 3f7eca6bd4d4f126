import Derived.Test.YtchgholmoclbhaaL58d
open Go Go.GD Go.Proofs
namespace Go.Proofs.Ytchgholmoclbhaa.D
theorem can_self (n : Net) (a : Int) : can n a a = site n a := by
  unfold can
  cases site n a with
  | false => rfl
  | true => exact beq_self_eq_true _
theorem can_symm (n : Net) (a b : Int) : can n a b = can n b a := by
  unfold can
  cases site n a <;> cases site n b <;> try rfl
  exact Bool.beq_comm
theorem can_true {n : Net} {a b : Int} (h : can n a b = true) : site n a = true ∧ site n b = true ∧ part n a = part n b := by
  unfold can at h
  cases h1 : site n a with
  | false => rw [h1] at h; cases h
  | true =>
    cases h2 : site n b with
    | false => rw [h1, h2] at h; cases h
    | true => rw [h1, h2] at h; exact ⟨rfl, rfl, by simpa using h⟩
theorem can_trans {n : Net} {a b c : Int} (h1 : can n a b = true) (h2 : can n b c = true) : can n a c = true := by
  obtain ⟨p1, _, p3⟩ := can_true h1
  obtain ⟨_, q2, q3⟩ := can_true h2
  unfold can
  rw [p1, q2, p3, q3]
  simp
theorem parts_loop {sites : Int} (n : Net) (h : RightOk sites n) : lp5_1 big n 0 = some true := by
  have hm := h.mail
  rw [f5_1 n (by rw [maxLen_val]; have := hm.2.1; omega)]
  refine forI_inv (fun _ => ()) (fun r => r = some true) n.2 (fun pre x post e K hK => ?_) rfl rfl
  have hk : pre.length < n.2.length := by rw [e]; simp
  have hx : at_ n (pre.length : Int) = x := by
    unfold at_
    rw [Int.toNat_natCast, e]
    simp [List.getD]
  have hlen := h.2.2.2.2.1
  rw [del19 _ _ hm.sm, bindS, can18, bindS, deliver, decide_eq_false (show ¬ (pre.length : Int) < 0 by omega), decide_eq_false (show ¬ (pre.length : Int) ≥ (n.2.length : Int) by omega), hx]
  cases hc : can n x.1 x.2.1 with
  | false => exact hK
  | true =>
    have hg : (((gone n (pre.length : Int)).2.length : Nat) : Int) = IntKind.i64.wrap ((n.2.length : Int) - 1) := by
      rw [wrap_i64 (by omega) (by omega), gone]
      show ((n.2.take (pre.length : Int).toNat ++ n.2.drop ((pre.length : Int).toNat + 1)).length : Int) = _
      rw [Int.toNat_natCast, List.length_append, List.length_take, List.length_drop]; omega
    show (bif (!(true == ((0 : Int) == 0))) then some false else bif (!true) then _ else bif true then ((D15 x x).bind fun r12 => bif (!r12) then some false else bif ((((gone n (pre.length : Int)).2.length : Nat) : Int) != IntKind.i64.wrap ((n.2.length : Int) - 1)) then some false else K ()) else K ()) = some true
    rw [same15, hg, bne_self_eq_false]
    exact hK
theorem parts (sites : Int) (l : List Op) (x : Int × Int × Int) (hl : l.length ≤ maxLen) : D5 sites l x = some true := by
  obtain ⟨b, hb, hs⟩ := small11 l hl
  rw [e5, aliveD, new16, hb]
  simp only [bindS, Bool.not_true, condF]
  cases b with
  | false => rfl
  | true =>
    obtain ⟨h40, hsm⟩ := hs rfl
    simp only [Bool.not_true, condF]
    cases hn : (newD sites).2 != 0 with
    | true => rfl
    | false =>
      have hR0 := new_right hn
      rw [condF, after17 l hl hsm _ hR0, bindS]
      have hR : RightOk sites (l.foldl aft (newD sites).1) := by
        have : ∀ (ys : List Op) (n : Net), RightOk sites n → RightOk sites (ys.foldl aft n) := by
          intro ys
          induction ys with
          | nil => intro n h; exact h
          | cons o ys ih => intro n h; exact ih _ (aft_right o h)
        exact this l _ hR0
      generalize l.foldl aft (newD sites).1 = n at hR
      have e3 : lp5_3 big n 0 = some true := parts_loop n hR
      have e5 : lp5_5 big n 0 = some true := parts_loop n hR
      have e7 : lp5_7 big n 0 = some true := parts_loop n hR
      have e9 : lp5_9 big n 0 = some true := parts_loop n hR
      have e11 : lp5_11 big n 0 = some true := parts_loop n hR
      have hsite : site n x.1 = (bif decide (x.1 ≥ 0) then decide (x.1 < sites) else false) := by unfold site; rw [hR.2.2.1]
      simp only [can18, bindS, can_self, hsite, can_symm n x.2.1 x.1, parts_loop n hR, e3, e5, e7, e9, e11, beq_self_eq_true, Bool.not_true, condF]
      have hT : can n x.1 x.2.1 = true → can n x.2.1 x.2.2 = true → can n x.1 x.2.2 = true := can_trans
      cases decide (x.1 ≥ 0) <;> cases decide (x.1 < sites) <;> cases h1 : can n x.1 x.2.1 <;> cases h2 : can n x.2.1 x.2.2 <;> first | rfl | (rw [hT h1 h2]; rfl)
theorem law5 (x : (pk ps5).den) (h : Valid (pk ps5) x) : d5 x = some true := parts x.1 x.2.1 x.2.2 h.2.1.1
end Go.Proofs.Ytchgholmoclbhaa.D
