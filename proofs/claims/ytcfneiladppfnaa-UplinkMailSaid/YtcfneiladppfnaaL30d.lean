import Derived.Test.YtcfneiladppfnaaL30c
open Go Go.GD Go.Proofs
namespace Go.Proofs.Ytcfneiladppfnaa.D
/-- the loop over the operations: each takes a world that is in order to one that is -/
theorem run_ops {ρ : Type} (gate : Int) (hg : -9223372036854775808 ≤ gate ∧ gate ≤ 9223372036854775807) (chk : World → Option ρ → Option ρ) (fin : World → Option ρ) (out : ρ)
    (hchk : ∀ n b p a G early acks, n ≤ 200 → b ≤ 10000 → Ok gate n b p a G early acks → ∀ K, chk (mkW gate p a G early acks) K = K)
    (hfin : ∀ n b p a G early acks, n ≤ 200 → b ≤ 9000 → Ok gate n b p a G early acks → fin (mkW gate p a G early acks) = some out) :
    ∀ (ops : List (Int × Int)) (n b : Nat) (p : Rds) (a G : Nat) (early : Rds) (acks : List Int), n + ops.length ≤ 120 → b + 64 * ops.length ≤ 64 * 120 → Ok gate n b p a G early acks →
      forE (fun el (w : World) K => (D25 w el).bind fun r2 => chk r2 (K r2)) fin ops (mkW gate p a G early acks) = some out
  | [], n, b, p, a, G, early, acks, h1, h2, h => hfin n b p a G early acks (by omega) (by omega) h
  | op :: ops, n, b, p, a, G, early, acks, h1, h2, h => by
    rw [List.length_cons] at h1 h2
    obtain ⟨p', a', G', early', acks', d1, d2⟩ := act_ok hg h (by omega) (by omega) op
    rw [forE, d1, bindS, hchk _ _ _ _ _ _ _ (by omega) (by omega) d2]
    exact run_ops gate hg chk fin out hchk hfin ops (n + 1) (b + 64) p' a' G' early' acks' (by omega) (by omega) d2
theorem ok_open (gate : Int) : Ok gate 0 0 [] 0 0 [] [] :=
  ⟨Nat.le_refl _, (fun k hk => by cases hk), Nat.le_refl _, Nat.le_refl _, (by decide), (fun e he => by cases he), (by unfold asc; exact .nil), Nat.le_refl _, Nat.le_refl _, (fun e he => by cases he)⟩
theorem once6 (gate : Int) (ops : List (Int × Int)) (hg : -9223372036854775808 ≤ gate ∧ gate ≤ 9223372036854775807) : D6 gate ops = some true := by
  rw [e6, aliveD, bindS, Bool.not_true, condF]
  by_cases hl : (ops.length : Int) > 120
  · rw [decide_eq_true hl]; rfl
  · rw [decide_eq_false hl, condF, e11, bindS, f6_1 _ _ (by rw [maxLen_val]; omega)]
    refine run_ops gate hg (fun r2 K => bif (r2.2.1.2.1 != IntKind.i64.wrap ((List.length r2.2.1.2.2.1 : Int) + 1)) then some false
      else bif decide ((List.length r2.2.1.2.2.1 : Int) > (List.length r2.2.2.1 : Int)) then some false
      else bif (decide (0 ≤ (0 : Int)) && (decide ((0 : Int) ≤ (List.length r2.2.1.2.2.1 : Int)) && decide (((List.length r2.2.1.2.2.1 : Int) : Int) ≤ (List.length r2.2.2.1 : Int)))) then (
        (D17 r2.2.1.2.2.1 (List.drop (Int.toNat 0) (List.take (Int.toNat (List.length r2.2.1.2.2.1 : Int)) r2.2.2.1))).bind fun r3 =>
        bif (!r3) then some false
        else (D23 r2.1 r2.2.1).bind fun r4 =>
        bif (!r4) then some false
        else K)
      else none) _ true (fun n b p a G early acks hn hb h K => ?_) (fun n b p a G early acks hn hb h => ?_) ops 0 0 [] 0 0 [] [] (by omega) (by omega) (ok_open gate)
    · have hG := h.hG
      have hp := h.hp
      have htl : (p.take G).length = G := by rw [List.length_take]; omega
      show (bif ((G : Int) + 1 != IntKind.i64.wrap (((p.take G).length : Int) + 1)) then some false
        else bif decide (((p.take G).length : Int) > (p.length : Int)) then some false
        else bif (decide (0 ≤ (0 : Int)) && (decide ((0 : Int) ≤ ((p.take G).length : Int)) && decide (((p.take G).length : Int) ≤ (p.length : Int)))) then (
          (D17 (p.take G) (List.drop (Int.toNat 0) (List.take (Int.toNat ((p.take G).length : Int)) p))).bind fun r3 =>
          bif (!r3) then some false
          else (D23 (outb gate p a) (inb gate p G early)).bind fun r4 =>
          bif (!r4) then some false
          else K)
        else none) = K
      have c : (decide (0 ≤ (0 : Int)) && (decide ((0 : Int) ≤ (G : Int)) && decide ((G : Int) ≤ (p.length : Int)))) = true := by simp only [Bool.and_eq_true, decide_eq_true_eq]; omega
      rw [htl, wrap_i64 (by omega) (by omega), bne_self_eq_false, condF, decide_eq_false (by omega), condF, c, condT, Int.toNat_natCast, show Int.toNat 0 = 0 from rfl, List.drop_zero, same17 _ (by omega), bindS, Bool.not_true, condF, right_ok h (by omega) (by omega), bindS, Bool.not_true, condF]
    · obtain ⟨early', acks', d1, d2⟩ := act3 h (by omega) (by omega) 0
      have hp := d2.hp
      show ((D25 (mkW gate p a G early acks) (3, 0)).bind fun r2 => _) = _
      rw [d1, bindS]
      have he : early' = [] := by
        rw [List.eq_nil_iff_forall_not_mem]
        intro e he
        obtain ⟨k, h1, h2⟩ := d2.hE e he
        have := (seq_at d2.hc h1).1
        omega
      subst he
      show ((D17 (p.take p.length) p).bind fun r3 => bif r3 then some (((List.length ([] : Rds) : Nat) : Int) == 0) else some false) = _
      rw [List.take_length, same17 _ (by omega)]
      rfl
theorem law6 (x : (pk ps6).den) (h : Valid (pk ps6) x) : d6 x = some true := once6 x.1 x.2 (by have := valid_i64 h.1; omega)
theorem old_ok (gate : Int) (hg : -9223372036854775808 ≤ gate ∧ gate ≤ 9223372036854775807) (m : Int) {n b : Nat} {p : Rds} {a G : Nat} {early : Rds} {acks : List Int} (h : Ok gate n b p a G early acks) (hn : n ≤ 200) (hb : b ≤ 9000) :
    lp7_1 big gate m (mkW gate p a G early acks) 0 = some true := by
  have hG := h.hG
  have hp := h.hp
  have hL := h.hL
  have htl : (p.take G).length = G := by rw [List.length_take]; omega
  have hS := ok_small h (by omega) (by omega)
  have hD : ∀ r, recv (inb gate p G early) r = inb gate p G early → D21 (inb gate p G early) r = some (inb gate p G early, (G : Int)) := fun r hr => by
    rw [recv21 _ _ hS, hr]
    show some (inb gate p G early, (G : Int) + 1 - 1) = _
    rw [Int.add_sub_cancel]
  have hself : D16 (inb gate p G early) (inb gate p G early) = some true := sameIn16 _ (by show (p.take G).length ≤ _; omega) (by show early.length ≤ _; omega)
  have key : ∀ (fuel k j : Nat), k + j = G + early.length → j < fuel → lp7_1 fuel gate m (mkW gate p a G early acks) (k : Int) = some true := by
    intro fuel
    induction fuel with
    | zero => intro k j _ hj; omega
    | succ fuel ih =>
      intro k j hkj hj
      unfold lp7_1
      rw [iter]
      show (bif decide ((k : Int) < IntKind.i64.wrap (((p.take G).length : Int) + (early.length : Int))) then (
        bif decide ((k : Int) < ((p.take G).length : Int)) then (
          (idx (p.take G) (k : Int)).bind fun e =>
          (D21 (inb gate p G early) e).bind fun r2 =>
          (D16 r2.1 (inb gate p G early)).bind fun r3 =>
          bif (!r3) then some false
          else bif (r2.2 != IntKind.i64.wrap ((G : Int) + 1 - 1)) then some false
          else lp7_1 fuel gate m (mkW gate p a G early acks) (IntKind.i64.wrap ((k : Int) + 1)))
        else (idx early (IntKind.i64.wrap ((k : Int) - ((p.take G).length : Int)))).bind fun e =>
        (D21 (inb gate p G early) e).bind fun r2 =>
        (D16 r2.1 (inb gate p G early)).bind fun r3 =>
        bif (!r3) then some false
        else bif (r2.2 != IntKind.i64.wrap ((G : Int) + 1 - 1)) then some false
        else lp7_1 fuel gate m (mkW gate p a G early acks) (IntKind.i64.wrap ((k : Int) + 1)))
      else (D21 (inb gate p G early) (IntKind.i64.wrap (gate + 1), m, 0, 0, 0, 0, 0)).bind fun r2 =>
      (D16 r2.1 (inb gate p G early)).bind fun r3 =>
      bif r3 then some (r2.2 == IntKind.i64.wrap ((G : Int) + 1 - 1))
      else some false : Option Bool) = _
      rw [htl, wrap_i64 (n := (G : Int) + (early.length : Int)) (by omega) (by omega), wrap_i64 (n := (G : Int) + 1 - 1) (by omega) (by omega), Int.add_sub_cancel, wrap_i64 (n := (k : Int) + 1) (by omega) (by omega)]
      have hstep : ∀ r, recv (inb gate p G early) r = inb gate p G early → k < G + early.length → ((D21 (inb gate p G early) r).bind fun r2 =>
          (D16 r2.1 (inb gate p G early)).bind fun r3 =>
          bif (!r3) then some false
          else bif (r2.2 != (G : Int)) then some false
          else lp7_1 fuel gate m (mkW gate p a G early acks) ((k : Int) + 1)) = some true := fun r hr hlt => by
        rw [hD r hr, bindS, hself, bindS, Bool.not_true, condF, bne_self_eq_false, condF]
        exact ih (k + 1) (j - 1) (by omega) (by omega)
      by_cases c1 : k < G + early.length
      · rw [decide_eq_true (by omega), condT]
        by_cases c2 : k < G
        · rw [decide_eq_true (by omega), condT, idx_get (by omega), bindS]
          refine hstep _ ?_ c1
          rw [List.getElem_take]
          have := (h.hc k (by omega)).2
          rw [recv, if_pos (.inr (by show p[k].2.1 < (G : Int) + 1; omega))]
        · have hk : k - G < early.length := by omega
          rw [decide_eq_false (by omega), condF, wrap_i64 (by omega) (by omega), show (k : Int) - (G : Int) = ((k - G : Nat) : Int) by omega, idx_get hk, bindS]
          refine hstep _ ?_ c1
          obtain ⟨k2, q1, q2⟩ := h.hE early[k - G] (List.getElem_mem hk)
          obtain ⟨_, s1, s2⟩ := seq_at h.hc q1
          rw [recv, if_neg (fun e => e.elim (fun e => e s1) (fun e => by have e : early[k - G].2.1 < (G : Int) + 1 := e; omega)), if_neg (fun e => by have e : early[k - G].2.1 = (G : Int) + 1 := e; omega), if_pos (List.any_eq_true.2 ⟨early[k - G], List.getElem_mem hk, beq_self_eq_true _⟩ : (inb gate p G early).2.2.2.any (fun x => x.2.1 == early[k - G].2.1) = true)]
      · rw [decide_eq_false (by omega), condF, hD _ (recv_other _ _ (wrap_other hg).2), bindS, hself, bindS, condT, beq_self_eq_true]
  exact key big 0 (G + early.length) (by omega) (by show _ < 18446744073709551616; omega)
theorem old7 (gate : Int) (ops : List (Int × Int)) (m : Int) (hg : -9223372036854775808 ≤ gate ∧ gate ≤ 9223372036854775807) : D7 gate ops m = some true := by
  rw [e7, aliveD, bindS, Bool.not_true, condF]
  by_cases hl : (ops.length : Int) > 120
  · rw [decide_eq_true hl]; rfl
  · rw [decide_eq_false hl, condF, e11, bindS, f7_2 _ _ _ _ (by rw [maxLen_val]; omega)]
    exact run_ops gate hg (fun _ K => K) _ true (fun n b p a G early acks hn hb h K => rfl) (fun n b p a G early acks hn hb h => old_ok gate hg m h hn hb) ops 0 0 [] 0 0 [] [] (by omega) (by omega) (ok_open gate)
theorem law7 (x : (pk ps7).den) (h : Valid (pk ps7) x) : d7 x = some true := old7 x.1 x.2.1 x.2.2 (by have := valid_i64 h.1; omega)
theorem mail_ok (gate : Int) (m : Int) {n b : Nat} {p : Rds} {a G : Nat} {early : Rds} {acks : List Int} (h : Ok gate n b p a G early acks) (hn : n ≤ 200) :
    ((D18 (outb gate p a)).bind fun r2 =>
    bif decide ((List.length r2 : Int) > 64) then some false
    else bif decide ((List.length r2 : Int) > (List.length p : Int)) then some false
    else bif (decide (0 ≤ (IntKind.i64.wrap ((List.length p : Int) - (List.length r2 : Int)) : Int)) && (decide ((IntKind.i64.wrap ((List.length p : Int) - (List.length r2 : Int)) : Int) ≤ (List.length p : Int)) && decide (((List.length p : Int) : Int) ≤ (List.length p : Int)))) then (
      (D17 r2 (List.drop (Int.toNat (IntKind.i64.wrap ((List.length p : Int) - (List.length r2 : Int)))) (List.take (Int.toNat (List.length p : Int)) p))).bind fun r3 =>
      bif (!r3) then some false
      else bif ((p.length : Int) + 1 != IntKind.i64.wrap ((List.length p : Int) + 1)) then some false
      else (D19 (outb gate p a) m).bind fun r4 =>
      lp8_1 big m (mkW gate p a G early acks) r4 0)
    else none : Option Bool) = some true := by
  have hp := h.hp
  have hm := h.hm
  have ha := h.ha
  have hG := h.hG
  have hdl : (p.drop a).length = p.length - a := List.length_drop ..
  have hol : ∀ c, (outb gate p c).2.2.length ≤ 100000 := fun c => by show (p.drop c).length ≤ _; rw [List.length_drop]; omega
  rw [pend18 _ (hol a), bindS]
  show (bif decide (((p.drop a).length : Int) > 64) then some false
    else bif decide (((p.drop a).length : Int) > (List.length p : Int)) then some false
    else bif (decide (0 ≤ (IntKind.i64.wrap ((List.length p : Int) - ((p.drop a).length : Int)) : Int)) && (decide ((IntKind.i64.wrap ((List.length p : Int) - ((p.drop a).length : Int)) : Int) ≤ (List.length p : Int)) && decide (((List.length p : Int) : Int) ≤ (List.length p : Int)))) then (
      (D17 (p.drop a) (List.drop (Int.toNat (IntKind.i64.wrap ((List.length p : Int) - ((p.drop a).length : Int)))) (List.take (Int.toNat (List.length p : Int)) p))).bind fun r3 =>
      bif (!r3) then some false
      else bif ((p.length : Int) + 1 != IntKind.i64.wrap ((List.length p : Int) + 1)) then some false
      else (D19 (outb gate p a) m).bind fun r4 =>
      lp8_1 big m (mkW gate p a G early acks) r4 0)
    else none : Option Bool) = some true
  have hw : IntKind.i64.wrap ((p.length : Int) - ((p.length - a : Nat) : Int)) = (a : Int) := by rw [wrap_i64 (by omega) (by omega)]; omega
  have c : (decide (0 ≤ (a : Int)) && (decide ((a : Int) ≤ (p.length : Int)) && decide ((p.length : Int) ≤ (p.length : Int)))) = true := by simp only [Bool.and_eq_true, decide_eq_true_eq]; omega
  rw [hdl, decide_eq_false (by omega), condF, decide_eq_false (by omega), condF, hw, c, condT, Int.toNat_natCast, Int.toNat_natCast, List.take_length, same17 (p.drop a) (hol a), bindS, Bool.not_true, condF, wrap_i64 (n := (p.length : Int) + 1) (by omega) (by omega), bne_self_eq_false, condF, ack19 _ _ (hol a), bindS, ack_drop h.hc]
  have hx := hol (a + (m - a).toNat)
  rw [f8_1 _ _ _ (by rw [maxLen_val]; omega)]
  refine forE_inv (fun _ => ()) (fun r => r = some true) _ (fun pre x post e K hK => ?_) ?_ rfl
  · have hmem : x ∈ p.drop (a + (m - a).toNat) := by
      show x ∈ (outb gate p (a + (m - a).toNat)).2.2
      rw [e]; simp
    obtain ⟨k, hk, rfl⟩ := List.getElem_of_mem hmem
    have := (consec_drop h.hc _ k hk).2
    rw [decide_eq_false (by omega), condF]
    exact hK
  · have hmin : (bif decide ((mkW gate p a G early acks).1.2.1 < m) then (mkW gate p a G early acks).1.2.1 else m) = (bif decide ((p.length : Int) + 1 < m) then (p.length : Int) + 1 else m) := rfl
    rw [hmin]
    have hsame : ∀ q : Int, q ≤ m → ackF (outb gate p (a + (m - a).toNat)) q = outb gate p (a + (m - a).toNat) := fun q hq => by
      rw [ack_drop h.hc, show (q - ((a + (m - a).toNat : Nat) : Int)).toNat = 0 by omega]
      rfl
    have hq : (bif decide ((p.length : Int) + 1 < m) then (p.length : Int) + 1 else m) ≤ m := by
      by_cases hlt : (p.length : Int) + 1 < m
      · rw [decide_eq_true hlt]; show (p.length : Int) + 1 ≤ m; omega
      · rw [decide_eq_false hlt]; exact Int.le_refl _
    rw [ack19 _ _ hx, bindS, hsame _ hq, sameOut15 _ hx, bindS, condT]
    show ((D19 (outb gate p a) 0).bind fun r7 => (D15 r7 (outb gate p a)).bind fun r8 => bif r8 then some ((p.length : Int) + 1 == (p.length : Int) + 1) else some false) = some true
    rw [ack19 _ _ (hol a), bindS, ack_drop h.hc, show ((0 : Int) - (a : Int)).toNat = 0 by omega]
    show ((D15 (outb gate p a) (outb gate p a)).bind fun r8 => bif r8 then some ((p.length : Int) + 1 == (p.length : Int) + 1) else some false) = some true
    rw [sameOut15 _ (hol a), bindS, condT, beq_self_eq_true]
theorem mail8 (gate : Int) (ops : List (Int × Int)) (m : Int) (hg : -9223372036854775808 ≤ gate ∧ gate ≤ 9223372036854775807) : D8 gate ops m = some true := by
  rw [e8, aliveD, bindS, Bool.not_true, condF]
  by_cases hl : (ops.length : Int) > 120
  · rw [decide_eq_true hl]; rfl
  · rw [decide_eq_false hl, condF, e11, bindS, f8_3 _ _ _ (by rw [maxLen_val]; omega)]
    exact run_ops gate hg (fun _ K => K) _ true (fun n b p a G early acks hn hb h K => rfl) (fun n b p a G early acks hn _ h => mail_ok gate m h hn) ops 0 0 [] 0 0 [] [] (by omega) (by omega) (ok_open gate)
theorem law8 (x : (pk ps8).den) (h : Valid (pk ps8) x) : d8 x = some true := mail8 x.1 x.2.1 x.2.2 (by have := valid_i64 h.1; omega)
end Go.Proofs.Ytcfneiladppfnaa.D
