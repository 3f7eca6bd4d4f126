import Derived.Test.YtdbbbdjglpfnbaaT36
open Go Go.GD Go.Proofs
namespace Go.Proofs.Ytdbbbdjglpfnbaa.D
/-! skiarea/refund.share -/
noncomputable def D22 (a0 : Int) : Option (Bool) := d22 a0
theorem e22 (n : Int) : D22 n = (
  bif decide (n ≥ 0) then some (decide (n ≤ 1000))
  else some false : Option (Bool)) := by kernel_rfl

/-! skiarea/split.Even -/
noncomputable def D23 (a0 : Int) (a1 : Int) : Option ((List (Int)) × (Int)) := d23 (a0, a1)
noncomputable def lp23_1 (fuel : Nat)  (amount1₀ : Int) (n1₀ : Int) (parts₀ : List (Int)) (v₀ : Int) (v1₀ : Int) : Option ((List (Int)) × (Int)) :=
  iter (fun F ((amount1, n1, parts, v, v1) : Int × Int × (List (Int)) × Int × Int) =>
    bif decide (v1 < v) then (
      bif (n1 == 0) then none
      else (idx parts v1).bind fun _ =>
      bif (n1 == 0) then none
      else bif decide (v1 < Int.tmod amount1 n1) then (
        (idx (List.set parts (Int.toNat v1) (IntKind.i64.wrap (Int.tdiv amount1 n1))) v1).bind fun e1 =>
        (idx (List.set parts (Int.toNat v1) (IntKind.i64.wrap (Int.tdiv amount1 n1))) v1).bind fun _ =>
        F (amount1, n1, List.set (List.set parts (Int.toNat v1) (IntKind.i64.wrap (Int.tdiv amount1 n1))) (Int.toNat v1) (IntKind.i64.wrap (e1 + 1)), v, IntKind.i64.wrap (v1 + 1)))
      else F (amount1, n1, List.set parts (Int.toNat v1) (IntKind.i64.wrap (Int.tdiv amount1 n1)), v, IntKind.i64.wrap (v1 + 1)))
    else some (parts, 0)) fuel (amount1₀, n1₀, parts₀, v₀, v1₀)

theorem f23_1  (amount1 : Int) (n1 : Int) (parts : List (Int)) (v : Int) (hl : v ≤ 9223372036854775807) : lp23_1 big amount1 n1 parts v 0 =
  forN (fun k (parts : (List (Int))) K =>
    bif (n1 == 0) then none
    else (idx parts (k : Int)).bind fun _ =>
    bif (n1 == 0) then none
    else bif decide ((k : Int) < Int.tmod amount1 n1) then (
      (idx (List.set parts (Int.toNat (k : Int)) (IntKind.i64.wrap (Int.tdiv amount1 n1))) (k : Int)).bind fun e1 =>
      (idx (List.set parts (Int.toNat (k : Int)) (IntKind.i64.wrap (Int.tdiv amount1 n1))) (k : Int)).bind fun _ =>
      K (List.set (List.set parts (Int.toNat (k : Int)) (IntKind.i64.wrap (Int.tdiv amount1 n1))) (Int.toNat (k : Int)) (IntKind.i64.wrap (e1 + 1))))
    else K (List.set parts (Int.toNat (k : Int)) (IntKind.i64.wrap (Int.tdiv amount1 n1))))
    (fun (parts : (List (Int))) =>
    some (parts, 0)) 0 (Int.toNat v) parts := by
  refine iter_forN (Int.toNat v) (fun k (parts : (List (Int))) => (amount1, n1, parts, v, (k : Int))) _ _ ?_ ?_ (int_lt_big hl) parts
  · rintro F k h parts
    simp only [dec_lt_int h, condT, wrap_succ_int h hl]
  · rintro F parts
    simp only [dec_end_int, condF]

theorem g23 (fuel : Nat) (amount : Int) (n : Int) : (fnD tab env23 8 ann23 fuel Try.f23 [] ps23 rs23 true (amount, n) : Option ((List (Int)) × (Int))) = (
  bif decide (amount < 0) then some (([] : List (Int)), 2)
  else bif decide (amount > 1099511627776) then some (([] : List (Int)), 2)
  else bif decide (n < 1) then some (([] : List (Int)), 1)
  else bif decide (n > 64) then some (([] : List (Int)), 1)
  else bif (decide (0 ≤ (n : Int)) && (decide ((n : Int) ≤ n) && (decide (8 * (n : Int) ≤ (appendLimit : Int)) && decide ((n : Int) ≤ 9223372036854775807)))) then lp23_1 fuel amount n (List.replicate (Int.toNat n) (0 : Int)) (List.length (List.replicate (Int.toNat n) (0 : Int)) : Int) 0
  else none : Option ((List (Int)) × (Int))) := by kernel_rfl
theorem e23 (amount : Int) (n : Int) : D23 amount n = (
  bif decide (amount < 0) then some (([] : List (Int)), 2)
  else bif decide (amount > 1099511627776) then some (([] : List (Int)), 2)
  else bif decide (n < 1) then some (([] : List (Int)), 1)
  else bif decide (n > 64) then some (([] : List (Int)), 1)
  else bif (decide (0 ≤ (n : Int)) && (decide ((n : Int) ≤ n) && (decide (8 * (n : Int) ≤ (appendLimit : Int)) && decide ((n : Int) ≤ 9223372036854775807)))) then lp23_1 big amount n (List.replicate (Int.toNat n) (0 : Int)) (List.length (List.replicate (Int.toNat n) (0 : Int)) : Int) 0
  else none : Option ((List (Int)) × (Int))) := g23 big amount n

/-! skiarea/refund.Days -/
noncomputable def D11 (a0 : (Int) × (Int)) (a1 : Int) (a2 : List (Int)) : Option ((Int) × (Int)) := d11 (a0, a1, a2)
noncomputable def lp11_1 (fuel : Nat)  (closed2₀ : List (Int)) (r5₀ : (Int) × (Int)) (sum_₀ : Int) (v3₀ : List (Int)) (v4₀ : Int) (v5₀ : Int) : Option ((Int) × (Int)) :=
  iter (fun F1 ((closed2, r5, sum_, v3, v4, v5) : (List (Int)) × ((Int) × (Int)) × Int × (List (Int)) × Int × Int) =>
    bif decide (v5 < v4) then (
      (idx v3 v5).bind fun e =>
      (idx closed2 v5).bind fun e1 =>
      bif decide (e1 ≥ r5.1) then F1 (closed2, r5, IntKind.i64.wrap (sum_ + (IntKind.i64.wrap (Int.tdiv (IntKind.i64.wrap (e * r5.2)) 1000))), v3, v4, IntKind.i64.wrap (v5 + 1))
      else F1 (closed2, r5, sum_, v3, v4, IntKind.i64.wrap (v5 + 1)))
    else some (sum_, 0)) fuel (closed2₀, r5₀, sum_₀, v3₀, v4₀, v5₀)

theorem f11_1  (closed2 : List (Int)) (r5 : (Int) × (Int)) (sum_ : Int) (v3 : List (Int)) (hl : (v3).length ≤ maxLen) : lp11_1 big closed2 r5 sum_ v3 (List.length v3 : Int) 0 =
  forI (fun k x (sum_ : Int) K =>
    (idx closed2 (k : Int)).bind fun e1 =>
    bif decide (e1 ≥ r5.1) then K (IntKind.i64.wrap (sum_ + (IntKind.i64.wrap (Int.tdiv (IntKind.i64.wrap (x * r5.2)) 1000))))
    else K sum_)
    (fun (sum_ : Int) =>
    some (sum_, 0)) 0 v3 sum_ := by
  refine iter_forI_from v3 (fun k (sum_ : Int) => (closed2, r5, sum_, v3, (List.length v3 : Int), (k : Int))) _ _ ?_ ?_ (k := 0) (Nat.zero_le _) (len_lt_big hl) sum_
  · rintro F k h sum_
    simp only [dec_lt h, condT, idx_get h, bindS, wrap_succ h hl]
  · rintro F sum_
    simp only [dec_end, condF]

noncomputable def lp11_3 (fuel : Nat)  (paid1₀ : Int) (closed1₀ : List (Int)) (r3₀ : (Int) × (Int)) (v₀ : List (Int)) (v1₀ : Int) (v2₀ : Int) : Option ((Int) × (Int)) :=
  iter (fun F ((paid1, closed1, r3, v, v1, v2) : Int × (List (Int)) × ((Int) × (Int)) × (List (Int)) × Int × Int) =>
    bif decide (v2 < v1) then (
      (idx v v2).bind fun e =>
      (D22 e).bind fun r4 =>
      bif (!r4) then some (0, 2)
      else F (paid1, closed1, r3, v, v1, IntKind.i64.wrap (v2 + 1)))
    else (D23 paid1 (List.length closed1 : Int)).bind fun r4 =>
    bif (r4.2 != 0) then some (0, r4.2)
    else lp11_1 fuel closed1 r3 0 r4.1 (List.length r4.1 : Int) 0) fuel (paid1₀, closed1₀, r3₀, v₀, v1₀, v2₀)

theorem f11_3  (paid1 : Int) (closed1 : List (Int)) (r3 : (Int) × (Int)) (v : List (Int)) (hl : (v).length ≤ maxLen) : lp11_3 big paid1 closed1 r3 v (List.length v : Int) 0 =
  forE (fun  x (_ : Unit) K =>
    (D22 x).bind fun r4 =>
    bif (!r4) then some (0, 2)
    else K ())
    (fun (_ : Unit) =>
    (D23 paid1 (List.length closed1 : Int)).bind fun r4 =>
    bif (r4.2 != 0) then some (0, r4.2)
    else lp11_1 big closed1 r3 0 r4.1 (List.length r4.1 : Int) 0) v () := by
  refine iter_forE v (fun k (_ : Unit) => (paid1, closed1, r3, v, (List.length v : Int), (k : Int))) _ _ ?_ ?_ (len_lt_big hl) ()
  · rintro F k h _
    simp only [dec_lt h, condT, idx_get h, bindS, wrap_succ h hl]
  · rintro F _
    simp only [dec_end, condF]

theorem g11 (fuel : Nat) (r : (Int) × (Int)) (paid : Int) (closed : List (Int)) : (fnD tab env11 15 ann11 fuel Try.f11 [] ps11 rs11 true (r, paid, closed) : Option ((Int) × (Int))) = (
  (D22 r.1).bind fun r1 =>
  bif (!r1) then some (0, 2)
  else (D22 r.2).bind fun r2 =>
  bif (!r2) then some (0, 2)
  else bif decide (paid < 0) then some (0, 2)
  else bif decide (paid > 100000000) then some (0, 2)
  else bif decide ((List.length closed : Int) < 1) then some (0, 1)
  else bif decide ((List.length closed : Int) > 64) then some (0, 1)
  else lp11_3 fuel paid closed r closed (List.length closed : Int) 0 : Option ((Int) × (Int))) := by kernel_rfl
theorem e11 (r : (Int) × (Int)) (paid : Int) (closed : List (Int)) : D11 r paid closed = (
  (D22 r.1).bind fun r1 =>
  bif (!r1) then some (0, 2)
  else (D22 r.2).bind fun r2 =>
  bif (!r2) then some (0, 2)
  else bif decide (paid < 0) then some (0, 2)
  else bif decide (paid > 100000000) then some (0, 2)
  else bif decide ((List.length closed : Int) < 1) then some (0, 1)
  else bif decide ((List.length closed : Int) > 64) then some (0, 1)
  else lp11_3 big paid closed r closed (List.length closed : Int) 0 : Option ((Int) × (Int))) := g11 big r paid closed

/-! skiarea/refund.Unused -/
noncomputable def D13 (a0 : Int) (a1 : Int) (a2 : Int) : Option ((Int) × (Int)) := d13 (a0, a1, a2)
theorem e13 (paid : Int) (units : Int) (left : Int) : D13 paid units left = (
  bif decide (paid < 0) then some (0, 2)
  else bif decide (paid > 100000000) then some (0, 2)
  else bif decide (units < 1) then some (0, 1)
  else bif decide (units > 100) then some (0, 1)
  else bif decide (left < 0) then some (0, 1)
  else bif decide (left > units) then some (0, 1)
  else bif (units == 0) then none
  else some (IntKind.i64.wrap (Int.tdiv (IntKind.i64.wrap (paid * left)) units), 0) : Option ((Int) × (Int))) := by kernel_rfl

/-! slices.Index[[]int,int] -/
noncomputable def D36 (a0 : List (Int)) (a1 : Int) : Option (Int) := d36 (a0, a1)
noncomputable def lp36_1 (fuel : Nat)  (s1₀ : List (Int)) (v1₀ : Int) (v2₀ : Int) (v3₀ : Int) : Option (Int) :=
  iter (fun F ((s1, v1, v2, v3) : (List (Int)) × Int × Int × Int) =>
    bif decide (v3 < v2) then (
      (idx s1 v3).bind fun e =>
      bif (v1 == e) then some v3
      else F (s1, v1, v2, IntKind.i64.wrap (v3 + 1)))
    else some (-1)) fuel (s1₀, v1₀, v2₀, v3₀)

theorem f36_1  (s1 : List (Int)) (v1 : Int) (hl : (s1).length ≤ maxLen) : lp36_1 big s1 v1 (List.length s1 : Int) 0 =
  forI (fun k x (_ : Unit) K =>
    bif (v1 == x) then some (k : Int)
    else K ())
    (fun (_ : Unit) =>
    some (-1)) 0 s1 () := by
  refine iter_forI_from s1 (fun k (_ : Unit) => (s1, v1, (List.length s1 : Int), (k : Int))) _ _ ?_ ?_ (k := 0) (Nat.zero_le _) (len_lt_big hl) ()
  · rintro F k h _
    simp only [dec_lt h, condT, idx_get h, bindS, wrap_succ h hl]
  · rintro F _
    simp only [dec_end, condF]

theorem g36 (fuel : Nat) (s : List (Int)) (v : Int) : (fnD tab env36 6 ann36 fuel Try.f36 [] ps36 rs36 true (s, v) : Option (Int)) = (
  lp36_1 fuel s v (List.length s : Int) 0 : Option (Int)) := by kernel_rfl
theorem e36 (s : List (Int)) (v : Int) : D36 s v = (
  lp36_1 big s v (List.length s : Int) 0 : Option (Int)) := g36 big s v

/-! slices.Contains[[]int,int] -/
noncomputable def D31 (a0 : List (Int)) (a1 : Int) : Option (Bool) := d31 (a0, a1)
theorem e31 (s : List (Int)) (v : Int) : D31 s v = (
  (D36 s v).bind fun r =>
  some (decide (r ≥ 0)) : Option (Bool)) := by kernel_rfl

/-! skiarea/refund.Closed -/
noncomputable def D16 (a0 : (List ((Int) × (Int))) × ((List ((Int) × ((Int) × ((Int) × ((Int) × ((Int) × ((Int) × ((Int) × (Int))))))))) × ((List ((Int) × ((Int) × ((Int) × ((Int) × ((Int) × ((Int) × (Int)))))))) × (List (Int))))) (a1 : List (Int)) (a2 : List (Int)) : Option (Int) := d16 (a0, a1, a2)
noncomputable def lp16_1 (fuel : Nat)  (operators1₀ : List (Int)) (closed1₀ : List (Int)) (all_₀ : Int) (shut₀ : Int) (v₀ : List ((Int) × ((Int) × ((Int) × ((Int) × ((Int) × ((Int) × ((Int) × (Int))))))))) (v1₀ : Int) (v2₀ : Int) : Option (Int) :=
  iter (fun F ((operators1, closed1, all_, shut, v, v1, v2) : (List (Int)) × (List (Int)) × Int × Int × (List ((Int) × ((Int) × ((Int) × ((Int) × ((Int) × ((Int) × ((Int) × (Int))))))))) × Int × Int) =>
    bif decide (v2 < v1) then (
      (idx v v2).bind fun e =>
      (D31 operators1 e.2.1).bind fun r =>
      bif (!r) then F (operators1, closed1, all_, shut, v, v1, IntKind.i64.wrap (v2 + 1))
      else (D31 closed1 e.1).bind fun r1 =>
      bif r1 then F (operators1, closed1, IntKind.i64.wrap (all_ + 1), IntKind.i64.wrap (shut + 1), v, v1, IntKind.i64.wrap (v2 + 1))
      else F (operators1, closed1, IntKind.i64.wrap (all_ + 1), shut, v, v1, IntKind.i64.wrap (v2 + 1)))
    else bif (all_ == 0) then some 0
    else bif (all_ == 0) then none
    else some (IntKind.i64.wrap (Int.tdiv (IntKind.i64.wrap (shut * 1000)) all_))) fuel (operators1₀, closed1₀, all_₀, shut₀, v₀, v1₀, v2₀)

theorem f16_1  (operators1 : List (Int)) (closed1 : List (Int)) (all_ : Int) (shut : Int) (v : List ((Int) × ((Int) × ((Int) × ((Int) × ((Int) × ((Int) × ((Int) × (Int))))))))) (hl : (v).length ≤ maxLen) : lp16_1 big operators1 closed1 all_ shut v (List.length v : Int) 0 =
  forE (fun  x ((all_, shut) : Int × Int) K =>
    (D31 operators1 x.2.1).bind fun r =>
    bif (!r) then K (all_, shut)
    else (D31 closed1 x.1).bind fun r1 =>
    bif r1 then K (IntKind.i64.wrap (all_ + 1), IntKind.i64.wrap (shut + 1))
    else K (IntKind.i64.wrap (all_ + 1), shut))
    (fun ((all_, shut) : Int × Int) =>
    bif (all_ == 0) then some 0
    else bif (all_ == 0) then none
    else some (IntKind.i64.wrap (Int.tdiv (IntKind.i64.wrap (shut * 1000)) all_))) v (all_, shut) := by
  refine iter_forE v (fun k ((all_, shut) : Int × Int) => (operators1, closed1, all_, shut, v, (List.length v : Int), (k : Int))) _ _ ?_ ?_ (len_lt_big hl) (all_, shut)
  · rintro F k h ⟨all_, shut⟩
    simp only [dec_lt h, condT, idx_get h, bindS, wrap_succ h hl]
  · rintro F ⟨all_, shut⟩
    simp only [dec_end, condF]

theorem g16 (fuel : Nat) (m : (List ((Int) × (Int))) × ((List ((Int) × ((Int) × ((Int) × ((Int) × ((Int) × ((Int) × ((Int) × (Int))))))))) × ((List ((Int) × ((Int) × ((Int) × ((Int) × ((Int) × ((Int) × (Int)))))))) × (List (Int))))) (operators : List (Int)) (closed : List (Int)) : (fnD tab env16 11 ann16 fuel Try.f16 [] ps16 rs16 true (m, operators, closed) : Option (Int)) = (
  lp16_1 fuel operators closed 0 0 m.2.1 (List.length m.2.1 : Int) 0 : Option (Int)) := by kernel_rfl
theorem e16 (m : (List ((Int) × (Int))) × ((List ((Int) × ((Int) × ((Int) × ((Int) × ((Int) × ((Int) × ((Int) × (Int))))))))) × ((List ((Int) × ((Int) × ((Int) × ((Int) × ((Int) × ((Int) × (Int)))))))) × (List (Int))))) (operators : List (Int)) (closed : List (Int)) : D16 m operators closed = (
  lp16_1 big operators closed 0 0 m.2.1 (List.length m.2.1 : Int) 0 : Option (Int)) := g16 big m operators closed

/-! skiarea/refund.Reduce -/
noncomputable def D18 (a0 : (Int) × ((Int) × ((Int) × ((Int) × ((Int) × (Int)))))) (a1 : Int) : Option (((Int) × ((Int) × ((Int) × ((Int) × ((Int) × (Int)))))) × (Int)) := d18 (a0, a1)
theorem e18 (s : (Int) × ((Int) × ((Int) × ((Int) × ((Int) × (Int)))))) (amount : Int) : D18 s amount = (
  bif decide (amount < 0) then some ((0, 0, 0, 0, 0, 0), 2)
  else bif decide (amount > s.2.2.2.2.1) then some ((0, 0, 0, 0, 0, 0), 2)
  else some ((s.1, s.2.1, s.2.2.1, s.2.2.2.1, IntKind.i64.wrap (s.2.2.2.2.1 - amount), (bif decide ((IntKind.i64.wrap (s.2.2.2.2.1 - amount) : Int) < s.2.2.2.2.2) then IntKind.i64.wrap (s.2.2.2.2.1 - amount) else s.2.2.2.2.2)), 0) : Option (((Int) × ((Int) × ((Int) × ((Int) × ((Int) × (Int)))))) × (Int))) := by kernel_rfl

/-! skiarea/skiarealaw36.lift -/
noncomputable def D21 (a0 : Int) (a1 : Int) : Option ((Int) × ((Int) × ((Int) × ((Int) × ((Int) × ((Int) × ((Int) × (Int)))))))) := d21 (a0, a1)
theorem e21 (id_ : Int) (operator : Int) : D21 id_ operator = (
  some (id_, operator, 1, 2, 1000, 5000, 4, 20) : Option ((Int) × ((Int) × ((Int) × ((Int) × ((Int) × ((Int) × ((Int) × (Int))))))))) := by kernel_rfl

noncomputable def D10  : Option (Bool) := d10 ()
theorem aliveD : D10 = some true := alive

/-! skiarea/skiarearef36.share -/
noncomputable def D24 (a0 : Int) : Option (Bool) := d24 a0
theorem e24 (n : Int) : D24 n = (
  bif decide (n ≥ 0) then some (decide (n ≤ 1000))
  else some false : Option (Bool)) := by kernel_rfl

/-! skiarea/skiarearef36.price -/
noncomputable def D25 (a0 : Int) : Option (Bool) := d25 a0
theorem e25 (n : Int) : D25 n = (
  bif decide (n ≥ 0) then some (decide (n ≤ 100000000))
  else some false : Option (Bool)) := by kernel_rfl

/-! skiarea/skiarearef34.Even -/
noncomputable def D26 (a0 : Int) (a1 : Int) : Option ((List (Int)) × (Int)) := d26 (a0, a1)
noncomputable def lp26_1 (fuel : Nat)  (amount1₀ : Int) (n1₀ : Int) (parts₀ : List (Int)) (i₀ : Int) : Option ((List (Int)) × (Int)) :=
  iter (fun F ((amount1, n1, parts, i) : Int × Int × (List (Int)) × Int) =>
    bif decide (i < n1) then (
      bif (n1 == 0) then none
      else bif (n1 == 0) then none
      else bif decide (i < Int.tmod amount1 n1) then (
        bif (Nat.ble ((List.length parts + List.length [IntKind.i64.wrap ((IntKind.i64.wrap (Int.tdiv amount1 n1)) + 1)]) * 8) appendLimit && Nat.ble (List.length parts + List.length [IntKind.i64.wrap ((IntKind.i64.wrap (Int.tdiv amount1 n1)) + 1)]) 9223372036854775807) then F (amount1, n1, parts ++ [IntKind.i64.wrap ((IntKind.i64.wrap (Int.tdiv amount1 n1)) + 1)], IntKind.i64.wrap (i + 1))
        else none)
      else bif (Nat.ble ((List.length parts + List.length [IntKind.i64.wrap (Int.tdiv amount1 n1)]) * 8) appendLimit && Nat.ble (List.length parts + List.length [IntKind.i64.wrap (Int.tdiv amount1 n1)]) 9223372036854775807) then F (amount1, n1, parts ++ [IntKind.i64.wrap (Int.tdiv amount1 n1)], IntKind.i64.wrap (i + 1))
      else none)
    else some (parts, 0)) fuel (amount1₀, n1₀, parts₀, i₀)

theorem f26_1  (amount1 : Int) (n1 : Int) (parts : List (Int)) (hl : n1 ≤ 9223372036854775807) : lp26_1 big amount1 n1 parts 0 =
  forN (fun k (parts : (List (Int))) K =>
    bif (n1 == 0) then none
    else bif (n1 == 0) then none
    else bif decide ((k : Int) < Int.tmod amount1 n1) then (
      bif (Nat.ble ((List.length parts + List.length [IntKind.i64.wrap ((IntKind.i64.wrap (Int.tdiv amount1 n1)) + 1)]) * 8) appendLimit && Nat.ble (List.length parts + List.length [IntKind.i64.wrap ((IntKind.i64.wrap (Int.tdiv amount1 n1)) + 1)]) 9223372036854775807) then K (parts ++ [IntKind.i64.wrap ((IntKind.i64.wrap (Int.tdiv amount1 n1)) + 1)])
      else none)
    else bif (Nat.ble ((List.length parts + List.length [IntKind.i64.wrap (Int.tdiv amount1 n1)]) * 8) appendLimit && Nat.ble (List.length parts + List.length [IntKind.i64.wrap (Int.tdiv amount1 n1)]) 9223372036854775807) then K (parts ++ [IntKind.i64.wrap (Int.tdiv amount1 n1)])
    else none)
    (fun (parts : (List (Int))) =>
    some (parts, 0)) 0 (Int.toNat n1) parts := by
  refine iter_forN (Int.toNat n1) (fun k (parts : (List (Int))) => (amount1, n1, parts, (k : Int))) _ _ ?_ ?_ (int_lt_big hl) parts
  · rintro F k h parts
    simp only [dec_lt_int h, condT, wrap_succ_int h hl]
  · rintro F parts
    simp only [dec_end_int, condF]

theorem g26 (fuel : Nat) (amount : Int) (n : Int) : (fnD tab env26 9 ann26 fuel Try.f26 [] ps26 rs26 true (amount, n) : Option ((List (Int)) × (Int))) = (
  bif decide (amount < 0) then some (([] : List (Int)), 2)
  else bif decide (amount > 1099511627776) then some (([] : List (Int)), 2)
  else bif decide (n < 1) then some (([] : List (Int)), 1)
  else bif decide (n > 64) then some (([] : List (Int)), 1)
  else lp26_1 fuel amount n ([] : List (Int)) 0 : Option ((List (Int)) × (Int))) := by kernel_rfl
theorem e26 (amount : Int) (n : Int) : D26 amount n = (
  bif decide (amount < 0) then some (([] : List (Int)), 2)
  else bif decide (amount > 1099511627776) then some (([] : List (Int)), 2)
  else bif decide (n < 1) then some (([] : List (Int)), 1)
  else bif decide (n > 64) then some (([] : List (Int)), 1)
  else lp26_1 big amount n ([] : List (Int)) 0 : Option ((List (Int)) × (Int))) := g26 big amount n

/-! skiarea/skiarearef36.Days -/
noncomputable def D12 (a0 : (Int) × (Int)) (a1 : Int) (a2 : List (Int)) : Option ((Int) × (Int)) := d12 (a0, a1, a2)
noncomputable def lp12_1 (fuel : Nat)  (closed2₀ : List (Int)) (r6₀ : (Int) × (Int)) (parts₀ : List (Int)) (n₀ : Int) (i1₀ : Int) : Option ((Int) × (Int)) :=
  iter (fun F1 ((closed2, r6, parts, n, i1) : (List (Int)) × ((Int) × (Int)) × (List (Int)) × Int × Int) =>
    bif decide (i1 < (List.length closed2 : Int)) then (
      (idx closed2 i1).bind fun e =>
      bif decide (e ≥ r6.1) then (
        (idx parts i1).bind fun e1 =>
        F1 (closed2, r6, parts, IntKind.i64.wrap (n + (IntKind.i64.wrap (Int.tdiv (IntKind.i64.wrap (e1 * r6.2)) 1000))), IntKind.i64.wrap (i1 + 1)))
      else F1 (closed2, r6, parts, n, IntKind.i64.wrap (i1 + 1)))
    else some (n, 0)) fuel (closed2₀, r6₀, parts₀, n₀, i1₀)

theorem f12_1  (closed2 : List (Int)) (r6 : (Int) × (Int)) (parts : List (Int)) (n : Int) (hl : (closed2).length ≤ maxLen) : lp12_1 big closed2 r6 parts n 0 =
  forI (fun k x (n : Int) K =>
    bif decide (x ≥ r6.1) then (
      (idx parts (k : Int)).bind fun e1 =>
      K (IntKind.i64.wrap (n + (IntKind.i64.wrap (Int.tdiv (IntKind.i64.wrap (e1 * r6.2)) 1000)))))
    else K n)
    (fun (n : Int) =>
    some (n, 0)) 0 closed2 n := by
  refine iter_forI_from closed2 (fun k (n : Int) => (closed2, r6, parts, n, (k : Int))) _ _ ?_ ?_ (k := 0) (Nat.zero_le _) (len_lt_big hl) n
  · rintro F k h n
    simp only [dec_lt h, condT, idx_get h, bindS, wrap_succ h hl]
  · rintro F n
    simp only [dec_end, condF]

noncomputable def lp12_3 (fuel : Nat)  (paid1₀ : Int) (closed1₀ : List (Int)) (r4₀ : (Int) × (Int)) (i₀ : Int) : Option ((Int) × (Int)) :=
  iter (fun F ((paid1, closed1, r4, i) : Int × (List (Int)) × ((Int) × (Int)) × Int) =>
    bif decide (i < (List.length closed1 : Int)) then (
      (idx closed1 i).bind fun e =>
      (D24 e).bind fun r5 =>
      bif (!r5) then some (0, 2)
      else F (paid1, closed1, r4, IntKind.i64.wrap (i + 1)))
    else (D26 paid1 (List.length closed1 : Int)).bind fun r5 =>
    lp12_1 fuel closed1 r4 r5.1 0 0) fuel (paid1₀, closed1₀, r4₀, i₀)

theorem f12_3  (paid1 : Int) (closed1 : List (Int)) (r4 : (Int) × (Int)) (hl : (closed1).length ≤ maxLen) : lp12_3 big paid1 closed1 r4 0 =
  forE (fun  x (_ : Unit) K =>
    (D24 x).bind fun r5 =>
    bif (!r5) then some (0, 2)
    else K ())
    (fun (_ : Unit) =>
    (D26 paid1 (List.length closed1 : Int)).bind fun r5 =>
    lp12_1 big closed1 r4 r5.1 0 0) closed1 () := by
  refine iter_forE closed1 (fun k (_ : Unit) => (paid1, closed1, r4, (k : Int))) _ _ ?_ ?_ (len_lt_big hl) ()
  · rintro F k h _
    simp only [dec_lt h, condT, idx_get h, bindS, wrap_succ h hl]
  · rintro F _
    simp only [dec_end, condF]

theorem g12 (fuel : Nat) (r : (Int) × (Int)) (paid : Int) (closed : List (Int)) : (fnD tab env12 13 ann12 fuel Try.f12 [] ps12 rs12 true (r, paid, closed) : Option ((Int) × (Int))) = (
  (D24 r.1).bind fun r1 =>
  bif (!r1) then some (0, 2)
  else (D24 r.2).bind fun r2 =>
  bif (!r2) then some (0, 2)
  else (D25 paid).bind fun r3 =>
  bif (!r3) then some (0, 2)
  else bif decide ((List.length closed : Int) < 1) then some (0, 1)
  else bif decide ((List.length closed : Int) > 64) then some (0, 1)
  else lp12_3 fuel paid closed r 0 : Option ((Int) × (Int))) := by kernel_rfl
theorem e12 (r : (Int) × (Int)) (paid : Int) (closed : List (Int)) : D12 r paid closed = (
  (D24 r.1).bind fun r1 =>
  bif (!r1) then some (0, 2)
  else (D24 r.2).bind fun r2 =>
  bif (!r2) then some (0, 2)
  else (D25 paid).bind fun r3 =>
  bif (!r3) then some (0, 2)
  else bif decide ((List.length closed : Int) < 1) then some (0, 1)
  else bif decide ((List.length closed : Int) > 64) then some (0, 1)
  else lp12_3 big paid closed r 0 : Option ((Int) × (Int))) := g12 big r paid closed

/-! skiarea/skiarealaw36.RefundDays -/
noncomputable def D3 (a0 : (Int) × (Int)) (a1 : Int) (a2 : List (Int)) : Option (Bool) := d3 (a0, a1, a2)
theorem e3 (r : (Int) × (Int)) (paid : Int) (closed : List (Int)) : D3 r paid closed = (
  (D10).bind fun r1 =>
  bif (!r1) then some false
  else bif decide ((List.length closed : Int) > 100) then some true
  else (D11 r paid closed).bind fun r2 =>
  (D12 r paid closed).bind fun r3 =>
  bif (r2.1 == r3.1) then some (r2.2 == r3.2)
  else some false : Option (Bool)) := by kernel_rfl

/-! skiarea/skiarearef36.Unused -/
noncomputable def D14 (a0 : Int) (a1 : Int) (a2 : Int) : Option ((Int) × (Int)) := d14 (a0, a1, a2)
theorem e14 (paid : Int) (units : Int) (left : Int) : D14 paid units left = (
  (D25 paid).bind fun r =>
  bif (!r) then some (0, 2)
  else bif decide (units < 1) then some (0, 1)
  else bif decide (units > 100) then some (0, 1)
  else bif decide (left < 0) then some (0, 1)
  else bif decide (left > units) then some (0, 1)
  else bif (units == 0) then none
  else some (IntKind.i64.wrap (Int.tdiv (IntKind.i64.wrap (paid * left)) units), 0) : Option ((Int) × (Int))) := by kernel_rfl

/-! skiarea/skiarealaw36.RefundUnused -/
noncomputable def D4 (a0 : Int) (a1 : Int) (a2 : Int) : Option (Bool) := d4 (a0, a1, a2)
theorem e4 (paid : Int) (units : Int) (left : Int) : D4 paid units left = (
  (D10).bind fun r =>
  bif (!r) then some false
  else (D13 paid units left).bind fun r1 =>
  (D14 paid units left).bind fun r2 =>
  bif (r1.1 == r2.1) then some (r1.2 == r2.2)
  else some false : Option (Bool)) := by kernel_rfl

/-! skiarea/skiarearef10.in -/
noncomputable def D32 (a0 : Int) (a1 : Int) (a2 : Int) : Option (Bool) := d32 (a0, a1, a2)
theorem e32 (n : Int) (lo : Int) (hi : Int) : D32 n lo hi = (
  bif decide (n ≥ lo) then some (decide (n ≤ hi))
  else some false : Option (Bool)) := by kernel_rfl

/-! skiarea/skiarearef10.nodes -/
noncomputable def D27 (a0 : List ((Int) × (Int))) : Option (Int) := d27 a0
noncomputable def lp27_1 (fuel : Nat)  (l1₀ : List ((Int) × (Int))) (i₀ : Int) : Option (Int) :=
  iter (fun F ((l1, i) : (List ((Int) × (Int))) × Int) =>
    bif decide (i < (List.length l1 : Int)) then (
      (idx l1 i).bind fun e =>
      (D32 e.1 1 9999).bind fun r =>
      bif (!r) then some 2
      else (idx l1 i).bind fun e1 =>
      (D32 e1.2 0 5000).bind fun r1 =>
      bif (!r1) then some 2
      else bif decide (i > 0) then (
        (idx l1 i).bind fun e2 =>
        (idx l1 (IntKind.i64.wrap (i - 1))).bind fun e3 =>
        bif decide (e2.1 ≤ e3.1) then some 7
        else F (l1, IntKind.i64.wrap (i + 1)))
      else F (l1, IntKind.i64.wrap (i + 1)))
    else some 0) fuel (l1₀, i₀)

theorem f27_1  (l1 : List ((Int) × (Int))) (hl : (l1).length ≤ maxLen) : lp27_1 big l1 0 =
  forI (fun k x (_ : Unit) K =>
    (D32 x.1 1 9999).bind fun r =>
    bif (!r) then some 2
    else (D32 x.2 0 5000).bind fun r1 =>
    bif (!r1) then some 2
    else bif decide ((k : Int) > 0) then (
      (idx l1 (IntKind.i64.wrap ((k : Int) - 1))).bind fun e3 =>
      bif decide (x.1 ≤ e3.1) then some 7
      else K ())
    else K ())
    (fun (_ : Unit) =>
    some 0) 0 l1 () := by
  refine iter_forI_from l1 (fun k (_ : Unit) => (l1, (k : Int))) _ _ ?_ ?_ (k := 0) (Nat.zero_le _) (len_lt_big hl) ()
  · rintro F k h _
    simp only [dec_lt h, condT, idx_get h, bindS, wrap_succ h hl]
  · rintro F _
    simp only [dec_end, condF]

theorem g27 (fuel : Nat) (l : List ((Int) × (Int))) : (fnD tab env27 4 ann27 fuel Try.f27 [] ps27 rs27 true l : Option (Int)) = (
  lp27_1 fuel l 0 : Option (Int)) := by kernel_rfl
theorem e27 (l : List ((Int) × (Int))) : D27 l = (
  lp27_1 big l 0 : Option (Int)) := g27 big l

/-! skiarea/skiarearef10.Node -/
noncomputable def D35 (a0 : (List ((Int) × (Int))) × ((List ((Int) × ((Int) × ((Int) × ((Int) × ((Int) × ((Int) × ((Int) × (Int))))))))) × ((List ((Int) × ((Int) × ((Int) × ((Int) × ((Int) × ((Int) × (Int)))))))) × (List (Int))))) (a1 : Int) : Option (((Int) × (Int)) × (Bool)) := d35 (a0, a1)
noncomputable def lp35_1 (fuel : Nat)  (id_1₀ : Int) (m1₀ : (List ((Int) × (Int))) × ((List ((Int) × ((Int) × ((Int) × ((Int) × ((Int) × ((Int) × ((Int) × (Int))))))))) × ((List ((Int) × ((Int) × ((Int) × ((Int) × ((Int) × ((Int) × (Int)))))))) × (List (Int))))) (v₀ : (Int) × (Int)) (i₀ : Int) : Option (((Int) × (Int)) × (Bool)) :=
  iter (fun F ((id_1, m1, v, i) : Int × ((List ((Int) × (Int))) × ((List ((Int) × ((Int) × ((Int) × ((Int) × ((Int) × ((Int) × ((Int) × (Int))))))))) × ((List ((Int) × ((Int) × ((Int) × ((Int) × ((Int) × ((Int) × (Int)))))))) × (List (Int))))) × ((Int) × (Int)) × Int) =>
    bif decide (i < (List.length m1.1 : Int)) then (
      (idx m1.1 i).bind fun e =>
      bif (e.1 == id_1) then (
        (idx m1.1 i).bind fun e1 =>
        some (e1, true))
      else F (id_1, m1, v, IntKind.i64.wrap (i + 1)))
    else some ((0, 0), false)) fuel (id_1₀, m1₀, v₀, i₀)

theorem f35_1  (id_1 : Int) (m1 : (List ((Int) × (Int))) × ((List ((Int) × ((Int) × ((Int) × ((Int) × ((Int) × ((Int) × ((Int) × (Int))))))))) × ((List ((Int) × ((Int) × ((Int) × ((Int) × ((Int) × ((Int) × (Int)))))))) × (List (Int))))) (v : (Int) × (Int)) (hl : (m1.1).length ≤ maxLen) : lp35_1 big id_1 m1 v 0 =
  forE (fun  x (_ : Unit) K =>
    bif (x.1 == id_1) then some (x, true)
    else K ())
    (fun (_ : Unit) =>
    some ((0, 0), false)) m1.1 () := by
  refine iter_forE m1.1 (fun k (_ : Unit) => (id_1, m1, v, (k : Int))) _ _ ?_ ?_ (len_lt_big hl) ()
  · rintro F k h _
    simp only [dec_lt h, condT, idx_get h, bindS, wrap_succ h hl]
  · rintro F _
    simp only [dec_end, condF]

theorem g35 (fuel : Nat) (m : (List ((Int) × (Int))) × ((List ((Int) × ((Int) × ((Int) × ((Int) × ((Int) × ((Int) × ((Int) × (Int))))))))) × ((List ((Int) × ((Int) × ((Int) × ((Int) × ((Int) × ((Int) × (Int)))))))) × (List (Int))))) (id_ : Int) : (fnD tab env35 7 ann35 fuel Try.f35 [] ps35 rs35 true (m, id_) : Option (((Int) × (Int)) × (Bool))) = (
  lp35_1 fuel id_ m (0, 0) 0 : Option (((Int) × (Int)) × (Bool))) := by kernel_rfl
theorem e35 (m : (List ((Int) × (Int))) × ((List ((Int) × ((Int) × ((Int) × ((Int) × ((Int) × ((Int) × ((Int) × (Int))))))))) × ((List ((Int) × ((Int) × ((Int) × ((Int) × ((Int) × ((Int) × (Int)))))))) × (List (Int))))) (id_ : Int) : D35 m id_ = (
  lp35_1 big id_ m (0, 0) 0 : Option (((Int) × (Int)) × (Bool))) := g35 big m id_

/-! skiarea/skiarearef10.rises -/
noncomputable def D33 (a0 : (List ((Int) × (Int))) × ((List ((Int) × ((Int) × ((Int) × ((Int) × ((Int) × ((Int) × ((Int) × (Int))))))))) × ((List ((Int) × ((Int) × ((Int) × ((Int) × ((Int) × ((Int) × (Int)))))))) × (List (Int))))) (a1 : Int) (a2 : Int) : Option (Int) := d33 (a0, a1, a2)
theorem e33 (m : (List ((Int) × (Int))) × ((List ((Int) × ((Int) × ((Int) × ((Int) × ((Int) × ((Int) × ((Int) × (Int))))))))) × ((List ((Int) × ((Int) × ((Int) × ((Int) × ((Int) × ((Int) × (Int)))))))) × (List (Int))))) (from_ : Int) (to : Int) : D33 m from_ to = (
  (D35 m from_).bind fun r =>
  (D35 m to).bind fun r1 =>
  bif (!r.2) then some 8
  else bif (!r1.2) then some 8
  else bif decide (r1.1.2 ≤ r.1.2) then some 11
  else some 0 : Option (Int)) := by kernel_rfl

/-! skiarea/skiarearef10.carriers -/
noncomputable def D34 (a0 : (Int) × ((Int) × ((Int) × ((Int) × ((Int) × ((Int) × ((Int) × (Int)))))))) : Option (Bool) := d34 a0
theorem e34 (x : (Int) × ((Int) × ((Int) × ((Int) × ((Int) × ((Int) × ((Int) × (Int)))))))) : D34 x = (
  bif (x.2.2.2.2.2.2.2 == 0) then none
  else bif (Int.tmod (IntKind.i64.wrap ((2 : Int) * x.2.2.2.2.1)) x.2.2.2.2.2.2.2 == 0) then (
    bif (x.2.2.2.2.2.2.2 == 0) then none
    else (D32 (IntKind.i64.wrap (Int.tdiv (IntKind.i64.wrap ((2 : Int) * x.2.2.2.2.1)) x.2.2.2.2.2.2.2)) 1 200).bind fun r =>
    some r)
  else some false : Option (Bool)) := by kernel_rfl

/-! skiarea/skiarearef10.lifts -/
noncomputable def D28 (a0 : (List ((Int) × (Int))) × ((List ((Int) × ((Int) × ((Int) × ((Int) × ((Int) × ((Int) × ((Int) × (Int))))))))) × ((List ((Int) × ((Int) × ((Int) × ((Int) × ((Int) × ((Int) × (Int)))))))) × (List (Int))))) : Option (Int) := d28 a0
noncomputable def lp28_1 (fuel : Nat)  (m1₀ : (List ((Int) × (Int))) × ((List ((Int) × ((Int) × ((Int) × ((Int) × ((Int) × ((Int) × ((Int) × (Int))))))))) × ((List ((Int) × ((Int) × ((Int) × ((Int) × ((Int) × ((Int) × (Int)))))))) × (List (Int))))) (i₀ : Int) : Option (Int) :=
  iter (fun F ((m1, i) : ((List ((Int) × (Int))) × ((List ((Int) × ((Int) × ((Int) × ((Int) × ((Int) × ((Int) × ((Int) × (Int))))))))) × ((List ((Int) × ((Int) × ((Int) × ((Int) × ((Int) × ((Int) × (Int)))))))) × (List (Int))))) × Int) =>
    bif decide (i < (List.length m1.2.1 : Int)) then (
      (idx m1.2.1 i).bind fun e =>
      (D32 e.1 1 9999).bind fun r =>
      bif (!r) then some 2
      else (D32 e.2.1 1 8).bind fun r1 =>
      bif (!r1) then some 2
      else (D32 e.2.2.2.2.1 10 6000).bind fun r2 =>
      bif (!r2) then some 2
      else (D32 e.2.2.2.2.2.1 500 12000).bind fun r3 =>
      bif (!r3) then some 2
      else (D32 e.2.2.2.2.2.2.1 1 16).bind fun r4 =>
      bif (!r4) then some 2
      else (D32 e.2.2.2.2.2.2.2 5 1000).bind fun r5 =>
      bif (!r5) then some 2
      else bif decide (i > 0) then (
        (idx m1.2.1 (IntKind.i64.wrap (i - 1))).bind fun e1 =>
        bif decide (e.1 ≤ e1.1) then some 7
        else (D33 m1 e.2.2.1 e.2.2.2.1).bind fun r6 =>
        bif (r6 != 0) then some r6
        else (D34 e).bind fun r7 =>
        bif (!r7) then some 1
        else F (m1, IntKind.i64.wrap (i + 1)))
      else (D33 m1 e.2.2.1 e.2.2.2.1).bind fun r6 =>
      bif (r6 != 0) then some r6
      else (D34 e).bind fun r7 =>
      bif (!r7) then some 1
      else F (m1, IntKind.i64.wrap (i + 1)))
    else some 0) fuel (m1₀, i₀)

theorem f28_1  (m1 : (List ((Int) × (Int))) × ((List ((Int) × ((Int) × ((Int) × ((Int) × ((Int) × ((Int) × ((Int) × (Int))))))))) × ((List ((Int) × ((Int) × ((Int) × ((Int) × ((Int) × ((Int) × (Int)))))))) × (List (Int))))) (hl : (m1.2.1).length ≤ maxLen) : lp28_1 big m1 0 =
  forI (fun k x (_ : Unit) K =>
    (D32 x.1 1 9999).bind fun r =>
    bif (!r) then some 2
    else (D32 x.2.1 1 8).bind fun r1 =>
    bif (!r1) then some 2
    else (D32 x.2.2.2.2.1 10 6000).bind fun r2 =>
    bif (!r2) then some 2
    else (D32 x.2.2.2.2.2.1 500 12000).bind fun r3 =>
    bif (!r3) then some 2
    else (D32 x.2.2.2.2.2.2.1 1 16).bind fun r4 =>
    bif (!r4) then some 2
    else (D32 x.2.2.2.2.2.2.2 5 1000).bind fun r5 =>
    bif (!r5) then some 2
    else bif decide ((k : Int) > 0) then (
      (idx m1.2.1 (IntKind.i64.wrap ((k : Int) - 1))).bind fun e1 =>
      bif decide (x.1 ≤ e1.1) then some 7
      else (D33 m1 x.2.2.1 x.2.2.2.1).bind fun r6 =>
      bif (r6 != 0) then some r6
      else (D34 x).bind fun r7 =>
      bif (!r7) then some 1
      else K ())
    else (D33 m1 x.2.2.1 x.2.2.2.1).bind fun r6 =>
    bif (r6 != 0) then some r6
    else (D34 x).bind fun r7 =>
    bif (!r7) then some 1
    else K ())
    (fun (_ : Unit) =>
    some 0) 0 m1.2.1 () := by
  refine iter_forI_from m1.2.1 (fun k (_ : Unit) => (m1, (k : Int))) _ _ ?_ ?_ (k := 0) (Nat.zero_le _) (len_lt_big hl) ()
  · rintro F k h _
    simp only [dec_lt h, condT, idx_get h, bindS, wrap_succ h hl]
  · rintro F _
    simp only [dec_end, condF]

theorem g28 (fuel : Nat) (m : (List ((Int) × (Int))) × ((List ((Int) × ((Int) × ((Int) × ((Int) × ((Int) × ((Int) × ((Int) × (Int))))))))) × ((List ((Int) × ((Int) × ((Int) × ((Int) × ((Int) × ((Int) × (Int)))))))) × (List (Int))))) : (fnD tab env28 6 ann28 fuel Try.f28 [] ps28 rs28 true m : Option (Int)) = (
  lp28_1 fuel m 0 : Option (Int)) := by kernel_rfl
theorem e28 (m : (List ((Int) × (Int))) × ((List ((Int) × ((Int) × ((Int) × ((Int) × ((Int) × ((Int) × ((Int) × (Int))))))))) × ((List ((Int) × ((Int) × ((Int) × ((Int) × ((Int) × ((Int) × (Int)))))))) × (List (Int))))) : D28 m = (
  lp28_1 big m 0 : Option (Int)) := g28 big m

/-! skiarea/skiarearef10.runs -/
noncomputable def D29 (a0 : (List ((Int) × (Int))) × ((List ((Int) × ((Int) × ((Int) × ((Int) × ((Int) × ((Int) × ((Int) × (Int))))))))) × ((List ((Int) × ((Int) × ((Int) × ((Int) × ((Int) × ((Int) × (Int)))))))) × (List (Int))))) : Option (Int) := d29 a0
noncomputable def lp29_1 (fuel : Nat)  (m1₀ : (List ((Int) × (Int))) × ((List ((Int) × ((Int) × ((Int) × ((Int) × ((Int) × ((Int) × ((Int) × (Int))))))))) × ((List ((Int) × ((Int) × ((Int) × ((Int) × ((Int) × ((Int) × (Int)))))))) × (List (Int))))) (i₀ : Int) : Option (Int) :=
  iter (fun F ((m1, i) : ((List ((Int) × (Int))) × ((List ((Int) × ((Int) × ((Int) × ((Int) × ((Int) × ((Int) × ((Int) × (Int))))))))) × ((List ((Int) × ((Int) × ((Int) × ((Int) × ((Int) × ((Int) × (Int)))))))) × (List (Int))))) × Int) =>
    bif decide (i < (List.length m1.2.2.1 : Int)) then (
      (idx m1.2.2.1 i).bind fun e =>
      (D32 e.1 1 9999).bind fun r =>
      bif (!r) then some 2
      else (D32 e.2.1 1 8).bind fun r1 =>
      bif (!r1) then some 2
      else (D32 e.2.2.2.2.1 1 4).bind fun r2 =>
      bif (!r2) then some 2
      else (D32 e.2.2.2.2.2.1 1 32).bind fun r3 =>
      bif (!r3) then some 2
      else (D32 e.2.2.2.2.2.2 10 20000).bind fun r4 =>
      bif (!r4) then some 2
      else bif decide (i > 0) then (
        (idx m1.2.2.1 (IntKind.i64.wrap (i - 1))).bind fun e1 =>
        bif decide (e.1 ≤ e1.1) then some 7
        else (D33 m1 e.2.2.2.1 e.2.2.1).bind fun r5 =>
        bif (r5 != 0) then some r5
        else F (m1, IntKind.i64.wrap (i + 1)))
      else (D33 m1 e.2.2.2.1 e.2.2.1).bind fun r5 =>
      bif (r5 != 0) then some r5
      else F (m1, IntKind.i64.wrap (i + 1)))
    else some 0) fuel (m1₀, i₀)

theorem f29_1  (m1 : (List ((Int) × (Int))) × ((List ((Int) × ((Int) × ((Int) × ((Int) × ((Int) × ((Int) × ((Int) × (Int))))))))) × ((List ((Int) × ((Int) × ((Int) × ((Int) × ((Int) × ((Int) × (Int)))))))) × (List (Int))))) (hl : (m1.2.2.1).length ≤ maxLen) : lp29_1 big m1 0 =
  forI (fun k x (_ : Unit) K =>
    (D32 x.1 1 9999).bind fun r =>
    bif (!r) then some 2
    else (D32 x.2.1 1 8).bind fun r1 =>
    bif (!r1) then some 2
    else (D32 x.2.2.2.2.1 1 4).bind fun r2 =>
    bif (!r2) then some 2
    else (D32 x.2.2.2.2.2.1 1 32).bind fun r3 =>
    bif (!r3) then some 2
    else (D32 x.2.2.2.2.2.2 10 20000).bind fun r4 =>
    bif (!r4) then some 2
    else bif decide ((k : Int) > 0) then (
      (idx m1.2.2.1 (IntKind.i64.wrap ((k : Int) - 1))).bind fun e1 =>
      bif decide (x.1 ≤ e1.1) then some 7
      else (D33 m1 x.2.2.2.1 x.2.2.1).bind fun r5 =>
      bif (r5 != 0) then some r5
      else K ())
    else (D33 m1 x.2.2.2.1 x.2.2.1).bind fun r5 =>
    bif (r5 != 0) then some r5
    else K ())
    (fun (_ : Unit) =>
    some 0) 0 m1.2.2.1 () := by
  refine iter_forI_from m1.2.2.1 (fun k (_ : Unit) => (m1, (k : Int))) _ _ ?_ ?_ (k := 0) (Nat.zero_le _) (len_lt_big hl) ()
  · rintro F k h _
    simp only [dec_lt h, condT, idx_get h, bindS, wrap_succ h hl]
  · rintro F _
    simp only [dec_end, condF]

theorem g29 (fuel : Nat) (m : (List ((Int) × (Int))) × ((List ((Int) × ((Int) × ((Int) × ((Int) × ((Int) × ((Int) × ((Int) × (Int))))))))) × ((List ((Int) × ((Int) × ((Int) × ((Int) × ((Int) × ((Int) × (Int)))))))) × (List (Int))))) : (fnD tab env29 6 ann29 fuel Try.f29 [] ps29 rs29 true m : Option (Int)) = (
  lp29_1 fuel m 0 : Option (Int)) := by kernel_rfl
theorem e29 (m : (List ((Int) × (Int))) × ((List ((Int) × ((Int) × ((Int) × ((Int) × ((Int) × ((Int) × ((Int) × (Int))))))))) × ((List ((Int) × ((Int) × ((Int) × ((Int) × ((Int) × ((Int) × (Int)))))))) × (List (Int))))) : D29 m = (
  lp29_1 big m 0 : Option (Int)) := g29 big m

/-! skiarea/skiarearef10.bases -/
noncomputable def D30 (a0 : (List ((Int) × (Int))) × ((List ((Int) × ((Int) × ((Int) × ((Int) × ((Int) × ((Int) × ((Int) × (Int))))))))) × ((List ((Int) × ((Int) × ((Int) × ((Int) × ((Int) × ((Int) × (Int)))))))) × (List (Int))))) : Option (Int) := d30 a0
noncomputable def lp30_1 (fuel : Nat)  (m2₀ : (List ((Int) × (Int))) × ((List ((Int) × ((Int) × ((Int) × ((Int) × ((Int) × ((Int) × ((Int) × (Int))))))))) × ((List ((Int) × ((Int) × ((Int) × ((Int) × ((Int) × ((Int) × (Int)))))))) × (List (Int))))) (i1₀ : Int) : Option (Int) :=
  iter (fun F1 ((m2, i1) : ((List ((Int) × (Int))) × ((List ((Int) × ((Int) × ((Int) × ((Int) × ((Int) × ((Int) × ((Int) × (Int))))))))) × ((List ((Int) × ((Int) × ((Int) × ((Int) × ((Int) × ((Int) × (Int)))))))) × (List (Int))))) × Int) =>
    bif decide (i1 < (List.length m2.2.2.2 : Int)) then (
      (idx m2.2.2.2 i1).bind fun e =>
      (idx m2.2.2.2 (IntKind.i64.wrap (i1 - 1))).bind fun e1 =>
      bif decide (e ≤ e1) then some 7
      else F1 (m2, IntKind.i64.wrap (i1 + 1)))
    else some 0) fuel (m2₀, i1₀)

theorem f30_1  (m2 : (List ((Int) × (Int))) × ((List ((Int) × ((Int) × ((Int) × ((Int) × ((Int) × ((Int) × ((Int) × (Int))))))))) × ((List ((Int) × ((Int) × ((Int) × ((Int) × ((Int) × ((Int) × (Int)))))))) × (List (Int))))) (hl : (m2.2.2.2).length ≤ maxLen) (h0 : 1 ≤ (m2.2.2.2).length) : lp30_1 big m2 1 =
  forI (fun k x (_ : Unit) K =>
    (idx m2.2.2.2 (IntKind.i64.wrap ((k : Int) - 1))).bind fun e1 =>
    bif decide (x ≤ e1) then some 7
    else K ())
    (fun (_ : Unit) =>
    some 0) 1 (List.drop 1 m2.2.2.2) () := by
  refine iter_forI_from m2.2.2.2 (fun k (_ : Unit) => (m2, (k : Int))) _ _ ?_ ?_ (k := 1) h0 (len_lt_big hl) ()
  · rintro F k h _
    simp only [dec_lt h, condT, idx_get h, bindS, wrap_succ h hl]
  · rintro F _
    simp only [dec_end, condF]

noncomputable def lp30_3 (fuel : Nat)  (m1₀ : (List ((Int) × (Int))) × ((List ((Int) × ((Int) × ((Int) × ((Int) × ((Int) × ((Int) × ((Int) × (Int))))))))) × ((List ((Int) × ((Int) × ((Int) × ((Int) × ((Int) × ((Int) × (Int)))))))) × (List (Int))))) (i₀ : Int) : Option (Int) :=
  iter (fun F ((m1, i) : ((List ((Int) × (Int))) × ((List ((Int) × ((Int) × ((Int) × ((Int) × ((Int) × ((Int) × ((Int) × (Int))))))))) × ((List ((Int) × ((Int) × ((Int) × ((Int) × ((Int) × ((Int) × (Int)))))))) × (List (Int))))) × Int) =>
    bif decide (i < (List.length m1.2.2.2 : Int)) then (
      (idx m1.2.2.2 i).bind fun e =>
      (D35 m1 e).bind fun r =>
      bif (!r.2) then some 8
      else F (m1, IntKind.i64.wrap (i + 1)))
    else lp30_1 fuel m1 1) fuel (m1₀, i₀)

theorem f30_3  (m1 : (List ((Int) × (Int))) × ((List ((Int) × ((Int) × ((Int) × ((Int) × ((Int) × ((Int) × ((Int) × (Int))))))))) × ((List ((Int) × ((Int) × ((Int) × ((Int) × ((Int) × ((Int) × (Int)))))))) × (List (Int))))) (hl : (m1.2.2.2).length ≤ maxLen) : lp30_3 big m1 0 =
  forE (fun  x (_ : Unit) K =>
    (D35 m1 x).bind fun r =>
    bif (!r.2) then some 8
    else K ())
    (fun (_ : Unit) =>
    lp30_1 big m1 1) m1.2.2.2 () := by
  refine iter_forE m1.2.2.2 (fun k (_ : Unit) => (m1, (k : Int))) _ _ ?_ ?_ (len_lt_big hl) ()
  · rintro F k h _
    simp only [dec_lt h, condT, idx_get h, bindS, wrap_succ h hl]
  · rintro F _
    simp only [dec_end, condF]

theorem g30 (fuel : Nat) (m : (List ((Int) × (Int))) × ((List ((Int) × ((Int) × ((Int) × ((Int) × ((Int) × ((Int) × ((Int) × (Int))))))))) × ((List ((Int) × ((Int) × ((Int) × ((Int) × ((Int) × ((Int) × (Int)))))))) × (List (Int))))) : (fnD tab env30 7 ann30 fuel Try.f30 [] ps30 rs30 true m : Option (Int)) = (
  bif ((List.length m.2.2.2 : Int) == 0) then some 8
  else lp30_3 fuel m 0 : Option (Int)) := by kernel_rfl
theorem e30 (m : (List ((Int) × (Int))) × ((List ((Int) × ((Int) × ((Int) × ((Int) × ((Int) × ((Int) × ((Int) × (Int))))))))) × ((List ((Int) × ((Int) × ((Int) × ((Int) × ((Int) × ((Int) × (Int)))))))) × (List (Int))))) : D30 m = (
  bif ((List.length m.2.2.2 : Int) == 0) then some 8
  else lp30_3 big m 0 : Option (Int)) := g30 big m

/-! skiarea/skiarearef10.Right -/
noncomputable def D15 (a0 : (List ((Int) × (Int))) × ((List ((Int) × ((Int) × ((Int) × ((Int) × ((Int) × ((Int) × ((Int) × (Int))))))))) × ((List ((Int) × ((Int) × ((Int) × ((Int) × ((Int) × ((Int) × (Int)))))))) × (List (Int))))) : Option (Int) := d15 a0
theorem e15 (m : (List ((Int) × (Int))) × ((List ((Int) × ((Int) × ((Int) × ((Int) × ((Int) × ((Int) × ((Int) × (Int))))))))) × ((List ((Int) × ((Int) × ((Int) × ((Int) × ((Int) × ((Int) × (Int)))))))) × (List (Int))))) : D15 m = (
  bif decide ((List.length m.1 : Int) > 64) then some 4
  else bif decide ((List.length m.2.1 : Int) > 32) then some 4
  else bif decide ((List.length m.2.2.1 : Int) > 64) then some 4
  else bif decide ((List.length m.2.2.2 : Int) > 64) then some 4
  else (D27 m.1).bind fun r =>
  bif (r != 0) then some r
  else (D28 m).bind fun r1 =>
  bif (r1 != 0) then some r1
  else (D29 m).bind fun r2 =>
  bif (r2 != 0) then some r2
  else (D30 m).bind fun r3 =>
  some r3 : Option (Int)) := by kernel_rfl

/-! skiarea/skiarearef10.Has -/
noncomputable def D20 (a0 : List (Int)) (a1 : Int) : Option (Bool) := d20 (a0, a1)
noncomputable def lp20_1 (fuel : Nat)  (l1₀ : List (Int)) (n1₀ : Int) (i₀ : Int) : Option (Bool) :=
  iter (fun F ((l1, n1, i) : (List (Int)) × Int × Int) =>
    bif decide (i < (List.length l1 : Int)) then (
      (idx l1 i).bind fun e =>
      bif (e == n1) then some true
      else F (l1, n1, IntKind.i64.wrap (i + 1)))
    else some false) fuel (l1₀, n1₀, i₀)

theorem f20_1  (l1 : List (Int)) (n1 : Int) (hl : (l1).length ≤ maxLen) : lp20_1 big l1 n1 0 =
  forE (fun  x (_ : Unit) K =>
    bif (x == n1) then some true
    else K ())
    (fun (_ : Unit) =>
    some false) l1 () := by
  refine iter_forE l1 (fun k (_ : Unit) => (l1, n1, (k : Int))) _ _ ?_ ?_ (len_lt_big hl) ()
  · rintro F k h _
    simp only [dec_lt h, condT, idx_get h, bindS, wrap_succ h hl]
  · rintro F _
    simp only [dec_end, condF]

theorem g20 (fuel : Nat) (l : List (Int)) (n : Int) : (fnD tab env20 6 ann20 fuel Try.f20 [] ps20 rs20 true (l, n) : Option (Bool)) = (
  lp20_1 fuel l n 0 : Option (Bool)) := by kernel_rfl
theorem e20 (l : List (Int)) (n : Int) : D20 l n = (
  lp20_1 big l n 0 : Option (Bool)) := g20 big l n

/-! skiarea/skiarearef36.Closed -/
noncomputable def D17 (a0 : (List ((Int) × (Int))) × ((List ((Int) × ((Int) × ((Int) × ((Int) × ((Int) × ((Int) × ((Int) × (Int))))))))) × ((List ((Int) × ((Int) × ((Int) × ((Int) × ((Int) × ((Int) × (Int)))))))) × (List (Int))))) (a1 : List (Int)) (a2 : List (Int)) : Option (Int) := d17 (a0, a1, a2)
noncomputable def lp17_1 (fuel : Nat)  (operators1₀ : List (Int)) (closed1₀ : List (Int)) (m1₀ : (List ((Int) × (Int))) × ((List ((Int) × ((Int) × ((Int) × ((Int) × ((Int) × ((Int) × ((Int) × (Int))))))))) × ((List ((Int) × ((Int) × ((Int) × ((Int) × ((Int) × ((Int) × (Int)))))))) × (List (Int))))) (all_₀ : Int) (n₀ : Int) (i₀ : Int) : Option (Int) :=
  iter (fun F ((operators1, closed1, m1, all_, n, i) : (List (Int)) × (List (Int)) × ((List ((Int) × (Int))) × ((List ((Int) × ((Int) × ((Int) × ((Int) × ((Int) × ((Int) × ((Int) × (Int))))))))) × ((List ((Int) × ((Int) × ((Int) × ((Int) × ((Int) × ((Int) × (Int)))))))) × (List (Int))))) × Int × Int × Int) =>
    bif decide (i < (List.length m1.2.1 : Int)) then (
      (idx m1.2.1 i).bind fun e =>
      (D20 operators1 e.2.1).bind fun r =>
      bif r then (
        (idx m1.2.1 i).bind fun e1 =>
        (D20 closed1 e1.1).bind fun r1 =>
        bif r1 then F (operators1, closed1, m1, IntKind.i64.wrap (all_ + 1), IntKind.i64.wrap (n + 1), IntKind.i64.wrap (i + 1))
        else F (operators1, closed1, m1, IntKind.i64.wrap (all_ + 1), n, IntKind.i64.wrap (i + 1)))
      else F (operators1, closed1, m1, all_, n, IntKind.i64.wrap (i + 1)))
    else bif (all_ == 0) then some 0
    else bif (all_ == 0) then none
    else some (IntKind.i64.wrap (Int.tdiv (IntKind.i64.wrap ((1000 : Int) * n)) all_))) fuel (operators1₀, closed1₀, m1₀, all_₀, n₀, i₀)

theorem f17_1  (operators1 : List (Int)) (closed1 : List (Int)) (m1 : (List ((Int) × (Int))) × ((List ((Int) × ((Int) × ((Int) × ((Int) × ((Int) × ((Int) × ((Int) × (Int))))))))) × ((List ((Int) × ((Int) × ((Int) × ((Int) × ((Int) × ((Int) × (Int)))))))) × (List (Int))))) (all_ : Int) (n : Int) (hl : (m1.2.1).length ≤ maxLen) : lp17_1 big operators1 closed1 m1 all_ n 0 =
  forE (fun  x ((all_, n) : Int × Int) K =>
    (D20 operators1 x.2.1).bind fun r =>
    bif r then (
      (D20 closed1 x.1).bind fun r1 =>
      bif r1 then K (IntKind.i64.wrap (all_ + 1), IntKind.i64.wrap (n + 1))
      else K (IntKind.i64.wrap (all_ + 1), n))
    else K (all_, n))
    (fun ((all_, n) : Int × Int) =>
    bif (all_ == 0) then some 0
    else bif (all_ == 0) then none
    else some (IntKind.i64.wrap (Int.tdiv (IntKind.i64.wrap ((1000 : Int) * n)) all_))) m1.2.1 (all_, n) := by
  refine iter_forE m1.2.1 (fun k ((all_, n) : Int × Int) => (operators1, closed1, m1, all_, n, (k : Int))) _ _ ?_ ?_ (len_lt_big hl) (all_, n)
  · rintro F k h ⟨all_, n⟩
    simp only [dec_lt h, condT, idx_get h, bindS, wrap_succ h hl]
  · rintro F ⟨all_, n⟩
    simp only [dec_end, condF]

theorem g17 (fuel : Nat) (m : (List ((Int) × (Int))) × ((List ((Int) × ((Int) × ((Int) × ((Int) × ((Int) × ((Int) × ((Int) × (Int))))))))) × ((List ((Int) × ((Int) × ((Int) × ((Int) × ((Int) × ((Int) × (Int)))))))) × (List (Int))))) (operators : List (Int)) (closed : List (Int)) : (fnD tab env17 10 ann17 fuel Try.f17 [] ps17 rs17 true (m, operators, closed) : Option (Int)) = (
  lp17_1 fuel operators closed m 0 0 0 : Option (Int)) := by kernel_rfl
theorem e17 (m : (List ((Int) × (Int))) × ((List ((Int) × ((Int) × ((Int) × ((Int) × ((Int) × ((Int) × ((Int) × (Int))))))))) × ((List ((Int) × ((Int) × ((Int) × ((Int) × ((Int) × ((Int) × (Int)))))))) × (List (Int))))) (operators : List (Int)) (closed : List (Int)) : D17 m operators closed = (
  lp17_1 big operators closed m 0 0 0 : Option (Int)) := g17 big m operators closed

/-! skiarea/skiarealaw36.RefundCloseds -/
noncomputable def D5 (a0 : (List ((Int) × (Int))) × ((List ((Int) × ((Int) × ((Int) × ((Int) × ((Int) × ((Int) × ((Int) × (Int))))))))) × ((List ((Int) × ((Int) × ((Int) × ((Int) × ((Int) × ((Int) × (Int)))))))) × (List (Int))))) (a1 : List (Int)) (a2 : List (Int)) : Option (Bool) := d5 (a0, a1, a2)
theorem e5 (m : (List ((Int) × (Int))) × ((List ((Int) × ((Int) × ((Int) × ((Int) × ((Int) × ((Int) × ((Int) × (Int))))))))) × ((List ((Int) × ((Int) × ((Int) × ((Int) × ((Int) × ((Int) × (Int)))))))) × (List (Int))))) (operators : List (Int)) (closed : List (Int)) : D5 m operators closed = (
  (D10).bind fun r =>
  bif (!r) then some false
  else bif decide ((List.length operators : Int) > 100) then some true
  else bif decide ((List.length closed : Int) > 100) then some true
  else (D15 m).bind fun r1 =>
  bif (r1 != 0) then some true
  else (D16 m operators closed).bind fun r2 =>
  (D17 m operators closed).bind fun r3 =>
  some (r2 == r3) : Option (Bool)) := by kernel_rfl

/-! skiarea/skiarearef36.Reduce -/
noncomputable def D19 (a0 : (Int) × ((Int) × ((Int) × ((Int) × ((Int) × (Int)))))) (a1 : Int) : Option (((Int) × ((Int) × ((Int) × ((Int) × ((Int) × (Int)))))) × (Int)) := d19 (a0, a1)
theorem e19 (s : (Int) × ((Int) × ((Int) × ((Int) × ((Int) × (Int)))))) (amount : Int) : D19 s amount = (
  bif decide (amount < 0) then some ((0, 0, 0, 0, 0, 0), 2)
  else bif decide (amount > s.2.2.2.2.1) then some ((0, 0, 0, 0, 0, 0), 2)
  else some ((s.1, s.2.1, s.2.2.1, s.2.2.2.1, IntKind.i64.wrap (s.2.2.2.2.1 - amount), (bif decide ((IntKind.i64.wrap (s.2.2.2.2.1 - amount) : Int) < s.2.2.2.2.2) then IntKind.i64.wrap (s.2.2.2.2.1 - amount) else s.2.2.2.2.2)), 0) : Option (((Int) × ((Int) × ((Int) × ((Int) × ((Int) × (Int)))))) × (Int))) := by kernel_rfl

/-! skiarea/skiarealaw36.RefundReduces -/
noncomputable def D6 (a0 : (Int) × ((Int) × ((Int) × ((Int) × ((Int) × (Int)))))) (a1 : Int) : Option (Bool) := d6 (a0, a1)
theorem e6 (s : (Int) × ((Int) × ((Int) × ((Int) × ((Int) × (Int)))))) (amount : Int) : D6 s amount = (
  (D10).bind fun r =>
  bif (!r) then some false
  else (D18 s amount).bind fun r1 =>
  (D19 s amount).bind fun r2 =>
  bif ((r1.1.1 == r2.1.1) && ((r1.1.2.1 == r2.1.2.1) && ((r1.1.2.2.1 == r2.1.2.2.1) && ((r1.1.2.2.2.1 == r2.1.2.2.2.1) && ((r1.1.2.2.2.2.1 == r2.1.2.2.2.2.1) && (r1.1.2.2.2.2.2 == r2.1.2.2.2.2.2)))))) then some (r1.2 == r2.2)
  else some false : Option (Bool)) := by kernel_rfl

/-! skiarea/skiarealaw36.RefundBounds -/
noncomputable def D7 (a0 : (Int) × (Int)) (a1 : Int) (a2 : (List (Int)) × (List (Int))) : Option (Bool) := d7 (a0, a1, a2)
noncomputable def lp7_1 (fuel : Nat)  (paid1₀ : Int) (r3₀ : (Int) × (Int)) (days1₀ : (List (Int)) × (List (Int))) (closed₀ : List (Int)) (n₀ : Int) (more₀ : List (Int)) (i₀ : Int) : Option (Bool) :=
  iter (fun F ((paid1, r3, days1, closed, n, more, i) : Int × ((Int) × (Int)) × ((List (Int)) × (List (Int))) × (List (Int)) × Int × (List (Int)) × Int) =>
    bif decide (i < (List.length closed : Int)) then (
      (idx closed i).bind fun e =>
      bif decide (i < (List.length days1.2 : Int)) then (
        (idx days1.2 i).bind fun e1 =>
        bif (Nat.ble ((List.length more + List.length [(bif decide (((bif decide ((1000 : Int) < e1) then 1000 else e1) : Int) > e) then (bif decide ((1000 : Int) < e1) then 1000 else e1) else e)]) * 8) appendLimit && Nat.ble (List.length more + List.length [(bif decide (((bif decide ((1000 : Int) < e1) then 1000 else e1) : Int) > e) then (bif decide ((1000 : Int) < e1) then 1000 else e1) else e)]) 9223372036854775807) then F (paid1, r3, days1, closed, n, more ++ [(bif decide (((bif decide ((1000 : Int) < e1) then 1000 else e1) : Int) > e) then (bif decide ((1000 : Int) < e1) then 1000 else e1) else e)], IntKind.i64.wrap (i + 1))
        else none)
      else bif (Nat.ble ((List.length more + List.length [e]) * 8) appendLimit && Nat.ble (List.length more + List.length [e]) 9223372036854775807) then F (paid1, r3, days1, closed, n, more ++ [e], IntKind.i64.wrap (i + 1))
      else none)
    else (D11 r3 paid1 more).bind fun r4 =>
    (D11 (IntKind.i64.wrap (Int.tdiv r3.1 2), r3.2) paid1 closed).bind fun r5 =>
    (D11 (r3.1, (bif decide ((IntKind.i64.wrap (r3.2 + 1) : Int) < 1000) then IntKind.i64.wrap (r3.2 + 1) else 1000)) paid1 closed).bind fun r6 =>
    bif (r4.2 == 0) then (
      bif (r5.2 == 0) then (
        bif (r6.2 == 0) then (
          bif decide (n ≥ 0) then (
            bif decide (n ≤ paid1) then (
              bif decide (r4.1 ≥ n) then (
                bif decide (r4.1 ≤ paid1) then (
                  bif decide (r5.1 ≥ n) then some (decide (r6.1 ≥ n))
                  else some false)
                else some false)
              else some false)
            else some false)
          else some false)
        else some false)
      else some false)
    else some false) fuel (paid1₀, r3₀, days1₀, closed₀, n₀, more₀, i₀)

theorem f7_1  (paid1 : Int) (r3 : (Int) × (Int)) (days1 : (List (Int)) × (List (Int))) (closed : List (Int)) (n : Int) (more : List (Int)) (hl : (closed).length ≤ maxLen) : lp7_1 big paid1 r3 days1 closed n more 0 =
  forI (fun k x (more : (List (Int))) K =>
    bif decide ((k : Int) < (List.length days1.2 : Int)) then (
      (idx days1.2 (k : Int)).bind fun e1 =>
      bif (Nat.ble ((List.length more + List.length [(bif decide (((bif decide ((1000 : Int) < e1) then 1000 else e1) : Int) > x) then (bif decide ((1000 : Int) < e1) then 1000 else e1) else x)]) * 8) appendLimit && Nat.ble (List.length more + List.length [(bif decide (((bif decide ((1000 : Int) < e1) then 1000 else e1) : Int) > x) then (bif decide ((1000 : Int) < e1) then 1000 else e1) else x)]) 9223372036854775807) then K (more ++ [(bif decide (((bif decide ((1000 : Int) < e1) then 1000 else e1) : Int) > x) then (bif decide ((1000 : Int) < e1) then 1000 else e1) else x)])
      else none)
    else bif (Nat.ble ((List.length more + List.length [x]) * 8) appendLimit && Nat.ble (List.length more + List.length [x]) 9223372036854775807) then K (more ++ [x])
    else none)
    (fun (more : (List (Int))) =>
    (D11 r3 paid1 more).bind fun r4 =>
    (D11 (IntKind.i64.wrap (Int.tdiv r3.1 2), r3.2) paid1 closed).bind fun r5 =>
    (D11 (r3.1, (bif decide ((IntKind.i64.wrap (r3.2 + 1) : Int) < 1000) then IntKind.i64.wrap (r3.2 + 1) else 1000)) paid1 closed).bind fun r6 =>
    bif (r4.2 == 0) then (
      bif (r5.2 == 0) then (
        bif (r6.2 == 0) then (
          bif decide (n ≥ 0) then (
            bif decide (n ≤ paid1) then (
              bif decide (r4.1 ≥ n) then (
                bif decide (r4.1 ≤ paid1) then (
                  bif decide (r5.1 ≥ n) then some (decide (r6.1 ≥ n))
                  else some false)
                else some false)
              else some false)
            else some false)
          else some false)
        else some false)
      else some false)
    else some false) 0 closed more := by
  refine iter_forI_from closed (fun k (more : (List (Int))) => (paid1, r3, days1, closed, n, more, (k : Int))) _ _ ?_ ?_ (k := 0) (Nat.zero_le _) (len_lt_big hl) more
  · rintro F k h more
    simp only [dec_lt h, condT, idx_get h, bindS, wrap_succ h hl]
  · rintro F more
    simp only [dec_end, condF]

theorem g7 (fuel : Nat) (r : (Int) × (Int)) (paid : Int) (days : (List (Int)) × (List (Int))) : (fnD tab env7 19 ann7 fuel Try.f7 [] ps7 rs7 true (r, paid, days) : Option (Bool)) = (
  (D10).bind fun r1 =>
  bif (!r1) then some false
  else bif decide ((List.length days.1 : Int) > 100) then some true
  else (D11 r paid days.1).bind fun r2 =>
  bif (r2.2 != 0) then some (r2.1 == 0)
  else lp7_1 fuel paid r days days.1 r2.1 ([] : List (Int)) 0 : Option (Bool)) := by kernel_rfl
theorem e7 (r : (Int) × (Int)) (paid : Int) (days : (List (Int)) × (List (Int))) : D7 r paid days = (
  (D10).bind fun r1 =>
  bif (!r1) then some false
  else bif decide ((List.length days.1 : Int) > 100) then some true
  else (D11 r paid days.1).bind fun r2 =>
  bif (r2.2 != 0) then some (r2.1 == 0)
  else lp7_1 big paid r days days.1 r2.1 ([] : List (Int)) 0 : Option (Bool)) := g7 big r paid days

/-! skiarea/skiarealaw36.RefundWhole -/
noncomputable def D8 (a0 : Int) (a1 : List (Int)) (a2 : (Int) × (Int)) : Option (Bool) := d8 (a0, a1, a2)
theorem e8 (paid : Int) (closed : List (Int)) (units : (Int) × (Int)) : D8 paid closed units = (
  (D10).bind fun r =>
  bif (!r) then some false
  else bif decide ((List.length closed : Int) > 100) then some true
  else (D11 (0, 1000) paid closed).bind fun r1 =>
  (D11 (0, 0) paid closed).bind fun r2 =>
  bif (r1.2 != r2.2) then some false
  else bif (r1.2 == 0) then (
    bif (r1.1 != paid) then some false
    else bif (r2.1 != 0) then some false
    else (D13 paid units.1 units.2).bind fun r3 =>
    bif (r3.2 != 0) then some (r3.1 == 0)
    else (D13 paid units.1 (IntKind.i64.wrap (units.1 - units.2))).bind fun r4 =>
    bif (r4.2 == 0) then (
      bif decide (r3.1 ≥ 0) then (
        bif decide (r4.1 ≥ 0) then (
          bif decide (IntKind.i64.wrap (r3.1 + r4.1) ≤ paid) then some (decide (IntKind.i64.wrap (r3.1 + r4.1) ≥ IntKind.i64.wrap (paid - 1)))
          else some false)
        else some false)
      else some false)
    else some false)
  else (D13 paid units.1 units.2).bind fun r3 =>
  bif (r3.2 != 0) then some (r3.1 == 0)
  else (D13 paid units.1 (IntKind.i64.wrap (units.1 - units.2))).bind fun r4 =>
  bif (r4.2 == 0) then (
    bif decide (r3.1 ≥ 0) then (
      bif decide (r4.1 ≥ 0) then (
        bif decide (IntKind.i64.wrap (r3.1 + r4.1) ≤ paid) then some (decide (IntKind.i64.wrap (r3.1 + r4.1) ≥ IntKind.i64.wrap (paid - 1)))
        else some false)
      else some false)
    else some false)
  else some false : Option (Bool)) := by kernel_rfl

/-! skiarea/skiarealaw36.RefundAll -/
noncomputable def D9 (a0 : (List ((Int) × (Int))) × ((List ((Int) × ((Int) × ((Int) × ((Int) × ((Int) × ((Int) × ((Int) × (Int))))))))) × ((List ((Int) × ((Int) × ((Int) × ((Int) × ((Int) × ((Int) × (Int)))))))) × (List (Int))))) (a1 : List (Int)) (a2 : List (Int)) : Option (Bool) := d9 (a0, a1, a2)
noncomputable def lp9_1 (fuel : Nat)  (operators1₀ : List (Int)) (m1₀ : (List ((Int) × (Int))) × ((List ((Int) × ((Int) × ((Int) × ((Int) × ((Int) × ((Int) × ((Int) × (Int))))))))) × ((List ((Int) × ((Int) × ((Int) × ((Int) × ((Int) × ((Int) × (Int)))))))) × (List (Int))))) (n₀ : Int) (some_₀ : Bool) (all_₀ : List (Int)) (more₀ : List (Int)) (i₀ : Int) : Option (Bool) :=
  iter (fun F ((operators1, m1, n, some_, all_, more, i) : (List (Int)) × ((List ((Int) × (Int))) × ((List ((Int) × ((Int) × ((Int) × ((Int) × ((Int) × ((Int) × ((Int) × (Int))))))))) × ((List ((Int) × ((Int) × ((Int) × ((Int) × ((Int) × ((Int) × (Int)))))))) × (List (Int))))) × Int × Bool × (List (Int)) × (List (Int)) × Int) =>
    bif decide (i < (List.length m1.2.1 : Int)) then (
      (idx m1.2.1 i).bind fun e =>
      bif (Nat.ble ((List.length all_ + List.length [e.1]) * 8) appendLimit && Nat.ble (List.length all_ + List.length [e.1]) 9223372036854775807) then (
        bif some_ then (
          (idx m1.2.1 i).bind fun e1 =>
          bif (Nat.ble ((List.length more + List.length [e1.1]) * 8) appendLimit && Nat.ble (List.length more + List.length [e1.1]) 9223372036854775807) then (
            (D16 m1 operators1 (more ++ [e1.1])).bind fun r3 =>
            bif decide (r3 < n) then some false
            else bif decide (r3 > 1000) then some false
            else F (operators1, m1, n, true, all_ ++ [e.1], more ++ [e1.1], IntKind.i64.wrap (i + 1)))
          else none)
        else (idx m1.2.1 i).bind fun e1 =>
        (D20 operators1 e1.2.1).bind fun r3 =>
        (idx m1.2.1 i).bind fun e2 =>
        bif (Nat.ble ((List.length more + List.length [e2.1]) * 8) appendLimit && Nat.ble (List.length more + List.length [e2.1]) 9223372036854775807) then (
          (D16 m1 operators1 (more ++ [e2.1])).bind fun r4 =>
          bif decide (r4 < n) then some false
          else bif decide (r4 > 1000) then some false
          else F (operators1, m1, n, r3, all_ ++ [e.1], more ++ [e2.1], IntKind.i64.wrap (i + 1)))
        else none)
      else none)
    else (D16 m1 operators1 all_).bind fun r3 =>
    bif decide (n ≥ 0) then (
      bif decide (n ≤ 1000) then (
        bif some_ then (
          bif (r3 == 1000) then (
            (D16 m1 operators1 ([] : List (Int))).bind fun r4 =>
            some (r4 == 0))
          else bif (!some_) then (
            bif (r3 == 0) then (
              (D16 m1 operators1 ([] : List (Int))).bind fun r4 =>
              some (r4 == 0))
            else some false)
          else some false)
        else bif (!some_) then (
          bif (r3 == 0) then (
            (D16 m1 operators1 ([] : List (Int))).bind fun r4 =>
            some (r4 == 0))
          else some false)
        else some false)
      else some false)
    else some false) fuel (operators1₀, m1₀, n₀, some_₀, all_₀, more₀, i₀)

theorem f9_1  (operators1 : List (Int)) (m1 : (List ((Int) × (Int))) × ((List ((Int) × ((Int) × ((Int) × ((Int) × ((Int) × ((Int) × ((Int) × (Int))))))))) × ((List ((Int) × ((Int) × ((Int) × ((Int) × ((Int) × ((Int) × (Int)))))))) × (List (Int))))) (n : Int) (some_ : Bool) (all_ : List (Int)) (more : List (Int)) (hl : (m1.2.1).length ≤ maxLen) : lp9_1 big operators1 m1 n some_ all_ more 0 =
  forE (fun  x ((some_, all_, more) : Bool × (List (Int)) × (List (Int))) K =>
    bif (Nat.ble ((List.length all_ + List.length [x.1]) * 8) appendLimit && Nat.ble (List.length all_ + List.length [x.1]) 9223372036854775807) then (
      bif some_ then (
        bif (Nat.ble ((List.length more + List.length [x.1]) * 8) appendLimit && Nat.ble (List.length more + List.length [x.1]) 9223372036854775807) then (
          (D16 m1 operators1 (more ++ [x.1])).bind fun r3 =>
          bif decide (r3 < n) then some false
          else bif decide (r3 > 1000) then some false
          else K (true, all_ ++ [x.1], more ++ [x.1]))
        else none)
      else (D20 operators1 x.2.1).bind fun r3 =>
      bif (Nat.ble ((List.length more + List.length [x.1]) * 8) appendLimit && Nat.ble (List.length more + List.length [x.1]) 9223372036854775807) then (
        (D16 m1 operators1 (more ++ [x.1])).bind fun r4 =>
        bif decide (r4 < n) then some false
        else bif decide (r4 > 1000) then some false
        else K (r3, all_ ++ [x.1], more ++ [x.1]))
      else none)
    else none)
    (fun ((some_, all_, _) : Bool × (List (Int)) × (List (Int))) =>
    (D16 m1 operators1 all_).bind fun r3 =>
    bif decide (n ≥ 0) then (
      bif decide (n ≤ 1000) then (
        bif some_ then (
          bif (r3 == 1000) then (
            (D16 m1 operators1 ([] : List (Int))).bind fun r4 =>
            some (r4 == 0))
          else bif (!some_) then (
            bif (r3 == 0) then (
              (D16 m1 operators1 ([] : List (Int))).bind fun r4 =>
              some (r4 == 0))
            else some false)
          else some false)
        else bif (!some_) then (
          bif (r3 == 0) then (
            (D16 m1 operators1 ([] : List (Int))).bind fun r4 =>
            some (r4 == 0))
          else some false)
        else some false)
      else some false)
    else some false) m1.2.1 (some_, all_, more) := by
  refine iter_forE m1.2.1 (fun k ((some_, all_, more) : Bool × (List (Int)) × (List (Int))) => (operators1, m1, n, some_, all_, more, (k : Int))) _ _ ?_ ?_ (len_lt_big hl) (some_, all_, more)
  · rintro F k h ⟨some_, all_, more⟩
    simp only [dec_lt h, condT, idx_get h, bindS, wrap_succ h hl]
  · rintro F ⟨some_, all_, more⟩
    simp only [dec_end, condF]

theorem g9 (fuel : Nat) (m : (List ((Int) × (Int))) × ((List ((Int) × ((Int) × ((Int) × ((Int) × ((Int) × ((Int) × ((Int) × (Int))))))))) × ((List ((Int) × ((Int) × ((Int) × ((Int) × ((Int) × ((Int) × (Int)))))))) × (List (Int))))) (operators : List (Int)) (closed : List (Int)) : (fnD tab env9 14 ann9 fuel Try.f9 [] ps9 rs9 true (m, operators, closed) : Option (Bool)) = (
  (D10).bind fun r =>
  bif (!r) then some false
  else bif decide ((List.length operators : Int) > 100) then some true
  else bif decide ((List.length closed : Int) > 100) then some true
  else (D15 m).bind fun r1 =>
  bif (r1 != 0) then some true
  else (D16 m operators closed).bind fun r2 =>
  bif (Nat.ble ((List.length ([] : List (Int)) + List.length closed) * 8) appendLimit && Nat.ble (List.length ([] : List (Int)) + List.length closed) 9223372036854775807) then lp9_1 fuel operators m r2 false ([] : List (Int)) (([] : List (Int)) ++ closed) 0
  else none : Option (Bool)) := by kernel_rfl
theorem e9 (m : (List ((Int) × (Int))) × ((List ((Int) × ((Int) × ((Int) × ((Int) × ((Int) × ((Int) × ((Int) × (Int))))))))) × ((List ((Int) × ((Int) × ((Int) × ((Int) × ((Int) × ((Int) × (Int)))))))) × (List (Int))))) (operators : List (Int)) (closed : List (Int)) : D9 m operators closed = (
  (D10).bind fun r =>
  bif (!r) then some false
  else bif decide ((List.length operators : Int) > 100) then some true
  else bif decide ((List.length closed : Int) > 100) then some true
  else (D15 m).bind fun r1 =>
  bif (r1 != 0) then some true
  else (D16 m operators closed).bind fun r2 =>
  bif (Nat.ble ((List.length ([] : List (Int)) + List.length closed) * 8) appendLimit && Nat.ble (List.length ([] : List (Int)) + List.length closed) 9223372036854775807) then lp9_1 big operators m r2 false ([] : List (Int)) (([] : List (Int)) ++ closed) 0
  else none : Option (Bool)) := g9 big m operators closed

end Go.Proofs.Ytdbbbdjglpfnbaa.D
