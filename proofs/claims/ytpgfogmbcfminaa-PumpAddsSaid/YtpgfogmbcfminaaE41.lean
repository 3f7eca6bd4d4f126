import Derived.Test.YtpgfogmbcfminaaT41
open Go Go.GD Go.Proofs
namespace Go.Proofs.Ytpgfogmbcfminaa.D
/-! skiarea/pump.Right -/
noncomputable def D11 (a0 : List ((Int) × ((Int) × (Int)))) : Option (Int) := d11 a0
noncomputable def lp11_1 (fuel : Nat)  (v₀ : List (Int × Bool)) (v1₀ : List ((Int) × ((Int) × (Int)))) (v2₀ : Int) (v3₀ : Int) : Option (Int) :=
  iter (fun F ((v, v1, v2, v3) : (List (Int × Bool)) × (List ((Int) × ((Int) × (Int)))) × Int × Int) =>
    bif decide (v3 < v2) then (
      (idx v1 v3).bind fun e =>
      bif decide (e.1 < 1) then some 2
      else bif decide (e.1 > 9999) then some 2
      else bif decide (e.2.1 < 1) then some 2
      else bif decide (e.2.1 > 1000000) then some 2
      else bif decide (e.2.2 < 1) then some 2
      else bif decide (e.2.2 > 100000000) then some 2
      else bif Option.getD (mget v e.1) false then some 7
      else F (mset v e.1 true, v1, v2, IntKind.i64.wrap (v3 + 1)))
    else some 0) fuel (v₀, v1₀, v2₀, v3₀)

theorem f11_1  (v : List (Int × Bool)) (v1 : List ((Int) × ((Int) × (Int)))) (hl : (v1).length ≤ maxLen) : lp11_1 big v v1 (List.length v1 : Int) 0 =
  forE (fun  el (v : (List (Int × Bool))) K =>
    (bif decide (el.1 < 1) then some 2
    else bif decide (el.1 > 9999) then some 2
    else bif decide (el.2.1 < 1) then some 2
    else bif decide (el.2.1 > 1000000) then some 2
    else bif decide (el.2.2 < 1) then some 2
    else bif decide (el.2.2 > 100000000) then some 2
    else bif Option.getD (mget v el.1) false then some 7
    else K (mset v el.1 true) : Option (Int)))
    (fun (_ : (List (Int × Bool))) =>
    (some 0 : Option (Int))) v1 v := by
  refine iter_forE v1 (fun ix (v : (List (Int × Bool))) => (v, v1, (List.length v1 : Int), (ix : Int))) _ _ ?_ ?_ (len_lt_big hl) v
  · rintro F k h v
    simp only [dec_lt h, condT, idx_get h, bindS, wrap_succ h hl]
  · rintro F v
    simp only [dec_end, condF]

theorem g11 (fuel : Nat) (l : List ((Int) × ((Int) × (Int)))) : (fnD tab env11 6 ann11 fuel Try.f11 [] ps11 rs11 true l : Option (Int)) = (
  bif decide ((List.length l : Int) > 8) then some 4
  else lp11_1 fuel ([] : List (Int × Bool)) l (List.length l : Int) 0 : Option (Int)) := by kernel_rfl
theorem e11 (l : List ((Int) × ((Int) × (Int)))) : D11 l = (
  bif decide ((List.length l : Int) > 8) then some 4
  else lp11_1 big ([] : List (Int × Bool)) l (List.length l : Int) 0 : Option (Int)) := g11 big l

/-! slices.Index[[]int,int] -/
noncomputable def D28 (a0 : List (Int)) (a1 : Int) : Option (Int) := d28 (a0, a1)
noncomputable def lp28_1 (fuel : Nat)  (s1₀ : List (Int)) (v1₀ : Int) (v2₀ : Int) (v3₀ : Int) : Option (Int) :=
  iter (fun F ((s1, v1, v2, v3) : (List (Int)) × Int × Int × Int) =>
    bif decide (v3 < v2) then (
      (idx s1 v3).bind fun e =>
      bif (v1 == e) then some v3
      else F (s1, v1, v2, IntKind.i64.wrap (v3 + 1)))
    else some (-1)) fuel (s1₀, v1₀, v2₀, v3₀)

theorem f28_1  (s1 : List (Int)) (v1 : Int) (hl : (s1).length ≤ maxLen) : lp28_1 big s1 v1 (List.length s1 : Int) 0 =
  forI (fun ix el (_ : Unit) K =>
    (bif (v1 == el) then some (ix : Int)
    else K () : Option (Int)))
    (fun (_ : Unit) =>
    (some (-1) : Option (Int))) 0 s1 () := by
  refine iter_forI_from s1 (fun ix (_ : Unit) => (s1, v1, (List.length s1 : Int), (ix : Int))) _ _ ?_ ?_ (k := 0) (Nat.zero_le _) (len_lt_big hl) ()
  · rintro F k h _
    simp only [dec_lt h, condT, idx_get h, bindS, wrap_succ h hl]
  · rintro F _
    simp only [dec_end, condF]

theorem g28 (fuel : Nat) (s : List (Int)) (v : Int) : (fnD tab env28 6 ann28 fuel Try.f28 [] ps28 rs28 true (s, v) : Option (Int)) = (
  lp28_1 fuel s v (List.length s : Int) 0 : Option (Int)) := by kernel_rfl
theorem e28 (s : List (Int)) (v : Int) : D28 s v = (
  lp28_1 big s v (List.length s : Int) 0 : Option (Int)) := g28 big s v

/-! slices.Contains[[]int,int] -/
noncomputable def D25 (a0 : List (Int)) (a1 : Int) : Option (Bool) := d25 (a0, a1)
theorem e25 (s : List (Int)) (v : Int) : D25 s v = (
  (D28 s v).bind fun r =>
  some (decide (r ≥ 0)) : Option (Bool)) := by kernel_rfl

/-! skiarea/pump.Flow -/
noncomputable def D16 (a0 : List ((Int) × ((Int) × (Int)))) (a1 : List (Int)) : Option (Int) := d16 (a0, a1)
noncomputable def lp16_1 (fuel : Nat)  (chosen1₀ : List (Int)) (sum_₀ : Int) (v₀ : List ((Int) × ((Int) × (Int)))) (v1₀ : Int) (v2₀ : Int) : Option (Int) :=
  iter (fun F ((chosen1, sum_, v, v1, v2) : (List (Int)) × Int × (List ((Int) × ((Int) × (Int)))) × Int × Int) =>
    bif decide (v2 < v1) then (
      (idx v v2).bind fun e =>
      (D25 chosen1 v2).bind fun r =>
      bif r then F (chosen1, IntKind.i64.wrap (sum_ + e.2.1), v, v1, IntKind.i64.wrap (v2 + 1))
      else F (chosen1, sum_, v, v1, IntKind.i64.wrap (v2 + 1)))
    else some sum_) fuel (chosen1₀, sum_₀, v₀, v1₀, v2₀)

theorem f16_1  (chosen1 : List (Int)) (sum_ : Int) (v : List ((Int) × ((Int) × (Int)))) (hl : (v).length ≤ maxLen) : lp16_1 big chosen1 sum_ v (List.length v : Int) 0 =
  forI (fun ix el (sum_ : Int) K =>
    ((D25 chosen1 (ix : Int)).bind fun r =>
    bif r then K (IntKind.i64.wrap (sum_ + el.2.1))
    else K sum_ : Option (Int)))
    (fun (sum_ : Int) =>
    (some sum_ : Option (Int))) 0 v sum_ := by
  refine iter_forI_from v (fun ix (sum_ : Int) => (chosen1, sum_, v, (List.length v : Int), (ix : Int))) _ _ ?_ ?_ (k := 0) (Nat.zero_le _) (len_lt_big hl) sum_
  · rintro F k h sum_
    simp only [dec_lt h, condT, idx_get h, bindS, wrap_succ h hl]
  · rintro F sum_
    simp only [dec_end, condF]

theorem g16 (fuel : Nat) (l : List ((Int) × ((Int) × (Int)))) (chosen : List (Int)) : (fnD tab env16 8 ann16 fuel Try.f16 [] ps16 rs16 true (l, chosen) : Option (Int)) = (
  lp16_1 fuel chosen 0 l (List.length l : Int) 0 : Option (Int)) := by kernel_rfl
theorem e16 (l : List ((Int) × ((Int) × (Int)))) (chosen : List (Int)) : D16 l chosen = (
  lp16_1 big chosen 0 l (List.length l : Int) 0 : Option (Int)) := g16 big l chosen

/-! skiarea/pump.Power -/
noncomputable def D18 (a0 : List ((Int) × ((Int) × (Int)))) (a1 : List (Int)) : Option (Int) := d18 (a0, a1)
noncomputable def lp18_1 (fuel : Nat)  (chosen1₀ : List (Int)) (sum_₀ : Int) (v₀ : List ((Int) × ((Int) × (Int)))) (v1₀ : Int) (v2₀ : Int) : Option (Int) :=
  iter (fun F ((chosen1, sum_, v, v1, v2) : (List (Int)) × Int × (List ((Int) × ((Int) × (Int)))) × Int × Int) =>
    bif decide (v2 < v1) then (
      (idx v v2).bind fun e =>
      (D25 chosen1 v2).bind fun r =>
      bif r then F (chosen1, IntKind.i64.wrap (sum_ + e.2.2), v, v1, IntKind.i64.wrap (v2 + 1))
      else F (chosen1, sum_, v, v1, IntKind.i64.wrap (v2 + 1)))
    else some sum_) fuel (chosen1₀, sum_₀, v₀, v1₀, v2₀)

theorem f18_1  (chosen1 : List (Int)) (sum_ : Int) (v : List ((Int) × ((Int) × (Int)))) (hl : (v).length ≤ maxLen) : lp18_1 big chosen1 sum_ v (List.length v : Int) 0 =
  forI (fun ix el (sum_ : Int) K =>
    ((D25 chosen1 (ix : Int)).bind fun r =>
    bif r then K (IntKind.i64.wrap (sum_ + el.2.2))
    else K sum_ : Option (Int)))
    (fun (sum_ : Int) =>
    (some sum_ : Option (Int))) 0 v sum_ := by
  refine iter_forI_from v (fun ix (sum_ : Int) => (chosen1, sum_, v, (List.length v : Int), (ix : Int))) _ _ ?_ ?_ (k := 0) (Nat.zero_le _) (len_lt_big hl) sum_
  · rintro F k h sum_
    simp only [dec_lt h, condT, idx_get h, bindS, wrap_succ h hl]
  · rintro F sum_
    simp only [dec_end, condF]

theorem g18 (fuel : Nat) (l : List ((Int) × ((Int) × (Int)))) (chosen : List (Int)) : (fnD tab env18 8 ann18 fuel Try.f18 [] ps18 rs18 true (l, chosen) : Option (Int)) = (
  lp18_1 fuel chosen 0 l (List.length l : Int) 0 : Option (Int)) := by kernel_rfl
theorem e18 (l : List ((Int) × ((Int) × (Int)))) (chosen : List (Int)) : D18 l chosen = (
  lp18_1 big chosen 0 l (List.length l : Int) 0 : Option (Int)) := g18 big l chosen

/-! skiarea/pump.members -/
noncomputable def D21 (a0 : Int) : Option (List (Int)) := d21 a0
noncomputable def lp21_1 (fuel : Nat)  (set_1₀ : Int) (out₀ : List (Int)) (i₀ : Int) : Option (List (Int)) :=
  iter (fun F ((set_1, out, i) : Int × (List (Int)) × Int) =>
    bif decide (i < 0) then none
    else bif (Int.fdiv set_1 (2 ^ (Nat.min (Int.toNat i) 64)) != 0) then (
      bif decide (i < 0) then none
      else bif (IntKind.i64.wrap (((BitVec.ofInt 64 (Int.fdiv set_1 (2 ^ (Nat.min (Int.toNat i) 64))) &&& BitVec.ofInt 64 1).toNat : Int)) == 1) then (
        bif (Nat.ble ((List.length out + List.length [i]) * 8) appendLimit && Nat.ble (List.length out + List.length [i]) 9223372036854775807) then F (set_1, out ++ [i], IntKind.i64.wrap (i + 1))
        else none)
      else F (set_1, out, IntKind.i64.wrap (i + 1)))
    else some out) fuel (set_1₀, out₀, i₀)

theorem g21 (fuel : Nat) (set_ : Int) : (fnD tab env21 5 ann21 fuel Try.f21 [] ps21 rs21 true set_ : Option (List (Int))) = (
  lp21_1 fuel set_ ([] : List (Int)) 0 : Option (List (Int))) := by kernel_rfl
theorem e21 (set_ : Int) : D21 set_ = (
  lp21_1 big set_ ([] : List (Int)) 0 : Option (List (Int))) := g21 big set_

/-! cmp.isNaN[int] -/
noncomputable def D29 (a0 : Int) : Option (Bool) := d29 a0
theorem e29 (x : Int) : D29 x = (
  some (x != x) : Option (Bool)) := by kernel_rfl

/-! cmp.Compare[int] -/
noncomputable def D27 (a0 : Int) (a1 : Int) : Option (Int) := d27 (a0, a1)
theorem e27 (x : Int) (y : Int) : D27 x y = (
  (D29 x).bind fun r =>
  (D29 y).bind fun r1 =>
  bif r then (
    bif r1 then some 0
    else some (-1))
  else bif r1 then some 1
  else bif decide (x < y) then some (-1)
  else bif decide (x > y) then some 1
  else some 0 : Option (Int)) := by kernel_rfl

/-! slices.Compare[[]int,int] -/
noncomputable def D22 (a0 : List (Int)) (a1 : List (Int)) : Option (Int) := d22 (a0, a1)
noncomputable def lp22_1 (fuel : Nat)  (s11₀ : List (Int)) (s21₀ : List (Int)) (v₀ : List (Int)) (v1₀ : Int) (v2₀ : Int) : Option (Int) :=
  iter (fun F ((s11, s21, v, v1, v2) : (List (Int)) × (List (Int)) × (List (Int)) × Int × Int) =>
    bif decide (v2 < v1) then (
      (idx v v2).bind fun e =>
      bif decide (v2 ≥ (List.length s21 : Int)) then some 1
      else (idx s21 v2).bind fun e1 =>
      (D27 e e1).bind fun r =>
      bif (r != 0) then some r
      else F (s11, s21, v, v1, IntKind.i64.wrap (v2 + 1)))
    else bif decide ((List.length s11 : Int) < (List.length s21 : Int)) then some (-1)
    else some 0) fuel (s11₀, s21₀, v₀, v1₀, v2₀)

theorem f22_1  (s11 : List (Int)) (s21 : List (Int)) (v : List (Int)) (hl : (v).length ≤ maxLen) : lp22_1 big s11 s21 v (List.length v : Int) 0 =
  forI (fun ix el (_ : Unit) K =>
    (bif decide ((ix : Int) ≥ (List.length s21 : Int)) then some 1
    else (idx s21 (ix : Int)).bind fun e1 =>
    (D27 el e1).bind fun r =>
    bif (r != 0) then some r
    else K () : Option (Int)))
    (fun (_ : Unit) =>
    (bif decide ((List.length s11 : Int) < (List.length s21 : Int)) then some (-1)
    else some 0 : Option (Int))) 0 v () := by
  refine iter_forI_from v (fun ix (_ : Unit) => (s11, s21, v, (List.length v : Int), (ix : Int))) _ _ ?_ ?_ (k := 0) (Nat.zero_le _) (len_lt_big hl) ()
  · rintro F k h _
    simp only [dec_lt h, condT, idx_get h, bindS, wrap_succ h hl]
  · rintro F _
    simp only [dec_end, condF]

theorem g22 (fuel : Nat) (s1 : List (Int)) (s2 : List (Int)) : (fnD tab env22 9 ann22 fuel Try.f22 [] ps22 rs22 true (s1, s2) : Option (Int)) = (
  lp22_1 fuel s1 s2 s1 (List.length s1 : Int) 0 : Option (Int)) := by kernel_rfl
theorem e22 (s1 : List (Int)) (s2 : List (Int)) : D22 s1 s2 = (
  lp22_1 big s1 s2 s1 (List.length s1 : Int) 0 : Option (Int)) := g22 big s1 s2

/-! skiarea/pump.Best -/
noncomputable def D13 (a0 : List ((Int) × ((Int) × (Int)))) (a1 : Int) : Option ((List (Int)) × ((Int) × (Int))) := d13 (a0, a1)
noncomputable def lp13_1 (fuel : Nat)  (l1₀ : List ((Int) × ((Int) × (Int)))) (flow1₀ : Int) (best₀ : List (Int)) (least₀ : Int) (v₀ : Int) (v1₀ : Int) : Option ((List (Int)) × ((Int) × (Int))) :=
  iter (fun F ((l1, flow1, best, least, v, v1) : (List ((Int) × ((Int) × (Int)))) × Int × (List (Int)) × Int × Int × Int) =>
    bif decide (v1 < v) then (
      (D21 v1).bind fun r3 =>
      (D16 l1 r3).bind fun r4 =>
      bif decide (r4 < flow1) then F (l1, flow1, best, least, v, IntKind.i64.wrap (v1 + 1))
      else (D18 l1 r3).bind fun r5 =>
      bif decide (r5 < least) then F (l1, flow1, r3, r5, v, IntKind.i64.wrap (v1 + 1))
      else bif (r5 == least) then (
        (D22 r3 best).bind fun r6 =>
        bif decide (r6 < 0) then F (l1, flow1, r3, r5, v, IntKind.i64.wrap (v1 + 1))
        else F (l1, flow1, best, least, v, IntKind.i64.wrap (v1 + 1)))
      else F (l1, flow1, best, least, v, IntKind.i64.wrap (v1 + 1)))
    else some (best, least, 0)) fuel (l1₀, flow1₀, best₀, least₀, v₀, v1₀)

theorem f13_1  (l1 : List ((Int) × ((Int) × (Int)))) (flow1 : Int) (best : List (Int)) (least : Int) (v : Int) (hl : v ≤ 9223372036854775807) : lp13_1 big l1 flow1 best least v 0 =
  forN (fun ix ((best, least) : (List (Int)) × Int) K =>
    ((D21 (ix : Int)).bind fun r3 =>
    (D16 l1 r3).bind fun r4 =>
    bif decide (r4 < flow1) then K (best, least)
    else (D18 l1 r3).bind fun r5 =>
    bif decide (r5 < least) then K (r3, r5)
    else bif (r5 == least) then (
      (D22 r3 best).bind fun r6 =>
      bif decide (r6 < 0) then K (r3, r5)
      else K (best, least))
    else K (best, least) : Option ((List (Int)) × ((Int) × (Int)))))
    (fun ((best, least) : (List (Int)) × Int) =>
    (some (best, least, 0) : Option ((List (Int)) × ((Int) × (Int))))) 0 (Int.toNat v) (best, least) := by
  refine iter_forN (Int.toNat v) (fun ix ((best, least) : (List (Int)) × Int) => (l1, flow1, best, least, v, (ix : Int))) _ _ ?_ ?_ (int_lt_big hl) (best, least)
  · rintro F k h ⟨best, least⟩
    simp only [dec_lt_int h, condT, wrap_succ_int h hl]
  · rintro F ⟨best, least⟩
    simp only [dec_end_int, condF]

theorem g13 (fuel : Nat) (l : List ((Int) × ((Int) × (Int)))) (flow : Int) : (fnD tab env13 13 ann13 fuel Try.f13 [] ps13 rs13 false (l, flow) : Option ((List (Int)) × ((Int) × (Int)))) = (
  bif decide (flow < 0) then some (([] : List (Int)), 0, 2)
  else bif decide ((List.length l : Int) > 8) then some (([] : List (Int)), 0, 4)
  else bif decide ((List.length l : Int) < 0) then none
  else (D21 (IntKind.i64.wrap ((IntKind.i64.wrap ((1 : Int) * 2 ^ (Nat.min (Int.toNat (List.length l : Int)) 64))) - 1))).bind fun r =>
  (D16 l r).bind fun r1 =>
  bif decide (r1 < flow) then some (([] : List (Int)), 0, 9)
  else (D18 l r).bind fun r2 =>
  lp13_1 fuel l flow r r2 (IntKind.i64.wrap ((IntKind.i64.wrap ((1 : Int) * 2 ^ (Nat.min (Int.toNat (List.length l : Int)) 64))) - 1)) 0 : Option ((List (Int)) × ((Int) × (Int)))) := by kernel_rfl
theorem e13 (l : List ((Int) × ((Int) × (Int)))) (flow : Int) : D13 l flow = (
  bif decide (flow < 0) then some (([] : List (Int)), 0, 2)
  else bif decide ((List.length l : Int) > 8) then some (([] : List (Int)), 0, 4)
  else bif decide ((List.length l : Int) < 0) then none
  else (D21 (IntKind.i64.wrap ((IntKind.i64.wrap ((1 : Int) * 2 ^ (Nat.min (Int.toNat (List.length l : Int)) 64))) - 1))).bind fun r =>
  (D16 l r).bind fun r1 =>
  bif decide (r1 < flow) then some (([] : List (Int)), 0, 9)
  else (D18 l r).bind fun r2 =>
  lp13_1 big l flow r r2 (IntKind.i64.wrap ((IntKind.i64.wrap ((1 : Int) * 2 ^ (Nat.min (Int.toNat (List.length l : Int)) 64))) - 1)) 0 : Option ((List (Int)) × ((Int) × (Int)))) := g13 big l flow

/-! skiarea/skiarearef41.Less -/
noncomputable def D24 (a0 : List (Int)) (a1 : List (Int)) : Option (Bool) := d24 (a0, a1)
noncomputable def lp24_1 (fuel : Nat)  (a1₀ : List (Int)) (b1₀ : List (Int)) (i₀ : Int) : Option (Bool) :=
  iter (fun F ((a1, b1, i) : (List (Int)) × (List (Int)) × Int) =>
    bif decide (i < (List.length a1 : Int)) then (
      bif decide (i < (List.length b1 : Int)) then (
        (idx a1 i).bind fun e =>
        (idx b1 i).bind fun e1 =>
        bif (e != e1) then (
          (idx a1 i).bind fun e2 =>
          (idx b1 i).bind fun e3 =>
          some (decide (e2 < e3)))
        else F (a1, b1, IntKind.i64.wrap (i + 1)))
      else some (decide ((List.length a1 : Int) < (List.length b1 : Int))))
    else some (decide ((List.length a1 : Int) < (List.length b1 : Int)))) fuel (a1₀, b1₀, i₀)

theorem f24_1  (a1 : List (Int)) (b1 : List (Int)) (hl : (a1).length ≤ maxLen) : lp24_1 big a1 b1 0 =
  forI (fun ix el (_ : Unit) K =>
    (bif decide ((ix : Int) < (List.length b1 : Int)) then (
      (idx b1 (ix : Int)).bind fun e1 =>
      bif (el != e1) then (
        (idx b1 (ix : Int)).bind fun e3 =>
        some (decide (el < e3)))
      else K ())
    else some (decide ((List.length a1 : Int) < (List.length b1 : Int))) : Option (Bool)))
    (fun (_ : Unit) =>
    (some (decide ((List.length a1 : Int) < (List.length b1 : Int))) : Option (Bool))) 0 a1 () := by
  refine iter_forI_from a1 (fun ix (_ : Unit) => (a1, b1, (ix : Int))) _ _ ?_ ?_ (k := 0) (Nat.zero_le _) (len_lt_big hl) ()
  · rintro F k h _
    simp only [dec_lt h, condT, idx_get h, bindS, wrap_succ h hl]
  · rintro F _
    simp only [dec_end, condF]

theorem g24 (fuel : Nat) (a : List (Int)) (b : List (Int)) : (fnD tab env24 6 ann24 fuel Try.f24 [] ps24 rs24 true (a, b) : Option (Bool)) = (
  lp24_1 fuel a b 0 : Option (Bool)) := by kernel_rfl
theorem e24 (a : List (Int)) (b : List (Int)) : D24 a b = (
  lp24_1 big a b 0 : Option (Bool)) := g24 big a b

/-! skiarea/skiarearef41.Same -/
noncomputable def D15 (a0 : List (Int)) (a1 : List (Int)) : Option (Bool) := d15 (a0, a1)
theorem e15 (a : List (Int)) (b : List (Int)) : D15 a b = (
  (D24 a b).bind fun r =>
  bif (!r) then (
    (D24 b a).bind fun r1 =>
    some (!r1))
  else some false : Option (Bool)) := by kernel_rfl

/-! skiarea/skiarealaw41.three -/
noncomputable def D20  : Option (List ((Int) × ((Int) × (Int)))) := d20 ()
theorem e20  : D20 = (
  some [(1, 100, 90), (2, 60, 40), (3, 50, 45)] : Option (List ((Int) × ((Int) × (Int))))) := by kernel_rfl

noncomputable def D10  : Option (Bool) := d10 ()
theorem aliveD : D10 = some true := alive

/-! skiarea/skiarearef41.Right -/
noncomputable def D12 (a0 : List ((Int) × ((Int) × (Int)))) : Option (Int) := d12 a0
noncomputable def lp12_1 (fuel : Nat) (F : ((List ((Int) × ((Int) × (Int)))) × Int) → Option (Int)) (l2₀ : List ((Int) × ((Int) × (Int)))) (i1₀ : Int) (x₀ : (Int) × ((Int) × (Int))) (k_₀ : Int) : Option (Int) :=
  iter (fun F1 ((l2, i1, x, k_) : (List ((Int) × ((Int) × (Int)))) × Int × ((Int) × ((Int) × (Int))) × Int) =>
    bif decide (k_ < i1) then (
      (idx l2 k_).bind fun e1 =>
      bif (e1.1 == x.1) then some 7
      else F1 (l2, i1, x, IntKind.i64.wrap (k_ + 1)))
    else F (l2, IntKind.i64.wrap (i1 + 1))) fuel (l2₀, i1₀, x₀, k_₀)

theorem f12_1 (F : ((List ((Int) × ((Int) × (Int)))) × Int) → Option (Int)) (l2 : List ((Int) × ((Int) × (Int)))) (i1 : Int) (x : (Int) × ((Int) × (Int))) (hl : i1 ≤ 9223372036854775807) : lp12_1 big F l2 i1 x 0 =
  forN (fun ix (_ : Unit) K =>
    ((idx l2 (ix : Int)).bind fun e1 =>
    bif (e1.1 == x.1) then some 7
    else K () : Option (Int)))
    (fun (_ : Unit) =>
    (F (l2, IntKind.i64.wrap (i1 + 1)) : Option (Int))) 0 (Int.toNat i1) () := by
  refine iter_forN (Int.toNat i1) (fun ix (_ : Unit) => (l2, i1, x, (ix : Int))) _ _ ?_ ?_ (int_lt_big hl) ()
  · rintro F k h _
    simp only [dec_lt_int h, condT, wrap_succ_int h hl]
  · rintro F _
    simp only [dec_end_int, condF]

noncomputable def lp12_3 (fuel : Nat)  (l1₀ : List ((Int) × ((Int) × (Int)))) (i₀ : Int) : Option (Int) :=
  iter (fun F ((l1, i) : (List ((Int) × ((Int) × (Int)))) × Int) =>
    bif decide (i < (List.length l1 : Int)) then (
      (idx l1 i).bind fun e =>
      bif decide (e.1 < 1) then some 2
      else bif decide (e.1 > 9999) then some 2
      else bif decide (e.2.1 < 1) then some 2
      else bif decide (e.2.1 > 1000000) then some 2
      else bif decide (e.2.2 < 1) then some 2
      else bif decide (e.2.2 > 100000000) then some 2
      else lp12_1 fuel F l1 i e 0)
    else some 0) fuel (l1₀, i₀)

theorem g12 (fuel : Nat) (l : List ((Int) × ((Int) × (Int)))) : (fnD tab env12 6 ann12 fuel Try.f12 [] ps12 rs12 true l : Option (Int)) = (
  bif decide ((List.length l : Int) > 8) then some 4
  else lp12_3 fuel l 0 : Option (Int)) := by kernel_rfl
theorem e12 (l : List ((Int) × ((Int) × (Int)))) : D12 l = (
  bif decide ((List.length l : Int) > 8) then some 4
  else lp12_3 big l 0 : Option (Int)) := g12 big l

/-! skiarea/skiarealaw41.PumpChecks -/
noncomputable def D3 (a0 : List ((Int) × ((Int) × (Int)))) : Option (Bool) := d3 a0
theorem e3 (l : List ((Int) × ((Int) × (Int)))) : D3 l = (
  (D10).bind fun r =>
  bif (!r) then some false
  else bif decide ((List.length l : Int) > 30) then some true
  else (D11 l).bind fun r1 =>
  (D12 l).bind fun r2 =>
  some (r1 == r2) : Option (Bool)) := by kernel_rfl

/-! skiarea/skiarearef41.has -/
noncomputable def D26 (a0 : List (Int)) (a1 : Int) : Option (Bool) := d26 (a0, a1)
noncomputable def lp26_1 (fuel : Nat)  (l1₀ : List (Int)) (n1₀ : Int) (i₀ : Int) : Option (Bool) :=
  iter (fun F ((l1, n1, i) : (List (Int)) × Int × Int) =>
    bif decide (i < (List.length l1 : Int)) then (
      (idx l1 i).bind fun e =>
      bif (e == n1) then some true
      else F (l1, n1, IntKind.i64.wrap (i + 1)))
    else some false) fuel (l1₀, n1₀, i₀)

theorem f26_1  (l1 : List (Int)) (n1 : Int) (hl : (l1).length ≤ maxLen) : lp26_1 big l1 n1 0 =
  forE (fun  el (_ : Unit) K =>
    (bif (el == n1) then some true
    else K () : Option (Bool)))
    (fun (_ : Unit) =>
    (some false : Option (Bool))) l1 () := by
  refine iter_forE l1 (fun ix (_ : Unit) => (l1, n1, (ix : Int))) _ _ ?_ ?_ (len_lt_big hl) ()
  · rintro F k h _
    simp only [dec_lt h, condT, idx_get h, bindS, wrap_succ h hl]
  · rintro F _
    simp only [dec_end, condF]

theorem g26 (fuel : Nat) (l : List (Int)) (n : Int) : (fnD tab env26 6 ann26 fuel Try.f26 [] ps26 rs26 true (l, n) : Option (Bool)) = (
  lp26_1 fuel l n 0 : Option (Bool)) := by kernel_rfl
theorem e26 (l : List (Int)) (n : Int) : D26 l n = (
  lp26_1 big l n 0 : Option (Bool)) := g26 big l n

/-! skiarea/skiarearef41.Flow -/
noncomputable def D17 (a0 : List ((Int) × ((Int) × (Int)))) (a1 : List (Int)) : Option (Int) := d17 (a0, a1)
noncomputable def lp17_1 (fuel : Nat)  (l1₀ : List ((Int) × ((Int) × (Int)))) (chosen1₀ : List (Int)) (n₀ : Int) (i₀ : Int) : Option (Int) :=
  iter (fun F ((l1, chosen1, n, i) : (List ((Int) × ((Int) × (Int)))) × (List (Int)) × Int × Int) =>
    bif decide (i < (List.length l1 : Int)) then (
      (D26 chosen1 i).bind fun r =>
      bif r then (
        (idx l1 i).bind fun e =>
        F (l1, chosen1, IntKind.i64.wrap (n + e.2.1), IntKind.i64.wrap (i + 1)))
      else F (l1, chosen1, n, IntKind.i64.wrap (i + 1)))
    else some n) fuel (l1₀, chosen1₀, n₀, i₀)

theorem f17_1  (l1 : List ((Int) × ((Int) × (Int)))) (chosen1 : List (Int)) (n : Int) (hl : (l1).length ≤ maxLen) : lp17_1 big l1 chosen1 n 0 =
  forI (fun ix el (n : Int) K =>
    ((D26 chosen1 (ix : Int)).bind fun r =>
    bif r then K (IntKind.i64.wrap (n + el.2.1))
    else K n : Option (Int)))
    (fun (n : Int) =>
    (some n : Option (Int))) 0 l1 n := by
  refine iter_forI_from l1 (fun ix (n : Int) => (l1, chosen1, n, (ix : Int))) _ _ ?_ ?_ (k := 0) (Nat.zero_le _) (len_lt_big hl) n
  · rintro F k h n
    simp only [dec_lt h, condT, idx_get h, bindS, wrap_succ h hl]
  · rintro F n
    simp only [dec_end, condF]

theorem g17 (fuel : Nat) (l : List ((Int) × ((Int) × (Int)))) (chosen : List (Int)) : (fnD tab env17 7 ann17 fuel Try.f17 [] ps17 rs17 true (l, chosen) : Option (Int)) = (
  lp17_1 fuel l chosen 0 0 : Option (Int)) := by kernel_rfl
theorem e17 (l : List ((Int) × ((Int) × (Int)))) (chosen : List (Int)) : D17 l chosen = (
  lp17_1 big l chosen 0 0 : Option (Int)) := g17 big l chosen

/-! skiarea/skiarearef41.Power -/
noncomputable def D19 (a0 : List ((Int) × ((Int) × (Int)))) (a1 : List (Int)) : Option (Int) := d19 (a0, a1)
noncomputable def lp19_1 (fuel : Nat)  (l1₀ : List ((Int) × ((Int) × (Int)))) (chosen1₀ : List (Int)) (n₀ : Int) (i₀ : Int) : Option (Int) :=
  iter (fun F ((l1, chosen1, n, i) : (List ((Int) × ((Int) × (Int)))) × (List (Int)) × Int × Int) =>
    bif decide (i < (List.length l1 : Int)) then (
      (D26 chosen1 i).bind fun r =>
      bif r then (
        (idx l1 i).bind fun e =>
        F (l1, chosen1, IntKind.i64.wrap (n + e.2.2), IntKind.i64.wrap (i + 1)))
      else F (l1, chosen1, n, IntKind.i64.wrap (i + 1)))
    else some n) fuel (l1₀, chosen1₀, n₀, i₀)

theorem f19_1  (l1 : List ((Int) × ((Int) × (Int)))) (chosen1 : List (Int)) (n : Int) (hl : (l1).length ≤ maxLen) : lp19_1 big l1 chosen1 n 0 =
  forI (fun ix el (n : Int) K =>
    ((D26 chosen1 (ix : Int)).bind fun r =>
    bif r then K (IntKind.i64.wrap (n + el.2.2))
    else K n : Option (Int)))
    (fun (n : Int) =>
    (some n : Option (Int))) 0 l1 n := by
  refine iter_forI_from l1 (fun ix (n : Int) => (l1, chosen1, n, (ix : Int))) _ _ ?_ ?_ (k := 0) (Nat.zero_le _) (len_lt_big hl) n
  · rintro F k h n
    simp only [dec_lt h, condT, idx_get h, bindS, wrap_succ h hl]
  · rintro F n
    simp only [dec_end, condF]

theorem g19 (fuel : Nat) (l : List ((Int) × ((Int) × (Int)))) (chosen : List (Int)) : (fnD tab env19 7 ann19 fuel Try.f19 [] ps19 rs19 true (l, chosen) : Option (Int)) = (
  lp19_1 fuel l chosen 0 0 : Option (Int)) := by kernel_rfl
theorem e19 (l : List ((Int) × ((Int) × (Int)))) (chosen : List (Int)) : D19 l chosen = (
  lp19_1 big l chosen 0 0 : Option (Int)) := g19 big l chosen

/-! skiarea/skiarearef41.subset -/
noncomputable def D23 (a0 : Int) : Option (List (Int)) := d23 a0
noncomputable def lp23_1 (fuel : Nat)  (n1₀ : Int) (out₀ : List (Int)) (i₀ : Int) : Option (List (Int)) :=
  iter (fun F ((n1, out, i) : Int × (List (Int)) × Int) =>
    bif decide (n1 > 0) then (
      bif (Int.tmod n1 2 == 1) then (
        bif (Nat.ble ((List.length out + List.length [i]) * 8) appendLimit && Nat.ble (List.length out + List.length [i]) 9223372036854775807) then F (IntKind.i64.wrap (Int.tdiv n1 2), out ++ [i], IntKind.i64.wrap (i + 1))
        else none)
      else F (IntKind.i64.wrap (Int.tdiv n1 2), out, IntKind.i64.wrap (i + 1)))
    else some out) fuel (n1₀, out₀, i₀)

theorem g23 (fuel : Nat) (n : Int) : (fnD tab env23 5 ann23 fuel Try.f23 [] ps23 rs23 true n : Option (List (Int))) = (
  lp23_1 fuel n ([] : List (Int)) 0 : Option (List (Int))) := by kernel_rfl
theorem e23 (n : Int) : D23 n = (
  lp23_1 big n ([] : List (Int)) 0 : Option (List (Int))) := g23 big n

/-! skiarea/skiarearef41.Best -/
noncomputable def D14 (a0 : List ((Int) × ((Int) × (Int)))) (a1 : Int) : Option ((List (Int)) × ((Int) × (Int))) := d14 (a0, a1)
noncomputable def lp14_1 (fuel : Nat)  (l2₀ : List ((Int) × ((Int) × (Int)))) (flow2₀ : Int) (all_1₀ : Int) (best₀ : List (Int)) (least₀ : Int) (found₀ : Bool) (n₀ : Int) : Option ((List (Int)) × ((Int) × (Int))) :=
  iter (fun F1 ((l2, flow2, all_1, best, least, found, n) : (List ((Int) × ((Int) × (Int)))) × Int × Int × (List (Int)) × Int × Bool × Int) =>
    bif decide (n < all_1) then (
      (D23 n).bind fun r =>
      (D17 l2 r).bind fun r1 =>
      bif decide (r1 < flow2) then F1 (l2, flow2, all_1, best, least, found, IntKind.i64.wrap (n + 1))
      else (D19 l2 r).bind fun r2 =>
      bif (!found) then F1 (l2, flow2, all_1, r, r2, true, IntKind.i64.wrap (n + 1))
      else bif decide (r2 < least) then F1 (l2, flow2, all_1, r, r2, true, IntKind.i64.wrap (n + 1))
      else bif (r2 == least) then (
        (D24 r best).bind fun r3 =>
        bif r3 then F1 (l2, flow2, all_1, r, r2, true, IntKind.i64.wrap (n + 1))
        else F1 (l2, flow2, all_1, best, least, found, IntKind.i64.wrap (n + 1)))
      else F1 (l2, flow2, all_1, best, least, found, IntKind.i64.wrap (n + 1)))
    else bif (!found) then some (([] : List (Int)), 0, 9)
    else some (best, least, 0)) fuel (l2₀, flow2₀, all_1₀, best₀, least₀, found₀, n₀)

theorem f14_1  (l2 : List ((Int) × ((Int) × (Int)))) (flow2 : Int) (all_1 : Int) (best : List (Int)) (least : Int) (found : Bool) (hl : all_1 ≤ 9223372036854775807) : lp14_1 big l2 flow2 all_1 best least found 0 =
  forN (fun ix ((best, least, found) : (List (Int)) × Int × Bool) K =>
    ((D23 (ix : Int)).bind fun r =>
    (D17 l2 r).bind fun r1 =>
    bif decide (r1 < flow2) then K (best, least, found)
    else (D19 l2 r).bind fun r2 =>
    bif (!found) then K (r, r2, true)
    else bif decide (r2 < least) then K (r, r2, true)
    else bif (r2 == least) then (
      (D24 r best).bind fun r3 =>
      bif r3 then K (r, r2, true)
      else K (best, least, found))
    else K (best, least, found) : Option ((List (Int)) × ((Int) × (Int)))))
    (fun ((best, least, found) : (List (Int)) × Int × Bool) =>
    (bif (!found) then some (([] : List (Int)), 0, 9)
    else some (best, least, 0) : Option ((List (Int)) × ((Int) × (Int))))) 0 (Int.toNat all_1) (best, least, found) := by
  refine iter_forN (Int.toNat all_1) (fun ix ((best, least, found) : (List (Int)) × Int × Bool) => (l2, flow2, all_1, best, least, found, (ix : Int))) _ _ ?_ ?_ (int_lt_big hl) (best, least, found)
  · rintro F k h ⟨best, least, found⟩
    simp only [dec_lt_int h, condT, wrap_succ_int h hl]
  · rintro F ⟨best, least, found⟩
    simp only [dec_end_int, condF]

noncomputable def lp14_3 (fuel : Nat)  (l1₀ : List ((Int) × ((Int) × (Int)))) (flow1₀ : Int) (all_₀ : Int) (i₀ : Int) : Option ((List (Int)) × ((Int) × (Int))) :=
  iter (fun F ((l1, flow1, all_, i) : (List ((Int) × ((Int) × (Int)))) × Int × Int × Int) =>
    bif decide (i < (List.length l1 : Int)) then F (l1, flow1, IntKind.i64.wrap ((2 : Int) * all_), IntKind.i64.wrap (i + 1))
    else lp14_1 fuel l1 flow1 all_ ([] : List (Int)) 0 false 0) fuel (l1₀, flow1₀, all_₀, i₀)

theorem f14_3  (l1 : List ((Int) × ((Int) × (Int)))) (flow1 : Int) (all_ : Int) (hl : (l1).length ≤ maxLen) : lp14_3 big l1 flow1 all_ 0 =
  forE (fun  _ (all_ : Int) K =>
    (K (IntKind.i64.wrap ((2 : Int) * all_)) : Option ((List (Int)) × ((Int) × (Int)))))
    (fun (all_ : Int) =>
    (lp14_1 big l1 flow1 all_ ([] : List (Int)) 0 false 0 : Option ((List (Int)) × ((Int) × (Int))))) l1 all_ := by
  refine iter_forE l1 (fun ix (all_ : Int) => (l1, flow1, all_, (ix : Int))) _ _ ?_ ?_ (len_lt_big hl) all_
  · rintro F k h all_
    simp only [dec_lt h, condT, wrap_succ h hl]
  · rintro F all_
    simp only [dec_end, condF]

theorem g14 (fuel : Nat) (l : List ((Int) × ((Int) × (Int)))) (flow : Int) : (fnD tab env14 15 ann14 fuel Try.f14 [] ps14 rs14 false (l, flow) : Option ((List (Int)) × ((Int) × (Int)))) = (
  bif decide (flow < 0) then some (([] : List (Int)), 0, 2)
  else lp14_3 fuel l flow 1 0 : Option ((List (Int)) × ((Int) × (Int)))) := by kernel_rfl
theorem e14 (l : List ((Int) × ((Int) × (Int)))) (flow : Int) : D14 l flow = (
  bif decide (flow < 0) then some (([] : List (Int)), 0, 2)
  else lp14_3 big l flow 1 0 : Option ((List (Int)) × ((Int) × (Int)))) := g14 big l flow

/-! skiarea/skiarealaw41.PumpBests -/
noncomputable def D4 (a0 : List ((Int) × ((Int) × (Int)))) (a1 : Int) : Option (Bool) := d4 (a0, a1)
theorem e4 (l : List ((Int) × ((Int) × (Int)))) (flow : Int) : D4 l flow = (
  (D10).bind fun r =>
  bif (!r) then some false
  else (D12 l).bind fun r1 =>
  bif (r1 != 0) then some true
  else (D13 l flow).bind fun r2 =>
  (D14 l flow).bind fun r3 =>
  (D15 r2.1 r3.1).bind fun r4 =>
  bif r4 then (
    bif (r2.2.1 == r3.2.1) then some (r2.2.2 == r3.2.2)
    else some false)
  else some false : Option (Bool)) := by kernel_rfl

/-! skiarea/skiarealaw41.PumpSums -/
noncomputable def D5 (a0 : List ((Int) × ((Int) × (Int)))) (a1 : List (Int)) : Option (Bool) := d5 (a0, a1)
theorem e5 (l : List ((Int) × ((Int) × (Int)))) (chosen : List (Int)) : D5 l chosen = (
  (D10).bind fun r =>
  bif (!r) then some false
  else (D12 l).bind fun r1 =>
  bif (r1 != 0) then some true
  else bif decide ((List.length chosen : Int) > 60) then some true
  else (D16 l chosen).bind fun r2 =>
  (D17 l chosen).bind fun r3 =>
  bif (r2 == r3) then (
    (D18 l chosen).bind fun r4 =>
    (D19 l chosen).bind fun r5 =>
    some (r4 == r5))
  else some false : Option (Bool)) := by kernel_rfl

/-! skiarea/skiarealaw41.PumpLeast -/
noncomputable def D6 (a0 : List ((Int) × ((Int) × (Int)))) (a1 : Int) (a2 : List (Int)) : Option (Bool) := d6 (a0, a1, a2)
noncomputable def lp6_1 (fuel : Nat)  (l1₀ : List ((Int) × ((Int) × (Int)))) (flow1₀ : Int) (chosen1₀ : List (Int)) (x₀ : List (Int)) (n₀ : Int) (i₀ : Int) : Option (Bool) :=
  iter (fun F ((l1, flow1, chosen1, x, n, i) : (List ((Int) × ((Int) × (Int)))) × Int × (List (Int)) × (List (Int)) × Int × Int) =>
    bif decide (i < (List.length x : Int)) then (
      (idx x i).bind fun e =>
      bif decide (e < 0) then some false
      else (idx x i).bind fun e1 =>
      bif decide (e1 ≥ (List.length l1 : Int)) then some false
      else bif decide (i > 0) then (
        (idx x i).bind fun e2 =>
        (idx x (IntKind.i64.wrap (i - 1))).bind fun e3 =>
        bif decide (e2 ≤ e3) then some false
        else F (l1, flow1, chosen1, x, n, IntKind.i64.wrap (i + 1)))
      else F (l1, flow1, chosen1, x, n, IntKind.i64.wrap (i + 1)))
    else (D16 l1 chosen1).bind fun r5 =>
    bif decide (r5 < flow1) then some true
    else (D18 l1 chosen1).bind fun r6 =>
    some (decide (r6 ≥ n))) fuel (l1₀, flow1₀, chosen1₀, x₀, n₀, i₀)

theorem f6_1  (l1 : List ((Int) × ((Int) × (Int)))) (flow1 : Int) (chosen1 : List (Int)) (x : List (Int)) (n : Int) (hl : (x).length ≤ maxLen) : lp6_1 big l1 flow1 chosen1 x n 0 =
  forI (fun ix el (_ : Unit) K =>
    (bif decide (el < 0) then some false
    else bif decide (el ≥ (List.length l1 : Int)) then some false
    else bif decide ((ix : Int) > 0) then (
      (idx x (IntKind.i64.wrap ((ix : Int) - 1))).bind fun e3 =>
      bif decide (el ≤ e3) then some false
      else K ())
    else K () : Option (Bool)))
    (fun (_ : Unit) =>
    ((D16 l1 chosen1).bind fun r5 =>
    bif decide (r5 < flow1) then some true
    else (D18 l1 chosen1).bind fun r6 =>
    some (decide (r6 ≥ n)) : Option (Bool))) 0 x () := by
  refine iter_forI_from x (fun ix (_ : Unit) => (l1, flow1, chosen1, x, n, (ix : Int))) _ _ ?_ ?_ (k := 0) (Nat.zero_le _) (len_lt_big hl) ()
  · rintro F k h _
    simp only [dec_lt h, condT, idx_get h, bindS, wrap_succ h hl]
  · rintro F _
    simp only [dec_end, condF]

theorem g6 (fuel : Nat) (l : List ((Int) × ((Int) × (Int)))) (flow : Int) (chosen : List (Int)) : (fnD tab env6 11 ann6 fuel Try.f6 [] ps6 rs6 true (l, flow, chosen) : Option (Bool)) = (
  (D10).bind fun r =>
  bif (!r) then some false
  else (D11 l).bind fun r1 =>
  bif (r1 != 0) then some true
  else bif decide ((List.length chosen : Int) > 60) then some true
  else (D13 l flow).bind fun r2 =>
  bif (r2.2.2 != 0) then (
    bif ((List.length r2.1 : Int) == 0) then (
      bif (r2.2.1 == 0) then (
        bif decide (flow < 0) then some true
        else (D16 l chosen).bind fun r3 =>
        some (decide (r3 < flow)))
      else some false)
    else some false)
  else bif decide (flow < 0) then some false
  else (D16 l r2.1).bind fun r3 =>
  bif decide (r3 < flow) then some false
  else (D18 l r2.1).bind fun r4 =>
  bif (r4 != r2.2.1) then some false
  else lp6_1 fuel l flow chosen r2.1 r2.2.1 0 : Option (Bool)) := by kernel_rfl
theorem e6 (l : List ((Int) × ((Int) × (Int)))) (flow : Int) (chosen : List (Int)) : D6 l flow chosen = (
  (D10).bind fun r =>
  bif (!r) then some false
  else (D11 l).bind fun r1 =>
  bif (r1 != 0) then some true
  else bif decide ((List.length chosen : Int) > 60) then some true
  else (D13 l flow).bind fun r2 =>
  bif (r2.2.2 != 0) then (
    bif ((List.length r2.1 : Int) == 0) then (
      bif (r2.2.1 == 0) then (
        bif decide (flow < 0) then some true
        else (D16 l chosen).bind fun r3 =>
        some (decide (r3 < flow)))
      else some false)
    else some false)
  else bif decide (flow < 0) then some false
  else (D16 l r2.1).bind fun r3 =>
  bif decide (r3 < flow) then some false
  else (D18 l r2.1).bind fun r4 =>
  bif (r4 != r2.2.1) then some false
  else lp6_1 big l flow chosen r2.1 r2.2.1 0 : Option (Bool)) := g6 big l flow chosen

/-! skiarea/skiarealaw41.PumpNeeded -/
noncomputable def D7 (a0 : List ((Int) × ((Int) × (Int)))) (a1 : Int) : Option (Bool) := d7 (a0, a1)
noncomputable def lp7_1 (fuel : Nat)  (l1₀ : List ((Int) × ((Int) × (Int)))) (flow1₀ : Int) (x₀ : List (Int)) (i₀ : Int) : Option (Bool) :=
  iter (fun F ((l1, flow1, x, i) : (List ((Int) × ((Int) × (Int)))) × Int × (List (Int)) × Int) =>
    bif decide (i < (List.length x : Int)) then (
      bif (decide (0 ≤ (0 : Int)) && (decide ((0 : Int) ≤ i) && decide ((i : Int) ≤ (List.length x : Int)))) then (
        bif (Nat.ble ((List.length ([] : List (Int)) + List.length (List.drop (Int.toNat 0) (List.take (Int.toNat i) x))) * 8) appendLimit && Nat.ble (List.length ([] : List (Int)) + List.length (List.drop (Int.toNat 0) (List.take (Int.toNat i) x))) 9223372036854775807) then (
          bif (decide (0 ≤ (IntKind.i64.wrap (i + 1) : Int)) && (decide ((IntKind.i64.wrap (i + 1) : Int) ≤ (List.length x : Int)) && decide (((List.length x : Int) : Int) ≤ (List.length x : Int)))) then (
            bif (Nat.ble ((List.length (([] : List (Int)) ++ (List.drop (Int.toNat 0) (List.take (Int.toNat i) x))) + List.length (List.drop (Int.toNat (IntKind.i64.wrap (i + 1))) (List.take (Int.toNat (List.length x : Int)) x))) * 8) appendLimit && Nat.ble (List.length (([] : List (Int)) ++ (List.drop (Int.toNat 0) (List.take (Int.toNat i) x))) + List.length (List.drop (Int.toNat (IntKind.i64.wrap (i + 1))) (List.take (Int.toNat (List.length x : Int)) x))) 9223372036854775807) then (
              (D16 l1 ((([] : List (Int)) ++ (List.drop (Int.toNat 0) (List.take (Int.toNat i) x))) ++ (List.drop (Int.toNat (IntKind.i64.wrap (i + 1))) (List.take (Int.toNat (List.length x : Int)) x)))).bind fun r3 =>
              bif decide (r3 ≥ flow1) then some false
              else F (l1, flow1, x, IntKind.i64.wrap (i + 1)))
            else none)
          else none)
        else none)
      else none)
    else some true) fuel (l1₀, flow1₀, x₀, i₀)

theorem f7_1  (l1 : List ((Int) × ((Int) × (Int)))) (flow1 : Int) (x : List (Int)) (hl : (x).length ≤ maxLen) : lp7_1 big l1 flow1 x 0 =
  forI (fun ix _ (_ : Unit) K =>
    (bif (decide (0 ≤ (0 : Int)) && (decide ((0 : Int) ≤ (ix : Int)) && decide (((ix : Int) : Int) ≤ (List.length x : Int)))) then (
      bif (Nat.ble ((List.length ([] : List (Int)) + List.length (List.drop (Int.toNat 0) (List.take (Int.toNat (ix : Int)) x))) * 8) appendLimit && Nat.ble (List.length ([] : List (Int)) + List.length (List.drop (Int.toNat 0) (List.take (Int.toNat (ix : Int)) x))) 9223372036854775807) then (
        bif (decide (0 ≤ (IntKind.i64.wrap ((ix : Int) + 1) : Int)) && (decide ((IntKind.i64.wrap ((ix : Int) + 1) : Int) ≤ (List.length x : Int)) && decide (((List.length x : Int) : Int) ≤ (List.length x : Int)))) then (
          bif (Nat.ble ((List.length (([] : List (Int)) ++ (List.drop (Int.toNat 0) (List.take (Int.toNat (ix : Int)) x))) + List.length (List.drop (Int.toNat (IntKind.i64.wrap ((ix : Int) + 1))) (List.take (Int.toNat (List.length x : Int)) x))) * 8) appendLimit && Nat.ble (List.length (([] : List (Int)) ++ (List.drop (Int.toNat 0) (List.take (Int.toNat (ix : Int)) x))) + List.length (List.drop (Int.toNat (IntKind.i64.wrap ((ix : Int) + 1))) (List.take (Int.toNat (List.length x : Int)) x))) 9223372036854775807) then (
            (D16 l1 ((([] : List (Int)) ++ (List.drop (Int.toNat 0) (List.take (Int.toNat (ix : Int)) x))) ++ (List.drop (Int.toNat (IntKind.i64.wrap ((ix : Int) + 1))) (List.take (Int.toNat (List.length x : Int)) x)))).bind fun r3 =>
            bif decide (r3 ≥ flow1) then some false
            else K ())
          else none)
        else none)
      else none)
    else none : Option (Bool)))
    (fun (_ : Unit) =>
    (some true : Option (Bool))) 0 x () := by
  refine iter_forI_from x (fun ix (_ : Unit) => (l1, flow1, x, (ix : Int))) _ _ ?_ ?_ (k := 0) (Nat.zero_le _) (len_lt_big hl) ()
  · rintro F k h _
    simp only [dec_lt h, condT, wrap_succ h hl]
  · rintro F _
    simp only [dec_end, condF]

theorem g7 (fuel : Nat) (l : List ((Int) × ((Int) × (Int)))) (flow : Int) : (fnD tab env7 10 ann7 fuel Try.f7 [] ps7 rs7 true (l, flow) : Option (Bool)) = (
  (D10).bind fun r =>
  bif (!r) then some false
  else (D11 l).bind fun r1 =>
  bif (r1 != 0) then some true
  else (D13 l flow).bind fun r2 =>
  bif (r2.2.2 != 0) then some ((List.length r2.1 : Int) == 0)
  else lp7_1 fuel l flow r2.1 0 : Option (Bool)) := by kernel_rfl
theorem e7 (l : List ((Int) × ((Int) × (Int)))) (flow : Int) : D7 l flow = (
  (D10).bind fun r =>
  bif (!r) then some false
  else (D11 l).bind fun r1 =>
  bif (r1 != 0) then some true
  else (D13 l flow).bind fun r2 =>
  bif (r2.2.2 != 0) then some ((List.length r2.1 : Int) == 0)
  else lp7_1 big l flow r2.1 0 : Option (Bool)) := g7 big l flow

/-! skiarea/skiarealaw41.PumpMore -/
noncomputable def D8 (a0 : List ((Int) × ((Int) × (Int)))) (a1 : Int) (a2 : Int) : Option (Bool) := d8 (a0, a1, a2)
theorem e8 (l : List ((Int) × ((Int) × (Int)))) (flow : Int) (more : Int) : D8 l flow more = (
  (D10).bind fun r =>
  bif (!r) then some false
  else (D11 l).bind fun r1 =>
  bif (r1 != 0) then some true
  else bif decide (flow > more) then some true
  else (D13 l flow).bind fun r2 =>
  (D13 l more).bind fun r3 =>
  bif (r3.2.2 != 0) then some (r3.2.1 == 0)
  else bif decide (flow < 0) then some true
  else bif (r2.2.2 == 0) then some (decide (r2.2.1 ≤ r3.2.1))
  else some false : Option (Bool)) := by kernel_rfl

/-! skiarea/skiarealaw41.PumpAdds -/
noncomputable def D9 (a0 : List ((Int) × ((Int) × (Int)))) (a1 : (Int) × ((Int) × (Int))) (a2 : Int) : Option (Bool) := d9 (a0, a1, a2)
theorem e9 (l : List ((Int) × ((Int) × (Int)))) (x : (Int) × ((Int) × (Int))) (flow : Int) : D9 l x flow = (
  (D10).bind fun r =>
  bif (!r) then some false
  else bif (Nat.ble ((List.length ([] : List ((Int) × ((Int) × (Int)))) + List.length l) * 24) appendLimit && Nat.ble (List.length ([] : List ((Int) × ((Int) × (Int)))) + List.length l) 9223372036854775807) then (
    bif (Nat.ble ((List.length (([] : List ((Int) × ((Int) × (Int)))) ++ l) + List.length [x]) * 24) appendLimit && Nat.ble (List.length (([] : List ((Int) × ((Int) × (Int)))) ++ l) + List.length [x]) 9223372036854775807) then (
      (D11 ((([] : List ((Int) × ((Int) × (Int)))) ++ l) ++ [x])).bind fun r1 =>
      bif (r1 != 0) then some true
      else (D13 l flow).bind fun r2 =>
      (D13 ((([] : List ((Int) × ((Int) × (Int)))) ++ l) ++ [x]) flow).bind fun r3 =>
      bif (r2.2.2 != 0) then some true
      else bif (r3.2.2 == 0) then some (decide (r3.2.1 ≤ r2.2.1))
      else some false)
    else none)
  else none : Option (Bool)) := by kernel_rfl

end Go.Proofs.Ytpgfogmbcfminaa.D
