import Derived.Test.YtbldhkgfeolhnaaT19
open Go Go.GD Go.Proofs
namespace Go.Proofs.Ytbldhkgfeolhnaa.D
/-! slices.Index[[]int,int] -/
noncomputable def D37 (a0 : List (Int)) (a1 : Int) : Option (Int) := d37 (a0, a1)
noncomputable def lp37_1 (fuel : Nat)  (s1₀ : List (Int)) (v1₀ : Int) (v2₀ : Int) (v3₀ : Int) : Option (Int) :=
  iter (fun F ((s1, v1, v2, v3) : (List (Int)) × Int × Int × Int) =>
    bif decide (v3 < v2) then (
      (idx s1 v3).bind fun e =>
      bif (v1 == e) then some v3
      else F (s1, v1, v2, IntKind.i64.wrap (v3 + 1)))
    else some (-1)) fuel (s1₀, v1₀, v2₀, v3₀)

theorem f37_1  (s1 : List (Int)) (v1 : Int) (hl : (s1).length ≤ maxLen) : lp37_1 big s1 v1 (List.length s1 : Int) 0 =
  forI (fun ix el (_ : Unit) K =>
    (bif (v1 == el) then some (ix : Int)
    else K () : Option (Int)))
    (fun (_ : Unit) =>
    (some (-1) : Option (Int))) 0 s1 () := by
  refine iter_forI_from s1 (fun ix (_ : Unit) => (s1, v1, (List.length s1 : Int), (ix : Int))) _ _ ?_ ?_ (k := 0) (Nat.zero_le _) (len_lt_big hl) ()
  · rintro F k h _
    simp only [dec_lt h, condT, idx_get h, bindS, wrap_succ h hl]
  · rintro F _
    simp only [dec_end, condF]

theorem g37 (fuel : Nat) (s : List (Int)) (v : Int) : (fnD tab env37 6 ann37 fuel Try.f37 [] ps37 rs37 true (s, v) : Option (Int)) = (
  lp37_1 fuel s v (List.length s : Int) 0 : Option (Int)) := by kernel_rfl
theorem e37 (s : List (Int)) (v : Int) : D37 s v = (
  lp37_1 big s v (List.length s : Int) 0 : Option (Int)) := g37 big s v

/-! slices.Contains[[]int,int] -/
noncomputable def D28 (a0 : List (Int)) (a1 : Int) : Option (Bool) := d28 (a0, a1)
theorem e28 (s : List (Int)) (v : Int) : D28 s v = (
  (D37 s v).bind fun r =>
  some (decide (r ≥ 0)) : Option (Bool)) := by kernel_rfl

/-! skiarea/inspect.Right -/
noncomputable def D12 (a0 : (List (Int)) × ((Int) × (List ((Int) × ((Int) × (Int)))))) : Option (Int) := d12 a0
noncomputable def lp12_1 (fuel : Nat)  (l2₀ : (List (Int)) × ((Int) × (List ((Int) × ((Int) × (Int)))))) (v3₀ : List ((Int) × ((Int) × (Int)))) (v4₀ : Int) (v5₀ : Int) : Option (Int) :=
  iter (fun F1 ((l2, v3, v4, v5) : ((List (Int)) × ((Int) × (List ((Int) × ((Int) × (Int)))))) × (List ((Int) × ((Int) × (Int)))) × Int × Int) =>
    bif decide (v5 < v4) then (
      (idx v3 v5).bind fun e =>
      (D28 l2.1 e.1).bind fun r =>
      bif (!r) then some 8
      else bif decide (e.2.1 < 1) then some 17
      else bif decide (e.2.1 > 9999) then some 17
      else bif decide (e.2.2 < 0) then some 2
      else bif decide (e.2.2 > 20000000) then some 2
      else bif decide (v5 > 0) then (
        (idx l2.2.2 (IntKind.i64.wrap (v5 - 1))).bind fun e1 =>
        bif decide (e.2.2 < e1.2.2) then some 11
        else F1 (l2, v3, v4, IntKind.i64.wrap (v5 + 1)))
      else F1 (l2, v3, v4, IntKind.i64.wrap (v5 + 1)))
    else some 0) fuel (l2₀, v3₀, v4₀, v5₀)

theorem f12_1  (l2 : (List (Int)) × ((Int) × (List ((Int) × ((Int) × (Int)))))) (v3 : List ((Int) × ((Int) × (Int)))) (hl : (v3).length ≤ maxLen) : lp12_1 big l2 v3 (List.length v3 : Int) 0 =
  forI (fun ix el (_ : Unit) K =>
    ((D28 l2.1 el.1).bind fun r =>
    bif (!r) then some 8
    else bif decide (el.2.1 < 1) then some 17
    else bif decide (el.2.1 > 9999) then some 17
    else bif decide (el.2.2 < 0) then some 2
    else bif decide (el.2.2 > 20000000) then some 2
    else bif decide ((ix : Int) > 0) then (
      (idx l2.2.2 (IntKind.i64.wrap ((ix : Int) - 1))).bind fun e1 =>
      bif decide (el.2.2 < e1.2.2) then some 11
      else K ())
    else K () : Option (Int)))
    (fun (_ : Unit) =>
    (some 0 : Option (Int))) 0 v3 () := by
  refine iter_forI_from v3 (fun ix (_ : Unit) => (l2, v3, (List.length v3 : Int), (ix : Int))) _ _ ?_ ?_ (k := 0) (Nat.zero_le _) (len_lt_big hl) ()
  · rintro F k h _
    simp only [dec_lt h, condT, idx_get h, bindS, wrap_succ h hl]
  · rintro F _
    simp only [dec_end, condF]

noncomputable def lp12_3 (fuel : Nat)  (l1₀ : (List (Int)) × ((Int) × (List ((Int) × ((Int) × (Int)))))) (v₀ : List (Int)) (v1₀ : Int) (v2₀ : Int) : Option (Int) :=
  iter (fun F ((l1, v, v1, v2) : ((List (Int)) × ((Int) × (List ((Int) × ((Int) × (Int)))))) × (List (Int)) × Int × Int) =>
    bif decide (v2 < v1) then (
      (idx v v2).bind fun e =>
      bif decide (e < 1) then some 2
      else bif decide (e > 9999) then some 2
      else bif (decide (0 ≤ (0 : Int)) && (decide ((0 : Int) ≤ v2) && decide ((v2 : Int) ≤ (List.length l1.1 : Int)))) then (
        (D28 (List.drop (Int.toNat 0) (List.take (Int.toNat v2) l1.1)) e).bind fun r =>
        bif r then some 7
        else F (l1, v, v1, IntKind.i64.wrap (v2 + 1)))
      else none)
    else lp12_1 fuel l1 l1.2.2 (List.length l1.2.2 : Int) 0) fuel (l1₀, v₀, v1₀, v2₀)

theorem f12_3  (l1 : (List (Int)) × ((Int) × (List ((Int) × ((Int) × (Int)))))) (v : List (Int)) (hl : (v).length ≤ maxLen) : lp12_3 big l1 v (List.length v : Int) 0 =
  forI (fun ix el (_ : Unit) K =>
    (bif decide (el < 1) then some 2
    else bif decide (el > 9999) then some 2
    else bif (decide (0 ≤ (0 : Int)) && (decide ((0 : Int) ≤ (ix : Int)) && decide (((ix : Int) : Int) ≤ (List.length l1.1 : Int)))) then (
      (D28 (List.drop (Int.toNat 0) (List.take (Int.toNat (ix : Int)) l1.1)) el).bind fun r =>
      bif r then some 7
      else K ())
    else none : Option (Int)))
    (fun (_ : Unit) =>
    (lp12_1 big l1 l1.2.2 (List.length l1.2.2 : Int) 0 : Option (Int))) 0 v () := by
  refine iter_forI_from v (fun ix (_ : Unit) => (l1, v, (List.length v : Int), (ix : Int))) _ _ ?_ ?_ (k := 0) (Nat.zero_le _) (len_lt_big hl) ()
  · rintro F k h _
    simp only [dec_lt h, condT, idx_get h, bindS, wrap_succ h hl]
  · rintro F _
    simp only [dec_end, condF]

theorem g12 (fuel : Nat) (l : (List (Int)) × ((Int) × (List ((Int) × ((Int) × (Int)))))) : (fnD tab env12 7 ann12 fuel Try.f12 [] ps12 rs12 true l : Option (Int)) = (
  bif decide ((List.length l.1 : Int) > 64) then some 4
  else bif decide ((List.length l.2.2 : Int) > 200) then some 4
  else bif decide (l.2.1 < 1) then some 2
  else bif decide (l.2.1 > 604800) then some 2
  else lp12_3 fuel l l.1 (List.length l.1 : Int) 0 : Option (Int)) := by kernel_rfl
theorem e12 (l : (List (Int)) × ((Int) × (List ((Int) × ((Int) × (Int)))))) : D12 l = (
  bif decide ((List.length l.1 : Int) > 64) then some 4
  else bif decide ((List.length l.2.2 : Int) > 200) then some 4
  else bif decide (l.2.1 < 1) then some 2
  else bif decide (l.2.1 > 604800) then some 2
  else lp12_3 big l l.1 (List.length l.1 : Int) 0 : Option (Int)) := g12 big l

noncomputable def D31 (a0 : List (Int)) : Option (List (Int)) := d31 a0
theorem e31 (s : List (Int)) : D31 s = (bif (Nat.ble ((List.length ([] : List (Int)) + List.length s) * 8) appendLimit && Nat.ble (List.length ([] : List (Int)) + List.length s) 9223372036854775807) then some (([] : List (Int)) ++ s) else none) := rfl

/-! skiarea/inspect.Sign -/
noncomputable def D14 (a0 : (List (Int)) × ((Int) × (List ((Int) × ((Int) × (Int)))))) (a1 : Int) (a2 : Int) (a3 : Int) : Option (((List (Int)) × ((Int) × (List ((Int) × ((Int) × (Int)))))) × (Int)) := d14 (a0, a1, a2, a3)
noncomputable def lp14_1 (fuel : Nat)  (item1₀ : Int) (by_1₀ : Int) (t1₀ : Int) (v₀ : (List (Int)) × ((Int) × (List ((Int) × ((Int) × (Int)))))) (out₀ : (List (Int)) × ((Int) × (List ((Int) × ((Int) × (Int)))))) (v1₀ : List ((Int) × ((Int) × (Int)))) (v2₀ : Int) (v3₀ : Int) : Option (((List (Int)) × ((Int) × (List ((Int) × ((Int) × (Int)))))) × (Int)) :=
  iter (fun F ((item1, by_1, t1, v, out, v1, v2, v3) : Int × Int × Int × ((List (Int)) × ((Int) × (List ((Int) × ((Int) × (Int)))))) × ((List (Int)) × ((Int) × (List ((Int) × ((Int) × (Int)))))) × (List ((Int) × ((Int) × (Int)))) × Int × Int) =>
    bif decide (v3 < v2) then (
      (idx v1 v3).bind fun e =>
      bif (e.1 != item1) then (
        bif (Nat.ble ((List.length out.2.2 + List.length [e]) * 24) appendLimit && Nat.ble (List.length out.2.2 + List.length [e]) 9223372036854775807) then F (item1, by_1, t1, v, (out.1, out.2.1, out.2.2 ++ [e]), v1, v2, IntKind.i64.wrap (v3 + 1))
        else none)
      else F (item1, by_1, t1, v, out, v1, v2, IntKind.i64.wrap (v3 + 1)))
    else bif (Nat.ble ((List.length out.2.2 + List.length [(item1, by_1, t1)]) * 24) appendLimit && Nat.ble (List.length out.2.2 + List.length [(item1, by_1, t1)]) 9223372036854775807) then (
      (D12 (out.1, out.2.1, out.2.2 ++ [(item1, by_1, t1)])).bind fun r1 =>
      bif (r1 != 0) then some ((([] : List (Int)), 0, ([] : List ((Int) × ((Int) × (Int))))), r1)
      else some ((out.1, out.2.1, out.2.2 ++ [(item1, by_1, t1)]), 0))
    else none) fuel (item1₀, by_1₀, t1₀, v₀, out₀, v1₀, v2₀, v3₀)

theorem f14_1  (item1 : Int) (by_1 : Int) (t1 : Int) (v : (List (Int)) × ((Int) × (List ((Int) × ((Int) × (Int)))))) (out : (List (Int)) × ((Int) × (List ((Int) × ((Int) × (Int)))))) (v1 : List ((Int) × ((Int) × (Int)))) (hl : (v1).length ≤ maxLen) : lp14_1 big item1 by_1 t1 v out v1 (List.length v1 : Int) 0 =
  forE (fun  el (out : ((List (Int)) × ((Int) × (List ((Int) × ((Int) × (Int))))))) K =>
    (bif (el.1 != item1) then (
      bif (Nat.ble ((List.length out.2.2 + List.length [el]) * 24) appendLimit && Nat.ble (List.length out.2.2 + List.length [el]) 9223372036854775807) then K (out.1, out.2.1, out.2.2 ++ [el])
      else none)
    else K out : Option (((List (Int)) × ((Int) × (List ((Int) × ((Int) × (Int)))))) × (Int))))
    (fun (out : ((List (Int)) × ((Int) × (List ((Int) × ((Int) × (Int))))))) =>
    (bif (Nat.ble ((List.length out.2.2 + List.length [(item1, by_1, t1)]) * 24) appendLimit && Nat.ble (List.length out.2.2 + List.length [(item1, by_1, t1)]) 9223372036854775807) then (
      (D12 (out.1, out.2.1, out.2.2 ++ [(item1, by_1, t1)])).bind fun r1 =>
      bif (r1 != 0) then some ((([] : List (Int)), 0, ([] : List ((Int) × ((Int) × (Int))))), r1)
      else some ((out.1, out.2.1, out.2.2 ++ [(item1, by_1, t1)]), 0))
    else none : Option (((List (Int)) × ((Int) × (List ((Int) × ((Int) × (Int)))))) × (Int)))) v1 out := by
  refine iter_forE v1 (fun ix (out : ((List (Int)) × ((Int) × (List ((Int) × ((Int) × (Int))))))) => (item1, by_1, t1, v, out, v1, (List.length v1 : Int), (ix : Int))) _ _ ?_ ?_ (len_lt_big hl) out
  · rintro F k h out
    simp only [dec_lt h, condT, idx_get h, bindS, wrap_succ h hl]
  · rintro F out
    simp only [dec_end, condF]

theorem g14 (fuel : Nat) (l : (List (Int)) × ((Int) × (List ((Int) × ((Int) × (Int)))))) (item : Int) (by_ : Int) (t : Int) : (fnD tab env14 14 ann14 fuel Try.f14 [] ps14 rs14 true (l, item, by_, t) : Option (((List (Int)) × ((Int) × (List ((Int) × ((Int) × (Int)))))) × (Int))) = (
  (D31 l.1).bind fun r =>
  lp14_1 fuel item by_ t (([] : List (Int)), 0, ([] : List ((Int) × ((Int) × (Int))))) (r, l.2.1, ([] : List ((Int) × ((Int) × (Int))))) l.2.2 (List.length l.2.2 : Int) 0 : Option (((List (Int)) × ((Int) × (List ((Int) × ((Int) × (Int)))))) × (Int))) := by kernel_rfl
theorem e14 (l : (List (Int)) × ((Int) × (List ((Int) × ((Int) × (Int)))))) (item : Int) (by_ : Int) (t : Int) : D14 l item by_ t = (
  (D31 l.1).bind fun r =>
  lp14_1 big item by_ t (([] : List (Int)), 0, ([] : List ((Int) × ((Int) × (Int))))) (r, l.2.1, ([] : List ((Int) × ((Int) × (Int))))) l.2.2 (List.length l.2.2 : Int) 0 : Option (((List (Int)) × ((Int) × (List ((Int) × ((Int) × (Int)))))) × (Int))) := g14 big l item by_ t

/-! skiarea/skiarearef19.SameInts -/
noncomputable def D19 (a0 : List (Int)) (a1 : List (Int)) : Option (Bool) := d19 (a0, a1)
noncomputable def lp19_1 (fuel : Nat)  (a1₀ : List (Int)) (b1₀ : List (Int)) (i₀ : Int) : Option (Bool) :=
  iter (fun F ((a1, b1, i) : (List (Int)) × (List (Int)) × Int) =>
    bif decide (i < (List.length a1 : Int)) then (
      (idx a1 i).bind fun e =>
      (idx b1 i).bind fun e1 =>
      bif (e != e1) then some false
      else F (a1, b1, IntKind.i64.wrap (i + 1)))
    else some true) fuel (a1₀, b1₀, i₀)

theorem f19_1  (a1 : List (Int)) (b1 : List (Int)) (hl : (a1).length ≤ maxLen) : lp19_1 big a1 b1 0 =
  forI (fun ix el (_ : Unit) K =>
    ((idx b1 (ix : Int)).bind fun e1 =>
    bif (el != e1) then some false
    else K () : Option (Bool)))
    (fun (_ : Unit) =>
    (some true : Option (Bool))) 0 a1 () := by
  refine iter_forI_from a1 (fun ix (_ : Unit) => (a1, b1, (ix : Int))) _ _ ?_ ?_ (k := 0) (Nat.zero_le _) (len_lt_big hl) ()
  · rintro F k h _
    simp only [dec_lt h, condT, idx_get h, bindS, wrap_succ h hl]
  · rintro F _
    simp only [dec_end, condF]

theorem g19 (fuel : Nat) (a : List (Int)) (b : List (Int)) : (fnD tab env19 6 ann19 fuel Try.f19 [] ps19 rs19 true (a, b) : Option (Bool)) = (
  bif ((List.length a : Int) != (List.length b : Int)) then some false
  else lp19_1 fuel a b 0 : Option (Bool)) := by kernel_rfl
theorem e19 (a : List (Int)) (b : List (Int)) : D19 a b = (
  bif ((List.length a : Int) != (List.length b : Int)) then some false
  else lp19_1 big a b 0 : Option (Bool)) := g19 big a b

/-! skiarea/skiarearef19.Same -/
noncomputable def D16 (a0 : (List (Int)) × ((Int) × (List ((Int) × ((Int) × (Int)))))) (a1 : (List (Int)) × ((Int) × (List ((Int) × ((Int) × (Int)))))) : Option (Bool) := d16 (a0, a1)
noncomputable def lp16_1 (fuel : Nat)  (a1₀ : (List (Int)) × ((Int) × (List ((Int) × ((Int) × (Int)))))) (b1₀ : (List (Int)) × ((Int) × (List ((Int) × ((Int) × (Int)))))) (i₀ : Int) : Option (Bool) :=
  iter (fun F ((a1, b1, i) : ((List (Int)) × ((Int) × (List ((Int) × ((Int) × (Int)))))) × ((List (Int)) × ((Int) × (List ((Int) × ((Int) × (Int)))))) × Int) =>
    bif decide (i < (List.length a1.2.2 : Int)) then (
      (idx a1.2.2 i).bind fun e =>
      (idx b1.2.2 i).bind fun e1 =>
      bif (!((e.1 == e1.1) && ((e.2.1 == e1.2.1) && (e.2.2 == e1.2.2)))) then some false
      else F (a1, b1, IntKind.i64.wrap (i + 1)))
    else some true) fuel (a1₀, b1₀, i₀)

theorem f16_1  (a1 : (List (Int)) × ((Int) × (List ((Int) × ((Int) × (Int)))))) (b1 : (List (Int)) × ((Int) × (List ((Int) × ((Int) × (Int)))))) (hl : (a1.2.2).length ≤ maxLen) : lp16_1 big a1 b1 0 =
  forI (fun ix el (_ : Unit) K =>
    ((idx b1.2.2 (ix : Int)).bind fun e1 =>
    bif (!((el.1 == e1.1) && ((el.2.1 == e1.2.1) && (el.2.2 == e1.2.2)))) then some false
    else K () : Option (Bool)))
    (fun (_ : Unit) =>
    (some true : Option (Bool))) 0 a1.2.2 () := by
  refine iter_forI_from a1.2.2 (fun ix (_ : Unit) => (a1, b1, (ix : Int))) _ _ ?_ ?_ (k := 0) (Nat.zero_le _) (len_lt_big hl) ()
  · rintro F k h _
    simp only [dec_lt h, condT, idx_get h, bindS, wrap_succ h hl]
  · rintro F _
    simp only [dec_end, condF]

theorem g16 (fuel : Nat) (a : (List (Int)) × ((Int) × (List ((Int) × ((Int) × (Int)))))) (b : (List (Int)) × ((Int) × (List ((Int) × ((Int) × (Int)))))) : (fnD tab env16 6 ann16 fuel Try.f16 [] ps16 rs16 true (a, b) : Option (Bool)) = (
  bif (a.2.1 != b.2.1) then some false
  else bif ((List.length a.2.2 : Int) != (List.length b.2.2 : Int)) then some false
  else (D19 a.1 b.1).bind fun r =>
  bif (!r) then some false
  else lp16_1 fuel a b 0 : Option (Bool)) := by kernel_rfl
theorem e16 (a : (List (Int)) × ((Int) × (List ((Int) × ((Int) × (Int)))))) (b : (List (Int)) × ((Int) × (List ((Int) × ((Int) × (Int)))))) : D16 a b = (
  bif (a.2.1 != b.2.1) then some false
  else bif ((List.length a.2.2 : Int) != (List.length b.2.2 : Int)) then some false
  else (D19 a.1 b.1).bind fun r =>
  bif (!r) then some false
  else lp16_1 big a b 0 : Option (Bool)) := g16 big a b

noncomputable def D17 (a0 : (List (Int)) × ((Int) × (List ((Int) × ((Int) × (Int)))))) (a1 : Int) (a2 : Int) : Option (((Int) × ((Int) × (Int))) × (Bool)) := d17 (a0, a1, a2)

/-! skiarea/inspect.Open$1 -/
noncomputable def D33 (a0 : (Int) × ((Int) × (Int))) (a1 : Int) (a2 : Int) (a3 : (List (Int)) × ((Int) × (List ((Int) × ((Int) × (Int)))))) : Option (Bool) := d33 (a0, a1, a2, a3)
theorem e33 (g : (Int) × ((Int) × (Int))) (v : Int) (v1 : Int) (v2 : (List (Int)) × ((Int) × (List ((Int) × ((Int) × (Int)))))) : D33 g v v1 v2 = (
  bif (g.1 == v) then (
    bif decide (g.2.2 ≤ v1) then some (decide (v1 < IntKind.i64.wrap (g.2.2 + v2.2.1)))
    else some false)
  else some false : Option (Bool)) := by kernel_rfl

/-! slices.IndexFunc[[]skiarea/api.Sign,skiarea/api.Sign] -/
noncomputable def D39 (a0 : List ((Int) × ((Int) × (Int)))) (a1 : ((Int) × ((Int) × (Int))) → Option (Bool)) : Option (Int) := d39 (a0, a1)
noncomputable def lp39_1 (fuel : Nat)  (s1₀ : List ((Int) × ((Int) × (Int)))) (f1₀ : ((Int) × ((Int) × (Int))) → Option (Bool)) (v₀ : Int) (v1₀ : Int) : Option (Int) :=
  iter (fun F ((s1, f1, v, v1) : (List ((Int) × ((Int) × (Int)))) × (((Int) × ((Int) × (Int))) → Option (Bool)) × Int × Int) =>
    bif decide (v1 < v) then (
      (idx s1 v1).bind fun e =>
      (f1 e).bind fun r =>
      bif r then some v1
      else F (s1, f1, v, IntKind.i64.wrap (v1 + 1)))
    else some (-1)) fuel (s1₀, f1₀, v₀, v1₀)

theorem f39_1  (s1 : List ((Int) × ((Int) × (Int)))) (f1 : ((Int) × ((Int) × (Int))) → Option (Bool)) (hl : (s1).length ≤ maxLen) : lp39_1 big s1 f1 (List.length s1 : Int) 0 =
  forI (fun ix el (_ : Unit) K =>
    ((f1 el).bind fun r =>
    bif r then some (ix : Int)
    else K () : Option (Int)))
    (fun (_ : Unit) =>
    (some (-1) : Option (Int))) 0 s1 () := by
  refine iter_forI_from s1 (fun ix (_ : Unit) => (s1, f1, (List.length s1 : Int), (ix : Int))) _ _ ?_ ?_ (k := 0) (Nat.zero_le _) (len_lt_big hl) ()
  · rintro F k h _
    simp only [dec_lt h, condT, idx_get h, bindS, wrap_succ h hl]
  · rintro F _
    simp only [dec_end, condF]

theorem g39 (fuel : Nat) (s : List ((Int) × ((Int) × (Int)))) (f : ((Int) × ((Int) × (Int))) → Option (Bool)) : (fnD tab env39 6 ann39 fuel Try.f39 [] ps39 rs39 true (s, f) : Option (Int)) = (
  lp39_1 fuel s f (List.length s : Int) 0 : Option (Int)) := by kernel_rfl
theorem e39 (s : List ((Int) × ((Int) × (Int)))) (f : ((Int) × ((Int) × (Int))) → Option (Bool)) : D39 s f = (
  lp39_1 big s f (List.length s : Int) 0 : Option (Int)) := g39 big s f

/-! slices.ContainsFunc[[]skiarea/api.Sign,skiarea/api.Sign] -/
noncomputable def D34 (a0 : List ((Int) × ((Int) × (Int)))) (a1 : ((Int) × ((Int) × (Int))) → Option (Bool)) : Option (Bool) := d34 (a0, a1)
theorem e34 (s : List ((Int) × ((Int) × (Int)))) (f : ((Int) × ((Int) × (Int))) → Option (Bool)) : D34 s f = (
  (D39 s f).bind fun r =>
  some (decide (r ≥ 0)) : Option (Bool)) := by kernel_rfl

/-! skiarea/inspect.Open -/
noncomputable def D20 (a0 : (List (Int)) × ((Int) × (List ((Int) × ((Int) × (Int)))))) (a1 : Int) : Option (List (Int)) := d20 (a0, a1)
noncomputable def lp20_1 (fuel : Nat)  (l1₀ : (List (Int)) × ((Int) × (List ((Int) × ((Int) × (Int)))))) (t1₀ : Int) (out₀ : List (Int)) (v₀ : List (Int)) (v1₀ : Int) (v2₀ : Int) : Option (List (Int)) :=
  iter (fun F ((l1, t1, out, v, v1, v2) : ((List (Int)) × ((Int) × (List ((Int) × ((Int) × (Int)))))) × Int × (List (Int)) × (List (Int)) × Int × Int) =>
    bif decide (v2 < v1) then (
      (idx v v2).bind fun e =>
      (D34 l1.2.2 (fun y => D33 y e t1 l1)).bind fun r =>
      bif (!r) then (
        bif (Nat.ble ((List.length out + List.length [e]) * 8) appendLimit && Nat.ble (List.length out + List.length [e]) 9223372036854775807) then F (l1, t1, out ++ [e], v, v1, IntKind.i64.wrap (v2 + 1))
        else none)
      else F (l1, t1, out, v, v1, IntKind.i64.wrap (v2 + 1)))
    else some out) fuel (l1₀, t1₀, out₀, v₀, v1₀, v2₀)

theorem f20_1  (l1 : (List (Int)) × ((Int) × (List ((Int) × ((Int) × (Int)))))) (t1 : Int) (out : List (Int)) (v : List (Int)) (hl : (v).length ≤ maxLen) : lp20_1 big l1 t1 out v (List.length v : Int) 0 =
  forE (fun  el (out : (List (Int))) K =>
    ((D34 l1.2.2 (fun y => D33 y el t1 l1)).bind fun r =>
    bif (!r) then (
      bif (Nat.ble ((List.length out + List.length [el]) * 8) appendLimit && Nat.ble (List.length out + List.length [el]) 9223372036854775807) then K (out ++ [el])
      else none)
    else K out : Option (List (Int))))
    (fun (out : (List (Int))) =>
    (some out : Option (List (Int)))) v out := by
  refine iter_forE v (fun ix (out : (List (Int))) => (l1, t1, out, v, (List.length v : Int), (ix : Int))) _ _ ?_ ?_ (len_lt_big hl) out
  · rintro F k h out
    simp only [dec_lt h, condT, idx_get h, bindS, wrap_succ h hl]
  · rintro F out
    simp only [dec_end, condF]

theorem g20 (fuel : Nat) (l : (List (Int)) × ((Int) × (List ((Int) × ((Int) × (Int)))))) (t : Int) : (fnD tab env20 9 ann20 fuel Try.f20 [] ps20 rs20 true (l, t) : Option (List (Int))) = (
  lp20_1 fuel l t ([] : List (Int)) l.1 (List.length l.1 : Int) 0 : Option (List (Int))) := by kernel_rfl
theorem e20 (l : (List (Int)) × ((Int) × (List ((Int) × ((Int) × (Int)))))) (t : Int) : D20 l t = (
  lp20_1 big l t ([] : List (Int)) l.1 (List.length l.1 : Int) 0 : Option (List (Int))) := g20 big l t

/-! skiarea/inspect.Done -/
noncomputable def D22 (a0 : (List (Int)) × ((Int) × (List ((Int) × ((Int) × (Int)))))) (a1 : Int) : Option (Bool) := d22 (a0, a1)
theorem e22 (l : (List (Int)) × ((Int) × (List ((Int) × ((Int) × (Int)))))) (t : Int) : D22 l t = (
  (D20 l t).bind fun r =>
  some ((List.length r : Int) == 0) : Option (Bool)) := by kernel_rfl

/-! skiarea/inspect.ends -/
noncomputable def D36 (a0 : (List (Int)) × ((Int) × (List ((Int) × ((Int) × (Int)))))) (a1 : Int) (a2 : Int) : Option (Int) := d36 (a0, a1, a2)
noncomputable def lp36_1 (fuel : Nat)  (item1₀ : Int) (t1₀ : Int) (l1₀ : (List (Int)) × ((Int) × (List ((Int) × ((Int) × (Int)))))) (v₀ : List ((Int) × ((Int) × (Int)))) (v1₀ : Int) (v2₀ : Int) : Option (Int) :=
  iter (fun F ((item1, t1, l1, v, v1, v2) : Int × Int × ((List (Int)) × ((Int) × (List ((Int) × ((Int) × (Int)))))) × (List ((Int) × ((Int) × (Int)))) × Int × Int) =>
    bif decide (v2 < v1) then (
      (idx v v2).bind fun e =>
      bif (e.1 == item1) then (
        bif decide (e.2.2 ≤ t1) then (
          bif decide (t1 < IntKind.i64.wrap (e.2.2 + l1.2.1)) then F (item1, IntKind.i64.wrap (e.2.2 + l1.2.1), l1, v, v1, IntKind.i64.wrap (v2 + 1))
          else F (item1, t1, l1, v, v1, IntKind.i64.wrap (v2 + 1)))
        else F (item1, t1, l1, v, v1, IntKind.i64.wrap (v2 + 1)))
      else F (item1, t1, l1, v, v1, IntKind.i64.wrap (v2 + 1)))
    else some t1) fuel (item1₀, t1₀, l1₀, v₀, v1₀, v2₀)

theorem f36_1  (item1 : Int) (t1 : Int) (l1 : (List (Int)) × ((Int) × (List ((Int) × ((Int) × (Int)))))) (v : List ((Int) × ((Int) × (Int)))) (hl : (v).length ≤ maxLen) : lp36_1 big item1 t1 l1 v (List.length v : Int) 0 =
  forE (fun  el (t1 : Int) K =>
    (bif (el.1 == item1) then (
      bif decide (el.2.2 ≤ t1) then (
        bif decide (t1 < IntKind.i64.wrap (el.2.2 + l1.2.1)) then K (IntKind.i64.wrap (el.2.2 + l1.2.1))
        else K t1)
      else K t1)
    else K t1 : Option (Int)))
    (fun (t1 : Int) =>
    (some t1 : Option (Int))) v t1 := by
  refine iter_forE v (fun ix (t1 : Int) => (item1, t1, l1, v, (List.length v : Int), (ix : Int))) _ _ ?_ ?_ (len_lt_big hl) t1
  · rintro F k h t1
    simp only [dec_lt h, condT, idx_get h, bindS, wrap_succ h hl]
  · rintro F t1
    simp only [dec_end, condF]

theorem g36 (fuel : Nat) (l : (List (Int)) × ((Int) × (List ((Int) × ((Int) × (Int)))))) (item : Int) (t : Int) : (fnD tab env36 9 ann36 fuel Try.f36 [] ps36 rs36 true (l, item, t) : Option (Int)) = (
  lp36_1 fuel item t l l.2.2 (List.length l.2.2 : Int) 0 : Option (Int)) := by kernel_rfl
theorem e36 (l : (List (Int)) × ((Int) × (List ((Int) × ((Int) × (Int)))))) (item : Int) (t : Int) : D36 l item t = (
  lp36_1 big item t l l.2.2 (List.length l.2.2 : Int) 0 : Option (Int)) := g36 big l item t

/-! skiarea/inspect.Until -/
noncomputable def D24 (a0 : (List (Int)) × ((Int) × (List ((Int) × ((Int) × (Int)))))) (a1 : Int) : Option (Int) := d24 (a0, a1)
noncomputable def lp24_1 (fuel : Nat)  (t1₀ : Int) (l1₀ : (List (Int)) × ((Int) × (List ((Int) × ((Int) × (Int)))))) (end_₀ : Int) (v₀ : List (Int)) (v1₀ : Int) (v2₀ : Int) : Option (Int) :=
  iter (fun F ((t1, l1, end_, v, v1, v2) : Int × ((List (Int)) × ((Int) × (List ((Int) × ((Int) × (Int)))))) × Int × (List (Int)) × Int × Int) =>
    bif decide (v2 < v1) then (
      (idx v v2).bind fun e =>
      (D36 l1 e t1).bind fun r1 =>
      F (t1, l1, (bif decide ((r1 : Int) < end_) then r1 else end_), v, v1, IntKind.i64.wrap (v2 + 1)))
    else some end_) fuel (t1₀, l1₀, end_₀, v₀, v1₀, v2₀)

theorem f24_1  (t1 : Int) (l1 : (List (Int)) × ((Int) × (List ((Int) × ((Int) × (Int)))))) (end_ : Int) (v : List (Int)) (hl : (v).length ≤ maxLen) : lp24_1 big t1 l1 end_ v (List.length v : Int) 0 =
  forE (fun  el (end_ : Int) K =>
    ((D36 l1 el t1).bind fun r1 =>
    K (bif decide ((r1 : Int) < end_) then r1 else end_) : Option (Int)))
    (fun (end_ : Int) =>
    (some end_ : Option (Int))) v end_ := by
  refine iter_forE v (fun ix (end_ : Int) => (t1, l1, end_, v, (List.length v : Int), (ix : Int))) _ _ ?_ ?_ (len_lt_big hl) end_
  · rintro F k h end_
    simp only [dec_lt h, condT, idx_get h, bindS, wrap_succ h hl]
  · rintro F end_
    simp only [dec_end, condF]

theorem g24 (fuel : Nat) (l : (List (Int)) × ((Int) × (List ((Int) × ((Int) × (Int)))))) (t : Int) : (fnD tab env24 8 ann24 fuel Try.f24 [] ps24 rs24 true (l, t) : Option (Int)) = (
  (D22 l t).bind fun r =>
  bif (!r) then some t
  else lp24_1 fuel t l 20000000 l.1 (List.length l.1 : Int) 0 : Option (Int)) := by kernel_rfl
theorem e24 (l : (List (Int)) × ((Int) × (List ((Int) × ((Int) × (Int)))))) (t : Int) : D24 l t = (
  (D22 l t).bind fun r =>
  bif (!r) then some t
  else lp24_1 big t l 20000000 l.1 (List.length l.1 : Int) 0 : Option (Int)) := g24 big l t

/-! skiarea/skiarealaw19.two -/
noncomputable def D27  : Option ((List (Int)) × ((Int) × (List ((Int) × ((Int) × (Int)))))) := d27 ()
theorem e27  : D27 = (
  some ([1, 2], 100, [(1, 7, 10), (2, 7, 50)]) : Option ((List (Int)) × ((Int) × (List ((Int) × ((Int) × (Int))))))) := by kernel_rfl

noncomputable def D11  : Option (Bool) := d11 ()
theorem aliveD : D11 = some true := alive

/-! skiarea/skiarearef19.in -/
noncomputable def D29 (a0 : Int) (a1 : Int) (a2 : Int) : Option (Bool) := d29 (a0, a1, a2)
theorem e29 (n : Int) (lo : Int) (hi : Int) : D29 n lo hi = (
  bif decide (n ≥ lo) then some (decide (n ≤ hi))
  else some false : Option (Bool)) := by kernel_rfl

/-! skiarea/skiarearef19.Has -/
noncomputable def D30 (a0 : List (Int)) (a1 : Int) : Option (Bool) := d30 (a0, a1)
noncomputable def lp30_1 (fuel : Nat)  (l1₀ : List (Int)) (n1₀ : Int) (i₀ : Int) : Option (Bool) :=
  iter (fun F ((l1, n1, i) : (List (Int)) × Int × Int) =>
    bif decide (i < (List.length l1 : Int)) then (
      (idx l1 i).bind fun e =>
      bif (e == n1) then some true
      else F (l1, n1, IntKind.i64.wrap (i + 1)))
    else some false) fuel (l1₀, n1₀, i₀)

theorem f30_1  (l1 : List (Int)) (n1 : Int) (hl : (l1).length ≤ maxLen) : lp30_1 big l1 n1 0 =
  forE (fun  el (_ : Unit) K =>
    (bif (el == n1) then some true
    else K () : Option (Bool)))
    (fun (_ : Unit) =>
    (some false : Option (Bool))) l1 () := by
  refine iter_forE l1 (fun ix (_ : Unit) => (l1, n1, (ix : Int))) _ _ ?_ ?_ (len_lt_big hl) ()
  · rintro F k h _
    simp only [dec_lt h, condT, idx_get h, bindS, wrap_succ h hl]
  · rintro F _
    simp only [dec_end, condF]

theorem g30 (fuel : Nat) (l : List (Int)) (n : Int) : (fnD tab env30 6 ann30 fuel Try.f30 [] ps30 rs30 true (l, n) : Option (Bool)) = (
  lp30_1 fuel l n 0 : Option (Bool)) := by kernel_rfl
theorem e30 (l : List (Int)) (n : Int) : D30 l n = (
  lp30_1 big l n 0 : Option (Bool)) := g30 big l n

/-! skiarea/skiarearef19.Right -/
noncomputable def D13 (a0 : (List (Int)) × ((Int) × (List ((Int) × ((Int) × (Int)))))) : Option (Int) := d13 a0
noncomputable def lp13_1 (fuel : Nat)  (l2₀ : (List (Int)) × ((Int) × (List ((Int) × ((Int) × (Int)))))) (i1₀ : Int) : Option (Int) :=
  iter (fun F1 ((l2, i1) : ((List (Int)) × ((Int) × (List ((Int) × ((Int) × (Int)))))) × Int) =>
    bif decide (i1 < (List.length l2.2.2 : Int)) then (
      (idx l2.2.2 i1).bind fun e =>
      (D30 l2.1 e.1).bind fun r1 =>
      bif (!r1) then some 8
      else (D29 e.2.1 1 9999).bind fun r2 =>
      bif (!r2) then some 17
      else (D29 e.2.2 0 20000000).bind fun r3 =>
      bif (!r3) then some 2
      else bif decide (i1 > 0) then (
        (idx l2.2.2 (IntKind.i64.wrap (i1 - 1))).bind fun e1 =>
        bif decide (e.2.2 < e1.2.2) then some 11
        else F1 (l2, IntKind.i64.wrap (i1 + 1)))
      else F1 (l2, IntKind.i64.wrap (i1 + 1)))
    else some 0) fuel (l2₀, i1₀)

theorem f13_1  (l2 : (List (Int)) × ((Int) × (List ((Int) × ((Int) × (Int)))))) (hl : (l2.2.2).length ≤ maxLen) : lp13_1 big l2 0 =
  forI (fun ix el (_ : Unit) K =>
    ((D30 l2.1 el.1).bind fun r1 =>
    bif (!r1) then some 8
    else (D29 el.2.1 1 9999).bind fun r2 =>
    bif (!r2) then some 17
    else (D29 el.2.2 0 20000000).bind fun r3 =>
    bif (!r3) then some 2
    else bif decide ((ix : Int) > 0) then (
      (idx l2.2.2 (IntKind.i64.wrap ((ix : Int) - 1))).bind fun e1 =>
      bif decide (el.2.2 < e1.2.2) then some 11
      else K ())
    else K () : Option (Int)))
    (fun (_ : Unit) =>
    (some 0 : Option (Int))) 0 l2.2.2 () := by
  refine iter_forI_from l2.2.2 (fun ix (_ : Unit) => (l2, (ix : Int))) _ _ ?_ ?_ (k := 0) (Nat.zero_le _) (len_lt_big hl) ()
  · rintro F k h _
    simp only [dec_lt h, condT, idx_get h, bindS, wrap_succ h hl]
  · rintro F _
    simp only [dec_end, condF]

noncomputable def lp13_3 (fuel : Nat)  (l1₀ : (List (Int)) × ((Int) × (List ((Int) × ((Int) × (Int)))))) (i₀ : Int) : Option (Int) :=
  iter (fun F ((l1, i) : ((List (Int)) × ((Int) × (List ((Int) × ((Int) × (Int)))))) × Int) =>
    bif decide (i < (List.length l1.1 : Int)) then (
      (idx l1.1 i).bind fun e =>
      (D29 e 1 9999).bind fun r1 =>
      bif (!r1) then some 2
      else bif (decide (0 ≤ (0 : Int)) && (decide ((0 : Int) ≤ i) && decide ((i : Int) ≤ (List.length l1.1 : Int)))) then (
        (idx l1.1 i).bind fun e1 =>
        (D30 (List.drop (Int.toNat 0) (List.take (Int.toNat i) l1.1)) e1).bind fun r2 =>
        bif r2 then some 7
        else F (l1, IntKind.i64.wrap (i + 1)))
      else none)
    else lp13_1 fuel l1 0) fuel (l1₀, i₀)

theorem f13_3  (l1 : (List (Int)) × ((Int) × (List ((Int) × ((Int) × (Int)))))) (hl : (l1.1).length ≤ maxLen) : lp13_3 big l1 0 =
  forI (fun ix el (_ : Unit) K =>
    ((D29 el 1 9999).bind fun r1 =>
    bif (!r1) then some 2
    else bif (decide (0 ≤ (0 : Int)) && (decide ((0 : Int) ≤ (ix : Int)) && decide (((ix : Int) : Int) ≤ (List.length l1.1 : Int)))) then (
      (D30 (List.drop (Int.toNat 0) (List.take (Int.toNat (ix : Int)) l1.1)) el).bind fun r2 =>
      bif r2 then some 7
      else K ())
    else none : Option (Int)))
    (fun (_ : Unit) =>
    (lp13_1 big l1 0 : Option (Int))) 0 l1.1 () := by
  refine iter_forI_from l1.1 (fun ix (_ : Unit) => (l1, (ix : Int))) _ _ ?_ ?_ (k := 0) (Nat.zero_le _) (len_lt_big hl) ()
  · rintro F k h _
    simp only [dec_lt h, condT, idx_get h, bindS, wrap_succ h hl]
  · rintro F _
    simp only [dec_end, condF]

theorem g13 (fuel : Nat) (l : (List (Int)) × ((Int) × (List ((Int) × ((Int) × (Int)))))) : (fnD tab env13 6 ann13 fuel Try.f13 [] ps13 rs13 true l : Option (Int)) = (
  bif decide ((List.length l.1 : Int) > 64) then some 4
  else bif decide ((List.length l.2.2 : Int) > 200) then some 4
  else (D29 l.2.1 1 604800).bind fun r =>
  bif (!r) then some 2
  else lp13_3 fuel l 0 : Option (Int)) := by kernel_rfl
theorem e13 (l : (List (Int)) × ((Int) × (List ((Int) × ((Int) × (Int)))))) : D13 l = (
  bif decide ((List.length l.1 : Int) > 64) then some 4
  else bif decide ((List.length l.2.2 : Int) > 200) then some 4
  else (D29 l.2.1 1 604800).bind fun r =>
  bif (!r) then some 2
  else lp13_3 big l 0 : Option (Int)) := g13 big l

/-! skiarea/skiarealaw19.InspectChecks -/
noncomputable def D3 (a0 : (List (Int)) × ((Int) × (List ((Int) × ((Int) × (Int)))))) : Option (Bool) := d3 a0
theorem e3 (l : (List (Int)) × ((Int) × (List ((Int) × ((Int) × (Int)))))) : D3 l = (
  (D11).bind fun r =>
  bif (!r) then some false
  else bif decide ((List.length l.1 : Int) > 80) then some true
  else bif decide ((List.length l.2.2 : Int) > 220) then some true
  else (D12 l).bind fun r1 =>
  (D13 l).bind fun r2 =>
  some (r1 == r2) : Option (Bool)) := by kernel_rfl

/-! skiarea/skiarearef19.Sign -/
noncomputable def D15 (a0 : (List (Int)) × ((Int) × (List ((Int) × ((Int) × (Int)))))) (a1 : Int) (a2 : Int) (a3 : Int) : Option (((List (Int)) × ((Int) × (List ((Int) × ((Int) × (Int)))))) × (Int)) := d15 (a0, a1, a2, a3)
noncomputable def lp15_1 (fuel : Nat)  (item2₀ : Int) (by_2₀ : Int) (t2₀ : Int) (l2₀ : (List (Int)) × ((Int) × (List ((Int) × ((Int) × (Int)))))) (v1₀ : (List (Int)) × ((Int) × (List ((Int) × ((Int) × (Int)))))) (out1₀ : (List (Int)) × ((Int) × (List ((Int) × ((Int) × (Int)))))) (i1₀ : Int) : Option (((List (Int)) × ((Int) × (List ((Int) × ((Int) × (Int)))))) × (Int)) :=
  iter (fun F1 ((item2, by_2, t2, l2, v1, out1, i1) : Int × Int × Int × ((List (Int)) × ((Int) × (List ((Int) × ((Int) × (Int)))))) × ((List (Int)) × ((Int) × (List ((Int) × ((Int) × (Int)))))) × ((List (Int)) × ((Int) × (List ((Int) × ((Int) × (Int)))))) × Int) =>
    bif decide (i1 < (List.length l2.2.2 : Int)) then (
      (idx l2.2.2 i1).bind fun e =>
      bif (e.1 != item2) then (
        (idx l2.2.2 i1).bind fun e1 =>
        bif (Nat.ble ((List.length out1.2.2 + List.length [e1]) * 24) appendLimit && Nat.ble (List.length out1.2.2 + List.length [e1]) 9223372036854775807) then F1 (item2, by_2, t2, l2, v1, (out1.1, out1.2.1, out1.2.2 ++ [e1]), IntKind.i64.wrap (i1 + 1))
        else none)
      else F1 (item2, by_2, t2, l2, v1, out1, IntKind.i64.wrap (i1 + 1)))
    else bif (Nat.ble ((List.length out1.2.2 + List.length [(item2, by_2, t2)]) * 24) appendLimit && Nat.ble (List.length out1.2.2 + List.length [(item2, by_2, t2)]) 9223372036854775807) then (
      (D13 (out1.1, out1.2.1, out1.2.2 ++ [(item2, by_2, t2)])).bind fun r =>
      bif (r != 0) then some ((([] : List (Int)), 0, ([] : List ((Int) × ((Int) × (Int))))), r)
      else some ((out1.1, out1.2.1, out1.2.2 ++ [(item2, by_2, t2)]), 0))
    else none) fuel (item2₀, by_2₀, t2₀, l2₀, v1₀, out1₀, i1₀)

theorem f15_1  (item2 : Int) (by_2 : Int) (t2 : Int) (l2 : (List (Int)) × ((Int) × (List ((Int) × ((Int) × (Int)))))) (v1 : (List (Int)) × ((Int) × (List ((Int) × ((Int) × (Int)))))) (out1 : (List (Int)) × ((Int) × (List ((Int) × ((Int) × (Int)))))) (hl : (l2.2.2).length ≤ maxLen) : lp15_1 big item2 by_2 t2 l2 v1 out1 0 =
  forE (fun  el (out1 : ((List (Int)) × ((Int) × (List ((Int) × ((Int) × (Int))))))) K =>
    (bif (el.1 != item2) then (
      bif (Nat.ble ((List.length out1.2.2 + List.length [el]) * 24) appendLimit && Nat.ble (List.length out1.2.2 + List.length [el]) 9223372036854775807) then K (out1.1, out1.2.1, out1.2.2 ++ [el])
      else none)
    else K out1 : Option (((List (Int)) × ((Int) × (List ((Int) × ((Int) × (Int)))))) × (Int))))
    (fun (out1 : ((List (Int)) × ((Int) × (List ((Int) × ((Int) × (Int))))))) =>
    (bif (Nat.ble ((List.length out1.2.2 + List.length [(item2, by_2, t2)]) * 24) appendLimit && Nat.ble (List.length out1.2.2 + List.length [(item2, by_2, t2)]) 9223372036854775807) then (
      (D13 (out1.1, out1.2.1, out1.2.2 ++ [(item2, by_2, t2)])).bind fun r =>
      bif (r != 0) then some ((([] : List (Int)), 0, ([] : List ((Int) × ((Int) × (Int))))), r)
      else some ((out1.1, out1.2.1, out1.2.2 ++ [(item2, by_2, t2)]), 0))
    else none : Option (((List (Int)) × ((Int) × (List ((Int) × ((Int) × (Int)))))) × (Int)))) l2.2.2 out1 := by
  refine iter_forE l2.2.2 (fun ix (out1 : ((List (Int)) × ((Int) × (List ((Int) × ((Int) × (Int))))))) => (item2, by_2, t2, l2, v1, out1, (ix : Int))) _ _ ?_ ?_ (len_lt_big hl) out1
  · rintro F k h out1
    simp only [dec_lt h, condT, idx_get h, bindS, wrap_succ h hl]
  · rintro F out1
    simp only [dec_end, condF]

noncomputable def lp15_3 (fuel : Nat)  (item1₀ : Int) (by_1₀ : Int) (t1₀ : Int) (l1₀ : (List (Int)) × ((Int) × (List ((Int) × ((Int) × (Int)))))) (v₀ : (List (Int)) × ((Int) × (List ((Int) × ((Int) × (Int)))))) (out₀ : (List (Int)) × ((Int) × (List ((Int) × ((Int) × (Int)))))) (i₀ : Int) : Option (((List (Int)) × ((Int) × (List ((Int) × ((Int) × (Int)))))) × (Int)) :=
  iter (fun F ((item1, by_1, t1, l1, v, out, i) : Int × Int × Int × ((List (Int)) × ((Int) × (List ((Int) × ((Int) × (Int)))))) × ((List (Int)) × ((Int) × (List ((Int) × ((Int) × (Int)))))) × ((List (Int)) × ((Int) × (List ((Int) × ((Int) × (Int)))))) × Int) =>
    bif decide (i < (List.length l1.1 : Int)) then (
      (idx l1.1 i).bind fun e =>
      bif (Nat.ble ((List.length out.1 + List.length [e]) * 8) appendLimit && Nat.ble (List.length out.1 + List.length [e]) 9223372036854775807) then F (item1, by_1, t1, l1, v, (out.1 ++ [e], out.2), IntKind.i64.wrap (i + 1))
      else none)
    else lp15_1 fuel item1 by_1 t1 l1 v out 0) fuel (item1₀, by_1₀, t1₀, l1₀, v₀, out₀, i₀)

theorem f15_3  (item1 : Int) (by_1 : Int) (t1 : Int) (l1 : (List (Int)) × ((Int) × (List ((Int) × ((Int) × (Int)))))) (v : (List (Int)) × ((Int) × (List ((Int) × ((Int) × (Int)))))) (out : (List (Int)) × ((Int) × (List ((Int) × ((Int) × (Int)))))) (hl : (l1.1).length ≤ maxLen) : lp15_3 big item1 by_1 t1 l1 v out 0 =
  forE (fun  el (out : ((List (Int)) × ((Int) × (List ((Int) × ((Int) × (Int))))))) K =>
    (bif (Nat.ble ((List.length out.1 + List.length [el]) * 8) appendLimit && Nat.ble (List.length out.1 + List.length [el]) 9223372036854775807) then K (out.1 ++ [el], out.2)
    else none : Option (((List (Int)) × ((Int) × (List ((Int) × ((Int) × (Int)))))) × (Int))))
    (fun (out : ((List (Int)) × ((Int) × (List ((Int) × ((Int) × (Int))))))) =>
    (lp15_1 big item1 by_1 t1 l1 v out 0 : Option (((List (Int)) × ((Int) × (List ((Int) × ((Int) × (Int)))))) × (Int)))) l1.1 out := by
  refine iter_forE l1.1 (fun ix (out : ((List (Int)) × ((Int) × (List ((Int) × ((Int) × (Int))))))) => (item1, by_1, t1, l1, v, out, (ix : Int))) _ _ ?_ ?_ (len_lt_big hl) out
  · rintro F k h out
    simp only [dec_lt h, condT, idx_get h, bindS, wrap_succ h hl]
  · rintro F out
    simp only [dec_end, condF]

theorem g15 (fuel : Nat) (l : (List (Int)) × ((Int) × (List ((Int) × ((Int) × (Int)))))) (item : Int) (by_ : Int) (t : Int) : (fnD tab env15 14 ann15 fuel Try.f15 [] ps15 rs15 true (l, item, by_, t) : Option (((List (Int)) × ((Int) × (List ((Int) × ((Int) × (Int)))))) × (Int))) = (
  lp15_3 fuel item by_ t l (([] : List (Int)), 0, ([] : List ((Int) × ((Int) × (Int))))) (([] : List (Int)), l.2.1, ([] : List ((Int) × ((Int) × (Int))))) 0 : Option (((List (Int)) × ((Int) × (List ((Int) × ((Int) × (Int)))))) × (Int))) := by kernel_rfl
theorem e15 (l : (List (Int)) × ((Int) × (List ((Int) × ((Int) × (Int)))))) (item : Int) (by_ : Int) (t : Int) : D15 l item by_ t = (
  lp15_3 big item by_ t l (([] : List (Int)), 0, ([] : List ((Int) × ((Int) × (Int))))) (([] : List (Int)), l.2.1, ([] : List ((Int) × ((Int) × (Int))))) 0 : Option (((List (Int)) × ((Int) × (List ((Int) × ((Int) × (Int)))))) × (Int))) := g15 big l item by_ t

/-! skiarea/skiarealaw19.InspectSigns -/
noncomputable def D4 (a0 : (List (Int)) × ((Int) × (List ((Int) × ((Int) × (Int)))))) (a1 : Int) (a2 : Int) (a3 : Int) : Option (Bool) := d4 (a0, a1, a2, a3)
theorem e4 (l : (List (Int)) × ((Int) × (List ((Int) × ((Int) × (Int)))))) (item : Int) (by_ : Int) (t : Int) : D4 l item by_ t = (
  (D11).bind fun r =>
  bif (!r) then some false
  else (D13 l).bind fun r1 =>
  bif (r1 != 0) then some true
  else (D14 l item by_ t).bind fun r2 =>
  (D15 l item by_ t).bind fun r3 =>
  (D16 r2.1 r3.1).bind fun r4 =>
  bif r4 then some (r2.2 == r3.2)
  else some false : Option (Bool)) := by kernel_rfl

/-! skiarea/skiarearef19.Last -/
noncomputable def D18 (a0 : (List (Int)) × ((Int) × (List ((Int) × ((Int) × (Int)))))) (a1 : Int) (a2 : Int) : Option (((Int) × ((Int) × (Int))) × (Bool)) := d18 (a0, a1, a2)
noncomputable def lp18_1 (fuel : Nat)  (item1₀ : Int) (t1₀ : Int) (l1₀ : (List (Int)) × ((Int) × (List ((Int) × ((Int) × (Int)))))) (v₀ : (Int) × ((Int) × (Int))) (i₀ : Int) : Option (((Int) × ((Int) × (Int))) × (Bool)) :=
  iter (fun F ((item1, t1, l1, v, i) : Int × Int × ((List (Int)) × ((Int) × (List ((Int) × ((Int) × (Int)))))) × ((Int) × ((Int) × (Int))) × Int) =>
    bif decide (i ≥ 0) then (
      (idx l1.2.2 i).bind fun e =>
      bif (e.1 == item1) then (
        (idx l1.2.2 i).bind fun e1 =>
        bif decide (e1.2.2 ≤ t1) then (
          (idx l1.2.2 i).bind fun e2 =>
          some (e2, true))
        else F (item1, t1, l1, v, IntKind.i64.wrap (i - 1)))
      else F (item1, t1, l1, v, IntKind.i64.wrap (i - 1)))
    else some ((0, 0, 0), false)) fuel (item1₀, t1₀, l1₀, v₀, i₀)

theorem g18 (fuel : Nat) (l : (List (Int)) × ((Int) × (List ((Int) × ((Int) × (Int)))))) (item : Int) (t : Int) : (fnD tab env18 9 ann18 fuel Try.f18 [] ps18 rs18 true (l, item, t) : Option (((Int) × ((Int) × (Int))) × (Bool))) = (
  lp18_1 fuel item t l (0, 0, 0) (IntKind.i64.wrap ((List.length l.2.2 : Int) - 1)) : Option (((Int) × ((Int) × (Int))) × (Bool))) := by kernel_rfl
theorem e18 (l : (List (Int)) × ((Int) × (List ((Int) × ((Int) × (Int)))))) (item : Int) (t : Int) : D18 l item t = (
  lp18_1 big item t l (0, 0, 0) (IntKind.i64.wrap ((List.length l.2.2 : Int) - 1)) : Option (((Int) × ((Int) × (Int))) × (Bool))) := g18 big l item t

/-! skiarea/skiarealaw19.InspectLast -/
noncomputable def D5 (a0 : (List (Int)) × ((Int) × (List ((Int) × ((Int) × (Int)))))) (a1 : Int) (a2 : Int) : Option (Bool) := d5 (a0, a1, a2)
theorem e5 (l : (List (Int)) × ((Int) × (List ((Int) × ((Int) × (Int)))))) (item : Int) (t : Int) : D5 l item t = (
  (D11).bind fun r =>
  bif (!r) then some false
  else (D13 l).bind fun r1 =>
  bif (r1 != 0) then some true
  else (D17 l item t).bind fun r2 =>
  (D18 l item t).bind fun r3 =>
  bif ((r2.1.1 == r3.1.1) && ((r2.1.2.1 == r3.1.2.1) && (r2.1.2.2 == r3.1.2.2))) then some (r2.2 == r3.2)
  else some false : Option (Bool)) := by kernel_rfl

/-! skiarea/skiarearef19.end -/
noncomputable def D35 (a0 : (List (Int)) × ((Int) × (List ((Int) × ((Int) × (Int)))))) (a1 : Int) (a2 : Int) : Option (Int) := d35 (a0, a1, a2)
noncomputable def lp35_1 (fuel : Nat)  (item1₀ : Int) (t1₀ : Int) (l1₀ : (List (Int)) × ((Int) × (List ((Int) × ((Int) × (Int)))))) (out₀ : Int) (i₀ : Int) : Option (Int) :=
  iter (fun F ((item1, t1, l1, out, i) : Int × Int × ((List (Int)) × ((Int) × (List ((Int) × ((Int) × (Int)))))) × Int × Int) =>
    bif decide (i < (List.length l1.2.2 : Int)) then (
      (idx l1.2.2 i).bind fun e =>
      bif (e.1 == item1) then (
        bif decide (e.2.2 ≤ t1) then (
          bif decide (t1 < IntKind.i64.wrap (e.2.2 + l1.2.1)) then F (item1, t1, l1, (bif decide ((IntKind.i64.wrap (e.2.2 + l1.2.1) : Int) > out) then IntKind.i64.wrap (e.2.2 + l1.2.1) else out), IntKind.i64.wrap (i + 1))
          else F (item1, t1, l1, out, IntKind.i64.wrap (i + 1)))
        else F (item1, t1, l1, out, IntKind.i64.wrap (i + 1)))
      else F (item1, t1, l1, out, IntKind.i64.wrap (i + 1)))
    else some out) fuel (item1₀, t1₀, l1₀, out₀, i₀)

theorem f35_1  (item1 : Int) (t1 : Int) (l1 : (List (Int)) × ((Int) × (List ((Int) × ((Int) × (Int)))))) (out : Int) (hl : (l1.2.2).length ≤ maxLen) : lp35_1 big item1 t1 l1 out 0 =
  forE (fun  el (out : Int) K =>
    (bif (el.1 == item1) then (
      bif decide (el.2.2 ≤ t1) then (
        bif decide (t1 < IntKind.i64.wrap (el.2.2 + l1.2.1)) then K (bif decide ((IntKind.i64.wrap (el.2.2 + l1.2.1) : Int) > out) then IntKind.i64.wrap (el.2.2 + l1.2.1) else out)
        else K out)
      else K out)
    else K out : Option (Int)))
    (fun (out : Int) =>
    (some out : Option (Int))) l1.2.2 out := by
  refine iter_forE l1.2.2 (fun ix (out : Int) => (item1, t1, l1, out, (ix : Int))) _ _ ?_ ?_ (len_lt_big hl) out
  · rintro F k h out
    simp only [dec_lt h, condT, idx_get h, bindS, wrap_succ h hl]
  · rintro F out
    simp only [dec_end, condF]

theorem g35 (fuel : Nat) (l : (List (Int)) × ((Int) × (List ((Int) × ((Int) × (Int)))))) (item : Int) (t : Int) : (fnD tab env35 10 ann35 fuel Try.f35 [] ps35 rs35 true (l, item, t) : Option (Int)) = (
  lp35_1 fuel item t l t 0 : Option (Int)) := by kernel_rfl
theorem e35 (l : (List (Int)) × ((Int) × (List ((Int) × ((Int) × (Int)))))) (item : Int) (t : Int) : D35 l item t = (
  lp35_1 big item t l t 0 : Option (Int)) := g35 big l item t

/-! skiarea/skiarearef19.Open -/
noncomputable def D21 (a0 : (List (Int)) × ((Int) × (List ((Int) × ((Int) × (Int)))))) (a1 : Int) : Option (List (Int)) := d21 (a0, a1)
noncomputable def lp21_1 (fuel : Nat)  (t1₀ : Int) (l1₀ : (List (Int)) × ((Int) × (List ((Int) × ((Int) × (Int)))))) (out₀ : List (Int)) (i₀ : Int) : Option (List (Int)) :=
  iter (fun F ((t1, l1, out, i) : Int × ((List (Int)) × ((Int) × (List ((Int) × ((Int) × (Int)))))) × (List (Int)) × Int) =>
    bif decide (i < (List.length l1.1 : Int)) then (
      (idx l1.1 i).bind fun e =>
      (D35 l1 e t1).bind fun r =>
      bif (r == t1) then (
        (idx l1.1 i).bind fun e1 =>
        bif (Nat.ble ((List.length out + List.length [e1]) * 8) appendLimit && Nat.ble (List.length out + List.length [e1]) 9223372036854775807) then F (t1, l1, out ++ [e1], IntKind.i64.wrap (i + 1))
        else none)
      else F (t1, l1, out, IntKind.i64.wrap (i + 1)))
    else some out) fuel (t1₀, l1₀, out₀, i₀)

theorem f21_1  (t1 : Int) (l1 : (List (Int)) × ((Int) × (List ((Int) × ((Int) × (Int)))))) (out : List (Int)) (hl : (l1.1).length ≤ maxLen) : lp21_1 big t1 l1 out 0 =
  forE (fun  el (out : (List (Int))) K =>
    ((D35 l1 el t1).bind fun r =>
    bif (r == t1) then (
      bif (Nat.ble ((List.length out + List.length [el]) * 8) appendLimit && Nat.ble (List.length out + List.length [el]) 9223372036854775807) then K (out ++ [el])
      else none)
    else K out : Option (List (Int))))
    (fun (out : (List (Int))) =>
    (some out : Option (List (Int)))) l1.1 out := by
  refine iter_forE l1.1 (fun ix (out : (List (Int))) => (t1, l1, out, (ix : Int))) _ _ ?_ ?_ (len_lt_big hl) out
  · rintro F k h out
    simp only [dec_lt h, condT, idx_get h, bindS, wrap_succ h hl]
  · rintro F out
    simp only [dec_end, condF]

theorem g21 (fuel : Nat) (l : (List (Int)) × ((Int) × (List ((Int) × ((Int) × (Int)))))) (t : Int) : (fnD tab env21 7 ann21 fuel Try.f21 [] ps21 rs21 true (l, t) : Option (List (Int))) = (
  lp21_1 fuel t l ([] : List (Int)) 0 : Option (List (Int))) := by kernel_rfl
theorem e21 (l : (List (Int)) × ((Int) × (List ((Int) × ((Int) × (Int)))))) (t : Int) : D21 l t = (
  lp21_1 big t l ([] : List (Int)) 0 : Option (List (Int))) := g21 big l t

/-! skiarea/skiarearef19.Done -/
noncomputable def D23 (a0 : (List (Int)) × ((Int) × (List ((Int) × ((Int) × (Int)))))) (a1 : Int) : Option (Bool) := d23 (a0, a1)
theorem e23 (l : (List (Int)) × ((Int) × (List ((Int) × ((Int) × (Int)))))) (t : Int) : D23 l t = (
  (D21 l t).bind fun r =>
  some ((List.length r : Int) == 0) : Option (Bool)) := by kernel_rfl

/-! skiarea/skiarealaw19.InspectOpen -/
noncomputable def D6 (a0 : (List (Int)) × ((Int) × (List ((Int) × ((Int) × (Int)))))) (a1 : Int) : Option (Bool) := d6 (a0, a1)
theorem e6 (l : (List (Int)) × ((Int) × (List ((Int) × ((Int) × (Int)))))) (t : Int) : D6 l t = (
  (D11).bind fun r =>
  bif (!r) then some false
  else (D13 l).bind fun r1 =>
  bif (r1 != 0) then some true
  else (D20 l t).bind fun r2 =>
  (D21 l t).bind fun r3 =>
  (D19 r2 r3).bind fun r4 =>
  bif r4 then (
    (D22 l t).bind fun r5 =>
    (D23 l t).bind fun r6 =>
    some (r5 == r6))
  else some false : Option (Bool)) := by kernel_rfl

/-! skiarea/skiarearef19.Until -/
noncomputable def D25 (a0 : (List (Int)) × ((Int) × (List ((Int) × ((Int) × (Int)))))) (a1 : Int) : Option (Int) := d25 (a0, a1)
noncomputable def lp25_1 (fuel : Nat) (F : (((List (Int)) × ((Int) × (List ((Int) × ((Int) × (Int)))))) × Int) → Option (Int)) (l2₀ : (List (Int)) × ((Int) × (List ((Int) × ((Int) × (Int)))))) (u1₀ : Int) (next_₀ : Int) (i₀ : Int) : Option (Int) :=
  iter (fun F1 ((l2, u1, next_, i) : ((List (Int)) × ((Int) × (List ((Int) × ((Int) × (Int)))))) × Int × Int × Int) =>
    bif decide (i < (List.length l2.1 : Int)) then (
      (idx l2.1 i).bind fun e1 =>
      (D35 l2 e1 u1).bind fun r3 =>
      F1 (l2, u1, (bif decide ((r3 : Int) < next_) then r3 else next_), IntKind.i64.wrap (i + 1)))
    else F (l2, next_)) fuel (l2₀, u1₀, next_₀, i₀)

theorem f25_1 (F : (((List (Int)) × ((Int) × (List ((Int) × ((Int) × (Int)))))) × Int) → Option (Int)) (l2 : (List (Int)) × ((Int) × (List ((Int) × ((Int) × (Int)))))) (u1 : Int) (next_ : Int) (hl : (l2.1).length ≤ maxLen) (h0 : 1 ≤ (l2.1).length) : lp25_1 big F l2 u1 next_ 1 =
  forI (fun _ el (next_ : Int) K =>
    ((D35 l2 el u1).bind fun r3 =>
    K (bif decide ((r3 : Int) < next_) then r3 else next_) : Option (Int)))
    (fun (next_ : Int) =>
    (F (l2, next_) : Option (Int))) 1 (List.drop 1 l2.1) next_ := by
  refine iter_forI_from l2.1 (fun ix (next_ : Int) => (l2, u1, next_, (ix : Int))) _ _ ?_ ?_ (k := 1) h0 (len_lt_big hl) next_
  · rintro F k h next_
    simp only [dec_lt h, condT, idx_get h, bindS, wrap_succ h hl]
  · rintro F next_
    simp only [dec_end, condF]

noncomputable def lp25_3 (fuel : Nat)  (l1₀ : (List (Int)) × ((Int) × (List ((Int) × ((Int) × (Int)))))) (u₀ : Int) : Option (Int) :=
  iter (fun F ((l1, u) : ((List (Int)) × ((Int) × (List ((Int) × ((Int) × (Int)))))) × Int) =>
    (D23 l1 u).bind fun r1 =>
    bif r1 then (
      (idx l1.1 0).bind fun e =>
      (D35 l1 e u).bind fun r2 =>
      lp25_1 fuel F l1 u r2 1)
    else some (bif decide ((20000000 : Int) < u) then 20000000 else u)) fuel (l1₀, u₀)

theorem g25 (fuel : Nat) (l : (List (Int)) × ((Int) × (List ((Int) × ((Int) × (Int)))))) (t : Int) : (fnD tab env25 8 ann25 fuel Try.f25 [] ps25 rs25 true (l, t) : Option (Int)) = (
  bif ((List.length l.1 : Int) == 0) then some 20000000
  else (D23 l t).bind fun r =>
  bif (!r) then some t
  else lp25_3 fuel l t : Option (Int)) := by kernel_rfl
theorem e25 (l : (List (Int)) × ((Int) × (List ((Int) × ((Int) × (Int)))))) (t : Int) : D25 l t = (
  bif ((List.length l.1 : Int) == 0) then some 20000000
  else (D23 l t).bind fun r =>
  bif (!r) then some t
  else lp25_3 big l t : Option (Int)) := g25 big l t

/-! skiarea/skiarealaw19.InspectUntils -/
noncomputable def D7 (a0 : (List (Int)) × ((Int) × (List ((Int) × ((Int) × (Int)))))) (a1 : Int) : Option (Bool) := d7 (a0, a1)
theorem e7 (l : (List (Int)) × ((Int) × (List ((Int) × ((Int) × (Int)))))) (t : Int) : D7 l t = (
  (D11).bind fun r =>
  bif (!r) then some false
  else (D13 l).bind fun r1 =>
  bif (r1 != 0) then some true
  else (D24 l t).bind fun r2 =>
  (D25 l t).bind fun r3 =>
  some (r2 == r3) : Option (Bool)) := by kernel_rfl

/-! skiarea/skiarealaw19.InspectUntil -/
noncomputable def D8 (a0 : (List (Int)) × ((Int) × (List ((Int) × ((Int) × (Int)))))) (a1 : Int) (a2 : Int) : Option (Bool) := d8 (a0, a1, a2)
theorem e8 (l : (List (Int)) × ((Int) × (List ((Int) × ((Int) × (Int)))))) (t : Int) (v : Int) : D8 l t v = (
  (D11).bind fun r =>
  bif (!r) then some false
  else bif decide ((List.length l.1 : Int) > 80) then some true
  else bif decide ((List.length l.2.2 : Int) > 220) then some true
  else (D12 l).bind fun r1 =>
  bif (r1 != 0) then some true
  else bif decide (t > 20000000) then some true
  else (D24 l t).bind fun r2 =>
  (D22 l t).bind fun r3 =>
  bif (!r3) then some (r2 == t)
  else bif decide (r2 ≤ t) then (
    bif decide (r2 < 20000000) then some false
    else bif decide (r2 > 20000000) then some false
    else bif decide (r2 < 20000000) then (
      (D22 l r2).bind fun r4 =>
      bif r4 then some false
      else bif decide (v < t) then some true
      else bif decide (v ≥ r2) then some true
      else (D22 l v).bind fun r5 =>
      some r5)
    else bif decide (v < t) then some true
    else bif decide (v ≥ r2) then some true
    else (D22 l v).bind fun r4 =>
    some r4)
  else bif decide (r2 > 20000000) then some false
  else bif decide (r2 < 20000000) then (
    (D22 l r2).bind fun r4 =>
    bif r4 then some false
    else bif decide (v < t) then some true
    else bif decide (v ≥ r2) then some true
    else (D22 l v).bind fun r5 =>
    some r5)
  else bif decide (v < t) then some true
  else bif decide (v ≥ r2) then some true
  else (D22 l v).bind fun r4 =>
  some r4 : Option (Bool)) := by kernel_rfl

/-! skiarea/skiarealaw19.has -/
noncomputable def D26 (a0 : List (Int)) (a1 : Int) : Option (Bool) := d26 (a0, a1)
noncomputable def lp26_1 (fuel : Nat)  (l1₀ : List (Int)) (n1₀ : Int) (i₀ : Int) : Option (Bool) :=
  iter (fun F ((l1, n1, i) : (List (Int)) × Int × Int) =>
    bif decide (i < (List.length l1 : Int)) then (
      (idx l1 i).bind fun e =>
      bif (e == n1) then some true
      else F (l1, n1, IntKind.i64.wrap (i + 1)))
    else some false) fuel (l1₀, n1₀, i₀)

theorem f26_1  (l1 : List (Int)) (n1 : Int) (hl : (l1).length ≤ maxLen) : lp26_1 big l1 n1 0 =
  forE (fun  el (_ : Unit) K =>
    (bif (el == n1) then some true
    else K () : Option (Bool)))
    (fun (_ : Unit) =>
    (some false : Option (Bool))) l1 () := by
  refine iter_forE l1 (fun ix (_ : Unit) => (l1, n1, (ix : Int))) _ _ ?_ ?_ (len_lt_big hl) ()
  · rintro F k h _
    simp only [dec_lt h, condT, idx_get h, bindS, wrap_succ h hl]
  · rintro F _
    simp only [dec_end, condF]

theorem g26 (fuel : Nat) (l : List (Int)) (n : Int) : (fnD tab env26 6 ann26 fuel Try.f26 [] ps26 rs26 true (l, n) : Option (Bool)) = (
  lp26_1 fuel l n 0 : Option (Bool)) := by kernel_rfl
theorem e26 (l : List (Int)) (n : Int) : D26 l n = (
  lp26_1 big l n 0 : Option (Bool)) := g26 big l n

/-! skiarea/skiarealaw19.InspectSigned -/
noncomputable def D9 (a0 : (List (Int)) × ((Int) × (List ((Int) × ((Int) × (Int)))))) (a1 : Int) (a2 : Int) (a3 : Int) (a4 : Int) : Option (Bool) := d9 (a0, a1, a2, a3, a4)
noncomputable def lp9_1 (fuel : Nat)  (item1₀ : Int) (l1₀ : (List (Int)) × ((Int) × (List ((Int) × ((Int) × (Int)))))) (a₀ : List (Int)) (b₀ : List (Int)) (i₀ : Int) : Option (Bool) :=
  iter (fun F ((item1, l1, a, b, i) : Int × ((List (Int)) × ((Int) × (List ((Int) × ((Int) × (Int)))))) × (List (Int)) × (List (Int)) × Int) =>
    bif decide (i < (List.length l1.1 : Int)) then (
      (idx l1.1 i).bind fun e =>
      bif (e != item1) then (
        (D26 a e).bind fun r12 =>
        (D26 b e).bind fun r13 =>
        bif (!(r12 == r13)) then some false
        else F (item1, l1, a, b, IntKind.i64.wrap (i + 1)))
      else F (item1, l1, a, b, IntKind.i64.wrap (i + 1)))
    else some true) fuel (item1₀, l1₀, a₀, b₀, i₀)

theorem f9_1  (item1 : Int) (l1 : (List (Int)) × ((Int) × (List ((Int) × ((Int) × (Int)))))) (a : List (Int)) (b : List (Int)) (hl : (l1.1).length ≤ maxLen) : lp9_1 big item1 l1 a b 0 =
  forE (fun  el (_ : Unit) K =>
    (bif (el != item1) then (
      (D26 a el).bind fun r12 =>
      (D26 b el).bind fun r13 =>
      bif (!(r12 == r13)) then some false
      else K ())
    else K () : Option (Bool)))
    (fun (_ : Unit) =>
    (some true : Option (Bool))) l1.1 () := by
  refine iter_forE l1.1 (fun ix (_ : Unit) => (item1, l1, a, b, (ix : Int))) _ _ ?_ ?_ (len_lt_big hl) ()
  · rintro F k h _
    simp only [dec_lt h, condT, idx_get h, bindS, wrap_succ h hl]
  · rintro F _
    simp only [dec_end, condF]

noncomputable def lp9_3 (fuel : Nat)  (item1₀ : Int) (l1₀ : (List (Int)) × ((Int) × (List ((Int) × ((Int) × (Int)))))) (a₀ : List (Int)) (b₀ : List (Int)) (i₀ : Int) : Option (Bool) :=
  iter (fun F ((item1, l1, a, b, i) : Int × ((List (Int)) × ((Int) × (List ((Int) × ((Int) × (Int)))))) × (List (Int)) × (List (Int)) × Int) =>
    bif decide (i < (List.length l1.1 : Int)) then (
      (idx l1.1 i).bind fun e =>
      bif (e != item1) then (
        (D26 a e).bind fun r10 =>
        (D26 b e).bind fun r11 =>
        bif (!(r10 == r11)) then some false
        else F (item1, l1, a, b, IntKind.i64.wrap (i + 1)))
      else F (item1, l1, a, b, IntKind.i64.wrap (i + 1)))
    else some true) fuel (item1₀, l1₀, a₀, b₀, i₀)

theorem f9_3  (item1 : Int) (l1 : (List (Int)) × ((Int) × (List ((Int) × ((Int) × (Int)))))) (a : List (Int)) (b : List (Int)) (hl : (l1.1).length ≤ maxLen) : lp9_3 big item1 l1 a b 0 =
  forE (fun  el (_ : Unit) K =>
    (bif (el != item1) then (
      (D26 a el).bind fun r10 =>
      (D26 b el).bind fun r11 =>
      bif (!(r10 == r11)) then some false
      else K ())
    else K () : Option (Bool)))
    (fun (_ : Unit) =>
    (some true : Option (Bool))) l1.1 () := by
  refine iter_forE l1.1 (fun ix (_ : Unit) => (item1, l1, a, b, (ix : Int))) _ _ ?_ ?_ (len_lt_big hl) ()
  · rintro F k h _
    simp only [dec_lt h, condT, idx_get h, bindS, wrap_succ h hl]
  · rintro F _
    simp only [dec_end, condF]

noncomputable def lp9_5 (fuel : Nat)  (item1₀ : Int) (l1₀ : (List (Int)) × ((Int) × (List ((Int) × ((Int) × (Int)))))) (a₀ : List (Int)) (b₀ : List (Int)) (i₀ : Int) : Option (Bool) :=
  iter (fun F ((item1, l1, a, b, i) : Int × ((List (Int)) × ((Int) × (List ((Int) × ((Int) × (Int)))))) × (List (Int)) × (List (Int)) × Int) =>
    bif decide (i < (List.length l1.1 : Int)) then (
      (idx l1.1 i).bind fun e =>
      bif (e != item1) then (
        (D26 a e).bind fun r10 =>
        (D26 b e).bind fun r11 =>
        bif (!(r10 == r11)) then some false
        else F (item1, l1, a, b, IntKind.i64.wrap (i + 1)))
      else F (item1, l1, a, b, IntKind.i64.wrap (i + 1)))
    else some true) fuel (item1₀, l1₀, a₀, b₀, i₀)

theorem f9_5  (item1 : Int) (l1 : (List (Int)) × ((Int) × (List ((Int) × ((Int) × (Int)))))) (a : List (Int)) (b : List (Int)) (hl : (l1.1).length ≤ maxLen) : lp9_5 big item1 l1 a b 0 =
  forE (fun  el (_ : Unit) K =>
    (bif (el != item1) then (
      (D26 a el).bind fun r10 =>
      (D26 b el).bind fun r11 =>
      bif (!(r10 == r11)) then some false
      else K ())
    else K () : Option (Bool)))
    (fun (_ : Unit) =>
    (some true : Option (Bool))) l1.1 () := by
  refine iter_forE l1.1 (fun ix (_ : Unit) => (item1, l1, a, b, (ix : Int))) _ _ ?_ ?_ (len_lt_big hl) ()
  · rintro F k h _
    simp only [dec_lt h, condT, idx_get h, bindS, wrap_succ h hl]
  · rintro F _
    simp only [dec_end, condF]

theorem g9 (fuel : Nat) (l : (List (Int)) × ((Int) × (List ((Int) × ((Int) × (Int)))))) (item : Int) (by_ : Int) (t : Int) (v : Int) : (fnD tab env9 17 ann9 fuel Try.f9 [] ps9 rs9 true (l, item, by_, t, v) : Option (Bool)) = (
  (D11).bind fun r =>
  bif (!r) then some false
  else bif decide ((List.length l.1 : Int) > 80) then some true
  else bif decide ((List.length l.2.2 : Int) > 220) then some true
  else (D12 l).bind fun r1 =>
  bif (r1 != 0) then some true
  else (D14 l item by_ t).bind fun r2 =>
  bif (r2.2 != 0) then (
    bif ((List.length r2.1.1 : Int) == 0) then some ((List.length r2.1.2.2 : Int) == 0)
    else some false)
  else (D12 r2.1).bind fun r3 =>
  bif (r3 != 0) then some false
  else (D20 r2.1 t).bind fun r4 =>
  (D26 r4 item).bind fun r5 =>
  bif r5 then some false
  else (D20 r2.1 (IntKind.i64.wrap (t + l.2.1))).bind fun r6 =>
  (D26 r6 item).bind fun r7 =>
  bif (!r7) then some false
  else bif decide (v ≥ t) then (
    bif decide (IntKind.i64.wrap (v - t) < l.2.1) then (
      (D20 r2.1 v).bind fun r8 =>
      (D26 r8 item).bind fun r9 =>
      bif r9 then some false
      else (D20 l v).bind fun r10 =>
      (D20 r2.1 v).bind fun r11 =>
      lp9_1 fuel item l r10 r11 0)
    else (D20 l v).bind fun r8 =>
    (D20 r2.1 v).bind fun r9 =>
    lp9_3 fuel item l r8 r9 0)
  else (D20 l v).bind fun r8 =>
  (D20 r2.1 v).bind fun r9 =>
  lp9_5 fuel item l r8 r9 0 : Option (Bool)) := by kernel_rfl
theorem e9 (l : (List (Int)) × ((Int) × (List ((Int) × ((Int) × (Int)))))) (item : Int) (by_ : Int) (t : Int) (v : Int) : D9 l item by_ t v = (
  (D11).bind fun r =>
  bif (!r) then some false
  else bif decide ((List.length l.1 : Int) > 80) then some true
  else bif decide ((List.length l.2.2 : Int) > 220) then some true
  else (D12 l).bind fun r1 =>
  bif (r1 != 0) then some true
  else (D14 l item by_ t).bind fun r2 =>
  bif (r2.2 != 0) then (
    bif ((List.length r2.1.1 : Int) == 0) then some ((List.length r2.1.2.2 : Int) == 0)
    else some false)
  else (D12 r2.1).bind fun r3 =>
  bif (r3 != 0) then some false
  else (D20 r2.1 t).bind fun r4 =>
  (D26 r4 item).bind fun r5 =>
  bif r5 then some false
  else (D20 r2.1 (IntKind.i64.wrap (t + l.2.1))).bind fun r6 =>
  (D26 r6 item).bind fun r7 =>
  bif (!r7) then some false
  else bif decide (v ≥ t) then (
    bif decide (IntKind.i64.wrap (v - t) < l.2.1) then (
      (D20 r2.1 v).bind fun r8 =>
      (D26 r8 item).bind fun r9 =>
      bif r9 then some false
      else (D20 l v).bind fun r10 =>
      (D20 r2.1 v).bind fun r11 =>
      lp9_1 big item l r10 r11 0)
    else (D20 l v).bind fun r8 =>
    (D20 r2.1 v).bind fun r9 =>
    lp9_3 big item l r8 r9 0)
  else (D20 l v).bind fun r8 =>
  (D20 r2.1 v).bind fun r9 =>
  lp9_5 big item l r8 r9 0 : Option (Bool)) := g9 big l item by_ t v

/-! skiarea/skiarealaw19.InspectAll -/
noncomputable def D10 (a0 : (List (Int)) × ((Int) × (List ((Int) × ((Int) × (Int)))))) (a1 : Int) (a2 : Int) : Option (Bool) := d10 (a0, a1, a2)
noncomputable def lp10_1 (fuel : Nat)  (by_2₀ : Int) (t2₀ : Int) (now₀ : (List (Int)) × ((Int) × (List ((Int) × ((Int) × (Int)))))) (open_₀ : List (Int)) (i1₀ : Int) : Option (Bool) :=
  iter (fun F1 ((by_2, t2, now, open_, i1) : Int × Int × ((List (Int)) × ((Int) × (List ((Int) × ((Int) × (Int)))))) × (List (Int)) × Int) =>
    bif decide (i1 < (List.length open_ : Int)) then (
      (idx open_ i1).bind fun e =>
      (D14 now e by_2 t2).bind fun r3 =>
      bif (r3.2 == 4) then some true
      else bif (r3.2 != 0) then some false
      else F1 (by_2, t2, r3.1, open_, IntKind.i64.wrap (i1 + 1)))
    else (D22 now t2).bind fun r3 =>
    bif r3 then (
      (D24 now t2).bind fun r4 =>
      some (decide (r4 > t2) == decide (t2 < 20000000)))
    else some false) fuel (by_2₀, t2₀, now₀, open_₀, i1₀)

theorem f10_1  (by_2 : Int) (t2 : Int) (now : (List (Int)) × ((Int) × (List ((Int) × ((Int) × (Int)))))) (open_ : List (Int)) (hl : (open_).length ≤ maxLen) : lp10_1 big by_2 t2 now open_ 0 =
  forE (fun  el (now : ((List (Int)) × ((Int) × (List ((Int) × ((Int) × (Int))))))) K =>
    ((D14 now el by_2 t2).bind fun r3 =>
    bif (r3.2 == 4) then some true
    else bif (r3.2 != 0) then some false
    else K r3.1 : Option (Bool)))
    (fun (now : ((List (Int)) × ((Int) × (List ((Int) × ((Int) × (Int))))))) =>
    ((D22 now t2).bind fun r3 =>
    bif r3 then (
      (D24 now t2).bind fun r4 =>
      some (decide (r4 > t2) == decide (t2 < 20000000)))
    else some false : Option (Bool))) open_ now := by
  refine iter_forE open_ (fun ix (now : ((List (Int)) × ((Int) × (List ((Int) × ((Int) × (Int))))))) => (by_2, t2, now, open_, (ix : Int))) _ _ ?_ ?_ (len_lt_big hl) now
  · rintro F k h now
    simp only [dec_lt h, condT, idx_get h, bindS, wrap_succ h hl]
  · rintro F now
    simp only [dec_end, condF]

noncomputable def lp10_3 (fuel : Nat)  (by_1₀ : Int) (t1₀ : Int) (l1₀ : (List (Int)) × ((Int) × (List ((Int) × ((Int) × (Int)))))) (i₀ : Int) : Option (Bool) :=
  iter (fun F ((by_1, t1, l1, i) : Int × Int × ((List (Int)) × ((Int) × (List ((Int) × ((Int) × (Int)))))) × Int) =>
    bif decide (i < (List.length l1.2.2 : Int)) then (
      (idx l1.2.2 i).bind fun e =>
      bif decide (e.2.2 > t1) then some true
      else F (by_1, t1, l1, IntKind.i64.wrap (i + 1)))
    else (D20 l1 t1).bind fun r2 =>
    lp10_1 fuel by_1 t1 l1 r2 0) fuel (by_1₀, t1₀, l1₀, i₀)

theorem f10_3  (by_1 : Int) (t1 : Int) (l1 : (List (Int)) × ((Int) × (List ((Int) × ((Int) × (Int)))))) (hl : (l1.2.2).length ≤ maxLen) : lp10_3 big by_1 t1 l1 0 =
  forE (fun  el (_ : Unit) K =>
    (bif decide (el.2.2 > t1) then some true
    else K () : Option (Bool)))
    (fun (_ : Unit) =>
    ((D20 l1 t1).bind fun r2 =>
    lp10_1 big by_1 t1 l1 r2 0 : Option (Bool))) l1.2.2 () := by
  refine iter_forE l1.2.2 (fun ix (_ : Unit) => (by_1, t1, l1, (ix : Int))) _ _ ?_ ?_ (len_lt_big hl) ()
  · rintro F k h _
    simp only [dec_lt h, condT, idx_get h, bindS, wrap_succ h hl]
  · rintro F _
    simp only [dec_end, condF]

theorem g10 (fuel : Nat) (l : (List (Int)) × ((Int) × (List ((Int) × ((Int) × (Int)))))) (by_ : Int) (t : Int) : (fnD tab env10 13 ann10 fuel Try.f10 [] ps10 rs10 true (l, by_, t) : Option (Bool)) = (
  (D11).bind fun r =>
  bif (!r) then some false
  else bif decide ((List.length l.1 : Int) > 80) then some true
  else bif decide ((List.length l.2.2 : Int) > 220) then some true
  else (D12 l).bind fun r1 =>
  bif (r1 != 0) then some true
  else bif decide (by_ < 1) then some true
  else bif decide (by_ > 9999) then some true
  else bif decide (t < 0) then some true
  else bif decide (t > 20000000) then some true
  else lp10_3 fuel by_ t l 0 : Option (Bool)) := by kernel_rfl
theorem e10 (l : (List (Int)) × ((Int) × (List ((Int) × ((Int) × (Int)))))) (by_ : Int) (t : Int) : D10 l by_ t = (
  (D11).bind fun r =>
  bif (!r) then some false
  else bif decide ((List.length l.1 : Int) > 80) then some true
  else bif decide ((List.length l.2.2 : Int) > 220) then some true
  else (D12 l).bind fun r1 =>
  bif (r1 != 0) then some true
  else bif decide (by_ < 1) then some true
  else bif decide (by_ > 9999) then some true
  else bif decide (t < 0) then some true
  else bif decide (t > 20000000) then some true
  else lp10_3 big by_ t l 0 : Option (Bool)) := g10 big l by_ t

end Go.Proofs.Ytbldhkgfeolhnaa.D
