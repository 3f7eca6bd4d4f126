import Derived.Test.YtbapfiaglcllnaaXT31
import Derived.Test.YtbapfiaglcllnaaEXT30a
import Derived.Test.YtbapfiaglcllnaaEXT24a
open Go Go.GD Go.Proofs
namespace Go.Proofs.Ytbapfiaglcllnaa.D
noncomputable def D10 (a0 : Int) : Option (((Int) × ((Int) × (List ((Int) × ((Int) × ((Int) × ((Int) × ((Int) × ((Int) × (Int)))))))))) × ((Int) × ((Int) × ((List ((Int) × ((Int) × ((Int) × ((Int) × ((Int) × ((Int) × (Int)))))))) × (List ((Int) × ((Int) × ((Int) × ((Int) × ((Int) × ((Int) × (Int)))))))))))) := d10 a0
theorem e10 (gate : Int) : D10 gate = (
  some ((gate, 1, ([] : List ((Int) × ((Int) × ((Int) × ((Int) × ((Int) × ((Int) × (Int))))))))), (gate, 1, ([] : List ((Int) × ((Int) × ((Int) × ((Int) × ((Int) × ((Int) × (Int)))))))), ([] : List ((Int) × ((Int) × ((Int) × ((Int) × ((Int) × ((Int) × (Int)))))))))) : Option (((Int) × ((Int) × (List ((Int) × ((Int) × ((Int) × ((Int) × ((Int) × ((Int) × (Int)))))))))) × ((Int) × ((Int) × ((List ((Int) × ((Int) × ((Int) × ((Int) × ((Int) × ((Int) × (Int)))))))) × (List ((Int) × ((Int) × ((Int) × ((Int) × ((Int) × ((Int) × (Int))))))))))))) := by kernel_rfl
noncomputable def D29 (a0 : List ((Int) × ((Int) × ((Int) × ((Int) × ((Int) × ((Int) × (Int)))))))) : Option (List ((Int) × ((Int) × ((Int) × ((Int) × ((Int) × ((Int) × (Int)))))))) := d29 a0
theorem e29 (s : List ((Int) × ((Int) × ((Int) × ((Int) × ((Int) × ((Int) × (Int)))))))) : D29 s = (bif (Nat.ble ((List.length ([] : List ((Int) × ((Int) × ((Int) × ((Int) × ((Int) × ((Int) × (Int)))))))) + List.length s) * 56) appendLimit && Nat.ble (List.length ([] : List ((Int) × ((Int) × ((Int) × ((Int) × ((Int) × ((Int) × (Int)))))))) + List.length s) 9223372036854775807) then some (([] : List ((Int) × ((Int) × ((Int) × ((Int) × ((Int) × ((Int) × (Int)))))))) ++ s) else none) := rfl
noncomputable def D31 (a0 : (Int) × ((Int) × ((Int) × ((Int) × ((Int) × ((Int) × (Int))))))) (a1 : (Int) × ((Int) × ((List ((Int) × ((Int) × ((Int) × ((Int) × ((Int) × ((Int) × (Int)))))))) × (List ((Int) × ((Int) × ((Int) × ((Int) × ((Int) × ((Int) × (Int))))))))))) : Option (Bool) := d31 (a0, a1)
theorem e31 (o : (Int) × ((Int) × ((Int) × ((Int) × ((Int) × ((Int) × (Int))))))) (v : (Int) × ((Int) × ((List ((Int) × ((Int) × ((Int) × ((Int) × ((Int) × ((Int) × (Int)))))))) × (List ((Int) × ((Int) × ((Int) × ((Int) × ((Int) × ((Int) × (Int))))))))))) : D31 o v = (
  some (o.2.1 == v.2.1) : Option (Bool)) := by kernel_rfl
noncomputable def D32 (a0 : List ((Int) × ((Int) × ((Int) × ((Int) × ((Int) × ((Int) × (Int)))))))) (a1 : Int) (a2 : Int) : Option (List ((Int) × ((Int) × ((Int) × ((Int) × ((Int) × ((Int) × (Int)))))))) := d32 (a0, a1, a2)
noncomputable def D33 (a0 : List ((Int) × ((Int) × ((Int) × ((Int) × ((Int) × ((Int) × (Int)))))))) (a1 : ((Int) × ((Int) × ((Int) × ((Int) × ((Int) × ((Int) × (Int))))))) → Option (Bool)) : Option (Bool) := d33 (a0, a1)
theorem e33 (s : List ((Int) × ((Int) × ((Int) × ((Int) × ((Int) × ((Int) × (Int)))))))) (f : ((Int) × ((Int) × ((Int) × ((Int) × ((Int) × ((Int) × (Int))))))) → Option (Bool)) : D33 s f = (
  (D30 s f).bind fun r =>
  some (decide (r ≥ 0)) : Option (Bool)) := by kernel_rfl
noncomputable def D34 (a0 : (Int) × ((Int) × ((Int) × ((Int) × ((Int) × ((Int) × (Int))))))) (a1 : (Int) × ((Int) × ((Int) × ((Int) × ((Int) × ((Int) × (Int))))))) : Option (Bool) := d34 (a0, a1)
theorem e34 (o : (Int) × ((Int) × ((Int) × ((Int) × ((Int) × ((Int) × (Int))))))) (v : (Int) × ((Int) × ((Int) × ((Int) × ((Int) × ((Int) × (Int))))))) : D34 o v = (
  some (o.2.1 == v.2.1) : Option (Bool)) := by kernel_rfl
noncomputable def D35 (a0 : (Int) × ((Int) × ((Int) × ((Int) × ((Int) × ((Int) × (Int))))))) (a1 : (Int) × ((Int) × ((Int) × ((Int) × ((Int) × ((Int) × (Int))))))) : Option (Bool) := d35 (a0, a1)
theorem e35 (o : (Int) × ((Int) × ((Int) × ((Int) × ((Int) × ((Int) × (Int))))))) (v : (Int) × ((Int) × ((Int) × ((Int) × ((Int) × ((Int) × (Int))))))) : D35 o v = (
  some (decide (o.2.1 > v.2.1)) : Option (Bool)) := by kernel_rfl
noncomputable def D36 (a0 : List ((Int) × ((Int) × ((Int) × ((Int) × ((Int) × ((Int) × (Int)))))))) (a1 : Int) (a2 : List ((Int) × ((Int) × ((Int) × ((Int) × ((Int) × ((Int) × (Int)))))))) : Option (List ((Int) × ((Int) × ((Int) × ((Int) × ((Int) × ((Int) × (Int)))))))) := d36 (a0, a1, a2)
noncomputable def D11 (a0 : (Int) × ((Int) × ((List ((Int) × ((Int) × ((Int) × ((Int) × ((Int) × ((Int) × (Int)))))))) × (List ((Int) × ((Int) × ((Int) × ((Int) × ((Int) × ((Int) × (Int))))))))))) (a1 : (Int) × ((Int) × ((Int) × ((Int) × ((Int) × ((Int) × (Int))))))) : Option (((Int) × ((Int) × ((List ((Int) × ((Int) × ((Int) × ((Int) × ((Int) × ((Int) × (Int)))))))) × (List ((Int) × ((Int) × ((Int) × ((Int) × ((Int) × ((Int) × (Int))))))))))) × (Int)) := d11 (a0, a1)
noncomputable def lp11_1 (fuel : Nat)  (i1₀ : (Int) × ((Int) × ((List ((Int) × ((Int) × ((Int) × ((Int) × ((Int) × ((Int) × (Int)))))))) × (List ((Int) × ((Int) × ((Int) × ((Int) × ((Int) × ((Int) × (Int))))))))))) (v₀ : (Int) × ((Int) × ((List ((Int) × ((Int) × ((Int) × ((Int) × ((Int) × ((Int) × (Int)))))))) × (List ((Int) × ((Int) × ((Int) × ((Int) × ((Int) × ((Int) × (Int))))))))))) : Option (((Int) × ((Int) × ((List ((Int) × ((Int) × ((Int) × ((Int) × ((Int) × ((Int) × (Int)))))))) × (List ((Int) × ((Int) × ((Int) × ((Int) × ((Int) × ((Int) × (Int))))))))))) × (Int)) :=
  iter (fun F ((i1, v) : ((Int) × ((Int) × ((List ((Int) × ((Int) × ((Int) × ((Int) × ((Int) × ((Int) × (Int)))))))) × (List ((Int) × ((Int) × ((Int) × ((Int) × ((Int) × ((Int) × (Int))))))))))) × ((Int) × ((Int) × ((List ((Int) × ((Int) × ((Int) × ((Int) × ((Int) × ((Int) × (Int)))))))) × (List ((Int) × ((Int) × ((Int) × ((Int) × ((Int) × ((Int) × (Int)))))))))))) =>
    (D30 i1.2.2.2 (fun y => D31 y i1)).bind fun r3 =>
    bif decide (r3 < 0) then some (i1, IntKind.i64.wrap (i1.2.1 - 1))
    else (idx i1.2.2.2 r3).bind fun e =>
    bif (Nat.ble ((List.length i1.2.2.1 + List.length [e]) * 56) appendLimit && Nat.ble (List.length i1.2.2.1 + List.length [e]) 9223372036854775807) then (
      (D32 i1.2.2.2 r3 (IntKind.i64.wrap (r3 + 1))).bind fun r4 =>
      F ((i1.1, IntKind.i64.wrap (i1.2.1 + 1), i1.2.2.1 ++ [e], r4), v))
    else none) fuel (i1₀, v₀)
theorem g11 (fuel : Nat) (i : (Int) × ((Int) × ((List ((Int) × ((Int) × ((Int) × ((Int) × ((Int) × ((Int) × (Int)))))))) × (List ((Int) × ((Int) × ((Int) × ((Int) × ((Int) × ((Int) × (Int))))))))))) (r : (Int) × ((Int) × ((Int) × ((Int) × ((Int) × ((Int) × (Int))))))) : (fnK tab env11 8 ann11 fuel Try.f11 [] ps11 rs11 false (i, r) : Option (((Int) × ((Int) × ((List ((Int) × ((Int) × ((Int) × ((Int) × ((Int) × ((Int) × (Int)))))))) × (List ((Int) × ((Int) × ((Int) × ((Int) × ((Int) × ((Int) × (Int))))))))))) × (Int))) = (
  (D29 i.2.2.1).bind fun r1 =>
  (D29 i.2.2.2).bind fun r2 =>
  bif (r.1 != i.1) then some ((i.1, i.2.1, r1, r2), IntKind.i64.wrap (i.2.1 - 1))
  else bif decide (r.2.1 < i.2.1) then some ((i.1, i.2.1, r1, r2), IntKind.i64.wrap (i.2.1 - 1))
  else bif (r.2.1 == i.2.1) then (
    bif (Nat.ble ((List.length r1 + List.length [r]) * 56) appendLimit && Nat.ble (List.length r1 + List.length [r]) 9223372036854775807) then lp11_1 fuel (i.1, IntKind.i64.wrap (i.2.1 + 1), r1 ++ [r], r2) (0, 0, ([] : List ((Int) × ((Int) × ((Int) × ((Int) × ((Int) × ((Int) × (Int)))))))), ([] : List ((Int) × ((Int) × ((Int) × ((Int) × ((Int) × ((Int) × (Int)))))))))
    else none)
  else (D33 r2 (fun y => D34 y r)).bind fun r3 =>
  bif (!r3) then (
    (D30 r2 (fun y => D35 y r)).bind fun r4 =>
    bif decide (r4 < 0) then (
      (D36 r2 (List.length r2 : Int) [r]).bind fun r5 =>
      some ((i.1, i.2.1, r1, r5), IntKind.i64.wrap (i.2.1 - 1)))
    else (D36 r2 r4 [r]).bind fun r5 =>
    some ((i.1, i.2.1, r1, r5), IntKind.i64.wrap (i.2.1 - 1)))
  else some ((i.1, i.2.1, r1, r2), IntKind.i64.wrap (i.2.1 - 1)) : Option (((Int) × ((Int) × ((List ((Int) × ((Int) × ((Int) × ((Int) × ((Int) × ((Int) × (Int)))))))) × (List ((Int) × ((Int) × ((Int) × ((Int) × ((Int) × ((Int) × (Int))))))))))) × (Int))) := by kernel_rfl
theorem e11 (i : (Int) × ((Int) × ((List ((Int) × ((Int) × ((Int) × ((Int) × ((Int) × ((Int) × (Int)))))))) × (List ((Int) × ((Int) × ((Int) × ((Int) × ((Int) × ((Int) × (Int))))))))))) (r : (Int) × ((Int) × ((Int) × ((Int) × ((Int) × ((Int) × (Int))))))) : D11 i r = (
  (D29 i.2.2.1).bind fun r1 =>
  (D29 i.2.2.2).bind fun r2 =>
  bif (r.1 != i.1) then some ((i.1, i.2.1, r1, r2), IntKind.i64.wrap (i.2.1 - 1))
  else bif decide (r.2.1 < i.2.1) then some ((i.1, i.2.1, r1, r2), IntKind.i64.wrap (i.2.1 - 1))
  else bif (r.2.1 == i.2.1) then (
    bif (Nat.ble ((List.length r1 + List.length [r]) * 56) appendLimit && Nat.ble (List.length r1 + List.length [r]) 9223372036854775807) then lp11_1 big (i.1, IntKind.i64.wrap (i.2.1 + 1), r1 ++ [r], r2) (0, 0, ([] : List ((Int) × ((Int) × ((Int) × ((Int) × ((Int) × ((Int) × (Int)))))))), ([] : List ((Int) × ((Int) × ((Int) × ((Int) × ((Int) × ((Int) × (Int)))))))))
    else none)
  else (D33 r2 (fun y => D34 y r)).bind fun r3 =>
  bif (!r3) then (
    (D30 r2 (fun y => D35 y r)).bind fun r4 =>
    bif decide (r4 < 0) then (
      (D36 r2 (List.length r2 : Int) [r]).bind fun r5 =>
      some ((i.1, i.2.1, r1, r5), IntKind.i64.wrap (i.2.1 - 1)))
    else (D36 r2 r4 [r]).bind fun r5 =>
    some ((i.1, i.2.1, r1, r5), IntKind.i64.wrap (i.2.1 - 1)))
  else some ((i.1, i.2.1, r1, r2), IntKind.i64.wrap (i.2.1 - 1)) : Option (((Int) × ((Int) × ((List ((Int) × ((Int) × ((Int) × ((Int) × ((Int) × ((Int) × (Int)))))))) × (List ((Int) × ((Int) × ((Int) × ((Int) × ((Int) × ((Int) × (Int))))))))))) × (Int))) := g11 big i r
noncomputable def D6 (a0 : Int) (a1 : Int) : Option (List ((Int) × ((Int) × ((Int) × ((Int) × ((Int) × ((Int) × (Int)))))))) := d6 (a0, a1)
noncomputable def D9 (a0 : List ((Int) × ((Int) × ((Int) × ((Int) × ((Int) × ((Int) × (Int)))))))) (a1 : List ((Int) × ((Int) × ((Int) × ((Int) × ((Int) × ((Int) × (Int)))))))) : Option (Bool) := d9 (a0, a1)
noncomputable def lp9_1 (fuel : Nat)  (a1₀ : List ((Int) × ((Int) × ((Int) × ((Int) × ((Int) × ((Int) × (Int)))))))) (b1₀ : List ((Int) × ((Int) × ((Int) × ((Int) × ((Int) × ((Int) × (Int)))))))) (i₀ : Int) : Option (Bool) :=
  iter (fun F ((a1, b1, i) : (List ((Int) × ((Int) × ((Int) × ((Int) × ((Int) × ((Int) × (Int)))))))) × (List ((Int) × ((Int) × ((Int) × ((Int) × ((Int) × ((Int) × (Int)))))))) × Int) =>
    bif decide (i < (List.length a1 : Int)) then (
      (idx a1 i).bind fun e =>
      (idx b1 i).bind fun e1 =>
      bif (!((e.1 == e1.1) && ((e.2.1 == e1.2.1) && ((e.2.2.1 == e1.2.2.1) && ((e.2.2.2.1 == e1.2.2.2.1) && ((e.2.2.2.2.1 == e1.2.2.2.2.1) && ((e.2.2.2.2.2.1 == e1.2.2.2.2.2.1) && (e.2.2.2.2.2.2 == e1.2.2.2.2.2.2)))))))) then some false
      else F (a1, b1, IntKind.i64.wrap (i + 1)))
    else some true) fuel (a1₀, b1₀, i₀)
theorem f9_1  (a1 : List ((Int) × ((Int) × ((Int) × ((Int) × ((Int) × ((Int) × (Int)))))))) (b1 : List ((Int) × ((Int) × ((Int) × ((Int) × ((Int) × ((Int) × (Int)))))))) (hl : (a1).length ≤ maxLen) : lp9_1 big a1 b1 0 =
  forI (fun ix el (_ : Unit) K =>
    ((idx b1 (ix : Int)).bind fun e1 =>
    bif (!((el.1 == e1.1) && ((el.2.1 == e1.2.1) && ((el.2.2.1 == e1.2.2.1) && ((el.2.2.2.1 == e1.2.2.2.1) && ((el.2.2.2.2.1 == e1.2.2.2.2.1) && ((el.2.2.2.2.2.1 == e1.2.2.2.2.2.1) && (el.2.2.2.2.2.2 == e1.2.2.2.2.2.2)))))))) then some false
    else K () : Option (Bool)))
    (fun (_ : Unit) =>
    (some true : Option (Bool))) 0 a1 () := by
  refine iter_forI_from a1 (fun ix (_ : Unit) => (a1, b1, (ix : Int))) _ _ ?_ ?_ (k := 0) (Nat.zero_le _) (len_lt_big hl) ()
  · rintro F k h _
    simp only [dec_lt h, condT, idx_get h, bindS, wrap_succ h hl]
  · rintro F _
    simp only [dec_end, condF]
theorem g9 (fuel : Nat) (a : List ((Int) × ((Int) × ((Int) × ((Int) × ((Int) × ((Int) × (Int)))))))) (b : List ((Int) × ((Int) × ((Int) × ((Int) × ((Int) × ((Int) × (Int)))))))) : (fnK tab env9 6 ann9 fuel Try.f9 [] ps9 rs9 true (a, b) : Option (Bool)) = (
  bif ((List.length a : Int) != (List.length b : Int)) then some false
  else lp9_1 fuel a b 0 : Option (Bool)) := by kernel_rfl
theorem e9 (a : List ((Int) × ((Int) × ((Int) × ((Int) × ((Int) × ((Int) × (Int)))))))) (b : List ((Int) × ((Int) × ((Int) × ((Int) × ((Int) × ((Int) × (Int)))))))) : D9 a b = (
  bif ((List.length a : Int) != (List.length b : Int)) then some false
  else lp9_1 big a b 0 : Option (Bool)) := g9 big a b
noncomputable def D38 (a0 : (Int) × ((Int) × ((Int) × ((Int) × ((Int) × ((Int) × (Int))))))) : Option (Bool) := d38 a0
theorem e38 (r : (Int) × ((Int) × ((Int) × ((Int) × ((Int) × ((Int) × (Int))))))) : D38 r = (
  bif decide (r.1 ≥ 1) then (
    bif decide (r.1 ≤ 9999) then (
      bif decide (r.2.2.1 ≥ 1) then (
        bif decide (r.2.2.1 ≤ 9999) then (
          bif decide (r.2.2.2.2.1 ≥ 1) then (
            bif decide (r.2.2.2.2.1 ≤ 9999) then (
              bif decide (r.2.2.2.2.2.1 ≥ 1) then (
                bif decide (r.2.2.2.2.2.1 ≤ 9999) then (
                  bif decide (r.2.1 ≥ 1) then (
                    bif decide (r.2.1 ≤ 1000000) then (
                      bif decide (r.2.2.2.1 ≥ 1) then (
                        bif decide (r.2.2.2.1 ≤ 1000000) then (
                          bif decide (r.2.2.2.2.2.2 ≥ 0) then some (decide (r.2.2.2.2.2.2 ≤ 20000000))
                          else some false)
                        else some false)
                      else some false)
                    else some false)
                  else some false)
                else some false)
              else some false)
            else some false)
          else some false)
        else some false)
      else some false)
    else some false)
  else some false : Option (Bool)) := by kernel_rfl
noncomputable def D39 (a0 : (Int) × ((Int) × ((Int) × ((Int) × ((Int) × ((Int) × (Int))))))) (a1 : (Int) × ((Int) × ((Int) × ((Int) × ((Int) × ((Int) × (Int))))))) : Option (Bool) := d39 (a0, a1)
theorem e39 (a : (Int) × ((Int) × ((Int) × ((Int) × ((Int) × ((Int) × (Int))))))) (b : (Int) × ((Int) × ((Int) × ((Int) × ((Int) × ((Int) × (Int))))))) : D39 a b = (
  bif decide (a.1 < b.1) then some true
  else bif (a.1 == b.1) then some (decide (a.2.1 < b.2.1))
  else some false : Option (Bool)) := by kernel_rfl
noncomputable def D13 (a0 : List ((Int) × ((Int) × ((Int) × ((Int) × ((Int) × ((Int) × (Int)))))))) : Option (Int) := d13 a0
noncomputable def lp13_1 (fuel : Nat)  (l1₀ : List ((Int) × ((Int) × ((Int) × ((Int) × ((Int) × ((Int) × (Int)))))))) (i₀ : Int) : Option (Int) :=
  iter (fun F ((l1, i) : (List ((Int) × ((Int) × ((Int) × ((Int) × ((Int) × ((Int) × (Int)))))))) × Int) =>
    bif decide (i < (List.length l1 : Int)) then (
      (idx l1 i).bind fun e =>
      (D38 e).bind fun r =>
      bif (!r) then some 2
      else bif decide (i > 0) then (
        (idx l1 (IntKind.i64.wrap (i - 1))).bind fun e1 =>
        (idx l1 i).bind fun e2 =>
        (D39 e1 e2).bind fun r1 =>
        bif (!r1) then some 11
        else F (l1, IntKind.i64.wrap (i + 1)))
      else F (l1, IntKind.i64.wrap (i + 1)))
    else some 0) fuel (l1₀, i₀)
theorem f13_1  (l1 : List ((Int) × ((Int) × ((Int) × ((Int) × ((Int) × ((Int) × (Int)))))))) (hl : (l1).length ≤ maxLen) : lp13_1 big l1 0 =
  forI (fun ix el (_ : Unit) K =>
    ((D38 el).bind fun r =>
    bif (!r) then some 2
    else bif decide ((ix : Int) > 0) then (
      (idx l1 (IntKind.i64.wrap ((ix : Int) - 1))).bind fun e1 =>
      (D39 e1 el).bind fun r1 =>
      bif (!r1) then some 11
      else K ())
    else K () : Option (Int)))
    (fun (_ : Unit) =>
    (some 0 : Option (Int))) 0 l1 () := by
  refine iter_forI_from l1 (fun ix (_ : Unit) => (l1, (ix : Int))) _ _ ?_ ?_ (k := 0) (Nat.zero_le _) (len_lt_big hl) ()
  · rintro F k h _
    simp only [dec_lt h, condT, idx_get h, bindS, wrap_succ h hl]
  · rintro F _
    simp only [dec_end, condF]
theorem g13 (fuel : Nat) (l : List ((Int) × ((Int) × ((Int) × ((Int) × ((Int) × ((Int) × (Int)))))))) : (fnK tab env13 4 ann13 fuel Try.f13 [] ps13 rs13 true l : Option (Int)) = (
  bif decide ((List.length l : Int) > 2000) then some 4
  else lp13_1 fuel l 0 : Option (Int)) := by kernel_rfl
theorem e13 (l : List ((Int) × ((Int) × ((Int) × ((Int) × ((Int) × ((Int) × (Int)))))))) : D13 l = (
  bif decide ((List.length l : Int) > 2000) then some 4
  else lp13_1 big l 0 : Option (Int)) := g13 big l
noncomputable def D14 (a0 : List ((Int) × ((Int) × ((Int) × ((Int) × ((Int) × ((Int) × (Int)))))))) (a1 : Int) : Option (Int) := d14 (a0, a1)
noncomputable def lp14_1 (fuel : Nat)  (gate1₀ : Int) (n₀ : Int) (v₀ : List ((Int) × ((Int) × ((Int) × ((Int) × ((Int) × ((Int) × (Int)))))))) (v1₀ : Int) (v2₀ : Int) : Option (Int) :=
  iter (fun F ((gate1, n, v, v1, v2) : Int × Int × (List ((Int) × ((Int) × ((Int) × ((Int) × ((Int) × ((Int) × (Int)))))))) × Int × Int) =>
    bif decide (v2 < v1) then (
      (idx v v2).bind fun e =>
      bif (e.1 == gate1) then (
        bif (e.2.1 == IntKind.i64.wrap (n + 1)) then F (gate1, IntKind.i64.wrap (n + 1), v, v1, IntKind.i64.wrap (v2 + 1))
        else F (gate1, n, v, v1, IntKind.i64.wrap (v2 + 1)))
      else F (gate1, n, v, v1, IntKind.i64.wrap (v2 + 1)))
    else some n) fuel (gate1₀, n₀, v₀, v1₀, v2₀)
theorem f14_1  (gate1 : Int) (n : Int) (v : List ((Int) × ((Int) × ((Int) × ((Int) × ((Int) × ((Int) × (Int)))))))) (hl : (v).length ≤ maxLen) : lp14_1 big gate1 n v (List.length v : Int) 0 =
  forE (fun  el (n : Int) K =>
    (bif (el.1 == gate1) then (
      bif (el.2.1 == IntKind.i64.wrap (n + 1)) then K (IntKind.i64.wrap (n + 1))
      else K n)
    else K n : Option (Int)))
    (fun (n : Int) =>
    (some n : Option (Int))) v n := by
  refine iter_forE v (fun ix (n : Int) => (gate1, n, v, (List.length v : Int), (ix : Int))) _ _ ?_ ?_ (len_lt_big hl) n
  · rintro F k h n
    simp only [dec_lt h, condT, idx_get h, bindS, wrap_succ h hl]
  · rintro F n
    simp only [dec_end, condF]
theorem g14 (fuel : Nat) (l : List ((Int) × ((Int) × ((Int) × ((Int) × ((Int) × ((Int) × (Int)))))))) (gate : Int) : (fnK tab env14 8 ann14 fuel Try.f14 [] ps14 rs14 true (l, gate) : Option (Int)) = (
  lp14_1 fuel gate 0 l (List.length l : Int) 0 : Option (Int)) := by kernel_rfl
theorem e14 (l : List ((Int) × ((Int) × ((Int) × ((Int) × ((Int) × ((Int) × (Int)))))))) (gate : Int) : D14 l gate = (
  lp14_1 big gate 0 l (List.length l : Int) 0 : Option (Int)) := g14 big l gate
noncomputable def D74 (a0 : Int) : Option (Bool) := d74 a0
theorem e74 (n : Int) : D74 n = (
  bif decide (n ≥ 1) then some (decide (n ≤ 9999))
  else some false : Option (Bool)) := by kernel_rfl
noncomputable def D37 (a0 : (Int) × ((Int) × ((Int) × ((Int) × ((Int) × ((Int) × (Int))))))) : Option (Bool) := d37 a0
theorem e37 (r : (Int) × ((Int) × ((Int) × ((Int) × ((Int) × ((Int) × (Int))))))) : D37 r = (
  (D74 r.1).bind fun r1 =>
  bif (!r1) then some false
  else (D74 r.2.2.1).bind fun r2 =>
  bif (!r2) then some false
  else (D74 r.2.2.2.2.1).bind fun r3 =>
  bif (!r3) then some false
  else (D74 r.2.2.2.2.2.1).bind fun r4 =>
  bif (!r4) then some false
  else bif decide (r.2.1 < 1) then some false
  else bif decide (r.2.1 > 1000000) then some false
  else bif decide (r.2.2.2.1 < 1) then some false
  else bif decide (r.2.2.2.1 > 1000000) then some false
  else bif decide (r.2.2.2.2.2.2 ≥ 0) then some (decide (r.2.2.2.2.2.2 ≤ 20000000))
  else some false : Option (Bool)) := by kernel_rfl
noncomputable def D41 (a0 : (Int) × ((Int) × ((Int) × ((Int) × ((Int) × ((Int) × (Int))))))) (a1 : (Int) × ((Int) × ((Int) × ((Int) × ((Int) × ((Int) × (Int))))))) : Option (Int) := d41 (a0, a1)
theorem e41 (a : (Int) × ((Int) × ((Int) × ((Int) × ((Int) × ((Int) × (Int))))))) (b : (Int) × ((Int) × ((Int) × ((Int) × ((Int) × ((Int) × (Int))))))) : D41 a b = (
  (D52 a.1 b.1).bind fun r =>
  (D52 a.2.1 b.2.1).bind fun r1 =>
  (D51 [r, r1]).bind fun r2 =>
  some r2 : Option (Int)) := by kernel_rfl
end Go.Proofs.Ytbapfiaglcllnaa.D
