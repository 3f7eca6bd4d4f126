import Derived.Test.YtbapfiaglcllnaaXT3R
import Derived.Test.YtbapfiaglcllnaaEXR8
open Go Go.GD Go.Proofs
namespace Go.Proofs.Ytbapfiaglcllnaa.D
noncomputable def D3 (a0 : Int) (a1 : Int) (a2 : List (Int)) (a3 : Int) : Option (Bool) := d3 (a0, a1, a2, a3)
noncomputable def lp3_1 (fuel : Nat) (F1 : ((List ((Int) × ((Int) × ((Int) × ((Int) × ((Int) × ((Int) × (Int)))))))) × (List ((Int) × ((Int) × ((Int) × ((Int) × ((Int) × ((Int) × (Int)))))))) × (List ((Int) × ((Int) × ((Int) × ((Int) × ((Int) × ((Int) × (Int)))))))) × (List ((Int) × ((Int) × ((Int) × ((Int) × ((Int) × ((Int) × (Int)))))))) × Int) → Option (Bool)) (first_2₀ : List ((Int) × ((Int) × ((Int) × ((Int) × ((Int) × ((Int) × (Int)))))))) (second2₀ : List ((Int) × ((Int) × ((Int) × ((Int) × ((Int) × ((Int) × (Int)))))))) (store2₀ : List ((Int) × ((Int) × ((Int) × ((Int) × ((Int) × ((Int) × (Int)))))))) (seen2₀ : List ((Int) × ((Int) × ((Int) × ((Int) × ((Int) × ((Int) × (Int)))))))) (j2₀ : Int) (there₀ : Bool) (x₀ : Int) : Option (Bool) :=
  iter (fun F2 ((first_2, second2, store2, seen2, j2, there, x) : (List ((Int) × ((Int) × ((Int) × ((Int) × ((Int) × ((Int) × (Int)))))))) × (List ((Int) × ((Int) × ((Int) × ((Int) × ((Int) × ((Int) × (Int)))))))) × (List ((Int) × ((Int) × ((Int) × ((Int) × ((Int) × ((Int) × (Int)))))))) × (List ((Int) × ((Int) × ((Int) × ((Int) × ((Int) × ((Int) × (Int)))))))) × Int × Bool × Int) =>
    bif decide (x < (List.length seen2 : Int)) then (
      bif there then F2 (first_2, second2, store2, seen2, j2, true, IntKind.i64.wrap (x + 1))
      else (idx seen2 x).bind fun e =>
      (idx store2 j2).bind fun e1 =>
      F2 (first_2, second2, store2, seen2, j2, ((e.1 == e1.1) && ((e.2.1 == e1.2.1) && ((e.2.2.1 == e1.2.2.1) && ((e.2.2.2.1 == e1.2.2.2.1) && ((e.2.2.2.2.1 == e1.2.2.2.2.1) && ((e.2.2.2.2.2.1 == e1.2.2.2.2.2.1) && (e.2.2.2.2.2.2 == e1.2.2.2.2.2.2))))))), IntKind.i64.wrap (x + 1)))
    else bif (!there) then some false
    else F1 (first_2, second2, store2, seen2, IntKind.i64.wrap (j2 + 1))) fuel (first_2₀, second2₀, store2₀, seen2₀, j2₀, there₀, x₀)
theorem f3_1 (F1 : ((List ((Int) × ((Int) × ((Int) × ((Int) × ((Int) × ((Int) × (Int)))))))) × (List ((Int) × ((Int) × ((Int) × ((Int) × ((Int) × ((Int) × (Int)))))))) × (List ((Int) × ((Int) × ((Int) × ((Int) × ((Int) × ((Int) × (Int)))))))) × (List ((Int) × ((Int) × ((Int) × ((Int) × ((Int) × ((Int) × (Int)))))))) × Int) → Option (Bool)) (first_2 : List ((Int) × ((Int) × ((Int) × ((Int) × ((Int) × ((Int) × (Int)))))))) (second2 : List ((Int) × ((Int) × ((Int) × ((Int) × ((Int) × ((Int) × (Int)))))))) (store2 : List ((Int) × ((Int) × ((Int) × ((Int) × ((Int) × ((Int) × (Int)))))))) (seen2 : List ((Int) × ((Int) × ((Int) × ((Int) × ((Int) × ((Int) × (Int)))))))) (j2 : Int) (there : Bool) (hl : (seen2).length ≤ maxLen) : lp3_1 big F1 first_2 second2 store2 seen2 j2 there 0 =
  forE (fun  el (there : Bool) K =>
    (bif there then K true
    else (idx store2 j2).bind fun e1 =>
    K ((el.1 == e1.1) && ((el.2.1 == e1.2.1) && ((el.2.2.1 == e1.2.2.1) && ((el.2.2.2.1 == e1.2.2.2.1) && ((el.2.2.2.2.1 == e1.2.2.2.2.1) && ((el.2.2.2.2.2.1 == e1.2.2.2.2.2.1) && (el.2.2.2.2.2.2 == e1.2.2.2.2.2.2))))))) : Option (Bool)))
    (fun (there : Bool) =>
    (bif (!there) then some false
    else F1 (first_2, second2, store2, seen2, IntKind.i64.wrap (j2 + 1)) : Option (Bool))) seen2 there := by
  refine iter_forE seen2 (fun ix (there : Bool) => (first_2, second2, store2, seen2, j2, there, (ix : Int))) _ _ ?_ ?_ (len_lt_big hl) there
  · rintro F k h there
    simp only [dec_lt h, condT, idx_get h, bindS, wrap_succ h hl]
  · rintro F there
    simp only [dec_end, condF]
noncomputable def lp3_3 (fuel : Nat)  (first_1₀ : List ((Int) × ((Int) × ((Int) × ((Int) × ((Int) × ((Int) × (Int)))))))) (second1₀ : List ((Int) × ((Int) × ((Int) × ((Int) × ((Int) × ((Int) × (Int)))))))) (store1₀ : List ((Int) × ((Int) × ((Int) × ((Int) × ((Int) × ((Int) × (Int)))))))) (seen1₀ : List ((Int) × ((Int) × ((Int) × ((Int) × ((Int) × ((Int) × (Int)))))))) (j1₀ : Int) : Option (Bool) :=
  iter (fun F1 ((first_1, second1, store1, seen1, j1) : (List ((Int) × ((Int) × ((Int) × ((Int) × ((Int) × ((Int) × (Int)))))))) × (List ((Int) × ((Int) × ((Int) × ((Int) × ((Int) × ((Int) × (Int)))))))) × (List ((Int) × ((Int) × ((Int) × ((Int) × ((Int) × ((Int) × (Int)))))))) × (List ((Int) × ((Int) × ((Int) × ((Int) × ((Int) × ((Int) × (Int)))))))) × Int) =>
    bif decide (j1 < (List.length store1 : Int)) then lp3_1 fuel F1 first_1 second1 store1 seen1 j1 false 0
    else bif (Nat.ble ((List.length ([] : List ((Int) × ((Int) × ((Int) × ((Int) × ((Int) × ((Int) × (Int)))))))) + List.length first_1) * 56) appendLimit && Nat.ble (List.length ([] : List ((Int) × ((Int) × ((Int) × ((Int) × ((Int) × ((Int) × (Int)))))))) + List.length first_1) 9223372036854775807) then (
      bif (Nat.ble ((List.length (([] : List ((Int) × ((Int) × ((Int) × ((Int) × ((Int) × ((Int) × (Int)))))))) ++ first_1) + List.length second1) * 56) appendLimit && Nat.ble (List.length (([] : List ((Int) × ((Int) × ((Int) × ((Int) × ((Int) × ((Int) × (Int)))))))) ++ first_1) + List.length second1) 9223372036854775807) then (
        (D15 store1 ((([] : List ((Int) × ((Int) × ((Int) × ((Int) × ((Int) × ((Int) × (Int)))))))) ++ first_1) ++ second1)).bind fun r13 =>
        bif (r13.2 == 0) then (
          bif (Nat.ble ((List.length ([] : List ((Int) × ((Int) × ((Int) × ((Int) × ((Int) × ((Int) × (Int)))))))) + List.length first_1) * 56) appendLimit && Nat.ble (List.length ([] : List ((Int) × ((Int) × ((Int) × ((Int) × ((Int) × ((Int) × (Int)))))))) + List.length first_1) 9223372036854775807) then (
            bif (Nat.ble ((List.length (([] : List ((Int) × ((Int) × ((Int) × ((Int) × ((Int) × ((Int) × (Int)))))))) ++ first_1) + List.length second1) * 56) appendLimit && Nat.ble (List.length (([] : List ((Int) × ((Int) × ((Int) × ((Int) × ((Int) × ((Int) × (Int)))))))) ++ first_1) + List.length second1) 9223372036854775807) then (
              (D9 r13.1 ((([] : List ((Int) × ((Int) × ((Int) × ((Int) × ((Int) × ((Int) × (Int)))))))) ++ first_1) ++ second1)).bind fun r14 =>
              some r14)
            else none)
          else none)
        else some false)
      else none)
    else none) fuel (first_1₀, second1₀, store1₀, seen1₀, j1₀)
noncomputable def lp3_4 (fuel : Nat) (F1 : ((List ((Int) × ((Int) × ((Int) × ((Int) × ((Int) × ((Int) × (Int)))))))) × (List ((Int) × ((Int) × ((Int) × ((Int) × ((Int) × ((Int) × (Int)))))))) × (List ((Int) × ((Int) × ((Int) × ((Int) × ((Int) × ((Int) × (Int)))))))) × (List ((Int) × ((Int) × ((Int) × ((Int) × ((Int) × ((Int) × (Int)))))))) × Int) → Option (Bool)) (first_2₀ : List ((Int) × ((Int) × ((Int) × ((Int) × ((Int) × ((Int) × (Int)))))))) (second2₀ : List ((Int) × ((Int) × ((Int) × ((Int) × ((Int) × ((Int) × (Int)))))))) (store2₀ : List ((Int) × ((Int) × ((Int) × ((Int) × ((Int) × ((Int) × (Int)))))))) (seen2₀ : List ((Int) × ((Int) × ((Int) × ((Int) × ((Int) × ((Int) × (Int)))))))) (j2₀ : Int) (there₀ : Bool) (x₀ : Int) : Option (Bool) :=
  iter (fun F2 ((first_2, second2, store2, seen2, j2, there, x) : (List ((Int) × ((Int) × ((Int) × ((Int) × ((Int) × ((Int) × (Int)))))))) × (List ((Int) × ((Int) × ((Int) × ((Int) × ((Int) × ((Int) × (Int)))))))) × (List ((Int) × ((Int) × ((Int) × ((Int) × ((Int) × ((Int) × (Int)))))))) × (List ((Int) × ((Int) × ((Int) × ((Int) × ((Int) × ((Int) × (Int)))))))) × Int × Bool × Int) =>
    bif decide (x < (List.length seen2 : Int)) then (
      bif there then F2 (first_2, second2, store2, seen2, j2, true, IntKind.i64.wrap (x + 1))
      else (idx seen2 x).bind fun e =>
      (idx store2 j2).bind fun e1 =>
      F2 (first_2, second2, store2, seen2, j2, ((e.1 == e1.1) && ((e.2.1 == e1.2.1) && ((e.2.2.1 == e1.2.2.1) && ((e.2.2.2.1 == e1.2.2.2.1) && ((e.2.2.2.2.1 == e1.2.2.2.2.1) && ((e.2.2.2.2.2.1 == e1.2.2.2.2.2.1) && (e.2.2.2.2.2.2 == e1.2.2.2.2.2.2))))))), IntKind.i64.wrap (x + 1)))
    else bif (!there) then some false
    else F1 (first_2, second2, store2, seen2, IntKind.i64.wrap (j2 + 1))) fuel (first_2₀, second2₀, store2₀, seen2₀, j2₀, there₀, x₀)
noncomputable def lp3_6 (fuel : Nat)  (first_1₀ : List ((Int) × ((Int) × ((Int) × ((Int) × ((Int) × ((Int) × (Int)))))))) (second1₀ : List ((Int) × ((Int) × ((Int) × ((Int) × ((Int) × ((Int) × (Int)))))))) (store1₀ : List ((Int) × ((Int) × ((Int) × ((Int) × ((Int) × ((Int) × (Int)))))))) (seen1₀ : List ((Int) × ((Int) × ((Int) × ((Int) × ((Int) × ((Int) × (Int)))))))) (j1₀ : Int) : Option (Bool) :=
  iter (fun F1 ((first_1, second1, store1, seen1, j1) : (List ((Int) × ((Int) × ((Int) × ((Int) × ((Int) × ((Int) × (Int)))))))) × (List ((Int) × ((Int) × ((Int) × ((Int) × ((Int) × ((Int) × (Int)))))))) × (List ((Int) × ((Int) × ((Int) × ((Int) × ((Int) × ((Int) × (Int)))))))) × (List ((Int) × ((Int) × ((Int) × ((Int) × ((Int) × ((Int) × (Int)))))))) × Int) =>
    bif decide (j1 < (List.length store1 : Int)) then lp3_4 fuel F1 first_1 second1 store1 seen1 j1 false 0
    else bif (Nat.ble ((List.length ([] : List ((Int) × ((Int) × ((Int) × ((Int) × ((Int) × ((Int) × (Int)))))))) + List.length first_1) * 56) appendLimit && Nat.ble (List.length ([] : List ((Int) × ((Int) × ((Int) × ((Int) × ((Int) × ((Int) × (Int)))))))) + List.length first_1) 9223372036854775807) then (
      bif (Nat.ble ((List.length (([] : List ((Int) × ((Int) × ((Int) × ((Int) × ((Int) × ((Int) × (Int)))))))) ++ first_1) + List.length second1) * 56) appendLimit && Nat.ble (List.length (([] : List ((Int) × ((Int) × ((Int) × ((Int) × ((Int) × ((Int) × (Int)))))))) ++ first_1) + List.length second1) 9223372036854775807) then (
        (D15 store1 ((([] : List ((Int) × ((Int) × ((Int) × ((Int) × ((Int) × ((Int) × (Int)))))))) ++ first_1) ++ second1)).bind fun r13 =>
        bif (r13.2 == 0) then (
          bif (Nat.ble ((List.length ([] : List ((Int) × ((Int) × ((Int) × ((Int) × ((Int) × ((Int) × (Int)))))))) + List.length first_1) * 56) appendLimit && Nat.ble (List.length ([] : List ((Int) × ((Int) × ((Int) × ((Int) × ((Int) × ((Int) × (Int)))))))) + List.length first_1) 9223372036854775807) then (
            bif (Nat.ble ((List.length (([] : List ((Int) × ((Int) × ((Int) × ((Int) × ((Int) × ((Int) × (Int)))))))) ++ first_1) + List.length second1) * 56) appendLimit && Nat.ble (List.length (([] : List ((Int) × ((Int) × ((Int) × ((Int) × ((Int) × ((Int) × (Int)))))))) ++ first_1) + List.length second1) 9223372036854775807) then (
              (D9 r13.1 ((([] : List ((Int) × ((Int) × ((Int) × ((Int) × ((Int) × ((Int) × (Int)))))))) ++ first_1) ++ second1)).bind fun r14 =>
              some r14)
            else none)
          else none)
        else some false)
      else none)
    else none) fuel (first_1₀, second1₀, store1₀, seen1₀, j1₀)
noncomputable def lp3_7 (fuel : Nat)  (a1₀ : Int) (b1₀ : Int) (arrivals1₀ : List (Int)) (first_₀ : List ((Int) × ((Int) × ((Int) × ((Int) × ((Int) × ((Int) × (Int)))))))) (second₀ : List ((Int) × ((Int) × ((Int) × ((Int) × ((Int) × ((Int) × (Int)))))))) (i₀ : (Int) × ((Int) × ((List ((Int) × ((Int) × ((Int) × ((Int) × ((Int) × ((Int) × (Int)))))))) × (List ((Int) × ((Int) × ((Int) × ((Int) × ((Int) × ((Int) × (Int))))))))))) (k_₀ : (Int) × ((Int) × ((List ((Int) × ((Int) × ((Int) × ((Int) × ((Int) × ((Int) × (Int)))))))) × (List ((Int) × ((Int) × ((Int) × ((Int) × ((Int) × ((Int) × (Int))))))))))) (store₀ : List ((Int) × ((Int) × ((Int) × ((Int) × ((Int) × ((Int) × (Int)))))))) (seen₀ : List ((Int) × ((Int) × ((Int) × ((Int) × ((Int) × ((Int) × (Int)))))))) (j₀ : Int) : Option (Bool) :=
  iter (fun F ((a1, b1, arrivals1, first_, second, i, k_, store, seen, j) : Int × Int × (List (Int)) × (List ((Int) × ((Int) × ((Int) × ((Int) × ((Int) × ((Int) × (Int)))))))) × (List ((Int) × ((Int) × ((Int) × ((Int) × ((Int) × ((Int) × (Int)))))))) × ((Int) × ((Int) × ((List ((Int) × ((Int) × ((Int) × ((Int) × ((Int) × ((Int) × (Int)))))))) × (List ((Int) × ((Int) × ((Int) × ((Int) × ((Int) × ((Int) × (Int))))))))))) × ((Int) × ((Int) × ((List ((Int) × ((Int) × ((Int) × ((Int) × ((Int) × ((Int) × (Int)))))))) × (List ((Int) × ((Int) × ((Int) × ((Int) × ((Int) × ((Int) × (Int))))))))))) × (List ((Int) × ((Int) × ((Int) × ((Int) × ((Int) × ((Int) × (Int)))))))) × (List ((Int) × ((Int) × ((Int) × ((Int) × ((Int) × ((Int) × (Int)))))))) × Int) =>
    bif decide (j < (List.length arrivals1 : Int)) then (
      bif (IntKind.i64.wrap (a1 + b1) == 0) then (
        bif decide ((List.length i.2.2.1 : Int) > a1) then some false
        else bif decide ((List.length k_.2.2.1 : Int) > b1) then some false
        else (D13 store).bind fun r8 =>
        bif (r8 != 0) then some false
        else bif (decide (0 ≤ (0 : Int)) && (decide ((0 : Int) ≤ (List.length i.2.2.1 : Int)) && decide (((List.length i.2.2.1 : Int) : Int) ≤ (List.length first_ : Int)))) then (
          (D9 i.2.2.1 (List.drop (Int.toNat 0) (List.take (Int.toNat (List.length i.2.2.1 : Int)) first_))).bind fun r9 =>
          bif (!r9) then some false
          else bif (decide (0 ≤ (0 : Int)) && (decide ((0 : Int) ≤ (List.length k_.2.2.1 : Int)) && decide (((List.length k_.2.2.1 : Int) : Int) ≤ (List.length second : Int)))) then (
            (D9 k_.2.2.1 (List.drop (Int.toNat 0) (List.take (Int.toNat (List.length k_.2.2.1 : Int)) second))).bind fun r10 =>
            bif (!r10) then some false
            else (D14 store 4).bind fun r11 =>
            bif (r11 != (List.length i.2.2.1 : Int)) then some false
            else (D14 store 9).bind fun r12 =>
            bif (r12 != (List.length k_.2.2.1 : Int)) then some false
            else lp3_3 fuel first_ second store seen 0)
          else none)
        else none)
      else (idx arrivals1 j).bind fun e =>
      bif (IntKind.i64.wrap (a1 + b1) == 0) then none
      else bif decide (Int.tmod e (IntKind.i64.wrap (a1 + b1)) < 0) then (
        bif decide (IntKind.i64.wrap ((IntKind.i64.wrap ((Int.tmod e (IntKind.i64.wrap (a1 + b1))) + a1)) + b1) < a1) then (
          (idx first_ (IntKind.i64.wrap ((IntKind.i64.wrap ((Int.tmod e (IntKind.i64.wrap (a1 + b1))) + a1)) + b1))).bind fun e1 =>
          (D11 i e1).bind fun r8 =>
          (D12 store e1).bind fun r9 =>
          bif (r9.2.2 != 0) then some false
          else bif (Nat.ble ((List.length seen + List.length [e1]) * 56) appendLimit && Nat.ble (List.length seen + List.length [e1]) 9223372036854775807) then F (a1, b1, arrivals1, first_, second, r8.1, k_, r9.1, seen ++ [e1], IntKind.i64.wrap (j + 1))
          else none)
        else (idx second (IntKind.i64.wrap ((IntKind.i64.wrap ((IntKind.i64.wrap ((Int.tmod e (IntKind.i64.wrap (a1 + b1))) + a1)) + b1)) - a1))).bind fun e1 =>
        (D11 k_ e1).bind fun r8 =>
        (D12 store e1).bind fun r9 =>
        bif (r9.2.2 != 0) then some false
        else bif (Nat.ble ((List.length seen + List.length [e1]) * 56) appendLimit && Nat.ble (List.length seen + List.length [e1]) 9223372036854775807) then F (a1, b1, arrivals1, first_, second, i, r8.1, r9.1, seen ++ [e1], IntKind.i64.wrap (j + 1))
        else none)
      else bif decide (Int.tmod e (IntKind.i64.wrap (a1 + b1)) < a1) then (
        (idx first_ (Int.tmod e (IntKind.i64.wrap (a1 + b1)))).bind fun e1 =>
        (D11 i e1).bind fun r8 =>
        (D12 store e1).bind fun r9 =>
        bif (r9.2.2 != 0) then some false
        else bif (Nat.ble ((List.length seen + List.length [e1]) * 56) appendLimit && Nat.ble (List.length seen + List.length [e1]) 9223372036854775807) then F (a1, b1, arrivals1, first_, second, r8.1, k_, r9.1, seen ++ [e1], IntKind.i64.wrap (j + 1))
        else none)
      else (idx second (IntKind.i64.wrap ((Int.tmod e (IntKind.i64.wrap (a1 + b1))) - a1))).bind fun e1 =>
      (D11 k_ e1).bind fun r8 =>
      (D12 store e1).bind fun r9 =>
      bif (r9.2.2 != 0) then some false
      else bif (Nat.ble ((List.length seen + List.length [e1]) * 56) appendLimit && Nat.ble (List.length seen + List.length [e1]) 9223372036854775807) then F (a1, b1, arrivals1, first_, second, i, r8.1, r9.1, seen ++ [e1], IntKind.i64.wrap (j + 1))
      else none)
    else bif decide ((List.length i.2.2.1 : Int) > a1) then some false
    else bif decide ((List.length k_.2.2.1 : Int) > b1) then some false
    else (D13 store).bind fun r8 =>
    bif (r8 != 0) then some false
    else bif (decide (0 ≤ (0 : Int)) && (decide ((0 : Int) ≤ (List.length i.2.2.1 : Int)) && decide (((List.length i.2.2.1 : Int) : Int) ≤ (List.length first_ : Int)))) then (
      (D9 i.2.2.1 (List.drop (Int.toNat 0) (List.take (Int.toNat (List.length i.2.2.1 : Int)) first_))).bind fun r9 =>
      bif (!r9) then some false
      else bif (decide (0 ≤ (0 : Int)) && (decide ((0 : Int) ≤ (List.length k_.2.2.1 : Int)) && decide (((List.length k_.2.2.1 : Int) : Int) ≤ (List.length second : Int)))) then (
        (D9 k_.2.2.1 (List.drop (Int.toNat 0) (List.take (Int.toNat (List.length k_.2.2.1 : Int)) second))).bind fun r10 =>
        bif (!r10) then some false
        else (D14 store 4).bind fun r11 =>
        bif (r11 != (List.length i.2.2.1 : Int)) then some false
        else (D14 store 9).bind fun r12 =>
        bif (r12 != (List.length k_.2.2.1 : Int)) then some false
        else lp3_6 fuel first_ second store seen 0)
      else none)
    else none) fuel (a1₀, b1₀, arrivals1₀, first_₀, second₀, i₀, k_₀, store₀, seen₀, j₀)
theorem f3_7  (a1 : Int) (b1 : Int) (arrivals1 : List (Int)) (first_ : List ((Int) × ((Int) × ((Int) × ((Int) × ((Int) × ((Int) × (Int)))))))) (second : List ((Int) × ((Int) × ((Int) × ((Int) × ((Int) × ((Int) × (Int)))))))) (i : (Int) × ((Int) × ((List ((Int) × ((Int) × ((Int) × ((Int) × ((Int) × ((Int) × (Int)))))))) × (List ((Int) × ((Int) × ((Int) × ((Int) × ((Int) × ((Int) × (Int))))))))))) (k_ : (Int) × ((Int) × ((List ((Int) × ((Int) × ((Int) × ((Int) × ((Int) × ((Int) × (Int)))))))) × (List ((Int) × ((Int) × ((Int) × ((Int) × ((Int) × ((Int) × (Int))))))))))) (store : List ((Int) × ((Int) × ((Int) × ((Int) × ((Int) × ((Int) × (Int)))))))) (seen : List ((Int) × ((Int) × ((Int) × ((Int) × ((Int) × ((Int) × (Int)))))))) (hl : (arrivals1).length ≤ maxLen) : lp3_7 big a1 b1 arrivals1 first_ second i k_ store seen 0 =
  forE (fun  el ((i, k_, store, seen) : ((Int) × ((Int) × ((List ((Int) × ((Int) × ((Int) × ((Int) × ((Int) × ((Int) × (Int)))))))) × (List ((Int) × ((Int) × ((Int) × ((Int) × ((Int) × ((Int) × (Int))))))))))) × ((Int) × ((Int) × ((List ((Int) × ((Int) × ((Int) × ((Int) × ((Int) × ((Int) × (Int)))))))) × (List ((Int) × ((Int) × ((Int) × ((Int) × ((Int) × ((Int) × (Int))))))))))) × (List ((Int) × ((Int) × ((Int) × ((Int) × ((Int) × ((Int) × (Int)))))))) × (List ((Int) × ((Int) × ((Int) × ((Int) × ((Int) × ((Int) × (Int))))))))) K =>
    (bif (IntKind.i64.wrap (a1 + b1) == 0) then (
      bif decide ((List.length i.2.2.1 : Int) > a1) then some false
      else bif decide ((List.length k_.2.2.1 : Int) > b1) then some false
      else (D13 store).bind fun r8 =>
      bif (r8 != 0) then some false
      else bif (decide (0 ≤ (0 : Int)) && (decide ((0 : Int) ≤ (List.length i.2.2.1 : Int)) && decide (((List.length i.2.2.1 : Int) : Int) ≤ (List.length first_ : Int)))) then (
        (D9 i.2.2.1 (List.drop (Int.toNat 0) (List.take (Int.toNat (List.length i.2.2.1 : Int)) first_))).bind fun r9 =>
        bif (!r9) then some false
        else bif (decide (0 ≤ (0 : Int)) && (decide ((0 : Int) ≤ (List.length k_.2.2.1 : Int)) && decide (((List.length k_.2.2.1 : Int) : Int) ≤ (List.length second : Int)))) then (
          (D9 k_.2.2.1 (List.drop (Int.toNat 0) (List.take (Int.toNat (List.length k_.2.2.1 : Int)) second))).bind fun r10 =>
          bif (!r10) then some false
          else (D14 store 4).bind fun r11 =>
          bif (r11 != (List.length i.2.2.1 : Int)) then some false
          else (D14 store 9).bind fun r12 =>
          bif (r12 != (List.length k_.2.2.1 : Int)) then some false
          else lp3_3 big first_ second store seen 0)
        else none)
      else none)
    else bif (IntKind.i64.wrap (a1 + b1) == 0) then none
    else bif decide (Int.tmod el (IntKind.i64.wrap (a1 + b1)) < 0) then (
      bif decide (IntKind.i64.wrap ((IntKind.i64.wrap ((Int.tmod el (IntKind.i64.wrap (a1 + b1))) + a1)) + b1) < a1) then (
        (idx first_ (IntKind.i64.wrap ((IntKind.i64.wrap ((Int.tmod el (IntKind.i64.wrap (a1 + b1))) + a1)) + b1))).bind fun e1 =>
        (D11 i e1).bind fun r8 =>
        (D12 store e1).bind fun r9 =>
        bif (r9.2.2 != 0) then some false
        else bif (Nat.ble ((List.length seen + List.length [e1]) * 56) appendLimit && Nat.ble (List.length seen + List.length [e1]) 9223372036854775807) then K (r8.1, k_, r9.1, seen ++ [e1])
        else none)
      else (idx second (IntKind.i64.wrap ((IntKind.i64.wrap ((IntKind.i64.wrap ((Int.tmod el (IntKind.i64.wrap (a1 + b1))) + a1)) + b1)) - a1))).bind fun e1 =>
      (D11 k_ e1).bind fun r8 =>
      (D12 store e1).bind fun r9 =>
      bif (r9.2.2 != 0) then some false
      else bif (Nat.ble ((List.length seen + List.length [e1]) * 56) appendLimit && Nat.ble (List.length seen + List.length [e1]) 9223372036854775807) then K (i, r8.1, r9.1, seen ++ [e1])
      else none)
    else bif decide (Int.tmod el (IntKind.i64.wrap (a1 + b1)) < a1) then (
      (idx first_ (Int.tmod el (IntKind.i64.wrap (a1 + b1)))).bind fun e1 =>
      (D11 i e1).bind fun r8 =>
      (D12 store e1).bind fun r9 =>
      bif (r9.2.2 != 0) then some false
      else bif (Nat.ble ((List.length seen + List.length [e1]) * 56) appendLimit && Nat.ble (List.length seen + List.length [e1]) 9223372036854775807) then K (r8.1, k_, r9.1, seen ++ [e1])
      else none)
    else (idx second (IntKind.i64.wrap ((Int.tmod el (IntKind.i64.wrap (a1 + b1))) - a1))).bind fun e1 =>
    (D11 k_ e1).bind fun r8 =>
    (D12 store e1).bind fun r9 =>
    bif (r9.2.2 != 0) then some false
    else bif (Nat.ble ((List.length seen + List.length [e1]) * 56) appendLimit && Nat.ble (List.length seen + List.length [e1]) 9223372036854775807) then K (i, r8.1, r9.1, seen ++ [e1])
    else none : Option (Bool)))
    (fun ((i, k_, store, seen) : ((Int) × ((Int) × ((List ((Int) × ((Int) × ((Int) × ((Int) × ((Int) × ((Int) × (Int)))))))) × (List ((Int) × ((Int) × ((Int) × ((Int) × ((Int) × ((Int) × (Int))))))))))) × ((Int) × ((Int) × ((List ((Int) × ((Int) × ((Int) × ((Int) × ((Int) × ((Int) × (Int)))))))) × (List ((Int) × ((Int) × ((Int) × ((Int) × ((Int) × ((Int) × (Int))))))))))) × (List ((Int) × ((Int) × ((Int) × ((Int) × ((Int) × ((Int) × (Int)))))))) × (List ((Int) × ((Int) × ((Int) × ((Int) × ((Int) × ((Int) × (Int))))))))) =>
    (bif decide ((List.length i.2.2.1 : Int) > a1) then some false
    else bif decide ((List.length k_.2.2.1 : Int) > b1) then some false
    else (D13 store).bind fun r8 =>
    bif (r8 != 0) then some false
    else bif (decide (0 ≤ (0 : Int)) && (decide ((0 : Int) ≤ (List.length i.2.2.1 : Int)) && decide (((List.length i.2.2.1 : Int) : Int) ≤ (List.length first_ : Int)))) then (
      (D9 i.2.2.1 (List.drop (Int.toNat 0) (List.take (Int.toNat (List.length i.2.2.1 : Int)) first_))).bind fun r9 =>
      bif (!r9) then some false
      else bif (decide (0 ≤ (0 : Int)) && (decide ((0 : Int) ≤ (List.length k_.2.2.1 : Int)) && decide (((List.length k_.2.2.1 : Int) : Int) ≤ (List.length second : Int)))) then (
        (D9 k_.2.2.1 (List.drop (Int.toNat 0) (List.take (Int.toNat (List.length k_.2.2.1 : Int)) second))).bind fun r10 =>
        bif (!r10) then some false
        else (D14 store 4).bind fun r11 =>
        bif (r11 != (List.length i.2.2.1 : Int)) then some false
        else (D14 store 9).bind fun r12 =>
        bif (r12 != (List.length k_.2.2.1 : Int)) then some false
        else lp3_6 big first_ second store seen 0)
      else none)
    else none : Option (Bool))) arrivals1 (i, k_, store, seen) := by
  refine iter_forE arrivals1 (fun ix ((i, k_, store, seen) : ((Int) × ((Int) × ((List ((Int) × ((Int) × ((Int) × ((Int) × ((Int) × ((Int) × (Int)))))))) × (List ((Int) × ((Int) × ((Int) × ((Int) × ((Int) × ((Int) × (Int))))))))))) × ((Int) × ((Int) × ((List ((Int) × ((Int) × ((Int) × ((Int) × ((Int) × ((Int) × (Int)))))))) × (List ((Int) × ((Int) × ((Int) × ((Int) × ((Int) × ((Int) × (Int))))))))))) × (List ((Int) × ((Int) × ((Int) × ((Int) × ((Int) × ((Int) × (Int)))))))) × (List ((Int) × ((Int) × ((Int) × ((Int) × ((Int) × ((Int) × (Int))))))))) => (a1, b1, arrivals1, first_, second, i, k_, store, seen, (ix : Int))) _ _ ?_ ?_ (len_lt_big hl) (i, k_, store, seen)
  · rintro F k h ⟨i, k_, store, seen⟩
    simp only [dec_lt h, condT, idx_get h, bindS, wrap_succ h hl]
  · rintro F ⟨i, k_, store, seen⟩
    simp only [dec_end, condF]
noncomputable def lp3_9 (fuel : Nat) (F1 : ((List ((Int) × ((Int) × ((Int) × ((Int) × ((Int) × ((Int) × (Int)))))))) × (List ((Int) × ((Int) × ((Int) × ((Int) × ((Int) × ((Int) × (Int)))))))) × (List ((Int) × ((Int) × ((Int) × ((Int) × ((Int) × ((Int) × (Int)))))))) × (List ((Int) × ((Int) × ((Int) × ((Int) × ((Int) × ((Int) × (Int)))))))) × Int) → Option (Bool)) (first_2₀ : List ((Int) × ((Int) × ((Int) × ((Int) × ((Int) × ((Int) × (Int)))))))) (second2₀ : List ((Int) × ((Int) × ((Int) × ((Int) × ((Int) × ((Int) × (Int)))))))) (store2₀ : List ((Int) × ((Int) × ((Int) × ((Int) × ((Int) × ((Int) × (Int)))))))) (seen2₀ : List ((Int) × ((Int) × ((Int) × ((Int) × ((Int) × ((Int) × (Int)))))))) (j2₀ : Int) (there₀ : Bool) (x₀ : Int) : Option (Bool) :=
  iter (fun F2 ((first_2, second2, store2, seen2, j2, there, x) : (List ((Int) × ((Int) × ((Int) × ((Int) × ((Int) × ((Int) × (Int)))))))) × (List ((Int) × ((Int) × ((Int) × ((Int) × ((Int) × ((Int) × (Int)))))))) × (List ((Int) × ((Int) × ((Int) × ((Int) × ((Int) × ((Int) × (Int)))))))) × (List ((Int) × ((Int) × ((Int) × ((Int) × ((Int) × ((Int) × (Int)))))))) × Int × Bool × Int) =>
    bif decide (x < (List.length seen2 : Int)) then (
      bif there then F2 (first_2, second2, store2, seen2, j2, true, IntKind.i64.wrap (x + 1))
      else (idx seen2 x).bind fun e =>
      (idx store2 j2).bind fun e1 =>
      F2 (first_2, second2, store2, seen2, j2, ((e.1 == e1.1) && ((e.2.1 == e1.2.1) && ((e.2.2.1 == e1.2.2.1) && ((e.2.2.2.1 == e1.2.2.2.1) && ((e.2.2.2.2.1 == e1.2.2.2.2.1) && ((e.2.2.2.2.2.1 == e1.2.2.2.2.2.1) && (e.2.2.2.2.2.2 == e1.2.2.2.2.2.2))))))), IntKind.i64.wrap (x + 1)))
    else bif (!there) then some false
    else F1 (first_2, second2, store2, seen2, IntKind.i64.wrap (j2 + 1))) fuel (first_2₀, second2₀, store2₀, seen2₀, j2₀, there₀, x₀)
noncomputable def lp3_11 (fuel : Nat)  (first_1₀ : List ((Int) × ((Int) × ((Int) × ((Int) × ((Int) × ((Int) × (Int)))))))) (second1₀ : List ((Int) × ((Int) × ((Int) × ((Int) × ((Int) × ((Int) × (Int)))))))) (store1₀ : List ((Int) × ((Int) × ((Int) × ((Int) × ((Int) × ((Int) × (Int)))))))) (seen1₀ : List ((Int) × ((Int) × ((Int) × ((Int) × ((Int) × ((Int) × (Int)))))))) (j1₀ : Int) : Option (Bool) :=
  iter (fun F1 ((first_1, second1, store1, seen1, j1) : (List ((Int) × ((Int) × ((Int) × ((Int) × ((Int) × ((Int) × (Int)))))))) × (List ((Int) × ((Int) × ((Int) × ((Int) × ((Int) × ((Int) × (Int)))))))) × (List ((Int) × ((Int) × ((Int) × ((Int) × ((Int) × ((Int) × (Int)))))))) × (List ((Int) × ((Int) × ((Int) × ((Int) × ((Int) × ((Int) × (Int)))))))) × Int) =>
    bif decide (j1 < (List.length store1 : Int)) then lp3_9 fuel F1 first_1 second1 store1 seen1 j1 false 0
    else bif (Nat.ble ((List.length ([] : List ((Int) × ((Int) × ((Int) × ((Int) × ((Int) × ((Int) × (Int)))))))) + List.length first_1) * 56) appendLimit && Nat.ble (List.length ([] : List ((Int) × ((Int) × ((Int) × ((Int) × ((Int) × ((Int) × (Int)))))))) + List.length first_1) 9223372036854775807) then (
      bif (Nat.ble ((List.length (([] : List ((Int) × ((Int) × ((Int) × ((Int) × ((Int) × ((Int) × (Int)))))))) ++ first_1) + List.length second1) * 56) appendLimit && Nat.ble (List.length (([] : List ((Int) × ((Int) × ((Int) × ((Int) × ((Int) × ((Int) × (Int)))))))) ++ first_1) + List.length second1) 9223372036854775807) then (
        (D15 store1 ((([] : List ((Int) × ((Int) × ((Int) × ((Int) × ((Int) × ((Int) × (Int)))))))) ++ first_1) ++ second1)).bind fun r13 =>
        bif (r13.2 == 0) then (
          bif (Nat.ble ((List.length ([] : List ((Int) × ((Int) × ((Int) × ((Int) × ((Int) × ((Int) × (Int)))))))) + List.length first_1) * 56) appendLimit && Nat.ble (List.length ([] : List ((Int) × ((Int) × ((Int) × ((Int) × ((Int) × ((Int) × (Int)))))))) + List.length first_1) 9223372036854775807) then (
            bif (Nat.ble ((List.length (([] : List ((Int) × ((Int) × ((Int) × ((Int) × ((Int) × ((Int) × (Int)))))))) ++ first_1) + List.length second1) * 56) appendLimit && Nat.ble (List.length (([] : List ((Int) × ((Int) × ((Int) × ((Int) × ((Int) × ((Int) × (Int)))))))) ++ first_1) + List.length second1) 9223372036854775807) then (
              (D9 r13.1 ((([] : List ((Int) × ((Int) × ((Int) × ((Int) × ((Int) × ((Int) × (Int)))))))) ++ first_1) ++ second1)).bind fun r14 =>
              some r14)
            else none)
          else none)
        else some false)
      else none)
    else none) fuel (first_1₀, second1₀, store1₀, seen1₀, j1₀)
noncomputable def lp3_12 (fuel : Nat) (F1 : ((List ((Int) × ((Int) × ((Int) × ((Int) × ((Int) × ((Int) × (Int)))))))) × (List ((Int) × ((Int) × ((Int) × ((Int) × ((Int) × ((Int) × (Int)))))))) × (List ((Int) × ((Int) × ((Int) × ((Int) × ((Int) × ((Int) × (Int)))))))) × (List ((Int) × ((Int) × ((Int) × ((Int) × ((Int) × ((Int) × (Int)))))))) × Int) → Option (Bool)) (first_2₀ : List ((Int) × ((Int) × ((Int) × ((Int) × ((Int) × ((Int) × (Int)))))))) (second2₀ : List ((Int) × ((Int) × ((Int) × ((Int) × ((Int) × ((Int) × (Int)))))))) (store2₀ : List ((Int) × ((Int) × ((Int) × ((Int) × ((Int) × ((Int) × (Int)))))))) (seen2₀ : List ((Int) × ((Int) × ((Int) × ((Int) × ((Int) × ((Int) × (Int)))))))) (j2₀ : Int) (there₀ : Bool) (x₀ : Int) : Option (Bool) :=
  iter (fun F2 ((first_2, second2, store2, seen2, j2, there, x) : (List ((Int) × ((Int) × ((Int) × ((Int) × ((Int) × ((Int) × (Int)))))))) × (List ((Int) × ((Int) × ((Int) × ((Int) × ((Int) × ((Int) × (Int)))))))) × (List ((Int) × ((Int) × ((Int) × ((Int) × ((Int) × ((Int) × (Int)))))))) × (List ((Int) × ((Int) × ((Int) × ((Int) × ((Int) × ((Int) × (Int)))))))) × Int × Bool × Int) =>
    bif decide (x < (List.length seen2 : Int)) then (
      bif there then F2 (first_2, second2, store2, seen2, j2, true, IntKind.i64.wrap (x + 1))
      else (idx seen2 x).bind fun e =>
      (idx store2 j2).bind fun e1 =>
      F2 (first_2, second2, store2, seen2, j2, ((e.1 == e1.1) && ((e.2.1 == e1.2.1) && ((e.2.2.1 == e1.2.2.1) && ((e.2.2.2.1 == e1.2.2.2.1) && ((e.2.2.2.2.1 == e1.2.2.2.2.1) && ((e.2.2.2.2.2.1 == e1.2.2.2.2.2.1) && (e.2.2.2.2.2.2 == e1.2.2.2.2.2.2))))))), IntKind.i64.wrap (x + 1)))
    else bif (!there) then some false
    else F1 (first_2, second2, store2, seen2, IntKind.i64.wrap (j2 + 1))) fuel (first_2₀, second2₀, store2₀, seen2₀, j2₀, there₀, x₀)
noncomputable def lp3_14 (fuel : Nat)  (first_1₀ : List ((Int) × ((Int) × ((Int) × ((Int) × ((Int) × ((Int) × (Int)))))))) (second1₀ : List ((Int) × ((Int) × ((Int) × ((Int) × ((Int) × ((Int) × (Int)))))))) (store1₀ : List ((Int) × ((Int) × ((Int) × ((Int) × ((Int) × ((Int) × (Int)))))))) (seen1₀ : List ((Int) × ((Int) × ((Int) × ((Int) × ((Int) × ((Int) × (Int)))))))) (j1₀ : Int) : Option (Bool) :=
  iter (fun F1 ((first_1, second1, store1, seen1, j1) : (List ((Int) × ((Int) × ((Int) × ((Int) × ((Int) × ((Int) × (Int)))))))) × (List ((Int) × ((Int) × ((Int) × ((Int) × ((Int) × ((Int) × (Int)))))))) × (List ((Int) × ((Int) × ((Int) × ((Int) × ((Int) × ((Int) × (Int)))))))) × (List ((Int) × ((Int) × ((Int) × ((Int) × ((Int) × ((Int) × (Int)))))))) × Int) =>
    bif decide (j1 < (List.length store1 : Int)) then lp3_12 fuel F1 first_1 second1 store1 seen1 j1 false 0
    else bif (Nat.ble ((List.length ([] : List ((Int) × ((Int) × ((Int) × ((Int) × ((Int) × ((Int) × (Int)))))))) + List.length first_1) * 56) appendLimit && Nat.ble (List.length ([] : List ((Int) × ((Int) × ((Int) × ((Int) × ((Int) × ((Int) × (Int)))))))) + List.length first_1) 9223372036854775807) then (
      bif (Nat.ble ((List.length (([] : List ((Int) × ((Int) × ((Int) × ((Int) × ((Int) × ((Int) × (Int)))))))) ++ first_1) + List.length second1) * 56) appendLimit && Nat.ble (List.length (([] : List ((Int) × ((Int) × ((Int) × ((Int) × ((Int) × ((Int) × (Int)))))))) ++ first_1) + List.length second1) 9223372036854775807) then (
        (D15 store1 ((([] : List ((Int) × ((Int) × ((Int) × ((Int) × ((Int) × ((Int) × (Int)))))))) ++ first_1) ++ second1)).bind fun r13 =>
        bif (r13.2 == 0) then (
          bif (Nat.ble ((List.length ([] : List ((Int) × ((Int) × ((Int) × ((Int) × ((Int) × ((Int) × (Int)))))))) + List.length first_1) * 56) appendLimit && Nat.ble (List.length ([] : List ((Int) × ((Int) × ((Int) × ((Int) × ((Int) × ((Int) × (Int)))))))) + List.length first_1) 9223372036854775807) then (
            bif (Nat.ble ((List.length (([] : List ((Int) × ((Int) × ((Int) × ((Int) × ((Int) × ((Int) × (Int)))))))) ++ first_1) + List.length second1) * 56) appendLimit && Nat.ble (List.length (([] : List ((Int) × ((Int) × ((Int) × ((Int) × ((Int) × ((Int) × (Int)))))))) ++ first_1) + List.length second1) 9223372036854775807) then (
              (D9 r13.1 ((([] : List ((Int) × ((Int) × ((Int) × ((Int) × ((Int) × ((Int) × (Int)))))))) ++ first_1) ++ second1)).bind fun r14 =>
              some r14)
            else none)
          else none)
        else some false)
      else none)
    else none) fuel (first_1₀, second1₀, store1₀, seen1₀, j1₀)
noncomputable def lp3_15 (fuel : Nat)  (a1₀ : Int) (b1₀ : Int) (arrivals1₀ : List (Int)) (first_₀ : List ((Int) × ((Int) × ((Int) × ((Int) × ((Int) × ((Int) × (Int)))))))) (second₀ : List ((Int) × ((Int) × ((Int) × ((Int) × ((Int) × ((Int) × (Int)))))))) (i₀ : (Int) × ((Int) × ((List ((Int) × ((Int) × ((Int) × ((Int) × ((Int) × ((Int) × (Int)))))))) × (List ((Int) × ((Int) × ((Int) × ((Int) × ((Int) × ((Int) × (Int))))))))))) (k_₀ : (Int) × ((Int) × ((List ((Int) × ((Int) × ((Int) × ((Int) × ((Int) × ((Int) × (Int)))))))) × (List ((Int) × ((Int) × ((Int) × ((Int) × ((Int) × ((Int) × (Int))))))))))) (store₀ : List ((Int) × ((Int) × ((Int) × ((Int) × ((Int) × ((Int) × (Int)))))))) (seen₀ : List ((Int) × ((Int) × ((Int) × ((Int) × ((Int) × ((Int) × (Int)))))))) (j₀ : Int) : Option (Bool) :=
  iter (fun F ((a1, b1, arrivals1, first_, second, i, k_, store, seen, j) : Int × Int × (List (Int)) × (List ((Int) × ((Int) × ((Int) × ((Int) × ((Int) × ((Int) × (Int)))))))) × (List ((Int) × ((Int) × ((Int) × ((Int) × ((Int) × ((Int) × (Int)))))))) × ((Int) × ((Int) × ((List ((Int) × ((Int) × ((Int) × ((Int) × ((Int) × ((Int) × (Int)))))))) × (List ((Int) × ((Int) × ((Int) × ((Int) × ((Int) × ((Int) × (Int))))))))))) × ((Int) × ((Int) × ((List ((Int) × ((Int) × ((Int) × ((Int) × ((Int) × ((Int) × (Int)))))))) × (List ((Int) × ((Int) × ((Int) × ((Int) × ((Int) × ((Int) × (Int))))))))))) × (List ((Int) × ((Int) × ((Int) × ((Int) × ((Int) × ((Int) × (Int)))))))) × (List ((Int) × ((Int) × ((Int) × ((Int) × ((Int) × ((Int) × (Int)))))))) × Int) =>
    bif decide (j < (List.length arrivals1 : Int)) then (
      bif (IntKind.i64.wrap (a1 + b1) == 0) then (
        bif decide ((List.length i.2.2.1 : Int) > a1) then some false
        else bif decide ((List.length k_.2.2.1 : Int) > b1) then some false
        else (D13 store).bind fun r8 =>
        bif (r8 != 0) then some false
        else bif (decide (0 ≤ (0 : Int)) && (decide ((0 : Int) ≤ (List.length i.2.2.1 : Int)) && decide (((List.length i.2.2.1 : Int) : Int) ≤ (List.length first_ : Int)))) then (
          (D9 i.2.2.1 (List.drop (Int.toNat 0) (List.take (Int.toNat (List.length i.2.2.1 : Int)) first_))).bind fun r9 =>
          bif (!r9) then some false
          else bif (decide (0 ≤ (0 : Int)) && (decide ((0 : Int) ≤ (List.length k_.2.2.1 : Int)) && decide (((List.length k_.2.2.1 : Int) : Int) ≤ (List.length second : Int)))) then (
            (D9 k_.2.2.1 (List.drop (Int.toNat 0) (List.take (Int.toNat (List.length k_.2.2.1 : Int)) second))).bind fun r10 =>
            bif (!r10) then some false
            else (D14 store 4).bind fun r11 =>
            bif (r11 != (List.length i.2.2.1 : Int)) then some false
            else (D14 store 9).bind fun r12 =>
            bif (r12 != (List.length k_.2.2.1 : Int)) then some false
            else lp3_11 fuel first_ second store seen 0)
          else none)
        else none)
      else (idx arrivals1 j).bind fun e =>
      bif (IntKind.i64.wrap (a1 + b1) == 0) then none
      else bif decide (Int.tmod e (IntKind.i64.wrap (a1 + b1)) < 0) then (
        bif decide (IntKind.i64.wrap ((IntKind.i64.wrap ((Int.tmod e (IntKind.i64.wrap (a1 + b1))) + a1)) + b1) < a1) then (
          (idx first_ (IntKind.i64.wrap ((IntKind.i64.wrap ((Int.tmod e (IntKind.i64.wrap (a1 + b1))) + a1)) + b1))).bind fun e1 =>
          (D11 i e1).bind fun r8 =>
          (D12 store e1).bind fun r9 =>
          bif (r9.2.2 != 0) then some false
          else bif (Nat.ble ((List.length seen + List.length [e1]) * 56) appendLimit && Nat.ble (List.length seen + List.length [e1]) 9223372036854775807) then F (a1, b1, arrivals1, first_, second, r8.1, k_, r9.1, seen ++ [e1], IntKind.i64.wrap (j + 1))
          else none)
        else (idx second (IntKind.i64.wrap ((IntKind.i64.wrap ((IntKind.i64.wrap ((Int.tmod e (IntKind.i64.wrap (a1 + b1))) + a1)) + b1)) - a1))).bind fun e1 =>
        (D11 k_ e1).bind fun r8 =>
        (D12 store e1).bind fun r9 =>
        bif (r9.2.2 != 0) then some false
        else bif (Nat.ble ((List.length seen + List.length [e1]) * 56) appendLimit && Nat.ble (List.length seen + List.length [e1]) 9223372036854775807) then F (a1, b1, arrivals1, first_, second, i, r8.1, r9.1, seen ++ [e1], IntKind.i64.wrap (j + 1))
        else none)
      else bif decide (Int.tmod e (IntKind.i64.wrap (a1 + b1)) < a1) then (
        (idx first_ (Int.tmod e (IntKind.i64.wrap (a1 + b1)))).bind fun e1 =>
        (D11 i e1).bind fun r8 =>
        (D12 store e1).bind fun r9 =>
        bif (r9.2.2 != 0) then some false
        else bif (Nat.ble ((List.length seen + List.length [e1]) * 56) appendLimit && Nat.ble (List.length seen + List.length [e1]) 9223372036854775807) then F (a1, b1, arrivals1, first_, second, r8.1, k_, r9.1, seen ++ [e1], IntKind.i64.wrap (j + 1))
        else none)
      else (idx second (IntKind.i64.wrap ((Int.tmod e (IntKind.i64.wrap (a1 + b1))) - a1))).bind fun e1 =>
      (D11 k_ e1).bind fun r8 =>
      (D12 store e1).bind fun r9 =>
      bif (r9.2.2 != 0) then some false
      else bif (Nat.ble ((List.length seen + List.length [e1]) * 56) appendLimit && Nat.ble (List.length seen + List.length [e1]) 9223372036854775807) then F (a1, b1, arrivals1, first_, second, i, r8.1, r9.1, seen ++ [e1], IntKind.i64.wrap (j + 1))
      else none)
    else bif decide ((List.length i.2.2.1 : Int) > a1) then some false
    else bif decide ((List.length k_.2.2.1 : Int) > b1) then some false
    else (D13 store).bind fun r8 =>
    bif (r8 != 0) then some false
    else bif (decide (0 ≤ (0 : Int)) && (decide ((0 : Int) ≤ (List.length i.2.2.1 : Int)) && decide (((List.length i.2.2.1 : Int) : Int) ≤ (List.length first_ : Int)))) then (
      (D9 i.2.2.1 (List.drop (Int.toNat 0) (List.take (Int.toNat (List.length i.2.2.1 : Int)) first_))).bind fun r9 =>
      bif (!r9) then some false
      else bif (decide (0 ≤ (0 : Int)) && (decide ((0 : Int) ≤ (List.length k_.2.2.1 : Int)) && decide (((List.length k_.2.2.1 : Int) : Int) ≤ (List.length second : Int)))) then (
        (D9 k_.2.2.1 (List.drop (Int.toNat 0) (List.take (Int.toNat (List.length k_.2.2.1 : Int)) second))).bind fun r10 =>
        bif (!r10) then some false
        else (D14 store 4).bind fun r11 =>
        bif (r11 != (List.length i.2.2.1 : Int)) then some false
        else (D14 store 9).bind fun r12 =>
        bif (r12 != (List.length k_.2.2.1 : Int)) then some false
        else lp3_14 fuel first_ second store seen 0)
      else none)
    else none) fuel (a1₀, b1₀, arrivals1₀, first_₀, second₀, i₀, k_₀, store₀, seen₀, j₀)
theorem g3 (fuel : Nat) (a : Int) (b : Int) (arrivals : List (Int)) (cut : Int) : (fnK tab env3 31 ann3 fuel Try.f3 [] ps3 rs3 true (a, b, arrivals, cut) : Option (Bool)) = (
  (D5).bind fun r =>
  bif (!r) then some false
  else bif decide (a < 0) then some true
  else bif decide (b < 0) then some true
  else bif decide (a > 30) then some true
  else bif decide (b > 30) then some true
  else bif decide ((List.length arrivals : Int) > 120) then some true
  else (D6 4 a).bind fun r1 =>
  (D6 9 b).bind fun r2 =>
  (D7 r1).bind fun r3 =>
  bif (r3.2 != 0) then some (r3.2 == 0)
  else bif decide (cut < 0) then some (r3.2 == 0)
  else bif decide (cut > (List.length r3.1 : Int)) then some (r3.2 == 0)
  else bif (decide (0 ≤ (0 : Int)) && (decide ((0 : Int) ≤ cut) && decide ((cut : Int) ≤ (List.length r3.1 : Int)))) then (
    (D8 (List.drop (Int.toNat 0) (List.take (Int.toNat cut) r3.1))).bind fun r4 =>
    bif decide (r4.2 > cut) then some false
    else bif decide ((List.length r4.1 : Int) > a) then some false
    else bif (decide (0 ≤ (0 : Int)) && (decide ((0 : Int) ≤ (List.length r4.1 : Int)) && decide (((List.length r4.1 : Int) : Int) ≤ (List.length r1 : Int)))) then (
      (D9 r4.1 (List.drop (Int.toNat 0) (List.take (Int.toNat (List.length r4.1 : Int)) r1))).bind fun r5 =>
      bif (!r5) then some false
      else bif (cut == (List.length r3.1 : Int)) then (
        bif ((List.length r4.1 : Int) != a) then some false
        else (D10 4).bind fun r6 =>
        (D10 9).bind fun r7 =>
        lp3_7 fuel a b arrivals r1 r2 r6.2 r7.2 ([] : List ((Int) × ((Int) × ((Int) × ((Int) × ((Int) × ((Int) × (Int)))))))) ([] : List ((Int) × ((Int) × ((Int) × ((Int) × ((Int) × ((Int) × (Int)))))))) 0)
      else (D10 4).bind fun r6 =>
      (D10 9).bind fun r7 =>
      lp3_15 fuel a b arrivals r1 r2 r6.2 r7.2 ([] : List ((Int) × ((Int) × ((Int) × ((Int) × ((Int) × ((Int) × (Int)))))))) ([] : List ((Int) × ((Int) × ((Int) × ((Int) × ((Int) × ((Int) × (Int)))))))) 0)
    else none)
  else none : Option (Bool)) := by kernel_rfl
theorem e3 (a : Int) (b : Int) (arrivals : List (Int)) (cut : Int) : D3 a b arrivals cut = (
  (D5).bind fun r =>
  bif (!r) then some false
  else bif decide (a < 0) then some true
  else bif decide (b < 0) then some true
  else bif decide (a > 30) then some true
  else bif decide (b > 30) then some true
  else bif decide ((List.length arrivals : Int) > 120) then some true
  else (D6 4 a).bind fun r1 =>
  (D6 9 b).bind fun r2 =>
  (D7 r1).bind fun r3 =>
  bif (r3.2 != 0) then some (r3.2 == 0)
  else bif decide (cut < 0) then some (r3.2 == 0)
  else bif decide (cut > (List.length r3.1 : Int)) then some (r3.2 == 0)
  else bif (decide (0 ≤ (0 : Int)) && (decide ((0 : Int) ≤ cut) && decide ((cut : Int) ≤ (List.length r3.1 : Int)))) then (
    (D8 (List.drop (Int.toNat 0) (List.take (Int.toNat cut) r3.1))).bind fun r4 =>
    bif decide (r4.2 > cut) then some false
    else bif decide ((List.length r4.1 : Int) > a) then some false
    else bif (decide (0 ≤ (0 : Int)) && (decide ((0 : Int) ≤ (List.length r4.1 : Int)) && decide (((List.length r4.1 : Int) : Int) ≤ (List.length r1 : Int)))) then (
      (D9 r4.1 (List.drop (Int.toNat 0) (List.take (Int.toNat (List.length r4.1 : Int)) r1))).bind fun r5 =>
      bif (!r5) then some false
      else bif (cut == (List.length r3.1 : Int)) then (
        bif ((List.length r4.1 : Int) != a) then some false
        else (D10 4).bind fun r6 =>
        (D10 9).bind fun r7 =>
        lp3_7 big a b arrivals r1 r2 r6.2 r7.2 ([] : List ((Int) × ((Int) × ((Int) × ((Int) × ((Int) × ((Int) × (Int)))))))) ([] : List ((Int) × ((Int) × ((Int) × ((Int) × ((Int) × ((Int) × (Int)))))))) 0)
      else (D10 4).bind fun r6 =>
      (D10 9).bind fun r7 =>
      lp3_15 big a b arrivals r1 r2 r6.2 r7.2 ([] : List ((Int) × ((Int) × ((Int) × ((Int) × ((Int) × ((Int) × (Int)))))))) ([] : List ((Int) × ((Int) × ((Int) × ((Int) × ((Int) × ((Int) × (Int)))))))) 0)
    else none)
  else none : Option (Bool)) := g3 big a b arrivals cut
end Go.Proofs.Ytbapfiaglcllnaa.D
