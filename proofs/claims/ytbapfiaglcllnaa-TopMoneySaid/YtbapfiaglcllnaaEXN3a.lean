import Derived.Test.YtbapfiaglcllnaaXN3a
import Derived.Test.YtbapfiaglcllnaaEXT46
import Derived.Test.YtbapfiaglcllnaaEXT24a
open Go Go.GD Go.Proofs
namespace Go.Proofs.Ytbapfiaglcllnaa.D.Nt
noncomputable def D18 (a0 : List ((Int) × (Int))) : Option (List ((Int) × ((Int) × (Int)))) := d18 a0
noncomputable def lp18_3 (fuel : Nat) (F : ((List ((Int) × (Int))) × (List (Int)) × (List (Int)) × (List ((Int) × ((Int) × (Int)))) × (List ((Int) × (Int))) × Int) → Option (List ((Int) × ((Int) × (Int))))) (l2₀ : List ((Int) × (Int))) (sums1₀ : List (Int)) (most1₀ : List (Int)) (out1₀ : List ((Int) × ((Int) × (Int)))) (group1₀ : List ((Int) × (Int))) (set_1₀ : Int) (want₀ : Int) (v₀ : Int) (v1₀ : Int) : Option (List ((Int) × ((Int) × (Int)))) :=
  iter (fun F1 ((l2, sums1, most1, out1, group1, set_1, want, v, v1) : (List ((Int) × (Int))) × (List (Int)) × (List (Int)) × (List ((Int) × ((Int) × (Int)))) × (List ((Int) × (Int))) × Int × Int × Int × Int) =>
    bif decide (v1 < v) then (
      bif decide (v1 < 0) then none
      else bif (IntKind.i64.wrap (((BitVec.ofInt 64 set_1 &&& ~~~ BitVec.ofInt 64 (IntKind.i64.wrap ((1 : Int) * 2 ^ (Nat.min (Int.toNat v1) 64)))).toNat : Int)) != set_1) then (
        (idx most1 (IntKind.i64.wrap (((BitVec.ofInt 64 set_1 &&& ~~~ BitVec.ofInt 64 (IntKind.i64.wrap ((1 : Int) * 2 ^ (Nat.min (Int.toNat v1) 64)))).toNat : Int)))).bind fun e2 =>
        bif (e2 == want) then (
          (idx l2 v1).bind fun e3 =>
          bif (Nat.ble ((List.length group1 + List.length [e3]) * 16) appendLimit && Nat.ble (List.length group1 + List.length [e3]) 9223372036854775807) then (
            (idx sums1 (IntKind.i64.wrap (((BitVec.ofInt 64 set_1 &&& ~~~ BitVec.ofInt 64 (IntKind.i64.wrap ((1 : Int) * 2 ^ (Nat.min (Int.toNat v1) 64)))).toNat : Int)))).bind fun e4 =>
            bif (e4 == 0) then (
              (D48 (group1 ++ [e3])).bind fun r2 =>
              bif (Nat.ble ((List.length out1 + List.length r2) * 24) appendLimit && Nat.ble (List.length out1 + List.length r2) 9223372036854775807) then F (l2, sums1, most1, out1 ++ r2, ([] : List ((Int) × (Int))), IntKind.i64.wrap (((BitVec.ofInt 64 set_1 &&& ~~~ BitVec.ofInt 64 (IntKind.i64.wrap ((1 : Int) * 2 ^ (Nat.min (Int.toNat v1) 64)))).toNat : Int)))
              else none)
            else F (l2, sums1, most1, out1, group1 ++ [e3], IntKind.i64.wrap (((BitVec.ofInt 64 set_1 &&& ~~~ BitVec.ofInt 64 (IntKind.i64.wrap ((1 : Int) * 2 ^ (Nat.min (Int.toNat v1) 64)))).toNat : Int))))
          else none)
        else F1 (l2, sums1, most1, out1, group1, set_1, want, v, IntKind.i64.wrap (v1 + 1)))
      else F1 (l2, sums1, most1, out1, group1, set_1, want, v, IntKind.i64.wrap (v1 + 1)))
    else (idx sums1 set_1).bind fun e2 =>
    bif (e2 == 0) then (
      (D48 group1).bind fun r2 =>
      bif (Nat.ble ((List.length out1 + List.length r2) * 24) appendLimit && Nat.ble (List.length out1 + List.length r2) 9223372036854775807) then F (l2, sums1, most1, out1 ++ r2, ([] : List ((Int) × (Int))), set_1)
      else none)
    else F (l2, sums1, most1, out1, group1, set_1)) fuel (l2₀, sums1₀, most1₀, out1₀, group1₀, set_1₀, want₀, v₀, v1₀)
theorem f18_3 (F : ((List ((Int) × (Int))) × (List (Int)) × (List (Int)) × (List ((Int) × ((Int) × (Int)))) × (List ((Int) × (Int))) × Int) → Option (List ((Int) × ((Int) × (Int))))) (l2 : List ((Int) × (Int))) (sums1 : List (Int)) (most1 : List (Int)) (out1 : List ((Int) × ((Int) × (Int)))) (group1 : List ((Int) × (Int))) (set_1 : Int) (want : Int) (hl : (l2).length ≤ maxLen) : lp18_3 big F l2 sums1 most1 out1 group1 set_1 want (List.length l2 : Int) 0 =
  forI (fun ix el (_ : Unit) K =>
    (bif decide ((ix : Int) < 0) then none
    else bif (IntKind.i64.wrap (((BitVec.ofInt 64 set_1 &&& ~~~ BitVec.ofInt 64 (IntKind.i64.wrap ((1 : Int) * 2 ^ (Nat.min (Int.toNat (ix : Int)) 64)))).toNat : Int)) != set_1) then (
      (idx most1 (IntKind.i64.wrap (((BitVec.ofInt 64 set_1 &&& ~~~ BitVec.ofInt 64 (IntKind.i64.wrap ((1 : Int) * 2 ^ (Nat.min (Int.toNat (ix : Int)) 64)))).toNat : Int)))).bind fun e2 =>
      bif (e2 == want) then (
        bif (Nat.ble ((List.length group1 + List.length [el]) * 16) appendLimit && Nat.ble (List.length group1 + List.length [el]) 9223372036854775807) then (
          (idx sums1 (IntKind.i64.wrap (((BitVec.ofInt 64 set_1 &&& ~~~ BitVec.ofInt 64 (IntKind.i64.wrap ((1 : Int) * 2 ^ (Nat.min (Int.toNat (ix : Int)) 64)))).toNat : Int)))).bind fun e4 =>
          bif (e4 == 0) then (
            (D48 (group1 ++ [el])).bind fun r2 =>
            bif (Nat.ble ((List.length out1 + List.length r2) * 24) appendLimit && Nat.ble (List.length out1 + List.length r2) 9223372036854775807) then F (l2, sums1, most1, out1 ++ r2, ([] : List ((Int) × (Int))), IntKind.i64.wrap (((BitVec.ofInt 64 set_1 &&& ~~~ BitVec.ofInt 64 (IntKind.i64.wrap ((1 : Int) * 2 ^ (Nat.min (Int.toNat (ix : Int)) 64)))).toNat : Int)))
            else none)
          else F (l2, sums1, most1, out1, group1 ++ [el], IntKind.i64.wrap (((BitVec.ofInt 64 set_1 &&& ~~~ BitVec.ofInt 64 (IntKind.i64.wrap ((1 : Int) * 2 ^ (Nat.min (Int.toNat (ix : Int)) 64)))).toNat : Int))))
        else none)
      else K ())
    else K () : Option (List ((Int) × ((Int) × (Int))))))
    (fun (_ : Unit) =>
    ((idx sums1 set_1).bind fun e2 =>
    bif (e2 == 0) then (
      (D48 group1).bind fun r2 =>
      bif (Nat.ble ((List.length out1 + List.length r2) * 24) appendLimit && Nat.ble (List.length out1 + List.length r2) 9223372036854775807) then F (l2, sums1, most1, out1 ++ r2, ([] : List ((Int) × (Int))), set_1)
      else none)
    else F (l2, sums1, most1, out1, group1, set_1) : Option (List ((Int) × ((Int) × (Int)))))) 0 l2 () := by
  refine iter_forI_from l2 (fun ix (_ : Unit) => (l2, sums1, most1, out1, group1, set_1, want, (List.length l2 : Int), (ix : Int))) _ _ ?_ ?_ (k := 0) (Nat.zero_le _) (len_lt_big hl) ()
  · rintro F k h _
    simp only [dec_lt h, condT, idx_get h, bindS, wrap_succ h hl]
  · rintro F _
    simp only [dec_end, condF]
noncomputable def lp18_5 (fuel : Nat)  (l1₀ : List ((Int) × (Int))) (sums₀ : List (Int)) (most₀ : List (Int)) (out₀ : List ((Int) × ((Int) × (Int)))) (group₀ : List ((Int) × (Int))) (set_₀ : Int) : Option (List ((Int) × ((Int) × (Int)))) :=
  iter (fun F ((l1, sums, most, out, group, set_) : (List ((Int) × (Int))) × (List (Int)) × (List (Int)) × (List ((Int) × ((Int) × (Int)))) × (List ((Int) × (Int))) × Int) =>
    bif (set_ != 0) then (
      (idx most set_).bind fun e =>
      (idx sums set_).bind fun e1 =>
      bif (e1 == 0) then lp18_3 fuel F l1 sums most out group set_ (IntKind.i64.wrap (e - 1)) (List.length l1 : Int) 0
      else lp18_3 fuel F l1 sums most out group set_ e (List.length l1 : Int) 0)
    else some out) fuel (l1₀, sums₀, most₀, out₀, group₀, set_₀)
theorem g18 (fuel : Nat) (l : List ((Int) × (Int))) : (fnK tab env18 11 ann18 fuel f18h [] ps18 rs18 true l : Option (List ((Int) × ((Int) × (Int))))) = (
  (D46 l).bind fun r =>
  (D47 r).bind fun r1 =>
  lp18_5 fuel r r1.1 r1.2 ([] : List ((Int) × ((Int) × (Int)))) ([] : List ((Int) × (Int))) (IntKind.i64.wrap ((List.length r1.1 : Int) - 1)) : Option (List ((Int) × ((Int) × (Int))))) := by kernel_rfl
theorem e18 (l : List ((Int) × (Int))) : D18 l = (
  (D46 l).bind fun r =>
  (D47 r).bind fun r1 =>
  lp18_5 big r r1.1 r1.2 ([] : List ((Int) × ((Int) × (Int)))) ([] : List ((Int) × (Int))) (IntKind.i64.wrap ((List.length r1.1 : Int) - 1)) : Option (List ((Int) × ((Int) × (Int))))) := g18 big l
end Go.Proofs.Ytbapfiaglcllnaa.D.Nt
