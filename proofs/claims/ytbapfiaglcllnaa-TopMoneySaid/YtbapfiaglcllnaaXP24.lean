import Derived.Test.YtbapfiaglcllnaaEXT24a
open Go Go.GD Go.Proofs
namespace Go.Proofs.Ytbapfiaglcllnaa.D
noncomputable def P95 (o : (Int) × ((Int) × ((Int) × (Int)))) (ages : List (Int)) (persons : List (Int)) := (
  lp95_1 big ages persons o 0 persons (List.length persons : Int) 0 : Option (Bool))
theorem fast95 : D95 = P95 := by
  funext o ages persons
  exact e95 o ages persons
noncomputable def lq59_1 (fuel : Nat)  (ages2₀ : List (Int)) (v3₀ : (Int) × (List (Int))) (persons1₀ : List (Int)) (offer₀ : Int) (least₀ : Int) (found₀ : Bool) (v4₀ : List ((Int) × ((Int) × ((Int) × (Int))))) (v5₀ : Int) (v6₀ : Int) : Option (((Int) × (List (Int))) × ((Int) × (Bool))) :=
  iter (fun F1 ((ages2, v3, persons1, offer, least, found, v4, v5, v6) : (List (Int)) × ((Int) × (List (Int))) × (List (Int)) × Int × Int × Bool × (List ((Int) × ((Int) × ((Int) × (Int))))) × Int × Int) =>
    bif decide (v6 < v5) then (
      (idx v4 v6).bind fun e2 =>
      (P95 e2 ages2 persons1).bind fun r =>
      bif r then (
        bif (!found) then F1 (ages2, v3, persons1, e2.1, e2.2.2.2, true, v4, v5, IntKind.i64.wrap (v6 + 1))
        else bif decide (e2.2.2.2 < least) then F1 (ages2, v3, persons1, e2.1, e2.2.2.2, true, v4, v5, IntKind.i64.wrap (v6 + 1))
        else F1 (ages2, v3, persons1, offer, least, found, v4, v5, IntKind.i64.wrap (v6 + 1)))
      else F1 (ages2, v3, persons1, offer, least, found, v4, v5, IntKind.i64.wrap (v6 + 1)))
    else bif (!found) then some ((0, ([] : List (Int))), 0, false)
    else some ((offer, persons1), least, true)) fuel (ages2₀, v3₀, persons1₀, offer₀, least₀, found₀, v4₀, v5₀, v6₀)
noncomputable def lq59_3 (fuel : Nat)  (ages2₀ : List (Int)) (v3₀ : (Int) × (List (Int))) (persons1₀ : List (Int)) (offer₀ : Int) (least₀ : Int) (found₀ : Bool) (v4₀ : List ((Int) × ((Int) × ((Int) × (Int))))) (v5₀ : Int) (v6₀ : Int) : Option (((Int) × (List (Int))) × ((Int) × (Bool))) :=
  iter (fun F1 ((ages2, v3, persons1, offer, least, found, v4, v5, v6) : (List (Int)) × ((Int) × (List (Int))) × (List (Int)) × Int × Int × Bool × (List ((Int) × ((Int) × ((Int) × (Int))))) × Int × Int) =>
    bif decide (v6 < v5) then (
      (idx v4 v6).bind fun e =>
      (P95 e ages2 persons1).bind fun r =>
      bif r then (
        bif (!found) then F1 (ages2, v3, persons1, e.1, e.2.2.2, true, v4, v5, IntKind.i64.wrap (v6 + 1))
        else bif decide (e.2.2.2 < least) then F1 (ages2, v3, persons1, e.1, e.2.2.2, true, v4, v5, IntKind.i64.wrap (v6 + 1))
        else F1 (ages2, v3, persons1, offer, least, found, v4, v5, IntKind.i64.wrap (v6 + 1)))
      else F1 (ages2, v3, persons1, offer, least, found, v4, v5, IntKind.i64.wrap (v6 + 1)))
    else bif (!found) then some ((0, ([] : List (Int))), 0, false)
    else some ((offer, persons1), least, true)) fuel (ages2₀, v3₀, persons1₀, offer₀, least₀, found₀, v4₀, v5₀, v6₀)
noncomputable def lq59_5 (fuel : Nat)  (ages1₀ : List (Int)) (prices1₀ : List (Int)) (offers1₀ : List ((Int) × ((Int) × ((Int) × (Int))))) (set_1₀ : Int) (v₀ : (Int) × (List (Int))) (persons₀ : List (Int)) (v1₀ : Int) (v2₀ : Int) : Option (((Int) × (List (Int))) × ((Int) × (Bool))) :=
  iter (fun F ((ages1, prices1, offers1, set_1, v, persons, v1, v2) : (List (Int)) × (List (Int)) × (List ((Int) × ((Int) × ((Int) × (Int))))) × Int × ((Int) × (List (Int))) × (List (Int)) × Int × Int) =>
    bif decide (v2 < v1) then (
      bif decide (v2 < 0) then none
      else bif (IntKind.i64.wrap (((BitVec.ofInt 64 (Int.fdiv set_1 (2 ^ (Nat.min (Int.toNat v2) 64))) &&& BitVec.ofInt 64 1).toNat : Int)) == 1) then (
        bif (Nat.ble ((List.length persons + List.length [v2]) * 8) appendLimit && Nat.ble (List.length persons + List.length [v2]) 9223372036854775807) then F (ages1, prices1, offers1, set_1, v, persons ++ [v2], v1, IntKind.i64.wrap (v2 + 1))
        else none)
      else F (ages1, prices1, offers1, set_1, v, persons, v1, IntKind.i64.wrap (v2 + 1)))
    else bif ((List.length persons : Int) == 1) then (
      (idx persons 0).bind fun e =>
      (idx prices1 e).bind fun e1 =>
      lq59_1 fuel ages1 v persons 0 e1 true offers1 (List.length offers1 : Int) 0)
    else lq59_3 fuel ages1 v persons 0 0 false offers1 (List.length offers1 : Int) 0) fuel (ages1₀, prices1₀, offers1₀, set_1₀, v₀, persons₀, v1₀, v2₀)
theorem lq1_ (fuel : Nat) : lp59_1 fuel = lq59_1 fuel := by
  unfold lp59_1 lq59_1
  rw [fast95]
theorem lq3_ (fuel : Nat) : lp59_3 fuel = lq59_3 fuel := by
  unfold lp59_3 lq59_3
  rw [fast95]
theorem lq5_ (fuel : Nat) : lp59_5 fuel = lq59_5 fuel := by
  unfold lp59_5 lq59_5
  rw [lq1_ fuel, lq3_ fuel]
noncomputable def P59 (ages : List (Int)) (prices : List (Int)) (offers : List ((Int) × ((Int) × ((Int) × (Int))))) (set_ : Int) := (
  lq59_5 big ages prices offers set_ (0, ([] : List (Int))) ([] : List (Int)) (List.length ages : Int) 0 : Option (((Int) × (List (Int))) × ((Int) × (Bool))))
theorem fast59 : D59 = P59 := by
  funext ages prices offers set_
  rw [e59, lq5_]
  rfl
end Go.Proofs.Ytbapfiaglcllnaa.D
