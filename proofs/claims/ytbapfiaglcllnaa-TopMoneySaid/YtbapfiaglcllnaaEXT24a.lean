import Derived.Test.YtbapfiaglcllnaaXT24a
open Go Go.GD Go.Proofs
namespace Go.Proofs.Ytbapfiaglcllnaa.D
noncomputable def D96 (a0 : List ((Int) × ((Int) × ((Int) × (Int))))) (a1 : ((Int) × ((Int) × ((Int) × (Int)))) → Option (Bool)) : Option (Int) := d96 (a0, a1)
noncomputable def lp96_1 (fuel : Nat)  (s1₀ : List ((Int) × ((Int) × ((Int) × (Int))))) (f1₀ : ((Int) × ((Int) × ((Int) × (Int)))) → Option (Bool)) (v₀ : Int) (v1₀ : Int) : Option (Int) :=
  iter (fun F ((s1, f1, v, v1) : (List ((Int) × ((Int) × ((Int) × (Int))))) × (((Int) × ((Int) × ((Int) × (Int)))) → Option (Bool)) × Int × Int) =>
    bif decide (v1 < v) then (
      (idx s1 v1).bind fun e =>
      (f1 e).bind fun r =>
      bif r then some v1
      else F (s1, f1, v, IntKind.i64.wrap (v1 + 1)))
    else some (-1)) fuel (s1₀, f1₀, v₀, v1₀)
theorem f96_1  (s1 : List ((Int) × ((Int) × ((Int) × (Int))))) (f1 : ((Int) × ((Int) × ((Int) × (Int)))) → Option (Bool)) (hl : (s1).length ≤ maxLen) : lp96_1 big s1 f1 (List.length s1 : Int) 0 =
  forI (fun ix el (_ : Unit) K =>
    ((f1 el).bind fun r =>
    bif r then some (ix : Int)
    else K () : Option (Int)))
    (fun (_ : Unit) =>
    (some (-1) : Option (Int))) 0 s1 () := by
  refine iter_forI_from s1 (fun ix (_ : Unit) => (s1, f1, (List.length s1 : Int), (ix : Int))) _ _ ?_ ?_ (k := 0) (Nat.zero_le _) (len_lt_big hl) ()
  · rintro F k h _
    simp only [dec_lt h, condT, idx_get h, bindS, wrap_succ h hl]
  · rintro F _
    simp only [dec_end, condF]
theorem g96 (fuel : Nat) (s : List ((Int) × ((Int) × ((Int) × (Int))))) (f : ((Int) × ((Int) × ((Int) × (Int)))) → Option (Bool)) : (fnK tab env96 6 ann96 fuel Try.f96 [] ps96 rs96 true (s, f) : Option (Int)) = (
  lp96_1 fuel s f (List.length s : Int) 0 : Option (Int)) := by kernel_rfl
theorem e96 (s : List ((Int) × ((Int) × ((Int) × (Int))))) (f : ((Int) × ((Int) × ((Int) × (Int)))) → Option (Bool)) : D96 s f = (
  lp96_1 big s f (List.length s : Int) 0 : Option (Int)) := g96 big s f
noncomputable def D60 (a0 : List ((Int) × ((Int) × ((Int) × (Int))))) (a1 : ((Int) × ((Int) × ((Int) × (Int)))) → Option (Bool)) : Option (Bool) := d60 (a0, a1)
theorem e60 (s : List ((Int) × ((Int) × ((Int) × (Int))))) (f : ((Int) × ((Int) × ((Int) × (Int)))) → Option (Bool)) : D60 s f = (
  (D96 s f).bind fun r =>
  some (decide (r ≥ 0)) : Option (Bool)) := by kernel_rfl
noncomputable def D61 (a0 : (Int) × ((Int) × ((Int) × (Int)))) (a1 : (Int) × ((Int) × ((Int) × (Int)))) : Option (Bool) := d61 (a0, a1)
theorem e61 (p : (Int) × ((Int) × ((Int) × (Int)))) (v : (Int) × ((Int) × ((Int) × (Int)))) : D61 p v = (
  some (p.1 == v.1) : Option (Bool)) := by kernel_rfl
noncomputable def D22 (a0 : List (Int)) (a1 : List (Int)) (a2 : List ((Int) × ((Int) × ((Int) × (Int))))) : Option (Int) := d22 (a0, a1, a2)
noncomputable def lp22_1 (fuel : Nat)  (offers2₀ : List ((Int) × ((Int) × ((Int) × (Int))))) (v2₀ : List ((Int) × ((Int) × ((Int) × (Int))))) (v3₀ : Int) (v4₀ : Int) : Option (Int) :=
  iter (fun F1 ((offers2, v2, v3, v4) : (List ((Int) × ((Int) × ((Int) × (Int))))) × (List ((Int) × ((Int) × ((Int) × (Int))))) × Int × Int) =>
    bif decide (v4 < v3) then (
      (idx v2 v4).bind fun e =>
      bif decide (e.1 < 1) then some 2
      else bif decide (e.1 > 9999) then some 2
      else bif decide (e.2.2.2 < 0) then some 2
      else bif decide (e.2.2.2 > 100000000) then some 2
      else bif decide (e.2.1 < 0) then some 2
      else bif decide (e.2.1 > 8) then some 2
      else bif decide (e.2.2.1 < 0) then some 2
      else bif decide (e.2.2.1 > 8) then some 2
      else bif (decide (0 ≤ (0 : Int)) && (decide ((0 : Int) ≤ v4) && decide ((v4 : Int) ≤ (List.length offers2 : Int)))) then (
        (D60 (List.drop (Int.toNat 0) (List.take (Int.toNat v4) offers2)) (fun y => D61 y e)).bind fun r =>
        bif r then some 7
        else F1 (offers2, v2, v3, IntKind.i64.wrap (v4 + 1)))
      else none)
    else some 0) fuel (offers2₀, v2₀, v3₀, v4₀)
theorem f22_1  (offers2 : List ((Int) × ((Int) × ((Int) × (Int))))) (v2 : List ((Int) × ((Int) × ((Int) × (Int))))) (hl : (v2).length ≤ maxLen) : lp22_1 big offers2 v2 (List.length v2 : Int) 0 =
  forI (fun ix el (_ : Unit) K =>
    (bif decide (el.1 < 1) then some 2
    else bif decide (el.1 > 9999) then some 2
    else bif decide (el.2.2.2 < 0) then some 2
    else bif decide (el.2.2.2 > 100000000) then some 2
    else bif decide (el.2.1 < 0) then some 2
    else bif decide (el.2.1 > 8) then some 2
    else bif decide (el.2.2.1 < 0) then some 2
    else bif decide (el.2.2.1 > 8) then some 2
    else bif (decide (0 ≤ (0 : Int)) && (decide ((0 : Int) ≤ (ix : Int)) && decide (((ix : Int) : Int) ≤ (List.length offers2 : Int)))) then (
      (D60 (List.drop (Int.toNat 0) (List.take (Int.toNat (ix : Int)) offers2)) (fun y => D61 y el)).bind fun r =>
      bif r then some 7
      else K ())
    else none : Option (Int)))
    (fun (_ : Unit) =>
    (some 0 : Option (Int))) 0 v2 () := by
  refine iter_forI_from v2 (fun ix (_ : Unit) => (offers2, v2, (List.length v2 : Int), (ix : Int))) _ _ ?_ ?_ (k := 0) (Nat.zero_le _) (len_lt_big hl) ()
  · rintro F k h _
    simp only [dec_lt h, condT, idx_get h, bindS, wrap_succ h hl]
  · rintro F _
    simp only [dec_end, condF]
noncomputable def lp22_3 (fuel : Nat)  (ages1₀ : List (Int)) (prices1₀ : List (Int)) (offers1₀ : List ((Int) × ((Int) × ((Int) × (Int))))) (v₀ : Int) (v1₀ : Int) : Option (Int) :=
  iter (fun F ((ages1, prices1, offers1, v, v1) : (List (Int)) × (List (Int)) × (List ((Int) × ((Int) × ((Int) × (Int))))) × Int × Int) =>
    bif decide (v1 < v) then (
      (idx ages1 v1).bind fun e =>
      bif decide (e < 0) then some 2
      else (idx ages1 v1).bind fun e1 =>
      bif decide (e1 > 120) then some 2
      else (idx prices1 v1).bind fun e2 =>
      bif decide (e2 < 0) then some 2
      else (idx prices1 v1).bind fun e3 =>
      bif decide (e3 > 100000000) then some 2
      else F (ages1, prices1, offers1, v, IntKind.i64.wrap (v1 + 1)))
    else lp22_1 fuel offers1 offers1 (List.length offers1 : Int) 0) fuel (ages1₀, prices1₀, offers1₀, v₀, v1₀)
theorem f22_3  (ages1 : List (Int)) (prices1 : List (Int)) (offers1 : List ((Int) × ((Int) × ((Int) × (Int))))) (hl : (ages1).length ≤ maxLen) : lp22_3 big ages1 prices1 offers1 (List.length ages1 : Int) 0 =
  forI (fun ix el (_ : Unit) K =>
    (bif decide (el < 0) then some 2
    else bif decide (el > 120) then some 2
    else (idx prices1 (ix : Int)).bind fun e2 =>
    bif decide (e2 < 0) then some 2
    else (idx prices1 (ix : Int)).bind fun e3 =>
    bif decide (e3 > 100000000) then some 2
    else K () : Option (Int)))
    (fun (_ : Unit) =>
    (lp22_1 big offers1 offers1 (List.length offers1 : Int) 0 : Option (Int))) 0 ages1 () := by
  refine iter_forI_from ages1 (fun ix (_ : Unit) => (ages1, prices1, offers1, (List.length ages1 : Int), (ix : Int))) _ _ ?_ ?_ (k := 0) (Nat.zero_le _) (len_lt_big hl) ()
  · rintro F k h _
    simp only [dec_lt h, condT, idx_get h, bindS, wrap_succ h hl]
  · rintro F _
    simp only [dec_end, condF]
theorem g22 (fuel : Nat) (ages : List (Int)) (prices : List (Int)) (offers : List ((Int) × ((Int) × ((Int) × (Int))))) : (fnK tab env22 10 ann22 fuel Try.f22 [] ps22 rs22 true (ages, prices, offers) : Option (Int)) = (
  bif decide ((List.length ages : Int) > 8) then some 4
  else bif decide ((List.length offers : Int) > 8) then some 4
  else bif ((List.length prices : Int) != (List.length ages : Int)) then some 3
  else lp22_3 fuel ages prices offers (List.length ages : Int) 0 : Option (Int)) := by kernel_rfl
theorem e22 (ages : List (Int)) (prices : List (Int)) (offers : List ((Int) × ((Int) × ((Int) × (Int))))) : D22 ages prices offers = (
  bif decide ((List.length ages : Int) > 8) then some 4
  else bif decide ((List.length offers : Int) > 8) then some 4
  else bif ((List.length prices : Int) != (List.length ages : Int)) then some 3
  else lp22_3 big ages prices offers (List.length ages : Int) 0 : Option (Int)) := g22 big ages prices offers
noncomputable def D95 (a0 : (Int) × ((Int) × ((Int) × (Int)))) (a1 : List (Int)) (a2 : List (Int)) : Option (Bool) := d95 (a0, a1, a2)
noncomputable def lp95_1 (fuel : Nat)  (ages1₀ : List (Int)) (persons1₀ : List (Int)) (o1₀ : (Int) × ((Int) × ((Int) × (Int)))) (adults₀ : Int) (v₀ : List (Int)) (v1₀ : Int) (v2₀ : Int) : Option (Bool) :=
  iter (fun F ((ages1, persons1, o1, adults, v, v1, v2) : (List (Int)) × (List (Int)) × ((Int) × ((Int) × ((Int) × (Int)))) × Int × (List (Int)) × Int × Int) =>
    bif decide (v2 < v1) then (
      (idx v v2).bind fun e =>
      (idx ages1 e).bind fun e1 =>
      bif decide (e1 ≥ 16) then F (ages1, persons1, o1, IntKind.i64.wrap (adults + 1), v, v1, IntKind.i64.wrap (v2 + 1))
      else F (ages1, persons1, o1, adults, v, v1, IntKind.i64.wrap (v2 + 1)))
    else bif decide (adults ≤ o1.2.1) then some (decide (IntKind.i64.wrap ((List.length persons1 : Int) - adults) ≤ o1.2.2.1))
    else some false) fuel (ages1₀, persons1₀, o1₀, adults₀, v₀, v1₀, v2₀)
theorem f95_1  (ages1 : List (Int)) (persons1 : List (Int)) (o1 : (Int) × ((Int) × ((Int) × (Int)))) (adults : Int) (v : List (Int)) (hl : (v).length ≤ maxLen) : lp95_1 big ages1 persons1 o1 adults v (List.length v : Int) 0 =
  forE (fun  el (adults : Int) K =>
    ((idx ages1 el).bind fun e1 =>
    bif decide (e1 ≥ 16) then K (IntKind.i64.wrap (adults + 1))
    else K adults : Option (Bool)))
    (fun (adults : Int) =>
    (bif decide (adults ≤ o1.2.1) then some (decide (IntKind.i64.wrap ((List.length persons1 : Int) - adults) ≤ o1.2.2.1))
    else some false : Option (Bool))) v adults := by
  refine iter_forE v (fun ix (adults : Int) => (ages1, persons1, o1, adults, v, (List.length v : Int), (ix : Int))) _ _ ?_ ?_ (len_lt_big hl) adults
  · rintro F k h adults
    simp only [dec_lt h, condT, idx_get h, bindS, wrap_succ h hl]
  · rintro F adults
    simp only [dec_end, condF]
theorem g95 (fuel : Nat) (o : (Int) × ((Int) × ((Int) × (Int)))) (ages : List (Int)) (persons : List (Int)) : (fnK tab env95 10 ann95 fuel Try.f95 [] ps95 rs95 true (o, ages, persons) : Option (Bool)) = (
  lp95_1 fuel ages persons o 0 persons (List.length persons : Int) 0 : Option (Bool)) := by kernel_rfl
theorem e95 (o : (Int) × ((Int) × ((Int) × (Int)))) (ages : List (Int)) (persons : List (Int)) : D95 o ages persons = (
  lp95_1 big ages persons o 0 persons (List.length persons : Int) 0 : Option (Bool)) := g95 big o ages persons
noncomputable def D59 (a0 : List (Int)) (a1 : List (Int)) (a2 : List ((Int) × ((Int) × ((Int) × (Int))))) (a3 : Int) : Option (((Int) × (List (Int))) × ((Int) × (Bool))) := d59 (a0, a1, a2, a3)
noncomputable def lp59_1 (fuel : Nat)  (ages2₀ : List (Int)) (v3₀ : (Int) × (List (Int))) (persons1₀ : List (Int)) (offer₀ : Int) (least₀ : Int) (found₀ : Bool) (v4₀ : List ((Int) × ((Int) × ((Int) × (Int))))) (v5₀ : Int) (v6₀ : Int) : Option (((Int) × (List (Int))) × ((Int) × (Bool))) :=
  iter (fun F1 ((ages2, v3, persons1, offer, least, found, v4, v5, v6) : (List (Int)) × ((Int) × (List (Int))) × (List (Int)) × Int × Int × Bool × (List ((Int) × ((Int) × ((Int) × (Int))))) × Int × Int) =>
    bif decide (v6 < v5) then (
      (idx v4 v6).bind fun e2 =>
      (D95 e2 ages2 persons1).bind fun r =>
      bif r then (
        bif (!found) then F1 (ages2, v3, persons1, e2.1, e2.2.2.2, true, v4, v5, IntKind.i64.wrap (v6 + 1))
        else bif decide (e2.2.2.2 < least) then F1 (ages2, v3, persons1, e2.1, e2.2.2.2, true, v4, v5, IntKind.i64.wrap (v6 + 1))
        else F1 (ages2, v3, persons1, offer, least, found, v4, v5, IntKind.i64.wrap (v6 + 1)))
      else F1 (ages2, v3, persons1, offer, least, found, v4, v5, IntKind.i64.wrap (v6 + 1)))
    else bif (!found) then some ((0, ([] : List (Int))), 0, false)
    else some ((offer, persons1), least, true)) fuel (ages2₀, v3₀, persons1₀, offer₀, least₀, found₀, v4₀, v5₀, v6₀)
theorem f59_1  (ages2 : List (Int)) (v3 : (Int) × (List (Int))) (persons1 : List (Int)) (offer : Int) (least : Int) (found : Bool) (v4 : List ((Int) × ((Int) × ((Int) × (Int))))) (hl : (v4).length ≤ maxLen) : lp59_1 big ages2 v3 persons1 offer least found v4 (List.length v4 : Int) 0 =
  forE (fun  el ((offer, least, found) : Int × Int × Bool) K =>
    ((D95 el ages2 persons1).bind fun r =>
    bif r then (
      bif (!found) then K (el.1, el.2.2.2, true)
      else bif decide (el.2.2.2 < least) then K (el.1, el.2.2.2, true)
      else K (offer, least, found))
    else K (offer, least, found) : Option (((Int) × (List (Int))) × ((Int) × (Bool)))))
    (fun ((offer, least, found) : Int × Int × Bool) =>
    (bif (!found) then some ((0, ([] : List (Int))), 0, false)
    else some ((offer, persons1), least, true) : Option (((Int) × (List (Int))) × ((Int) × (Bool))))) v4 (offer, least, found) := by
  refine iter_forE v4 (fun ix ((offer, least, found) : Int × Int × Bool) => (ages2, v3, persons1, offer, least, found, v4, (List.length v4 : Int), (ix : Int))) _ _ ?_ ?_ (len_lt_big hl) (offer, least, found)
  · rintro F k h ⟨offer, least, found⟩
    simp only [dec_lt h, condT, idx_get h, bindS, wrap_succ h hl]
  · rintro F ⟨offer, least, found⟩
    simp only [dec_end, condF]
noncomputable def lp59_3 (fuel : Nat)  (ages2₀ : List (Int)) (v3₀ : (Int) × (List (Int))) (persons1₀ : List (Int)) (offer₀ : Int) (least₀ : Int) (found₀ : Bool) (v4₀ : List ((Int) × ((Int) × ((Int) × (Int))))) (v5₀ : Int) (v6₀ : Int) : Option (((Int) × (List (Int))) × ((Int) × (Bool))) :=
  iter (fun F1 ((ages2, v3, persons1, offer, least, found, v4, v5, v6) : (List (Int)) × ((Int) × (List (Int))) × (List (Int)) × Int × Int × Bool × (List ((Int) × ((Int) × ((Int) × (Int))))) × Int × Int) =>
    bif decide (v6 < v5) then (
      (idx v4 v6).bind fun e =>
      (D95 e ages2 persons1).bind fun r =>
      bif r then (
        bif (!found) then F1 (ages2, v3, persons1, e.1, e.2.2.2, true, v4, v5, IntKind.i64.wrap (v6 + 1))
        else bif decide (e.2.2.2 < least) then F1 (ages2, v3, persons1, e.1, e.2.2.2, true, v4, v5, IntKind.i64.wrap (v6 + 1))
        else F1 (ages2, v3, persons1, offer, least, found, v4, v5, IntKind.i64.wrap (v6 + 1)))
      else F1 (ages2, v3, persons1, offer, least, found, v4, v5, IntKind.i64.wrap (v6 + 1)))
    else bif (!found) then some ((0, ([] : List (Int))), 0, false)
    else some ((offer, persons1), least, true)) fuel (ages2₀, v3₀, persons1₀, offer₀, least₀, found₀, v4₀, v5₀, v6₀)
theorem f59_3  (ages2 : List (Int)) (v3 : (Int) × (List (Int))) (persons1 : List (Int)) (offer : Int) (least : Int) (found : Bool) (v4 : List ((Int) × ((Int) × ((Int) × (Int))))) (hl : (v4).length ≤ maxLen) : lp59_3 big ages2 v3 persons1 offer least found v4 (List.length v4 : Int) 0 =
  forE (fun  el ((offer, least, found) : Int × Int × Bool) K =>
    ((D95 el ages2 persons1).bind fun r =>
    bif r then (
      bif (!found) then K (el.1, el.2.2.2, true)
      else bif decide (el.2.2.2 < least) then K (el.1, el.2.2.2, true)
      else K (offer, least, found))
    else K (offer, least, found) : Option (((Int) × (List (Int))) × ((Int) × (Bool)))))
    (fun ((offer, least, found) : Int × Int × Bool) =>
    (bif (!found) then some ((0, ([] : List (Int))), 0, false)
    else some ((offer, persons1), least, true) : Option (((Int) × (List (Int))) × ((Int) × (Bool))))) v4 (offer, least, found) := by
  refine iter_forE v4 (fun ix ((offer, least, found) : Int × Int × Bool) => (ages2, v3, persons1, offer, least, found, v4, (List.length v4 : Int), (ix : Int))) _ _ ?_ ?_ (len_lt_big hl) (offer, least, found)
  · rintro F k h ⟨offer, least, found⟩
    simp only [dec_lt h, condT, idx_get h, bindS, wrap_succ h hl]
  · rintro F ⟨offer, least, found⟩
    simp only [dec_end, condF]
noncomputable def lp59_5 (fuel : Nat)  (ages1₀ : List (Int)) (prices1₀ : List (Int)) (offers1₀ : List ((Int) × ((Int) × ((Int) × (Int))))) (set_1₀ : Int) (v₀ : (Int) × (List (Int))) (persons₀ : List (Int)) (v1₀ : Int) (v2₀ : Int) : Option (((Int) × (List (Int))) × ((Int) × (Bool))) :=
  iter (fun F ((ages1, prices1, offers1, set_1, v, persons, v1, v2) : (List (Int)) × (List (Int)) × (List ((Int) × ((Int) × ((Int) × (Int))))) × Int × ((Int) × (List (Int))) × (List (Int)) × Int × Int) =>
    bif decide (v2 < v1) then (
      bif decide (v2 < 0) then none
      else bif (IntKind.i64.wrap (((BitVec.ofInt 64 (Int.fdiv set_1 (2 ^ (Nat.min (Int.toNat v2) 64))) &&& BitVec.ofInt 64 1).toNat : Int)) == 1) then (
        bif (Nat.ble ((List.length persons + List.length [v2]) * 8) appendLimit && Nat.ble (List.length persons + List.length [v2]) 9223372036854775807) then F (ages1, prices1, offers1, set_1, v, persons ++ [v2], v1, IntKind.i64.wrap (v2 + 1))
        else none)
      else F (ages1, prices1, offers1, set_1, v, persons, v1, IntKind.i64.wrap (v2 + 1)))
    else bif ((List.length persons : Int) == 1) then (
      (idx persons 0).bind fun e =>
      (idx prices1 e).bind fun e1 =>
      lp59_1 fuel ages1 v persons 0 e1 true offers1 (List.length offers1 : Int) 0)
    else lp59_3 fuel ages1 v persons 0 0 false offers1 (List.length offers1 : Int) 0) fuel (ages1₀, prices1₀, offers1₀, set_1₀, v₀, persons₀, v1₀, v2₀)
theorem f59_5  (ages1 : List (Int)) (prices1 : List (Int)) (offers1 : List ((Int) × ((Int) × ((Int) × (Int))))) (set_1 : Int) (v : (Int) × (List (Int))) (persons : List (Int)) (hl : (ages1).length ≤ maxLen) : lp59_5 big ages1 prices1 offers1 set_1 v persons (List.length ages1 : Int) 0 =
  forI (fun ix _ (persons : (List (Int))) K =>
    (bif decide ((ix : Int) < 0) then none
    else bif (IntKind.i64.wrap (((BitVec.ofInt 64 (Int.fdiv set_1 (2 ^ (Nat.min (Int.toNat (ix : Int)) 64))) &&& BitVec.ofInt 64 1).toNat : Int)) == 1) then (
      bif (Nat.ble ((List.length persons + List.length [(ix : Int)]) * 8) appendLimit && Nat.ble (List.length persons + List.length [(ix : Int)]) 9223372036854775807) then K (persons ++ [(ix : Int)])
      else none)
    else K persons : Option (((Int) × (List (Int))) × ((Int) × (Bool)))))
    (fun (persons : (List (Int))) =>
    (bif ((List.length persons : Int) == 1) then (
      (idx persons 0).bind fun e =>
      (idx prices1 e).bind fun e1 =>
      lp59_1 big ages1 v persons 0 e1 true offers1 (List.length offers1 : Int) 0)
    else lp59_3 big ages1 v persons 0 0 false offers1 (List.length offers1 : Int) 0 : Option (((Int) × (List (Int))) × ((Int) × (Bool))))) 0 ages1 persons := by
  refine iter_forI_from ages1 (fun ix (persons : (List (Int))) => (ages1, prices1, offers1, set_1, v, persons, (List.length ages1 : Int), (ix : Int))) _ _ ?_ ?_ (k := 0) (Nat.zero_le _) (len_lt_big hl) persons
  · rintro F k h persons
    simp only [dec_lt h, condT, wrap_succ h hl]
  · rintro F persons
    simp only [dec_end, condF]
theorem g59 (fuel : Nat) (ages : List (Int)) (prices : List (Int)) (offers : List ((Int) × ((Int) × ((Int) × (Int))))) (set_ : Int) : (fnK tab env59 18 ann59 fuel Try.f59 [] ps59 rs59 true (ages, prices, offers, set_) : Option (((Int) × (List (Int))) × ((Int) × (Bool)))) = (
  lp59_5 fuel ages prices offers set_ (0, ([] : List (Int))) ([] : List (Int)) (List.length ages : Int) 0 : Option (((Int) × (List (Int))) × ((Int) × (Bool)))) := by kernel_rfl
theorem e59 (ages : List (Int)) (prices : List (Int)) (offers : List ((Int) × ((Int) × ((Int) × (Int))))) (set_ : Int) : D59 ages prices offers set_ = (
  lp59_5 big ages prices offers set_ (0, ([] : List (Int))) ([] : List (Int)) (List.length ages : Int) 0 : Option (((Int) × (List (Int))) × ((Int) × (Bool)))) := g59 big ages prices offers set_
noncomputable def D62 (a0 : List (Int)) (a1 : List (Int)) (a2 : List ((Int) × ((Int) × ((Int) × (Int))))) (a3 : (Int) × (List (Int))) : Option ((Int) × (Bool)) := d62 (a0, a1, a2, a3)
noncomputable def lp62_1 (fuel : Nat)  (ages1₀ : List (Int)) (b1₀ : (Int) × (List (Int))) (v₀ : List ((Int) × ((Int) × ((Int) × (Int))))) (v1₀ : Int) (v2₀ : Int) : Option ((Int) × (Bool)) :=
  iter (fun F ((ages1, b1, v, v1, v2) : (List (Int)) × ((Int) × (List (Int))) × (List ((Int) × ((Int) × ((Int) × (Int))))) × Int × Int) =>
    bif decide (v2 < v1) then (
      (idx v v2).bind fun e =>
      bif (e.1 == b1.1) then (
        (D95 e ages1 b1.2).bind fun r =>
        bif (!r) then some (0, false)
        else some (e.2.2.2, true))
      else F (ages1, b1, v, v1, IntKind.i64.wrap (v2 + 1)))
    else some (0, false)) fuel (ages1₀, b1₀, v₀, v1₀, v2₀)
theorem f62_1  (ages1 : List (Int)) (b1 : (Int) × (List (Int))) (v : List ((Int) × ((Int) × ((Int) × (Int))))) (hl : (v).length ≤ maxLen) : lp62_1 big ages1 b1 v (List.length v : Int) 0 =
  forE (fun  el (_ : Unit) K =>
    (bif (el.1 == b1.1) then (
      (D95 el ages1 b1.2).bind fun r =>
      bif (!r) then some (0, false)
      else some (el.2.2.2, true))
    else K () : Option ((Int) × (Bool))))
    (fun (_ : Unit) =>
    (some (0, false) : Option ((Int) × (Bool)))) v () := by
  refine iter_forE v (fun ix (_ : Unit) => (ages1, b1, v, (List.length v : Int), (ix : Int))) _ _ ?_ ?_ (len_lt_big hl) ()
  · rintro F k h _
    simp only [dec_lt h, condT, idx_get h, bindS, wrap_succ h hl]
  · rintro F _
    simp only [dec_end, condF]
theorem g62 (fuel : Nat) (ages : List (Int)) (prices : List (Int)) (offers : List ((Int) × ((Int) × ((Int) × (Int))))) (b : (Int) × (List (Int))) : (fnK tab env62 12 ann62 fuel Try.f62 [] ps62 rs62 true (ages, prices, offers, b) : Option ((Int) × (Bool))) = (
  bif (b.1 == 0) then (
    bif ((List.length b.2 : Int) != 1) then some (0, false)
    else (idx b.2 0).bind fun e =>
    (idx prices e).bind fun e1 =>
    some (e1, true))
  else lp62_1 fuel ages b offers (List.length offers : Int) 0 : Option ((Int) × (Bool))) := by kernel_rfl
theorem e62 (ages : List (Int)) (prices : List (Int)) (offers : List ((Int) × ((Int) × ((Int) × (Int))))) (b : (Int) × (List (Int))) : D62 ages prices offers b = (
  bif (b.1 == 0) then (
    bif ((List.length b.2 : Int) != 1) then some (0, false)
    else (idx b.2 0).bind fun e =>
    (idx prices e).bind fun e1 =>
    some (e1, true))
  else lp62_1 big ages b offers (List.length offers : Int) 0 : Option ((Int) × (Bool))) := g62 big ages prices offers b
noncomputable def D116 (a0 : (List ((Int) × ((Int) × ((Bool) × (List (Int)))))) × ((List (Bool)) × ((List (List (Bool))) × ((List ((Int) × ((Int) × ((Int) × (Int))))) × ((List ((Int) × ((Int) × ((Int) × (Int))))) × (Int)))))) (a1 : Int) (a2 : Int) : Option (((List ((Int) × ((Int) × ((Bool) × (List (Int)))))) × ((List (Bool)) × ((List (List (Bool))) × ((List ((Int) × ((Int) × ((Int) × (Int))))) × ((List ((Int) × ((Int) × ((Int) × (Int))))) × (Int)))))) × Int) := d116 a0 (a1, a2)
noncomputable def lp116_1 (fuel : Nat)  (s1₀ : (List ((Int) × ((Int) × ((Bool) × (List (Int)))))) × ((List (Bool)) × ((List (List (Bool))) × ((List ((Int) × ((Int) × ((Int) × (Int))))) × ((List ((Int) × ((Int) × ((Int) × (Int))))) × (Int)))))) (task1₀ : Int) (groomer1₀ : Int) (t₀ : Int) (v₀ : List ((Int) × ((Int) × ((Int) × (Int))))) (v1₀ : Int) (v2₀ : Int) : Option (((List ((Int) × ((Int) × ((Bool) × (List (Int)))))) × ((List (Bool)) × ((List (List (Bool))) × ((List ((Int) × ((Int) × ((Int) × (Int))))) × ((List ((Int) × ((Int) × ((Int) × (Int))))) × (Int)))))) × Int) :=
  iter (fun F ((s1, task1, groomer1, t, v, v1, v2) : ((List ((Int) × ((Int) × ((Bool) × (List (Int)))))) × ((List (Bool)) × ((List (List (Bool))) × ((List ((Int) × ((Int) × ((Int) × (Int))))) × ((List ((Int) × ((Int) × ((Int) × (Int))))) × (Int)))))) × Int × Int × Int × (List ((Int) × ((Int) × ((Int) × (Int))))) × Int × Int) =>
    bif decide (v2 < v1) then (
      (idx v v2).bind fun e =>
      bif (e.1 != 0) then (
        bif (e.1 == groomer1) then F (s1, task1, groomer1, (bif decide ((e.2.2.2 : Int) > t) then e.2.2.2 else t), v, v1, IntKind.i64.wrap (v2 + 1))
        else (idx s1.2.2.1 task1).bind fun e1 =>
        (idx e1 v2).bind fun e2 =>
        bif e2 then F (s1, task1, groomer1, (bif decide ((e.2.2.2 : Int) > t) then e.2.2.2 else t), v, v1, IntKind.i64.wrap (v2 + 1))
        else F (s1, task1, groomer1, t, v, v1, IntKind.i64.wrap (v2 + 1)))
      else F (s1, task1, groomer1, t, v, v1, IntKind.i64.wrap (v2 + 1)))
    else some (s1, t)) fuel (s1₀, task1₀, groomer1₀, t₀, v₀, v1₀, v2₀)
theorem g116 (fuel : Nat) (s : (List ((Int) × ((Int) × ((Bool) × (List (Int)))))) × ((List (Bool)) × ((List (List (Bool))) × ((List ((Int) × ((Int) × ((Int) × (Int))))) × ((List ((Int) × ((Int) × ((Int) × (Int))))) × (Int)))))) (task : Int) (groomer : Int) : (fnKB tab env116 bx116 10 ann116 fuel Try.f116 tB116 bm116 ps116 rs116 s (task, groomer) : Option (((List ((Int) × ((Int) × ((Bool) × (List (Int)))))) × ((List (Bool)) × ((List (List (Bool))) × ((List ((Int) × ((Int) × ((Int) × (Int))))) × ((List ((Int) × ((Int) × ((Int) × (Int))))) × (Int)))))) × Int)) = (
  lp116_1 fuel s task groomer 0 s.2.2.2.1 (List.length s.2.2.2.1 : Int) 0 : Option (((List ((Int) × ((Int) × ((Bool) × (List (Int)))))) × ((List (Bool)) × ((List (List (Bool))) × ((List ((Int) × ((Int) × ((Int) × (Int))))) × ((List ((Int) × ((Int) × ((Int) × (Int))))) × (Int)))))) × Int)) := by kernel_rfl
theorem e116 (s : (List ((Int) × ((Int) × ((Bool) × (List (Int)))))) × ((List (Bool)) × ((List (List (Bool))) × ((List ((Int) × ((Int) × ((Int) × (Int))))) × ((List ((Int) × ((Int) × ((Int) × (Int))))) × (Int)))))) (task : Int) (groomer : Int) : D116 s task groomer = (
  lp116_1 big s task groomer 0 s.2.2.2.1 (List.length s.2.2.2.1 : Int) 0 : Option (((List ((Int) × ((Int) × ((Bool) × (List (Int)))))) × ((List (Bool)) × ((List (List (Bool))) × ((List ((Int) × ((Int) × ((Int) × (Int))))) × ((List ((Int) × ((Int) × ((Int) × (Int))))) × (Int)))))) × Int)) := g116 big s task groomer
noncomputable def D79 (n : Nat) (a0 : (List ((Int) × ((Int) × ((Bool) × (List (Int)))))) × ((List (Bool)) × ((List (List (Bool))) × ((List ((Int) × ((Int) × ((Int) × (Int))))) × ((List ((Int) × ((Int) × ((Int) × (Int))))) × (Int)))))) (a1 : Int) (a2 : Int) (a3 : Int) : Option (((List ((Int) × ((Int) × ((Bool) × (List (Int)))))) × ((List (Bool)) × ((List (List (Bool))) × ((List ((Int) × ((Int) × ((Int) × (Int))))) × ((List ((Int) × ((Int) × ((Int) × (Int))))) × (Int)))))) × Unit) := d79 n a0 (a1, a2, a3)
noncomputable def lp79_1 (fuel : Nat) (dep : Nat) (F : (((List ((Int) × ((Int) × ((Bool) × (List (Int)))))) × ((List (Bool)) × ((List (List (Bool))) × ((List ((Int) × ((Int) × ((Int) × (Int))))) × ((List ((Int) × ((Int) × ((Int) × (Int))))) × (Int)))))) × Int × Int × Int × (List ((Int) × ((Int) × ((Bool) × (List (Int)))))) × Int × Int) → Option (((List ((Int) × ((Int) × ((Bool) × (List (Int)))))) × ((List (Bool)) × ((List (List (Bool))) × ((List ((Int) × ((Int) × ((Int) × (Int))))) × ((List ((Int) × ((Int) × ((Int) × (Int))))) × (Int)))))) × Unit)) (s2₀ : (List ((Int) × ((Int) × ((Bool) × (List (Int)))))) × ((List (Bool)) × ((List (List (Bool))) × ((List ((Int) × ((Int) × ((Int) × (Int))))) × ((List ((Int) × ((Int) × ((Int) × (Int))))) × (Int)))))) (left2₀ : Int) (from_2₀ : Int) (end_2₀ : Int) (i₀ : Int) (a₀ : (Int) × ((Int) × ((Bool) × (List (Int))))) (v3₀ : List ((Int) × ((Int) × ((Bool) × (List (Int)))))) (v4₀ : Int) (v5₀ : Int) (v6₀ : List (Bool)) (v7₀ : Int) (v8₀ : Int) : Option (((List ((Int) × ((Int) × ((Bool) × (List (Int)))))) × ((List (Bool)) × ((List (List (Bool))) × ((List ((Int) × ((Int) × ((Int) × (Int))))) × ((List ((Int) × ((Int) × ((Int) × (Int))))) × (Int)))))) × Unit) :=
  iter (fun F1 ((s2, left2, from_2, end_2, i, a, v3, v4, v5, v6, v7, v8) : ((List ((Int) × ((Int) × ((Bool) × (List (Int)))))) × ((List (Bool)) × ((List (List (Bool))) × ((List ((Int) × ((Int) × ((Int) × (Int))))) × ((List ((Int) × ((Int) × ((Int) × (Int))))) × (Int)))))) × Int × Int × Int × Int × ((Int) × ((Int) × ((Bool) × (List (Int))))) × (List ((Int) × ((Int) × ((Bool) × (List (Int)))))) × Int × Int × (List (Bool)) × Int × Int) =>
    bif decide (v8 < v7) then (
      (idx v6 v8).bind fun e2 =>
      bif a.2.2.1 then (
        bif (!e2) then F1 (s2, left2, from_2, end_2, i, a, v3, v4, v5, v6, v7, IntKind.i64.wrap (v8 + 1))
        else (D116 s2 i (IntKind.i64.wrap (v8 + 1))).bind fun r =>
        bif decide (r.2 < from_2) then F1 (r.1, left2, from_2, end_2, i, a, v3, v4, v5, v6, v7, IntKind.i64.wrap (v8 + 1))
        else (idx r.1.2.2.2.1 i).bind fun _ =>
        (D79 dep (r.1.1, r.1.2.1, r.1.2.2.1, List.set r.1.2.2.2.1 (Int.toNat i) (IntKind.i64.wrap (v8 + 1), a.1, r.2, IntKind.i64.wrap (r.2 + a.2.1)), r.1.2.2.2.2) (IntKind.i64.wrap (left2 - 1)) r.2 (bif decide ((IntKind.i64.wrap (r.2 + a.2.1) : Int) > end_2) then IntKind.i64.wrap (r.2 + a.2.1) else end_2)).bind fun r1 =>
        (idx r1.1.2.2.2.1 i).bind fun _ =>
        F1 ((r1.1.1, r1.1.2.1, r1.1.2.2.1, List.set r1.1.2.2.2.1 (Int.toNat i) (0, 0, 0, 0), r1.1.2.2.2.2), left2, from_2, end_2, i, a, v3, v4, v5, v6, v7, IntKind.i64.wrap (v8 + 1)))
      else (D116 s2 i (IntKind.i64.wrap (v8 + 1))).bind fun r =>
      bif decide (r.2 < from_2) then F1 (r.1, left2, from_2, end_2, i, a, v3, v4, v5, v6, v7, IntKind.i64.wrap (v8 + 1))
      else (idx r.1.2.2.2.1 i).bind fun _ =>
      (D79 dep (r.1.1, r.1.2.1, r.1.2.2.1, List.set r.1.2.2.2.1 (Int.toNat i) (IntKind.i64.wrap (v8 + 1), a.1, r.2, IntKind.i64.wrap (r.2 + a.2.1)), r.1.2.2.2.2) (IntKind.i64.wrap (left2 - 1)) r.2 (bif decide ((IntKind.i64.wrap (r.2 + a.2.1) : Int) > end_2) then IntKind.i64.wrap (r.2 + a.2.1) else end_2)).bind fun r1 =>
      (idx r1.1.2.2.2.1 i).bind fun _ =>
      F1 ((r1.1.1, r1.1.2.1, r1.1.2.2.1, List.set r1.1.2.2.2.1 (Int.toNat i) (0, 0, 0, 0), r1.1.2.2.2.2), left2, from_2, end_2, i, a, v3, v4, v5, v6, v7, IntKind.i64.wrap (v8 + 1)))
    else F (s2, left2, from_2, end_2, v3, v4, IntKind.i64.wrap (v5 + 1))) fuel (s2₀, left2₀, from_2₀, end_2₀, i₀, a₀, v3₀, v4₀, v5₀, v6₀, v7₀, v8₀)
noncomputable def lp79_3 (fuel : Nat) (dep : Nat)  (s1₀ : (List ((Int) × ((Int) × ((Bool) × (List (Int)))))) × ((List (Bool)) × ((List (List (Bool))) × ((List ((Int) × ((Int) × ((Int) × (Int))))) × ((List ((Int) × ((Int) × ((Int) × (Int))))) × (Int)))))) (left1₀ : Int) (from_1₀ : Int) (end_1₀ : Int) (v₀ : List ((Int) × ((Int) × ((Bool) × (List (Int)))))) (v1₀ : Int) (v2₀ : Int) : Option (((List ((Int) × ((Int) × ((Bool) × (List (Int)))))) × ((List (Bool)) × ((List (List (Bool))) × ((List ((Int) × ((Int) × ((Int) × (Int))))) × ((List ((Int) × ((Int) × ((Int) × (Int))))) × (Int)))))) × Unit) :=
  iter (fun F ((s1, left1, from_1, end_1, v, v1, v2) : ((List ((Int) × ((Int) × ((Bool) × (List (Int)))))) × ((List (Bool)) × ((List (List (Bool))) × ((List ((Int) × ((Int) × ((Int) × (Int))))) × ((List ((Int) × ((Int) × ((Int) × (Int))))) × (Int)))))) × Int × Int × Int × (List ((Int) × ((Int) × ((Bool) × (List (Int)))))) × Int × Int) =>
    bif decide (v2 < v1) then (
      (idx v v2).bind fun e =>
      (idx s1.2.2.2.1 v2).bind fun e1 =>
      bif (e1.1 != 0) then F (s1, left1, from_1, end_1, v, v1, IntKind.i64.wrap (v2 + 1))
      else lp79_1 fuel dep F s1 left1 from_1 end_1 v2 e v v1 v2 s1.2.1 (List.length s1.2.1 : Int) 0)
    else some (s1, ())) fuel (s1₀, left1₀, from_1₀, end_1₀, v₀, v1₀, v2₀)
theorem g79 (fuel : Nat) (dep : Nat) (s : (List ((Int) × ((Int) × ((Bool) × (List (Int)))))) × ((List (Bool)) × ((List (List (Bool))) × ((List ((Int) × ((Int) × ((Int) × (Int))))) × ((List ((Int) × ((Int) × ((Int) × (Int))))) × (Int)))))) (left : Int) (from_ : Int) (end_ : Int) : (fnKB tab env79 (bx79 (d79 dep)) 13 ann79 fuel Try.f79 tB79 bm79 ps79 rs79 s (left, from_, end_) : Option (((List ((Int) × ((Int) × ((Bool) × (List (Int)))))) × ((List (Bool)) × ((List (List (Bool))) × ((List ((Int) × ((Int) × ((Int) × (Int))))) × ((List ((Int) × ((Int) × ((Int) × (Int))))) × (Int)))))) × Unit)) = (
  bif decide (end_ ≥ s.2.2.2.2.2) then some (s, ())
  else bif (left == 0) then some ((s.1, s.2.1, s.2.2.1, s.2.2.2.1, copyL s.2.2.2.2.1 s.2.2.2.1, end_), ())
  else lp79_3 fuel dep s left from_ end_ s.1 (List.length s.1 : Int) 0 : Option (((List ((Int) × ((Int) × ((Bool) × (List (Int)))))) × ((List (Bool)) × ((List (List (Bool))) × ((List ((Int) × ((Int) × ((Int) × (Int))))) × ((List ((Int) × ((Int) × ((Int) × (Int))))) × (Int)))))) × Unit)) := by kernel_rfl
theorem e79 (dep : Nat) (s : (List ((Int) × ((Int) × ((Bool) × (List (Int)))))) × ((List (Bool)) × ((List (List (Bool))) × ((List ((Int) × ((Int) × ((Int) × (Int))))) × ((List ((Int) × ((Int) × ((Int) × (Int))))) × (Int)))))) (left : Int) (from_ : Int) (end_ : Int) : D79 (dep + 1) s left from_ end_ = (
  bif decide (end_ ≥ s.2.2.2.2.2) then some (s, ())
  else bif (left == 0) then some ((s.1, s.2.1, s.2.2.1, s.2.2.2.1, copyL s.2.2.2.2.1 s.2.2.2.1, end_), ())
  else lp79_3 big dep s left from_ end_ s.1 (List.length s.1 : Int) 0 : Option (((List ((Int) × ((Int) × ((Bool) × (List (Int)))))) × ((List (Bool)) × ((List (List (Bool))) × ((List ((Int) × ((Int) × ((Int) × (Int))))) × ((List ((Int) × ((Int) × ((Int) × (Int))))) × (Int)))))) × Unit)) := g79 big dep s left from_ end_
noncomputable def D97 (a0 : List (Bool)) (a1 : Bool) : Option (Int) := d97 (a0, a1)
noncomputable def lp97_1 (fuel : Nat)  (s1₀ : List (Bool)) (v1₀ : Bool) (v2₀ : Int) (v3₀ : Int) : Option (Int) :=
  iter (fun F ((s1, v1, v2, v3) : (List (Bool)) × Bool × Int × Int) =>
    bif decide (v3 < v2) then (
      (idx s1 v3).bind fun e =>
      bif (v1 == e) then some v3
      else F (s1, v1, v2, IntKind.i64.wrap (v3 + 1)))
    else some (-1)) fuel (s1₀, v1₀, v2₀, v3₀)
theorem f97_1  (s1 : List (Bool)) (v1 : Bool) (hl : (s1).length ≤ maxLen) : lp97_1 big s1 v1 (List.length s1 : Int) 0 =
  forI (fun ix el (_ : Unit) K =>
    (bif (v1 == el) then some (ix : Int)
    else K () : Option (Int)))
    (fun (_ : Unit) =>
    (some (-1) : Option (Int))) 0 s1 () := by
  refine iter_forI_from s1 (fun ix (_ : Unit) => (s1, v1, (List.length s1 : Int), (ix : Int))) _ _ ?_ ?_ (k := 0) (Nat.zero_le _) (len_lt_big hl) ()
  · rintro F k h _
    simp only [dec_lt h, condT, idx_get h, bindS, wrap_succ h hl]
  · rintro F _
    simp only [dec_end, condF]
theorem g97 (fuel : Nat) (s : List (Bool)) (v : Bool) : (fnK tab env97 6 ann97 fuel Try.f97 [] ps97 rs97 true (s, v) : Option (Int)) = (
  lp97_1 fuel s v (List.length s : Int) 0 : Option (Int)) := by kernel_rfl
theorem e97 (s : List (Bool)) (v : Bool) : D97 s v = (
  lp97_1 big s v (List.length s : Int) 0 : Option (Int)) := g97 big s v
noncomputable def D63 (a0 : List (Bool)) (a1 : Bool) : Option (Bool) := d63 (a0, a1)
theorem e63 (s : List (Bool)) (v : Bool) : D63 s v = (
  (D97 s v).bind fun r =>
  some (decide (r ≥ 0)) : Option (Bool)) := by kernel_rfl
noncomputable def D17 (a0 : List ((Int) × (Int))) : Option (Int) := d17 a0
noncomputable def lp17_1 (fuel : Nat)  (l1₀ : List ((Int) × (Int))) (sum_₀ : Int) (i₀ : Int) : Option (Int) :=
  iter (fun F ((l1, sum_, i) : (List ((Int) × (Int))) × Int × Int) =>
    bif decide (i < (List.length l1 : Int)) then (
      (idx l1 i).bind fun e =>
      bif decide (e.1 < 1) then some 2
      else (idx l1 i).bind fun e1 =>
      bif decide (e1.1 > 8) then some 2
      else (idx l1 i).bind fun e2 =>
      bif decide (e2.2 < (-137438953472)) then some 2
      else (idx l1 i).bind fun e3 =>
      bif decide (e3.2 > 137438953472) then some 2
      else bif decide (i > 0) then (
        (idx l1 i).bind fun e4 =>
        (idx l1 (IntKind.i64.wrap (i - 1))).bind fun e5 =>
        bif decide (e4.1 ≤ e5.1) then some 11
        else (idx l1 i).bind fun e6 =>
        F (l1, IntKind.i64.wrap (sum_ + e6.2), IntKind.i64.wrap (i + 1)))
      else (idx l1 i).bind fun e4 =>
      F (l1, IntKind.i64.wrap (sum_ + e4.2), IntKind.i64.wrap (i + 1)))
    else bif (sum_ != 0) then some 1
    else some 0) fuel (l1₀, sum_₀, i₀)
theorem f17_1  (l1 : List ((Int) × (Int))) (sum_ : Int) (hl : (l1).length ≤ maxLen) : lp17_1 big l1 sum_ 0 =
  forI (fun ix el (sum_ : Int) K =>
    (bif decide (el.1 < 1) then some 2
    else bif decide (el.1 > 8) then some 2
    else bif decide (el.2 < (-137438953472)) then some 2
    else bif decide (el.2 > 137438953472) then some 2
    else bif decide ((ix : Int) > 0) then (
      (idx l1 (IntKind.i64.wrap ((ix : Int) - 1))).bind fun e5 =>
      bif decide (el.1 ≤ e5.1) then some 11
      else K (IntKind.i64.wrap (sum_ + el.2)))
    else K (IntKind.i64.wrap (sum_ + el.2)) : Option (Int)))
    (fun (sum_ : Int) =>
    (bif (sum_ != 0) then some 1
    else some 0 : Option (Int))) 0 l1 sum_ := by
  refine iter_forI_from l1 (fun ix (sum_ : Int) => (l1, sum_, (ix : Int))) _ _ ?_ ?_ (k := 0) (Nat.zero_le _) (len_lt_big hl) sum_
  · rintro F k h sum_
    simp only [dec_lt h, condT, idx_get h, bindS, wrap_succ h hl]
  · rintro F sum_
    simp only [dec_end, condF]
theorem g17 (fuel : Nat) (l : List ((Int) × (Int))) : (fnK tab env17 5 ann17 fuel Try.f17 [] ps17 rs17 true l : Option (Int)) = (
  bif decide ((List.length l : Int) > 8) then some 4
  else lp17_1 fuel l 0 0 : Option (Int)) := by kernel_rfl
theorem e17 (l : List ((Int) × (Int))) : D17 l = (
  bif decide ((List.length l : Int) > 8) then some 4
  else lp17_1 big l 0 0 : Option (Int)) := g17 big l
noncomputable def D55 (a0 : Int) : Option (Bool) := d55 a0
theorem e55 (n : Int) : D55 n = (
  bif decide (n ≥ 1) then some (decide (n ≤ 8))
  else some false : Option (Bool)) := by kernel_rfl
noncomputable def D53 (a0 : List ((Int) × (Int))) : Option (Int) := d53 a0
noncomputable def lp53_1 (fuel : Nat)  (l1₀ : List ((Int) × (Int))) (sum_₀ : Int) (v₀ : List ((Int) × (Int))) (v1₀ : Int) (v2₀ : Int) : Option (Int) :=
  iter (fun F ((l1, sum_, v, v1, v2) : (List ((Int) × (Int))) × Int × (List ((Int) × (Int))) × Int × Int) =>
    bif decide (v2 < v1) then (
      (idx v v2).bind fun e =>
      (D55 e.1).bind fun r =>
      bif (!r) then some 2
      else bif decide (e.2 < (-137438953472)) then some 2
      else bif decide (e.2 > 137438953472) then some 2
      else bif decide (v2 > 0) then (
        (idx l1 (IntKind.i64.wrap (v2 - 1))).bind fun e1 =>
        bif decide (e.1 ≤ e1.1) then some 11
        else F (l1, IntKind.i64.wrap (sum_ + e.2), v, v1, IntKind.i64.wrap (v2 + 1)))
      else F (l1, IntKind.i64.wrap (sum_ + e.2), v, v1, IntKind.i64.wrap (v2 + 1)))
    else bif (sum_ != 0) then some 1
    else some 0) fuel (l1₀, sum_₀, v₀, v1₀, v2₀)
theorem f53_1  (l1 : List ((Int) × (Int))) (sum_ : Int) (v : List ((Int) × (Int))) (hl : (v).length ≤ maxLen) : lp53_1 big l1 sum_ v (List.length v : Int) 0 =
  forI (fun ix el (sum_ : Int) K =>
    ((D55 el.1).bind fun r =>
    bif (!r) then some 2
    else bif decide (el.2 < (-137438953472)) then some 2
    else bif decide (el.2 > 137438953472) then some 2
    else bif decide ((ix : Int) > 0) then (
      (idx l1 (IntKind.i64.wrap ((ix : Int) - 1))).bind fun e1 =>
      bif decide (el.1 ≤ e1.1) then some 11
      else K (IntKind.i64.wrap (sum_ + el.2)))
    else K (IntKind.i64.wrap (sum_ + el.2)) : Option (Int)))
    (fun (sum_ : Int) =>
    (bif (sum_ != 0) then some 1
    else some 0 : Option (Int))) 0 v sum_ := by
  refine iter_forI_from v (fun ix (sum_ : Int) => (l1, sum_, v, (List.length v : Int), (ix : Int))) _ _ ?_ ?_ (k := 0) (Nat.zero_le _) (len_lt_big hl) sum_
  · rintro F k h sum_
    simp only [dec_lt h, condT, idx_get h, bindS, wrap_succ h hl]
  · rintro F sum_
    simp only [dec_end, condF]
theorem g53 (fuel : Nat) (l : List ((Int) × (Int))) : (fnK tab env53 6 ann53 fuel Try.f53 [] ps53 rs53 true l : Option (Int)) = (
  bif decide ((List.length l : Int) > 8) then some 4
  else lp53_1 fuel l 0 l (List.length l : Int) 0 : Option (Int)) := by kernel_rfl
theorem e53 (l : List ((Int) × (Int))) : D53 l = (
  bif decide ((List.length l : Int) > 8) then some 4
  else lp53_1 big l 0 l (List.length l : Int) 0 : Option (Int)) := g53 big l
noncomputable def D56 (a0 : (Int) × (Int)) : Option (Bool) := d56 a0
theorem e56 (s : (Int) × (Int)) : D56 s = (
  bif (IntKind.i64.wrap (((BitVec.ofInt 64 s.2 &&& BitVec.ofInt 64 1048575).toNat : Int)) == 0) then (
    bif decide ((20 : Int) < 0) then none
    else some (IntKind.i64.wrap (s.1 + (Int.fdiv s.2 (2 ^ (Nat.min (Int.toNat 20) 64)))) == 0))
  else some false : Option (Bool)) := by kernel_rfl
noncomputable def D47 (a0 : List ((Int) × (Int))) : Option ((List (Int)) × (List (Int))) := d47 a0
noncomputable def lp47_1 (fuel : Nat) (F : ((List ((Int) × (Int))) × (List (Int)) × (List (Int)) × Int) → Option ((List (Int)) × (List (Int)))) (l2₀ : List ((Int) × (Int))) (sums1₀ : List (Int)) (most1₀ : List (Int)) (set_1₀ : Int) (v₀ : List ((Int) × (Int))) (v1₀ : Int) (v2₀ : Int) : Option ((List (Int)) × (List (Int))) :=
  iter (fun F1 ((l2, sums1, most1, set_1, v, v1, v2) : (List ((Int) × (Int))) × (List (Int)) × (List (Int)) × Int × (List ((Int) × (Int))) × Int × Int) =>
    bif decide (v2 < v1) then (
      (idx v v2).bind fun e =>
      bif decide (v2 < 0) then none
      else bif (IntKind.i64.wrap (((BitVec.ofInt 64 (Int.fdiv set_1 (2 ^ (Nat.min (Int.toNat v2) 64))) &&& BitVec.ofInt 64 1).toNat : Int)) == 1) then (
        bif decide (v2 < 0) then none
        else (idx sums1 (IntKind.i64.wrap (((BitVec.ofInt 64 set_1 &&& ~~~ BitVec.ofInt 64 (IntKind.i64.wrap ((1 : Int) * 2 ^ (Nat.min (Int.toNat v2) 64)))).toNat : Int)))).bind fun e1 =>
        (idx sums1 set_1).bind fun _ =>
        (idx most1 set_1).bind fun e3 =>
        (idx most1 (IntKind.i64.wrap (((BitVec.ofInt 64 set_1 &&& ~~~ BitVec.ofInt 64 (IntKind.i64.wrap ((1 : Int) * 2 ^ (Nat.min (Int.toNat v2) 64)))).toNat : Int)))).bind fun e4 =>
        (idx most1 set_1).bind fun _ =>
        F1 (l2, List.set sums1 (Int.toNat set_1) (IntKind.i64.wrap (e1 + e.2)), List.set most1 (Int.toNat set_1) (bif decide ((e4 : Int) > e3) then e4 else e3), set_1, v, v1, IntKind.i64.wrap (v2 + 1)))
      else F1 (l2, sums1, most1, set_1, v, v1, IntKind.i64.wrap (v2 + 1)))
    else (idx sums1 set_1).bind fun e =>
    bif (e == 0) then (
      (idx most1 set_1).bind fun e1 =>
      (idx most1 set_1).bind fun _ =>
      F (l2, sums1, List.set most1 (Int.toNat set_1) (IntKind.i64.wrap (e1 + 1)), IntKind.i64.wrap (set_1 + 1)))
    else F (l2, sums1, most1, IntKind.i64.wrap (set_1 + 1))) fuel (l2₀, sums1₀, most1₀, set_1₀, v₀, v1₀, v2₀)
theorem f47_1 (F : ((List ((Int) × (Int))) × (List (Int)) × (List (Int)) × Int) → Option ((List (Int)) × (List (Int)))) (l2 : List ((Int) × (Int))) (sums1 : List (Int)) (most1 : List (Int)) (set_1 : Int) (v : List ((Int) × (Int))) (hl : (v).length ≤ maxLen) : lp47_1 big F l2 sums1 most1 set_1 v (List.length v : Int) 0 =
  forI (fun ix el ((sums1, most1) : (List (Int)) × (List (Int))) K =>
    (bif decide ((ix : Int) < 0) then none
    else bif (IntKind.i64.wrap (((BitVec.ofInt 64 (Int.fdiv set_1 (2 ^ (Nat.min (Int.toNat (ix : Int)) 64))) &&& BitVec.ofInt 64 1).toNat : Int)) == 1) then (
      bif decide ((ix : Int) < 0) then none
      else (idx sums1 (IntKind.i64.wrap (((BitVec.ofInt 64 set_1 &&& ~~~ BitVec.ofInt 64 (IntKind.i64.wrap ((1 : Int) * 2 ^ (Nat.min (Int.toNat (ix : Int)) 64)))).toNat : Int)))).bind fun e1 =>
      (idx sums1 set_1).bind fun _ =>
      (idx most1 set_1).bind fun e3 =>
      (idx most1 (IntKind.i64.wrap (((BitVec.ofInt 64 set_1 &&& ~~~ BitVec.ofInt 64 (IntKind.i64.wrap ((1 : Int) * 2 ^ (Nat.min (Int.toNat (ix : Int)) 64)))).toNat : Int)))).bind fun e4 =>
      (idx most1 set_1).bind fun _ =>
      K (List.set sums1 (Int.toNat set_1) (IntKind.i64.wrap (e1 + el.2)), List.set most1 (Int.toNat set_1) (bif decide ((e4 : Int) > e3) then e4 else e3)))
    else K (sums1, most1) : Option ((List (Int)) × (List (Int)))))
    (fun ((sums1, most1) : (List (Int)) × (List (Int))) =>
    ((idx sums1 set_1).bind fun e =>
    bif (e == 0) then (
      (idx most1 set_1).bind fun e1 =>
      (idx most1 set_1).bind fun _ =>
      F (l2, sums1, List.set most1 (Int.toNat set_1) (IntKind.i64.wrap (e1 + 1)), IntKind.i64.wrap (set_1 + 1)))
    else F (l2, sums1, most1, IntKind.i64.wrap (set_1 + 1)) : Option ((List (Int)) × (List (Int))))) 0 v (sums1, most1) := by
  refine iter_forI_from v (fun ix ((sums1, most1) : (List (Int)) × (List (Int))) => (l2, sums1, most1, set_1, v, (List.length v : Int), (ix : Int))) _ _ ?_ ?_ (k := 0) (Nat.zero_le _) (len_lt_big hl) (sums1, most1)
  · rintro F k h ⟨sums1, most1⟩
    simp only [dec_lt h, condT, idx_get h, bindS, wrap_succ h hl]
  · rintro F ⟨sums1, most1⟩
    simp only [dec_end, condF]
noncomputable def lp47_3 (fuel : Nat)  (l1₀ : List ((Int) × (Int))) (sums₀ : List (Int)) (most₀ : List (Int)) (set_₀ : Int) : Option ((List (Int)) × (List (Int))) :=
  iter (fun F ((l1, sums, most, set_) : (List ((Int) × (Int))) × (List (Int)) × (List (Int)) × Int) =>
    bif decide (set_ < (List.length sums : Int)) then lp47_1 fuel F l1 sums most set_ l1 (List.length l1 : Int) 0
    else some (sums, most)) fuel (l1₀, sums₀, most₀, set_₀)
theorem g47 (fuel : Nat) (l : List ((Int) × (Int))) : (fnK tab env47 8 ann47 fuel Try.f47 [] ps47 rs47 true l : Option ((List (Int)) × (List (Int)))) = (
  bif decide ((List.length l : Int) < 0) then none
  else bif (decide (0 ≤ (IntKind.i64.wrap ((1 : Int) * 2 ^ (Nat.min (Int.toNat (List.length l : Int)) 64)) : Int)) && (decide ((IntKind.i64.wrap ((1 : Int) * 2 ^ (Nat.min (Int.toNat (List.length l : Int)) 64)) : Int) ≤ IntKind.i64.wrap ((1 : Int) * 2 ^ (Nat.min (Int.toNat (List.length l : Int)) 64))) && (decide (8 * (IntKind.i64.wrap ((1 : Int) * 2 ^ (Nat.min (Int.toNat (List.length l : Int)) 64)) : Int) ≤ (appendLimit : Int)) && decide ((IntKind.i64.wrap ((1 : Int) * 2 ^ (Nat.min (Int.toNat (List.length l : Int)) 64)) : Int) ≤ 9223372036854775807)))) then (
    bif decide ((List.length l : Int) < 0) then none
    else bif (decide (0 ≤ (IntKind.i64.wrap ((1 : Int) * 2 ^ (Nat.min (Int.toNat (List.length l : Int)) 64)) : Int)) && (decide ((IntKind.i64.wrap ((1 : Int) * 2 ^ (Nat.min (Int.toNat (List.length l : Int)) 64)) : Int) ≤ IntKind.i64.wrap ((1 : Int) * 2 ^ (Nat.min (Int.toNat (List.length l : Int)) 64))) && (decide (8 * (IntKind.i64.wrap ((1 : Int) * 2 ^ (Nat.min (Int.toNat (List.length l : Int)) 64)) : Int) ≤ (appendLimit : Int)) && decide ((IntKind.i64.wrap ((1 : Int) * 2 ^ (Nat.min (Int.toNat (List.length l : Int)) 64)) : Int) ≤ 9223372036854775807)))) then lp47_3 fuel l (List.replicate (Int.toNat (IntKind.i64.wrap ((1 : Int) * 2 ^ (Nat.min (Int.toNat (List.length l : Int)) 64)))) (0 : Int)) (List.replicate (Int.toNat (IntKind.i64.wrap ((1 : Int) * 2 ^ (Nat.min (Int.toNat (List.length l : Int)) 64)))) (0 : Int)) 1
    else none)
  else none : Option ((List (Int)) × (List (Int)))) := by kernel_rfl
theorem e47 (l : List ((Int) × (Int))) : D47 l = (
  bif decide ((List.length l : Int) < 0) then none
  else bif (decide (0 ≤ (IntKind.i64.wrap ((1 : Int) * 2 ^ (Nat.min (Int.toNat (List.length l : Int)) 64)) : Int)) && (decide ((IntKind.i64.wrap ((1 : Int) * 2 ^ (Nat.min (Int.toNat (List.length l : Int)) 64)) : Int) ≤ IntKind.i64.wrap ((1 : Int) * 2 ^ (Nat.min (Int.toNat (List.length l : Int)) 64))) && (decide (8 * (IntKind.i64.wrap ((1 : Int) * 2 ^ (Nat.min (Int.toNat (List.length l : Int)) 64)) : Int) ≤ (appendLimit : Int)) && decide ((IntKind.i64.wrap ((1 : Int) * 2 ^ (Nat.min (Int.toNat (List.length l : Int)) 64)) : Int) ≤ 9223372036854775807)))) then (
    bif decide ((List.length l : Int) < 0) then none
    else bif (decide (0 ≤ (IntKind.i64.wrap ((1 : Int) * 2 ^ (Nat.min (Int.toNat (List.length l : Int)) 64)) : Int)) && (decide ((IntKind.i64.wrap ((1 : Int) * 2 ^ (Nat.min (Int.toNat (List.length l : Int)) 64)) : Int) ≤ IntKind.i64.wrap ((1 : Int) * 2 ^ (Nat.min (Int.toNat (List.length l : Int)) 64))) && (decide (8 * (IntKind.i64.wrap ((1 : Int) * 2 ^ (Nat.min (Int.toNat (List.length l : Int)) 64)) : Int) ≤ (appendLimit : Int)) && decide ((IntKind.i64.wrap ((1 : Int) * 2 ^ (Nat.min (Int.toNat (List.length l : Int)) 64)) : Int) ≤ 9223372036854775807)))) then lp47_3 big l (List.replicate (Int.toNat (IntKind.i64.wrap ((1 : Int) * 2 ^ (Nat.min (Int.toNat (List.length l : Int)) 64)))) (0 : Int)) (List.replicate (Int.toNat (IntKind.i64.wrap ((1 : Int) * 2 ^ (Nat.min (Int.toNat (List.length l : Int)) 64)))) (0 : Int)) 1
    else none)
  else none : Option ((List (Int)) × (List (Int)))) := g47 big l
noncomputable def D90 (a0 : List ((Int) × (Int))) (a1 : ((Int) × (Int)) → Option (Bool)) : Option (Int) := d90 (a0, a1)
noncomputable def lp90_1 (fuel : Nat)  (s1₀ : List ((Int) × (Int))) (f1₀ : ((Int) × (Int)) → Option (Bool)) (v₀ : Int) (v1₀ : Int) : Option (Int) :=
  iter (fun F ((s1, f1, v, v1) : (List ((Int) × (Int))) × (((Int) × (Int)) → Option (Bool)) × Int × Int) =>
    bif decide (v1 < v) then (
      (idx s1 v1).bind fun e =>
      (f1 e).bind fun r =>
      bif r then some v1
      else F (s1, f1, v, IntKind.i64.wrap (v1 + 1)))
    else some (-1)) fuel (s1₀, f1₀, v₀, v1₀)
theorem f90_1  (s1 : List ((Int) × (Int))) (f1 : ((Int) × (Int)) → Option (Bool)) (hl : (s1).length ≤ maxLen) : lp90_1 big s1 f1 (List.length s1 : Int) 0 =
  forI (fun ix el (_ : Unit) K =>
    ((f1 el).bind fun r =>
    bif r then some (ix : Int)
    else K () : Option (Int)))
    (fun (_ : Unit) =>
    (some (-1) : Option (Int))) 0 s1 () := by
  refine iter_forI_from s1 (fun ix (_ : Unit) => (s1, f1, (List.length s1 : Int), (ix : Int))) _ _ ?_ ?_ (k := 0) (Nat.zero_le _) (len_lt_big hl) ()
  · rintro F k h _
    simp only [dec_lt h, condT, idx_get h, bindS, wrap_succ h hl]
  · rintro F _
    simp only [dec_end, condF]
theorem g90 (fuel : Nat) (s : List ((Int) × (Int))) (f : ((Int) × (Int)) → Option (Bool)) : (fnK tab env90 6 ann90 fuel Try.f90 [] ps90 rs90 true (s, f) : Option (Int)) = (
  lp90_1 fuel s f (List.length s : Int) 0 : Option (Int)) := by kernel_rfl
theorem e90 (s : List ((Int) × (Int))) (f : ((Int) × (Int)) → Option (Bool)) : D90 s f = (
  lp90_1 big s f (List.length s : Int) 0 : Option (Int)) := g90 big s f
noncomputable def D91 (a0 : (Int) × (Int)) : Option (Bool) := d91 a0
theorem e91 (s : (Int) × (Int)) : D91 s = (
  some (decide (s.2 < 0)) : Option (Bool)) := by kernel_rfl
noncomputable def D92 (a0 : (Int) × (Int)) : Option (Bool) := d92 a0
theorem e92 (s : (Int) × (Int)) : D92 s = (
  some (decide (s.2 > 0)) : Option (Bool)) := by kernel_rfl
noncomputable def D48 (a0 : List ((Int) × (Int))) : Option (List ((Int) × ((Int) × (Int)))) := d48 a0
noncomputable def lp48_1 (fuel : Nat)  (group1₀ : List ((Int) × (Int))) (out₀ : List ((Int) × ((Int) × (Int)))) : Option (List ((Int) × ((Int) × (Int)))) :=
  iter (fun F ((group1, out) : (List ((Int) × (Int))) × (List ((Int) × ((Int) × (Int))))) =>
    (D90 group1 D91).bind fun r =>
    (D90 group1 D92).bind fun r1 =>
    bif decide (r < 0) then some out
    else bif decide (r1 < 0) then some out
    else (idx group1 r).bind fun e =>
    (idx group1 r1).bind fun e1 =>
    (idx group1 r).bind fun e2 =>
    (idx group1 r).bind fun e3 =>
    (idx (List.set group1 (Int.toNat r) (e3.1, IntKind.i64.wrap (e2.2 + (bif decide ((e1.2 : Int) < IntKind.i64.wrap (0 - e.2)) then e1.2 else IntKind.i64.wrap (0 - e.2))))) r1).bind fun e4 =>
    (idx (List.set group1 (Int.toNat r) (e3.1, IntKind.i64.wrap (e2.2 + (bif decide ((e1.2 : Int) < IntKind.i64.wrap (0 - e.2)) then e1.2 else IntKind.i64.wrap (0 - e.2))))) r1).bind fun e5 =>
    (idx (List.set (List.set group1 (Int.toNat r) (e3.1, IntKind.i64.wrap (e2.2 + (bif decide ((e1.2 : Int) < IntKind.i64.wrap (0 - e.2)) then e1.2 else IntKind.i64.wrap (0 - e.2))))) (Int.toNat r1) (e5.1, IntKind.i64.wrap (e4.2 - (bif decide ((e1.2 : Int) < IntKind.i64.wrap (0 - e.2)) then e1.2 else IntKind.i64.wrap (0 - e.2))))) r).bind fun e6 =>
    (idx (List.set (List.set group1 (Int.toNat r) (e3.1, IntKind.i64.wrap (e2.2 + (bif decide ((e1.2 : Int) < IntKind.i64.wrap (0 - e.2)) then e1.2 else IntKind.i64.wrap (0 - e.2))))) (Int.toNat r1) (e5.1, IntKind.i64.wrap (e4.2 - (bif decide ((e1.2 : Int) < IntKind.i64.wrap (0 - e.2)) then e1.2 else IntKind.i64.wrap (0 - e.2))))) r1).bind fun e7 =>
    bif (Nat.ble ((List.length out + List.length [(e6.1, e7.1, (bif decide ((e1.2 : Int) < IntKind.i64.wrap (0 - e.2)) then e1.2 else IntKind.i64.wrap (0 - e.2)))]) * 24) appendLimit && Nat.ble (List.length out + List.length [(e6.1, e7.1, (bif decide ((e1.2 : Int) < IntKind.i64.wrap (0 - e.2)) then e1.2 else IntKind.i64.wrap (0 - e.2)))]) 9223372036854775807) then F (List.set (List.set group1 (Int.toNat r) (e3.1, IntKind.i64.wrap (e2.2 + (bif decide ((e1.2 : Int) < IntKind.i64.wrap (0 - e.2)) then e1.2 else IntKind.i64.wrap (0 - e.2))))) (Int.toNat r1) (e5.1, IntKind.i64.wrap (e4.2 - (bif decide ((e1.2 : Int) < IntKind.i64.wrap (0 - e.2)) then e1.2 else IntKind.i64.wrap (0 - e.2)))), out ++ [(e6.1, e7.1, (bif decide ((e1.2 : Int) < IntKind.i64.wrap (0 - e.2)) then e1.2 else IntKind.i64.wrap (0 - e.2)))])
    else none) fuel (group1₀, out₀)
theorem g48 (fuel : Nat) (group : List ((Int) × (Int))) : (fnK tab env48 7 ann48 fuel Try.f48 [[.own]] ps48 rs48 true group : Option (List ((Int) × ((Int) × (Int))))) = (
  lp48_1 fuel group ([] : List ((Int) × ((Int) × (Int)))) : Option (List ((Int) × ((Int) × (Int))))) := by kernel_rfl
theorem e48 (group : List ((Int) × (Int))) : D48 group = (
  lp48_1 big group ([] : List ((Int) × ((Int) × (Int)))) : Option (List ((Int) × ((Int) × (Int))))) := g48 big group
noncomputable def D51 (a0 : List (Int)) : Option (Int) := d51 a0
noncomputable def lp51_1 (fuel : Nat)  (zero₀ : Int) (v₀ : List (Int)) (v1₀ : Int) (v2₀ : Int) : Option (Int) :=
  iter (fun F ((zero, v, v1, v2) : Int × (List (Int)) × Int × Int) =>
    bif decide (v2 < v1) then (
      (idx v v2).bind fun e =>
      bif (e != zero) then some e
      else F (zero, v, v1, IntKind.i64.wrap (v2 + 1)))
    else some zero) fuel (zero₀, v₀, v1₀, v2₀)
theorem f51_1  (zero : Int) (v : List (Int)) (hl : (v).length ≤ maxLen) : lp51_1 big zero v (List.length v : Int) 0 =
  forE (fun  el (_ : Unit) K =>
    (bif (el != zero) then some el
    else K () : Option (Int)))
    (fun (_ : Unit) =>
    (some zero : Option (Int))) v () := by
  refine iter_forE v (fun ix (_ : Unit) => (zero, v, (List.length v : Int), (ix : Int))) _ _ ?_ ?_ (len_lt_big hl) ()
  · rintro F k h _
    simp only [dec_lt h, condT, idx_get h, bindS, wrap_succ h hl]
  · rintro F _
    simp only [dec_end, condF]
theorem g51 (fuel : Nat) (vals : List (Int)) : (fnK tab env51 6 ann51 fuel Try.f51 [] ps51 rs51 true vals : Option (Int)) = (
  lp51_1 fuel 0 vals (List.length vals : Int) 0 : Option (Int)) := by kernel_rfl
theorem e51 (vals : List (Int)) : D51 vals = (
  lp51_1 big 0 vals (List.length vals : Int) 0 : Option (Int)) := g51 big vals
noncomputable def D94 (a0 : Int) : Option (Bool) := d94 a0
theorem e94 (x : Int) : D94 x = (
  some (x != x) : Option (Bool)) := by kernel_rfl
noncomputable def D52 (a0 : Int) (a1 : Int) : Option (Int) := d52 (a0, a1)
theorem e52 (x : Int) (y : Int) : D52 x y = (
  (D94 x).bind fun r =>
  (D94 y).bind fun r1 =>
  bif r then (
    bif r1 then some 0
    else some (-1))
  else bif r1 then some 1
  else bif decide (x < y) then some (-1)
  else bif decide (x > y) then some 1
  else some 0 : Option (Int)) := by kernel_rfl
noncomputable def D50 (a0 : (Int) × ((Int) × (Int))) (a1 : (Int) × ((Int) × (Int))) : Option (Int) := d50 (a0, a1)
theorem e50 (a : (Int) × ((Int) × (Int))) (b : (Int) × ((Int) × (Int))) : D50 a b = (
  (D52 a.1 b.1).bind fun r =>
  (D52 a.2.1 b.2.1).bind fun r1 =>
  (D51 [r, r1]).bind fun r2 =>
  some r2 : Option (Int)) := by kernel_rfl
noncomputable def D88 (a0 : List ((Int) × (Int))) : Option (List ((Int) × (Int))) := d88 a0
theorem e88 (s : List ((Int) × (Int))) : D88 s = (bif (Nat.ble ((List.length ([] : List ((Int) × (Int))) + List.length s) * 16) appendLimit && Nat.ble (List.length ([] : List ((Int) × (Int))) + List.length s) 9223372036854775807) then some (([] : List ((Int) × (Int))) ++ s) else none) := rfl
end Go.Proofs.Ytbapfiaglcllnaa.D
