import Derived.Test.YtmmlfdnpgigfbaaT24a
open Go Go.GD Go.Proofs
namespace Go.Proofs.Ytmmlfdnpgigfbaa.D
/-! slices.IndexFunc[[]skiarea/api.Offer,skiarea/api.Offer] -/
noncomputable def D33 (a0 : List ((Int) × ((Int) × ((Int) × (Int))))) (a1 : ((Int) × ((Int) × ((Int) × (Int)))) → Option (Bool)) : Option (Int) := d33 (a0, a1)
noncomputable def lp33_1 (fuel : Nat)  (s1₀ : List ((Int) × ((Int) × ((Int) × (Int))))) (f1₀ : ((Int) × ((Int) × ((Int) × (Int)))) → Option (Bool)) (v₀ : Int) (v1₀ : Int) : Option (Int) :=
  iter (fun F ((s1, f1, v, v1) : (List ((Int) × ((Int) × ((Int) × (Int))))) × (((Int) × ((Int) × ((Int) × (Int)))) → Option (Bool)) × Int × Int) =>
    bif decide (v1 < v) then (
      (idx s1 v1).bind fun e =>
      (f1 e).bind fun r =>
      bif r then some v1
      else F (s1, f1, v, IntKind.i64.wrap (v1 + 1)))
    else some (-1)) fuel (s1₀, f1₀, v₀, v1₀)

theorem f33_1  (s1 : List ((Int) × ((Int) × ((Int) × (Int))))) (f1 : ((Int) × ((Int) × ((Int) × (Int)))) → Option (Bool)) (hl : (s1).length ≤ maxLen) : lp33_1 big s1 f1 (List.length s1 : Int) 0 =
  forI (fun ix el (_ : Unit) K =>
    ((f1 el).bind fun r =>
    bif r then some (ix : Int)
    else K () : Option (Int)))
    (fun (_ : Unit) =>
    (some (-1) : Option (Int))) 0 s1 () := by
  refine iter_forI_from s1 (fun ix (_ : Unit) => (s1, f1, (List.length s1 : Int), (ix : Int))) _ _ ?_ ?_ (k := 0) (Nat.zero_le _) (len_lt_big hl) ()
  · rintro F k h _
    simp only [dec_lt h, condT, idx_get h, bindS, wrap_succ h hl]
  · rintro F _
    simp only [dec_end, condF]

theorem g33 (fuel : Nat) (s : List ((Int) × ((Int) × ((Int) × (Int))))) (f : ((Int) × ((Int) × ((Int) × (Int)))) → Option (Bool)) : (fnK tab env33 6 ann33 fuel Try.f33 [] ps33 rs33 true (s, f) : Option (Int)) = (
  lp33_1 fuel s f (List.length s : Int) 0 : Option (Int)) := by kernel_rfl
theorem e33 (s : List ((Int) × ((Int) × ((Int) × (Int))))) (f : ((Int) × ((Int) × ((Int) × (Int)))) → Option (Bool)) : D33 s f = (
  lp33_1 big s f (List.length s : Int) 0 : Option (Int)) := g33 big s f

/-! slices.ContainsFunc[[]skiarea/api.Offer,skiarea/api.Offer] -/
noncomputable def D24 (a0 : List ((Int) × ((Int) × ((Int) × (Int))))) (a1 : ((Int) × ((Int) × ((Int) × (Int)))) → Option (Bool)) : Option (Bool) := d24 (a0, a1)
theorem e24 (s : List ((Int) × ((Int) × ((Int) × (Int))))) (f : ((Int) × ((Int) × ((Int) × (Int)))) → Option (Bool)) : D24 s f = (
  (D33 s f).bind fun r =>
  some (decide (r ≥ 0)) : Option (Bool)) := by kernel_rfl

/-! skiarea/group.Right$1 -/
noncomputable def D25 (a0 : (Int) × ((Int) × ((Int) × (Int)))) (a1 : (Int) × ((Int) × ((Int) × (Int)))) : Option (Bool) := d25 (a0, a1)
theorem e25 (p : (Int) × ((Int) × ((Int) × (Int)))) (v : (Int) × ((Int) × ((Int) × (Int)))) : D25 p v = (
  some (p.1 == v.1) : Option (Bool)) := by kernel_rfl

/-! skiarea/group.Right -/
noncomputable def D12 (a0 : List (Int)) (a1 : List (Int)) (a2 : List ((Int) × ((Int) × ((Int) × (Int))))) : Option (Int) := d12 (a0, a1, a2)
noncomputable def lp12_1 (fuel : Nat)  (offers2₀ : List ((Int) × ((Int) × ((Int) × (Int))))) (v2₀ : List ((Int) × ((Int) × ((Int) × (Int))))) (v3₀ : Int) (v4₀ : Int) : Option (Int) :=
  iter (fun F1 ((offers2, v2, v3, v4) : (List ((Int) × ((Int) × ((Int) × (Int))))) × (List ((Int) × ((Int) × ((Int) × (Int))))) × Int × Int) =>
    bif decide (v4 < v3) then (
      (idx v2 v4).bind fun e =>
      bif decide (e.1 < 1) then some 2
      else bif decide (e.1 > 9999) then some 2
      else bif decide (e.2.2.2 < 0) then some 2
      else bif decide (e.2.2.2 > 100000000) then some 2
      else bif decide (e.2.1 < 0) then some 2
      else bif decide (e.2.1 > 8) then some 2
      else bif decide (e.2.2.1 < 0) then some 2
      else bif decide (e.2.2.1 > 8) then some 2
      else bif (decide (0 ≤ (0 : Int)) && (decide ((0 : Int) ≤ v4) && decide ((v4 : Int) ≤ (List.length offers2 : Int)))) then (
        (D24 (List.drop (Int.toNat 0) (List.take (Int.toNat v4) offers2)) (fun y => D25 y e)).bind fun r =>
        bif r then some 7
        else F1 (offers2, v2, v3, IntKind.i64.wrap (v4 + 1)))
      else none)
    else some 0) fuel (offers2₀, v2₀, v3₀, v4₀)

theorem f12_1  (offers2 : List ((Int) × ((Int) × ((Int) × (Int))))) (v2 : List ((Int) × ((Int) × ((Int) × (Int))))) (hl : (v2).length ≤ maxLen) : lp12_1 big offers2 v2 (List.length v2 : Int) 0 =
  forI (fun ix el (_ : Unit) K =>
    (bif decide (el.1 < 1) then some 2
    else bif decide (el.1 > 9999) then some 2
    else bif decide (el.2.2.2 < 0) then some 2
    else bif decide (el.2.2.2 > 100000000) then some 2
    else bif decide (el.2.1 < 0) then some 2
    else bif decide (el.2.1 > 8) then some 2
    else bif decide (el.2.2.1 < 0) then some 2
    else bif decide (el.2.2.1 > 8) then some 2
    else bif (decide (0 ≤ (0 : Int)) && (decide ((0 : Int) ≤ (ix : Int)) && decide (((ix : Int) : Int) ≤ (List.length offers2 : Int)))) then (
      (D24 (List.drop (Int.toNat 0) (List.take (Int.toNat (ix : Int)) offers2)) (fun y => D25 y el)).bind fun r =>
      bif r then some 7
      else K ())
    else none : Option (Int)))
    (fun (_ : Unit) =>
    (some 0 : Option (Int))) 0 v2 () := by
  refine iter_forI_from v2 (fun ix (_ : Unit) => (offers2, v2, (List.length v2 : Int), (ix : Int))) _ _ ?_ ?_ (k := 0) (Nat.zero_le _) (len_lt_big hl) ()
  · rintro F k h _
    simp only [dec_lt h, condT, idx_get h, bindS, wrap_succ h hl]
  · rintro F _
    simp only [dec_end, condF]

noncomputable def lp12_3 (fuel : Nat)  (ages1₀ : List (Int)) (prices1₀ : List (Int)) (offers1₀ : List ((Int) × ((Int) × ((Int) × (Int))))) (v₀ : Int) (v1₀ : Int) : Option (Int) :=
  iter (fun F ((ages1, prices1, offers1, v, v1) : (List (Int)) × (List (Int)) × (List ((Int) × ((Int) × ((Int) × (Int))))) × Int × Int) =>
    bif decide (v1 < v) then (
      (idx ages1 v1).bind fun e =>
      bif decide (e < 0) then some 2
      else (idx ages1 v1).bind fun e1 =>
      bif decide (e1 > 120) then some 2
      else (idx prices1 v1).bind fun e2 =>
      bif decide (e2 < 0) then some 2
      else (idx prices1 v1).bind fun e3 =>
      bif decide (e3 > 100000000) then some 2
      else F (ages1, prices1, offers1, v, IntKind.i64.wrap (v1 + 1)))
    else lp12_1 fuel offers1 offers1 (List.length offers1 : Int) 0) fuel (ages1₀, prices1₀, offers1₀, v₀, v1₀)

theorem f12_3  (ages1 : List (Int)) (prices1 : List (Int)) (offers1 : List ((Int) × ((Int) × ((Int) × (Int))))) (hl : (ages1).length ≤ maxLen) : lp12_3 big ages1 prices1 offers1 (List.length ages1 : Int) 0 =
  forI (fun ix el (_ : Unit) K =>
    (bif decide (el < 0) then some 2
    else bif decide (el > 120) then some 2
    else (idx prices1 (ix : Int)).bind fun e2 =>
    bif decide (e2 < 0) then some 2
    else (idx prices1 (ix : Int)).bind fun e3 =>
    bif decide (e3 > 100000000) then some 2
    else K () : Option (Int)))
    (fun (_ : Unit) =>
    (lp12_1 big offers1 offers1 (List.length offers1 : Int) 0 : Option (Int))) 0 ages1 () := by
  refine iter_forI_from ages1 (fun ix (_ : Unit) => (ages1, prices1, offers1, (List.length ages1 : Int), (ix : Int))) _ _ ?_ ?_ (k := 0) (Nat.zero_le _) (len_lt_big hl) ()
  · rintro F k h _
    simp only [dec_lt h, condT, idx_get h, bindS, wrap_succ h hl]
  · rintro F _
    simp only [dec_end, condF]

theorem g12 (fuel : Nat) (ages : List (Int)) (prices : List (Int)) (offers : List ((Int) × ((Int) × ((Int) × (Int))))) : (fnK tab env12 10 ann12 fuel Try.f12 [] ps12 rs12 true (ages, prices, offers) : Option (Int)) = (
  bif decide ((List.length ages : Int) > 8) then some 4
  else bif decide ((List.length offers : Int) > 8) then some 4
  else bif ((List.length prices : Int) != (List.length ages : Int)) then some 3
  else lp12_3 fuel ages prices offers (List.length ages : Int) 0 : Option (Int)) := by kernel_rfl
theorem e12 (ages : List (Int)) (prices : List (Int)) (offers : List ((Int) × ((Int) × ((Int) × (Int))))) : D12 ages prices offers = (
  bif decide ((List.length ages : Int) > 8) then some 4
  else bif decide ((List.length offers : Int) > 8) then some 4
  else bif ((List.length prices : Int) != (List.length ages : Int)) then some 3
  else lp12_3 big ages prices offers (List.length ages : Int) 0 : Option (Int)) := g12 big ages prices offers

noncomputable def D31 (a0 : List ((Int) × (List (Int)))) : Option (List ((Int) × (List (Int)))) := d31 a0
theorem e31 (s : List ((Int) × (List (Int)))) : D31 s = (bif (Nat.ble ((List.length ([] : List ((Int) × (List (Int)))) + List.length s) * 32) appendLimit && Nat.ble (List.length ([] : List ((Int) × (List (Int)))) + List.length s) 9223372036854775807) then some (([] : List ((Int) × (List (Int)))) ++ s) else none) := rfl

/-! skiarea/group.allows -/
noncomputable def D38 (a0 : (Int) × ((Int) × ((Int) × (Int)))) (a1 : List (Int)) (a2 : List (Int)) : Option (Bool) := d38 (a0, a1, a2)
noncomputable def lp38_1 (fuel : Nat)  (ages1₀ : List (Int)) (persons1₀ : List (Int)) (o1₀ : (Int) × ((Int) × ((Int) × (Int)))) (adults₀ : Int) (v₀ : List (Int)) (v1₀ : Int) (v2₀ : Int) : Option (Bool) :=
  iter (fun F ((ages1, persons1, o1, adults, v, v1, v2) : (List (Int)) × (List (Int)) × ((Int) × ((Int) × ((Int) × (Int)))) × Int × (List (Int)) × Int × Int) =>
    bif decide (v2 < v1) then (
      (idx v v2).bind fun e =>
      (idx ages1 e).bind fun e1 =>
      bif decide (e1 ≥ 16) then F (ages1, persons1, o1, IntKind.i64.wrap (adults + 1), v, v1, IntKind.i64.wrap (v2 + 1))
      else F (ages1, persons1, o1, adults, v, v1, IntKind.i64.wrap (v2 + 1)))
    else bif decide (adults ≤ o1.2.1) then some (decide (IntKind.i64.wrap ((List.length persons1 : Int) - adults) ≤ o1.2.2.1))
    else some false) fuel (ages1₀, persons1₀, o1₀, adults₀, v₀, v1₀, v2₀)

theorem f38_1  (ages1 : List (Int)) (persons1 : List (Int)) (o1 : (Int) × ((Int) × ((Int) × (Int)))) (adults : Int) (v : List (Int)) (hl : (v).length ≤ maxLen) : lp38_1 big ages1 persons1 o1 adults v (List.length v : Int) 0 =
  forE (fun  el (adults : Int) K =>
    ((idx ages1 el).bind fun e1 =>
    bif decide (e1 ≥ 16) then K (IntKind.i64.wrap (adults + 1))
    else K adults : Option (Bool)))
    (fun (adults : Int) =>
    (bif decide (adults ≤ o1.2.1) then some (decide (IntKind.i64.wrap ((List.length persons1 : Int) - adults) ≤ o1.2.2.1))
    else some false : Option (Bool))) v adults := by
  refine iter_forE v (fun ix (adults : Int) => (ages1, persons1, o1, adults, v, (List.length v : Int), (ix : Int))) _ _ ?_ ?_ (len_lt_big hl) adults
  · rintro F k h adults
    simp only [dec_lt h, condT, idx_get h, bindS, wrap_succ h hl]
  · rintro F adults
    simp only [dec_end, condF]

theorem g38 (fuel : Nat) (o : (Int) × ((Int) × ((Int) × (Int)))) (ages : List (Int)) (persons : List (Int)) : (fnK tab env38 10 ann38 fuel Try.f38 [] ps38 rs38 true (o, ages, persons) : Option (Bool)) = (
  lp38_1 fuel ages persons o 0 persons (List.length persons : Int) 0 : Option (Bool)) := by kernel_rfl
theorem e38 (o : (Int) × ((Int) × ((Int) × (Int)))) (ages : List (Int)) (persons : List (Int)) : D38 o ages persons = (
  lp38_1 big ages persons o 0 persons (List.length persons : Int) 0 : Option (Bool)) := g38 big o ages persons

/-! skiarea/group.cheapest -/
noncomputable def D32 (a0 : List (Int)) (a1 : List (Int)) (a2 : List ((Int) × ((Int) × ((Int) × (Int))))) (a3 : Int) : Option (((Int) × (List (Int))) × ((Int) × (Bool))) := d32 (a0, a1, a2, a3)
noncomputable def lp32_1 (fuel : Nat)  (ages2₀ : List (Int)) (v3₀ : (Int) × (List (Int))) (persons1₀ : List (Int)) (offer₀ : Int) (least₀ : Int) (found₀ : Bool) (v4₀ : List ((Int) × ((Int) × ((Int) × (Int))))) (v5₀ : Int) (v6₀ : Int) : Option (((Int) × (List (Int))) × ((Int) × (Bool))) :=
  iter (fun F1 ((ages2, v3, persons1, offer, least, found, v4, v5, v6) : (List (Int)) × ((Int) × (List (Int))) × (List (Int)) × Int × Int × Bool × (List ((Int) × ((Int) × ((Int) × (Int))))) × Int × Int) =>
    bif decide (v6 < v5) then (
      (idx v4 v6).bind fun e2 =>
      (D38 e2 ages2 persons1).bind fun r =>
      bif r then (
        bif (!found) then F1 (ages2, v3, persons1, e2.1, e2.2.2.2, true, v4, v5, IntKind.i64.wrap (v6 + 1))
        else bif decide (e2.2.2.2 < least) then F1 (ages2, v3, persons1, e2.1, e2.2.2.2, true, v4, v5, IntKind.i64.wrap (v6 + 1))
        else F1 (ages2, v3, persons1, offer, least, found, v4, v5, IntKind.i64.wrap (v6 + 1)))
      else F1 (ages2, v3, persons1, offer, least, found, v4, v5, IntKind.i64.wrap (v6 + 1)))
    else bif (!found) then some ((0, ([] : List (Int))), 0, false)
    else some ((offer, persons1), least, true)) fuel (ages2₀, v3₀, persons1₀, offer₀, least₀, found₀, v4₀, v5₀, v6₀)

theorem f32_1  (ages2 : List (Int)) (v3 : (Int) × (List (Int))) (persons1 : List (Int)) (offer : Int) (least : Int) (found : Bool) (v4 : List ((Int) × ((Int) × ((Int) × (Int))))) (hl : (v4).length ≤ maxLen) : lp32_1 big ages2 v3 persons1 offer least found v4 (List.length v4 : Int) 0 =
  forE (fun  el ((offer, least, found) : Int × Int × Bool) K =>
    ((D38 el ages2 persons1).bind fun r =>
    bif r then (
      bif (!found) then K (el.1, el.2.2.2, true)
      else bif decide (el.2.2.2 < least) then K (el.1, el.2.2.2, true)
      else K (offer, least, found))
    else K (offer, least, found) : Option (((Int) × (List (Int))) × ((Int) × (Bool)))))
    (fun ((offer, least, found) : Int × Int × Bool) =>
    (bif (!found) then some ((0, ([] : List (Int))), 0, false)
    else some ((offer, persons1), least, true) : Option (((Int) × (List (Int))) × ((Int) × (Bool))))) v4 (offer, least, found) := by
  refine iter_forE v4 (fun ix ((offer, least, found) : Int × Int × Bool) => (ages2, v3, persons1, offer, least, found, v4, (List.length v4 : Int), (ix : Int))) _ _ ?_ ?_ (len_lt_big hl) (offer, least, found)
  · rintro F k h ⟨offer, least, found⟩
    simp only [dec_lt h, condT, idx_get h, bindS, wrap_succ h hl]
  · rintro F ⟨offer, least, found⟩
    simp only [dec_end, condF]

noncomputable def lp32_3 (fuel : Nat)  (ages2₀ : List (Int)) (v3₀ : (Int) × (List (Int))) (persons1₀ : List (Int)) (offer₀ : Int) (least₀ : Int) (found₀ : Bool) (v4₀ : List ((Int) × ((Int) × ((Int) × (Int))))) (v5₀ : Int) (v6₀ : Int) : Option (((Int) × (List (Int))) × ((Int) × (Bool))) :=
  iter (fun F1 ((ages2, v3, persons1, offer, least, found, v4, v5, v6) : (List (Int)) × ((Int) × (List (Int))) × (List (Int)) × Int × Int × Bool × (List ((Int) × ((Int) × ((Int) × (Int))))) × Int × Int) =>
    bif decide (v6 < v5) then (
      (idx v4 v6).bind fun e =>
      (D38 e ages2 persons1).bind fun r =>
      bif r then (
        bif (!found) then F1 (ages2, v3, persons1, e.1, e.2.2.2, true, v4, v5, IntKind.i64.wrap (v6 + 1))
        else bif decide (e.2.2.2 < least) then F1 (ages2, v3, persons1, e.1, e.2.2.2, true, v4, v5, IntKind.i64.wrap (v6 + 1))
        else F1 (ages2, v3, persons1, offer, least, found, v4, v5, IntKind.i64.wrap (v6 + 1)))
      else F1 (ages2, v3, persons1, offer, least, found, v4, v5, IntKind.i64.wrap (v6 + 1)))
    else bif (!found) then some ((0, ([] : List (Int))), 0, false)
    else some ((offer, persons1), least, true)) fuel (ages2₀, v3₀, persons1₀, offer₀, least₀, found₀, v4₀, v5₀, v6₀)

theorem f32_3  (ages2 : List (Int)) (v3 : (Int) × (List (Int))) (persons1 : List (Int)) (offer : Int) (least : Int) (found : Bool) (v4 : List ((Int) × ((Int) × ((Int) × (Int))))) (hl : (v4).length ≤ maxLen) : lp32_3 big ages2 v3 persons1 offer least found v4 (List.length v4 : Int) 0 =
  forE (fun  el ((offer, least, found) : Int × Int × Bool) K =>
    ((D38 el ages2 persons1).bind fun r =>
    bif r then (
      bif (!found) then K (el.1, el.2.2.2, true)
      else bif decide (el.2.2.2 < least) then K (el.1, el.2.2.2, true)
      else K (offer, least, found))
    else K (offer, least, found) : Option (((Int) × (List (Int))) × ((Int) × (Bool)))))
    (fun ((offer, least, found) : Int × Int × Bool) =>
    (bif (!found) then some ((0, ([] : List (Int))), 0, false)
    else some ((offer, persons1), least, true) : Option (((Int) × (List (Int))) × ((Int) × (Bool))))) v4 (offer, least, found) := by
  refine iter_forE v4 (fun ix ((offer, least, found) : Int × Int × Bool) => (ages2, v3, persons1, offer, least, found, v4, (List.length v4 : Int), (ix : Int))) _ _ ?_ ?_ (len_lt_big hl) (offer, least, found)
  · rintro F k h ⟨offer, least, found⟩
    simp only [dec_lt h, condT, idx_get h, bindS, wrap_succ h hl]
  · rintro F ⟨offer, least, found⟩
    simp only [dec_end, condF]

noncomputable def lp32_5 (fuel : Nat)  (ages1₀ : List (Int)) (prices1₀ : List (Int)) (offers1₀ : List ((Int) × ((Int) × ((Int) × (Int))))) (set_1₀ : Int) (v₀ : (Int) × (List (Int))) (persons₀ : List (Int)) (v1₀ : Int) (v2₀ : Int) : Option (((Int) × (List (Int))) × ((Int) × (Bool))) :=
  iter (fun F ((ages1, prices1, offers1, set_1, v, persons, v1, v2) : (List (Int)) × (List (Int)) × (List ((Int) × ((Int) × ((Int) × (Int))))) × Int × ((Int) × (List (Int))) × (List (Int)) × Int × Int) =>
    bif decide (v2 < v1) then (
      bif decide (v2 < 0) then none
      else bif (IntKind.i64.wrap (((BitVec.ofInt 64 (Int.fdiv set_1 (2 ^ (Nat.min (Int.toNat v2) 64))) &&& BitVec.ofInt 64 1).toNat : Int)) == 1) then (
        bif (Nat.ble ((List.length persons + List.length [v2]) * 8) appendLimit && Nat.ble (List.length persons + List.length [v2]) 9223372036854775807) then F (ages1, prices1, offers1, set_1, v, persons ++ [v2], v1, IntKind.i64.wrap (v2 + 1))
        else none)
      else F (ages1, prices1, offers1, set_1, v, persons, v1, IntKind.i64.wrap (v2 + 1)))
    else bif ((List.length persons : Int) == 1) then (
      (idx persons 0).bind fun e =>
      (idx prices1 e).bind fun e1 =>
      lp32_1 fuel ages1 v persons 0 e1 true offers1 (List.length offers1 : Int) 0)
    else lp32_3 fuel ages1 v persons 0 0 false offers1 (List.length offers1 : Int) 0) fuel (ages1₀, prices1₀, offers1₀, set_1₀, v₀, persons₀, v1₀, v2₀)

theorem f32_5  (ages1 : List (Int)) (prices1 : List (Int)) (offers1 : List ((Int) × ((Int) × ((Int) × (Int))))) (set_1 : Int) (v : (Int) × (List (Int))) (persons : List (Int)) (hl : (ages1).length ≤ maxLen) : lp32_5 big ages1 prices1 offers1 set_1 v persons (List.length ages1 : Int) 0 =
  forI (fun ix _ (persons : (List (Int))) K =>
    (bif decide ((ix : Int) < 0) then none
    else bif (IntKind.i64.wrap (((BitVec.ofInt 64 (Int.fdiv set_1 (2 ^ (Nat.min (Int.toNat (ix : Int)) 64))) &&& BitVec.ofInt 64 1).toNat : Int)) == 1) then (
      bif (Nat.ble ((List.length persons + List.length [(ix : Int)]) * 8) appendLimit && Nat.ble (List.length persons + List.length [(ix : Int)]) 9223372036854775807) then K (persons ++ [(ix : Int)])
      else none)
    else K persons : Option (((Int) × (List (Int))) × ((Int) × (Bool)))))
    (fun (persons : (List (Int))) =>
    (bif ((List.length persons : Int) == 1) then (
      (idx persons 0).bind fun e =>
      (idx prices1 e).bind fun e1 =>
      lp32_1 big ages1 v persons 0 e1 true offers1 (List.length offers1 : Int) 0)
    else lp32_3 big ages1 v persons 0 0 false offers1 (List.length offers1 : Int) 0 : Option (((Int) × (List (Int))) × ((Int) × (Bool))))) 0 ages1 persons := by
  refine iter_forI_from ages1 (fun ix (persons : (List (Int))) => (ages1, prices1, offers1, set_1, v, persons, (List.length ages1 : Int), (ix : Int))) _ _ ?_ ?_ (k := 0) (Nat.zero_le _) (len_lt_big hl) persons
  · rintro F k h persons
    simp only [dec_lt h, condT, wrap_succ h hl]
  · rintro F persons
    simp only [dec_end, condF]

theorem g32 (fuel : Nat) (ages : List (Int)) (prices : List (Int)) (offers : List ((Int) × ((Int) × ((Int) × (Int))))) (set_ : Int) : (fnK tab env32 18 ann32 fuel Try.f32 [] ps32 rs32 true (ages, prices, offers, set_) : Option (((Int) × (List (Int))) × ((Int) × (Bool)))) = (
  lp32_5 fuel ages prices offers set_ (0, ([] : List (Int))) ([] : List (Int)) (List.length ages : Int) 0 : Option (((Int) × (List (Int))) × ((Int) × (Bool)))) := by kernel_rfl
theorem e32 (ages : List (Int)) (prices : List (Int)) (offers : List ((Int) × ((Int) × ((Int) × (Int))))) (set_ : Int) : D32 ages prices offers set_ = (
  lp32_5 big ages prices offers set_ (0, ([] : List (Int))) ([] : List (Int)) (List.length ages : Int) 0 : Option (((Int) × (List (Int))) × ((Int) × (Bool)))) := g32 big ages prices offers set_

end Go.Proofs.Ytmmlfdnpgigfbaa.D
