import Derived.Test.YtmmlfdnpgigfbaaT24
import Derived.Test.YtmmlfdnpgigfbaaET24a
open Go Go.GD Go.Proofs
namespace Go.Proofs.Ytmmlfdnpgigfbaa.D
/-! skiarea/group.charge -/
noncomputable def D34 (a0 : List (Int)) (a1 : List (Int)) (a2 : List ((Int) × ((Int) × ((Int) × (Int))))) (a3 : (Int) × (List (Int))) : Option ((Int) × (Bool)) := d34 (a0, a1, a2, a3)
noncomputable def lp34_1 (fuel : Nat)  (ages1₀ : List (Int)) (b1₀ : (Int) × (List (Int))) (v₀ : List ((Int) × ((Int) × ((Int) × (Int))))) (v1₀ : Int) (v2₀ : Int) : Option ((Int) × (Bool)) :=
  iter (fun F ((ages1, b1, v, v1, v2) : (List (Int)) × ((Int) × (List (Int))) × (List ((Int) × ((Int) × ((Int) × (Int))))) × Int × Int) =>
    bif decide (v2 < v1) then (
      (idx v v2).bind fun e =>
      bif (e.1 == b1.1) then (
        (D38 e ages1 b1.2).bind fun r =>
        bif (!r) then some (0, false)
        else some (e.2.2.2, true))
      else F (ages1, b1, v, v1, IntKind.i64.wrap (v2 + 1)))
    else some (0, false)) fuel (ages1₀, b1₀, v₀, v1₀, v2₀)

theorem f34_1  (ages1 : List (Int)) (b1 : (Int) × (List (Int))) (v : List ((Int) × ((Int) × ((Int) × (Int))))) (hl : (v).length ≤ maxLen) : lp34_1 big ages1 b1 v (List.length v : Int) 0 =
  forE (fun  el (_ : Unit) K =>
    (bif (el.1 == b1.1) then (
      (D38 el ages1 b1.2).bind fun r =>
      bif (!r) then some (0, false)
      else some (el.2.2.2, true))
    else K () : Option ((Int) × (Bool))))
    (fun (_ : Unit) =>
    (some (0, false) : Option ((Int) × (Bool)))) v () := by
  refine iter_forE v (fun ix (_ : Unit) => (ages1, b1, v, (List.length v : Int), (ix : Int))) _ _ ?_ ?_ (len_lt_big hl) ()
  · rintro F k h _
    simp only [dec_lt h, condT, idx_get h, bindS, wrap_succ h hl]
  · rintro F _
    simp only [dec_end, condF]

theorem g34 (fuel : Nat) (ages : List (Int)) (prices : List (Int)) (offers : List ((Int) × ((Int) × ((Int) × (Int))))) (b : (Int) × (List (Int))) : (fnK tab env34 12 ann34 fuel Try.f34 [] ps34 rs34 true (ages, prices, offers, b) : Option ((Int) × (Bool))) = (
  bif (b.1 == 0) then (
    bif ((List.length b.2 : Int) != 1) then some (0, false)
    else (idx b.2 0).bind fun e =>
    (idx prices e).bind fun e1 =>
    some (e1, true))
  else lp34_1 fuel ages b offers (List.length offers : Int) 0 : Option ((Int) × (Bool))) := by kernel_rfl
theorem e34 (ages : List (Int)) (prices : List (Int)) (offers : List ((Int) × ((Int) × ((Int) × (Int))))) (b : (Int) × (List (Int))) : D34 ages prices offers b = (
  bif (b.1 == 0) then (
    bif ((List.length b.2 : Int) != 1) then some (0, false)
    else (idx b.2 0).bind fun e =>
    (idx prices e).bind fun e1 =>
    some (e1, true))
  else lp34_1 big ages b offers (List.length offers : Int) 0 : Option ((Int) × (Bool))) := g34 big ages prices offers b

/-! slices.Index[[]bool,bool] -/
noncomputable def D39 (a0 : List (Bool)) (a1 : Bool) : Option (Int) := d39 (a0, a1)
noncomputable def lp39_1 (fuel : Nat)  (s1₀ : List (Bool)) (v1₀ : Bool) (v2₀ : Int) (v3₀ : Int) : Option (Int) :=
  iter (fun F ((s1, v1, v2, v3) : (List (Bool)) × Bool × Int × Int) =>
    bif decide (v3 < v2) then (
      (idx s1 v3).bind fun e =>
      bif (v1 == e) then some v3
      else F (s1, v1, v2, IntKind.i64.wrap (v3 + 1)))
    else some (-1)) fuel (s1₀, v1₀, v2₀, v3₀)

theorem f39_1  (s1 : List (Bool)) (v1 : Bool) (hl : (s1).length ≤ maxLen) : lp39_1 big s1 v1 (List.length s1 : Int) 0 =
  forI (fun ix el (_ : Unit) K =>
    (bif (v1 == el) then some (ix : Int)
    else K () : Option (Int)))
    (fun (_ : Unit) =>
    (some (-1) : Option (Int))) 0 s1 () := by
  refine iter_forI_from s1 (fun ix (_ : Unit) => (s1, v1, (List.length s1 : Int), (ix : Int))) _ _ ?_ ?_ (k := 0) (Nat.zero_le _) (len_lt_big hl) ()
  · rintro F k h _
    simp only [dec_lt h, condT, idx_get h, bindS, wrap_succ h hl]
  · rintro F _
    simp only [dec_end, condF]

theorem g39 (fuel : Nat) (s : List (Bool)) (v : Bool) : (fnK tab env39 6 ann39 fuel Try.f39 [] ps39 rs39 true (s, v) : Option (Int)) = (
  lp39_1 fuel s v (List.length s : Int) 0 : Option (Int)) := by kernel_rfl
theorem e39 (s : List (Bool)) (v : Bool) : D39 s v = (
  lp39_1 big s v (List.length s : Int) 0 : Option (Int)) := g39 big s v

/-! slices.Contains[[]bool,bool] -/
noncomputable def D35 (a0 : List (Bool)) (a1 : Bool) : Option (Bool) := d35 (a0, a1)
theorem e35 (s : List (Bool)) (v : Bool) : D35 s v = (
  (D39 s v).bind fun r =>
  some (decide (r ≥ 0)) : Option (Bool)) := by kernel_rfl

/-! skiarea/group.Cost -/
noncomputable def D27 (a0 : List (Int)) (a1 : List (Int)) (a2 : List ((Int) × ((Int) × ((Int) × (Int))))) (a3 : List ((Int) × (List (Int)))) : Option ((Int) × (Bool)) := d27 (a0, a1, a2, a3)
noncomputable def lp27_1 (fuel : Nat) (F : ((List (Int)) × (List (Int)) × (List ((Int) × ((Int) × ((Int) × (Int))))) × (List (Bool)) × Int × (List ((Int) × (List (Int)))) × Int × Int) → Option ((Int) × (Bool))) (ages2₀ : List (Int)) (prices2₀ : List (Int)) (offers2₀ : List ((Int) × ((Int) × ((Int) × (Int))))) (has1₀ : List (Bool)) (total1₀ : Int) (b₀ : (Int) × (List (Int))) (last_₀ : Int) (v3₀ : List ((Int) × (List (Int)))) (v4₀ : Int) (v5₀ : Int) (v6₀ : List (Int)) (v7₀ : Int) (v8₀ : Int) : Option ((Int) × (Bool)) :=
  iter (fun F1 ((ages2, prices2, offers2, has1, total1, b, last_, v3, v4, v5, v6, v7, v8) : (List (Int)) × (List (Int)) × (List ((Int) × ((Int) × ((Int) × (Int))))) × (List (Bool)) × Int × ((Int) × (List (Int))) × Int × (List ((Int) × (List (Int)))) × Int × Int × (List (Int)) × Int × Int) =>
    bif decide (v8 < v7) then (
      (idx v6 v8).bind fun e1 =>
      bif decide (e1 ≤ last_) then some (0, false)
      else bif decide (e1 ≥ (List.length ages2 : Int)) then some (0, false)
      else (idx has1 e1).bind fun e2 =>
      bif e2 then some (0, false)
      else (idx has1 e1).bind fun _ =>
      F1 (ages2, prices2, offers2, List.set has1 (Int.toNat e1) true, total1, b, e1, v3, v4, v5, v6, v7, IntKind.i64.wrap (v8 + 1)))
    else bif ((List.length b.2 : Int) == 0) then some (0, false)
    else (D34 ages2 prices2 offers2 b).bind fun r =>
    bif (!r.2) then some (0, false)
    else F (ages2, prices2, offers2, has1, IntKind.i64.wrap (total1 + r.1), v3, v4, IntKind.i64.wrap (v5 + 1))) fuel (ages2₀, prices2₀, offers2₀, has1₀, total1₀, b₀, last_₀, v3₀, v4₀, v5₀, v6₀, v7₀, v8₀)

theorem f27_1 (F : ((List (Int)) × (List (Int)) × (List ((Int) × ((Int) × ((Int) × (Int))))) × (List (Bool)) × Int × (List ((Int) × (List (Int)))) × Int × Int) → Option ((Int) × (Bool))) (ages2 : List (Int)) (prices2 : List (Int)) (offers2 : List ((Int) × ((Int) × ((Int) × (Int))))) (has1 : List (Bool)) (total1 : Int) (b : (Int) × (List (Int))) (last_ : Int) (v3 : List ((Int) × (List (Int)))) (v4 : Int) (v5 : Int) (v6 : List (Int)) (hl : (v6).length ≤ maxLen) : lp27_1 big F ages2 prices2 offers2 has1 total1 b last_ v3 v4 v5 v6 (List.length v6 : Int) 0 =
  forE (fun  el ((has1, last_) : (List (Bool)) × Int) K =>
    (bif decide (el ≤ last_) then some (0, false)
    else bif decide (el ≥ (List.length ages2 : Int)) then some (0, false)
    else (idx has1 el).bind fun e2 =>
    bif e2 then some (0, false)
    else (idx has1 el).bind fun _ =>
    K (List.set has1 (Int.toNat el) true, el) : Option ((Int) × (Bool))))
    (fun ((has1, _) : (List (Bool)) × Int) =>
    (bif ((List.length b.2 : Int) == 0) then some (0, false)
    else (D34 ages2 prices2 offers2 b).bind fun r =>
    bif (!r.2) then some (0, false)
    else F (ages2, prices2, offers2, has1, IntKind.i64.wrap (total1 + r.1), v3, v4, IntKind.i64.wrap (v5 + 1)) : Option ((Int) × (Bool)))) v6 (has1, last_) := by
  refine iter_forE v6 (fun ix ((has1, last_) : (List (Bool)) × Int) => (ages2, prices2, offers2, has1, total1, b, last_, v3, v4, v5, v6, (List.length v6 : Int), (ix : Int))) _ _ ?_ ?_ (len_lt_big hl) (has1, last_)
  · rintro F k h ⟨has1, last_⟩
    simp only [dec_lt h, condT, idx_get h, bindS, wrap_succ h hl]
  · rintro F ⟨has1, last_⟩
    simp only [dec_end, condF]

noncomputable def lp27_3 (fuel : Nat)  (ages1₀ : List (Int)) (prices1₀ : List (Int)) (offers1₀ : List ((Int) × ((Int) × ((Int) × (Int))))) (has₀ : List (Bool)) (total₀ : Int) (v₀ : List ((Int) × (List (Int)))) (v1₀ : Int) (v2₀ : Int) : Option ((Int) × (Bool)) :=
  iter (fun F ((ages1, prices1, offers1, has, total, v, v1, v2) : (List (Int)) × (List (Int)) × (List ((Int) × ((Int) × ((Int) × (Int))))) × (List (Bool)) × Int × (List ((Int) × (List (Int)))) × Int × Int) =>
    bif decide (v2 < v1) then (
      (idx v v2).bind fun e =>
      lp27_1 fuel F ages1 prices1 offers1 has total e (-1) v v1 v2 e.2 (List.length e.2 : Int) 0)
    else (D35 has false).bind fun r =>
    bif r then some (0, false)
    else some (total, true)) fuel (ages1₀, prices1₀, offers1₀, has₀, total₀, v₀, v1₀, v2₀)

theorem g27 (fuel : Nat) (ages : List (Int)) (prices : List (Int)) (offers : List ((Int) × ((Int) × ((Int) × (Int))))) (l : List ((Int) × (List (Int)))) : (fnK tab env27 19 ann27 fuel Try.f27 [] ps27 rs27 true (ages, prices, offers, l) : Option ((Int) × (Bool))) = (
  bif (decide (0 ≤ ((List.length ages : Int) : Int)) && (decide (((List.length ages : Int) : Int) ≤ (List.length ages : Int)) && (decide (1 * ((List.length ages : Int) : Int) ≤ (appendLimit : Int)) && decide (((List.length ages : Int) : Int) ≤ 9223372036854775807)))) then lp27_3 fuel ages prices offers (List.replicate (Int.toNat (List.length ages : Int)) false) 0 l (List.length l : Int) 0
  else none : Option ((Int) × (Bool))) := by kernel_rfl
theorem e27 (ages : List (Int)) (prices : List (Int)) (offers : List ((Int) × ((Int) × ((Int) × (Int))))) (l : List ((Int) × (List (Int)))) : D27 ages prices offers l = (
  bif (decide (0 ≤ ((List.length ages : Int) : Int)) && (decide (((List.length ages : Int) : Int) ≤ (List.length ages : Int)) && (decide (1 * ((List.length ages : Int) : Int) ≤ (appendLimit : Int)) && decide (((List.length ages : Int) : Int) ≤ 9223372036854775807)))) then lp27_3 big ages prices offers (List.replicate (Int.toNat (List.length ages : Int)) false) 0 l (List.length l : Int) 0
  else none : Option ((Int) × (Bool))) := g27 big ages prices offers l

/-! skiarea/skiarealaw24.cost -/
noncomputable def D16 (a0 : (List (Int)) × ((List (Int)) × (List ((Int) × ((Int) × ((Int) × (Int))))))) (a1 : List ((Int) × (List (Int)))) : Option ((Int) × (Bool)) := d16 (a0, a1)
theorem e16 (g : (List (Int)) × ((List (Int)) × (List ((Int) × ((Int) × ((Int) × (Int))))))) (l : List ((Int) × (List (Int)))) : D16 g l = (
  (D27 g.1 g.2.1 g.2.2 l).bind fun r =>
  some (r.1, r.2) : Option ((Int) × (Bool))) := by kernel_rfl

noncomputable def D22 (a0 : List (Int)) (a1 : List (Int)) (a2 : List ((Int) × ((Int) × ((Int) × (Int))))) : Option ((List ((Int) × (List (Int)))) × ((Int) × (Int))) := d22 (a0, a1, a2)

/-! skiarea/skiarealaw24.best -/
noncomputable def D18 (a0 : (List (Int)) × ((List (Int)) × (List ((Int) × ((Int) × ((Int) × (Int))))))) : Option ((List ((Int) × (List (Int)))) × ((Int) × (Int))) := d18 a0
theorem e18 (g : (List (Int)) × ((List (Int)) × (List ((Int) × ((Int) × ((Int) × (Int))))))) : D18 g = (
  (D22 g.1 g.2.1 g.2.2).bind fun r =>
  some (r.1, r.2.1, r.2.2) : Option ((List ((Int) × (List (Int)))) × ((Int) × (Int)))) := by kernel_rfl

/-! skiarea/group.Saving -/
noncomputable def D19 (a0 : List (Int)) (a1 : List (Int)) (a2 : List ((Int) × ((Int) × ((Int) × (Int))))) : Option ((Int) × (Int)) := d19 (a0, a1, a2)
noncomputable def lp19_1 (fuel : Nat)  (cost₀ : Int) (sum_₀ : Int) (v₀ : List (Int)) (v1₀ : Int) (v2₀ : Int) : Option ((Int) × (Int)) :=
  iter (fun F ((cost, sum_, v, v1, v2) : Int × Int × (List (Int)) × Int × Int) =>
    bif decide (v2 < v1) then (
      (idx v v2).bind fun e =>
      F (cost, IntKind.i64.wrap (sum_ + e), v, v1, IntKind.i64.wrap (v2 + 1)))
    else some (IntKind.i64.wrap (sum_ - cost), 0)) fuel (cost₀, sum_₀, v₀, v1₀, v2₀)

theorem f19_1  (cost : Int) (sum_ : Int) (v : List (Int)) (hl : (v).length ≤ maxLen) : lp19_1 big cost sum_ v (List.length v : Int) 0 =
  forE (fun  el (sum_ : Int) K =>
    (K (IntKind.i64.wrap (sum_ + el)) : Option ((Int) × (Int))))
    (fun (sum_ : Int) =>
    (some (IntKind.i64.wrap (sum_ - cost), 0) : Option ((Int) × (Int)))) v sum_ := by
  refine iter_forE v (fun ix (sum_ : Int) => (cost, sum_, v, (List.length v : Int), (ix : Int))) _ _ ?_ ?_ (len_lt_big hl) sum_
  · rintro F k h sum_
    simp only [dec_lt h, condT, idx_get h, bindS, wrap_succ h hl]
  · rintro F sum_
    simp only [dec_end, condF]

theorem g19 (fuel : Nat) (ages : List (Int)) (prices : List (Int)) (offers : List ((Int) × ((Int) × ((Int) × (Int))))) : (fnK tab env19 14 ann19 fuel Try.f19 [] ps19 rs19 true (ages, prices, offers) : Option ((Int) × (Int))) = (
  (D22 ages prices offers).bind fun r =>
  bif (r.2.2 != 0) then some (0, r.2.2)
  else lp19_1 fuel r.2.1 0 prices (List.length prices : Int) 0 : Option ((Int) × (Int))) := by kernel_rfl
theorem e19 (ages : List (Int)) (prices : List (Int)) (offers : List ((Int) × ((Int) × ((Int) × (Int))))) : D19 ages prices offers = (
  (D22 ages prices offers).bind fun r =>
  bif (r.2.2 != 0) then some (0, r.2.2)
  else lp19_1 big r.2.1 0 prices (List.length prices : Int) 0 : Option ((Int) × (Int))) := g19 big ages prices offers

/-! skiarea/skiarealaw24.sample -/
noncomputable def D23  : Option ((List (Int)) × ((List (Int)) × (List ((Int) × ((Int) × ((Int) × (Int))))))) := d23 ()
theorem e23  : D23 = (
  some ([40, 38, 10, 8], [5000, 5000, 2500, 2500], [(1, 2, 2, 11000), (2, 1, 3, 8000)]) : Option ((List (Int)) × ((List (Int)) × (List ((Int) × ((Int) × ((Int) × (Int)))))))) := by kernel_rfl

noncomputable def D10  : Option (Bool) := d10 ()
theorem aliveD : D10 = some true := alive

/-! skiarea/skiarealaw24.few -/
noncomputable def D11 (a0 : (List (Int)) × ((List (Int)) × (List ((Int) × ((Int) × ((Int) × (Int))))))) : Option (Bool) := d11 a0
theorem e11 (g : (List (Int)) × ((List (Int)) × (List ((Int) × ((Int) × ((Int) × (Int))))))) : D11 g = (
  bif decide ((List.length g.1 : Int) ≤ 40) then (
    bif decide ((List.length g.2.1 : Int) ≤ 40) then some (decide ((List.length g.2.2 : Int) ≤ 40))
    else some false)
  else some false : Option (Bool)) := by kernel_rfl

/-! skiarea/skiarearef24.price -/
noncomputable def D26 (a0 : Int) : Option (Bool) := d26 a0
theorem e26 (n : Int) : D26 n = (
  bif decide (n ≥ 0) then some (decide (n ≤ 100000000))
  else some false : Option (Bool)) := by kernel_rfl

/-! skiarea/skiarearef24.Right -/
noncomputable def D13 (a0 : List (Int)) (a1 : List (Int)) (a2 : List ((Int) × ((Int) × ((Int) × (Int))))) : Option (Int) := d13 (a0, a1, a2)
noncomputable def lp13_1 (fuel : Nat) (F1 : ((List ((Int) × ((Int) × ((Int) × (Int))))) × Int) → Option (Int)) (offers3₀ : List ((Int) × ((Int) × ((Int) × (Int))))) (i2₀ : Int) (o₀ : (Int) × ((Int) × ((Int) × (Int)))) (k_₀ : Int) : Option (Int) :=
  iter (fun F2 ((offers3, i2, o, k_) : (List ((Int) × ((Int) × ((Int) × (Int))))) × Int × ((Int) × ((Int) × ((Int) × (Int)))) × Int) =>
    bif decide (k_ < i2) then (
      (idx offers3 k_).bind fun e1 =>
      bif (e1.1 == o.1) then some 7
      else F2 (offers3, i2, o, IntKind.i64.wrap (k_ + 1)))
    else F1 (offers3, IntKind.i64.wrap (i2 + 1))) fuel (offers3₀, i2₀, o₀, k_₀)

theorem f13_1 (F1 : ((List ((Int) × ((Int) × ((Int) × (Int))))) × Int) → Option (Int)) (offers3 : List ((Int) × ((Int) × ((Int) × (Int))))) (i2 : Int) (o : (Int) × ((Int) × ((Int) × (Int)))) (hl : i2 ≤ 9223372036854775807) : lp13_1 big F1 offers3 i2 o 0 =
  forN (fun ix (_ : Unit) K =>
    ((idx offers3 (ix : Int)).bind fun e1 =>
    bif (e1.1 == o.1) then some 7
    else K () : Option (Int)))
    (fun (_ : Unit) =>
    (F1 (offers3, IntKind.i64.wrap (i2 + 1)) : Option (Int))) 0 (Int.toNat i2) () := by
  refine iter_forN (Int.toNat i2) (fun ix (_ : Unit) => (offers3, i2, o, (ix : Int))) _ _ ?_ ?_ (int_lt_big hl) ()
  · rintro F k h _
    simp only [dec_lt_int h, condT, wrap_succ_int h hl]
  · rintro F _
    simp only [dec_end_int, condF]

noncomputable def lp13_3 (fuel : Nat)  (offers2₀ : List ((Int) × ((Int) × ((Int) × (Int))))) (i1₀ : Int) : Option (Int) :=
  iter (fun F1 ((offers2, i1) : (List ((Int) × ((Int) × ((Int) × (Int))))) × Int) =>
    bif decide (i1 < (List.length offers2 : Int)) then (
      (idx offers2 i1).bind fun e =>
      bif decide (e.1 < 1) then some 2
      else bif decide (e.1 > 9999) then some 2
      else bif decide (e.2.1 < 0) then some 2
      else bif decide (e.2.1 > 8) then some 2
      else bif decide (e.2.2.1 < 0) then some 2
      else bif decide (e.2.2.1 > 8) then some 2
      else (D26 e.2.2.2).bind fun r =>
      bif (!r) then some 2
      else lp13_1 fuel F1 offers2 i1 e 0)
    else some 0) fuel (offers2₀, i1₀)

noncomputable def lp13_4 (fuel : Nat)  (ages1₀ : List (Int)) (prices1₀ : List (Int)) (offers1₀ : List ((Int) × ((Int) × ((Int) × (Int))))) (i₀ : Int) : Option (Int) :=
  iter (fun F ((ages1, prices1, offers1, i) : (List (Int)) × (List (Int)) × (List ((Int) × ((Int) × ((Int) × (Int))))) × Int) =>
    bif decide (i < (List.length ages1 : Int)) then (
      (idx ages1 i).bind fun e =>
      bif decide (e < 0) then some 2
      else (idx ages1 i).bind fun e1 =>
      bif decide (e1 > 120) then some 2
      else (idx prices1 i).bind fun e2 =>
      (D26 e2).bind fun r =>
      bif (!r) then some 2
      else F (ages1, prices1, offers1, IntKind.i64.wrap (i + 1)))
    else lp13_3 fuel offers1 0) fuel (ages1₀, prices1₀, offers1₀, i₀)

theorem f13_4  (ages1 : List (Int)) (prices1 : List (Int)) (offers1 : List ((Int) × ((Int) × ((Int) × (Int))))) (hl : (ages1).length ≤ maxLen) : lp13_4 big ages1 prices1 offers1 0 =
  forI (fun ix el (_ : Unit) K =>
    (bif decide (el < 0) then some 2
    else bif decide (el > 120) then some 2
    else (idx prices1 (ix : Int)).bind fun e2 =>
    (D26 e2).bind fun r =>
    bif (!r) then some 2
    else K () : Option (Int)))
    (fun (_ : Unit) =>
    (lp13_3 big offers1 0 : Option (Int))) 0 ages1 () := by
  refine iter_forI_from ages1 (fun ix (_ : Unit) => (ages1, prices1, offers1, (ix : Int))) _ _ ?_ ?_ (k := 0) (Nat.zero_le _) (len_lt_big hl) ()
  · rintro F k h _
    simp only [dec_lt h, condT, idx_get h, bindS, wrap_succ h hl]
  · rintro F _
    simp only [dec_end, condF]

theorem g13 (fuel : Nat) (ages : List (Int)) (prices : List (Int)) (offers : List ((Int) × ((Int) × ((Int) × (Int))))) : (fnK tab env13 11 ann13 fuel Try.f13 [] ps13 rs13 true (ages, prices, offers) : Option (Int)) = (
  bif decide ((List.length ages : Int) > 8) then some 4
  else bif decide ((List.length offers : Int) > 8) then some 4
  else bif ((List.length prices : Int) != (List.length ages : Int)) then some 3
  else lp13_4 fuel ages prices offers 0 : Option (Int)) := by kernel_rfl
theorem e13 (ages : List (Int)) (prices : List (Int)) (offers : List ((Int) × ((Int) × ((Int) × (Int))))) : D13 ages prices offers = (
  bif decide ((List.length ages : Int) > 8) then some 4
  else bif decide ((List.length offers : Int) > 8) then some 4
  else bif ((List.length prices : Int) != (List.length ages : Int)) then some 3
  else lp13_4 big ages prices offers 0 : Option (Int)) := g13 big ages prices offers

/-! skiarea/skiarealaw24.GroupRights -/
noncomputable def D3 (a0 : (List (Int)) × ((List (Int)) × (List ((Int) × ((Int) × ((Int) × (Int))))))) : Option (Bool) := d3 a0
theorem e3 (g : (List (Int)) × ((List (Int)) × (List ((Int) × ((Int) × ((Int) × (Int))))))) : D3 g = (
  (D10).bind fun r =>
  bif (!r) then some false
  else (D11 g).bind fun r1 =>
  bif (!r1) then some true
  else (D12 g.1 g.2.1 g.2.2).bind fun r2 =>
  (D13 g.1 g.2.1 g.2.2).bind fun r3 =>
  some (r2 == r3) : Option (Bool)) := by kernel_rfl

/-! skiarea/skiarealaw24.right -/
noncomputable def D14 (a0 : (List (Int)) × ((List (Int)) × (List ((Int) × ((Int) × ((Int) × (Int))))))) : Option (Bool) := d14 a0
theorem e14 (g : (List (Int)) × ((List (Int)) × (List ((Int) × ((Int) × ((Int) × (Int))))))) : D14 g = (
  (D13 g.1 g.2.1 g.2.2).bind fun r =>
  some (r == 0) : Option (Bool)) := by kernel_rfl

/-! skiarea/skiarealaw24.short -/
noncomputable def D15 (a0 : List ((Int) × (List (Int)))) : Option (Bool) := d15 a0
noncomputable def lp15_1 (fuel : Nat)  (l1₀ : List ((Int) × (List (Int)))) (i₀ : Int) : Option (Bool) :=
  iter (fun F ((l1, i) : (List ((Int) × (List (Int)))) × Int) =>
    bif decide (i < (List.length l1 : Int)) then (
      (idx l1 i).bind fun e =>
      bif decide ((List.length e.2 : Int) > 20) then some false
      else F (l1, IntKind.i64.wrap (i + 1)))
    else some true) fuel (l1₀, i₀)

theorem f15_1  (l1 : List ((Int) × (List (Int)))) (hl : (l1).length ≤ maxLen) : lp15_1 big l1 0 =
  forE (fun  el (_ : Unit) K =>
    (bif decide ((List.length el.2 : Int) > 20) then some false
    else K () : Option (Bool)))
    (fun (_ : Unit) =>
    (some true : Option (Bool))) l1 () := by
  refine iter_forE l1 (fun ix (_ : Unit) => (l1, (ix : Int))) _ _ ?_ ?_ (len_lt_big hl) ()
  · rintro F k h _
    simp only [dec_lt h, condT, idx_get h, bindS, wrap_succ h hl]
  · rintro F _
    simp only [dec_end, condF]

theorem g15 (fuel : Nat) (l : List ((Int) × (List (Int)))) : (fnK tab env15 4 ann15 fuel Try.f15 [] ps15 rs15 true l : Option (Bool)) = (
  bif decide ((List.length l : Int) > 20) then some false
  else lp15_1 fuel l 0 : Option (Bool)) := by kernel_rfl
theorem e15 (l : List ((Int) × (List (Int)))) : D15 l = (
  bif decide ((List.length l : Int) > 20) then some false
  else lp15_1 big l 0 : Option (Bool)) := g15 big l

/-! skiarea/skiarearef24.find -/
noncomputable def D36 (a0 : List ((Int) × ((Int) × ((Int) × (Int))))) (a1 : Int) : Option (((Int) × ((Int) × ((Int) × (Int)))) × (Bool)) := d36 (a0, a1)
noncomputable def lp36_1 (fuel : Nat)  (offers1₀ : List ((Int) × ((Int) × ((Int) × (Int))))) (id_1₀ : Int) (v₀ : (Int) × ((Int) × ((Int) × (Int)))) (i₀ : Int) : Option (((Int) × ((Int) × ((Int) × (Int)))) × (Bool)) :=
  iter (fun F ((offers1, id_1, v, i) : (List ((Int) × ((Int) × ((Int) × (Int))))) × Int × ((Int) × ((Int) × ((Int) × (Int)))) × Int) =>
    bif decide (i < (List.length offers1 : Int)) then (
      (idx offers1 i).bind fun e =>
      bif (e.1 == id_1) then (
        (idx offers1 i).bind fun e1 =>
        some (e1, true))
      else F (offers1, id_1, v, IntKind.i64.wrap (i + 1)))
    else some ((0, 0, 0, 0), false)) fuel (offers1₀, id_1₀, v₀, i₀)

theorem f36_1  (offers1 : List ((Int) × ((Int) × ((Int) × (Int))))) (id_1 : Int) (v : (Int) × ((Int) × ((Int) × (Int)))) (hl : (offers1).length ≤ maxLen) : lp36_1 big offers1 id_1 v 0 =
  forE (fun  el (_ : Unit) K =>
    (bif (el.1 == id_1) then some (el, true)
    else K () : Option (((Int) × ((Int) × ((Int) × (Int)))) × (Bool))))
    (fun (_ : Unit) =>
    (some ((0, 0, 0, 0), false) : Option (((Int) × ((Int) × ((Int) × (Int)))) × (Bool)))) offers1 () := by
  refine iter_forE offers1 (fun ix (_ : Unit) => (offers1, id_1, v, (ix : Int))) _ _ ?_ ?_ (len_lt_big hl) ()
  · rintro F k h _
    simp only [dec_lt h, condT, idx_get h, bindS, wrap_succ h hl]
  · rintro F _
    simp only [dec_end, condF]

theorem g36 (fuel : Nat) (offers : List ((Int) × ((Int) × ((Int) × (Int))))) (id_ : Int) : (fnK tab env36 7 ann36 fuel Try.f36 [] ps36 rs36 true (offers, id_) : Option (((Int) × ((Int) × ((Int) × (Int)))) × (Bool))) = (
  lp36_1 fuel offers id_ (0, 0, 0, 0) 0 : Option (((Int) × ((Int) × ((Int) × (Int)))) × (Bool))) := by kernel_rfl
theorem e36 (offers : List ((Int) × ((Int) × ((Int) × (Int))))) (id_ : Int) : D36 offers id_ = (
  lp36_1 big offers id_ (0, 0, 0, 0) 0 : Option (((Int) × ((Int) × ((Int) × (Int)))) × (Bool))) := g36 big offers id_

/-! skiarea/skiarearef24.one -/
noncomputable def D28 (a0 : List (Int)) (a1 : List (Int)) (a2 : List ((Int) × ((Int) × ((Int) × (Int))))) (a3 : (Int) × (List (Int))) : Option ((Int) × (Bool)) := d28 (a0, a1, a2, a3)
noncomputable def lp28_1 (fuel : Nat)  (ages1₀ : List (Int)) (prices1₀ : List (Int)) (offers1₀ : List ((Int) × ((Int) × ((Int) × (Int))))) (b1₀ : (Int) × (List (Int))) (adults₀ : Int) (children₀ : Int) (i₀ : Int) : Option ((Int) × (Bool)) :=
  iter (fun F ((ages1, prices1, offers1, b1, adults, children, i) : (List (Int)) × (List (Int)) × (List ((Int) × ((Int) × ((Int) × (Int))))) × ((Int) × (List (Int))) × Int × Int × Int) =>
    bif decide (i < (List.length b1.2 : Int)) then (
      (idx b1.2 i).bind fun e =>
      bif decide (e < 0) then some (0, false)
      else bif decide (e ≥ (List.length ages1 : Int)) then some (0, false)
      else bif decide (i > 0) then (
        (idx b1.2 (IntKind.i64.wrap (i - 1))).bind fun e1 =>
        bif decide (e ≤ e1) then some (0, false)
        else (idx ages1 e).bind fun e2 =>
        bif decide (e2 ≥ 16) then F (ages1, prices1, offers1, b1, IntKind.i64.wrap (adults + 1), children, IntKind.i64.wrap (i + 1))
        else F (ages1, prices1, offers1, b1, adults, IntKind.i64.wrap (children + 1), IntKind.i64.wrap (i + 1)))
      else (idx ages1 e).bind fun e1 =>
      bif decide (e1 ≥ 16) then F (ages1, prices1, offers1, b1, IntKind.i64.wrap (adults + 1), children, IntKind.i64.wrap (i + 1))
      else F (ages1, prices1, offers1, b1, adults, IntKind.i64.wrap (children + 1), IntKind.i64.wrap (i + 1)))
    else bif (b1.1 == 0) then (
      bif ((List.length b1.2 : Int) != 1) then some (0, false)
      else (idx b1.2 0).bind fun e =>
      (idx prices1 e).bind fun e1 =>
      some (e1, true))
    else (D36 offers1 b1.1).bind fun r =>
    bif (!r.2) then some (0, false)
    else bif ((List.length b1.2 : Int) == 0) then some (0, false)
    else bif decide (adults > r.1.2.1) then some (0, false)
    else bif decide (children > r.1.2.2.1) then some (0, false)
    else some (r.1.2.2.2, true)) fuel (ages1₀, prices1₀, offers1₀, b1₀, adults₀, children₀, i₀)

theorem f28_1  (ages1 : List (Int)) (prices1 : List (Int)) (offers1 : List ((Int) × ((Int) × ((Int) × (Int))))) (b1 : (Int) × (List (Int))) (adults : Int) (children : Int) (hl : (b1.2).length ≤ maxLen) : lp28_1 big ages1 prices1 offers1 b1 adults children 0 =
  forI (fun ix el ((adults, children) : Int × Int) K =>
    (bif decide (el < 0) then some (0, false)
    else bif decide (el ≥ (List.length ages1 : Int)) then some (0, false)
    else bif decide ((ix : Int) > 0) then (
      (idx b1.2 (IntKind.i64.wrap ((ix : Int) - 1))).bind fun e1 =>
      bif decide (el ≤ e1) then some (0, false)
      else (idx ages1 el).bind fun e2 =>
      bif decide (e2 ≥ 16) then K (IntKind.i64.wrap (adults + 1), children)
      else K (adults, IntKind.i64.wrap (children + 1)))
    else (idx ages1 el).bind fun e1 =>
    bif decide (e1 ≥ 16) then K (IntKind.i64.wrap (adults + 1), children)
    else K (adults, IntKind.i64.wrap (children + 1)) : Option ((Int) × (Bool))))
    (fun ((adults, children) : Int × Int) =>
    (bif (b1.1 == 0) then (
      bif ((List.length b1.2 : Int) != 1) then some (0, false)
      else (idx b1.2 0).bind fun e =>
      (idx prices1 e).bind fun e1 =>
      some (e1, true))
    else (D36 offers1 b1.1).bind fun r =>
    bif (!r.2) then some (0, false)
    else bif ((List.length b1.2 : Int) == 0) then some (0, false)
    else bif decide (adults > r.1.2.1) then some (0, false)
    else bif decide (children > r.1.2.2.1) then some (0, false)
    else some (r.1.2.2.2, true) : Option ((Int) × (Bool)))) 0 b1.2 (adults, children) := by
  refine iter_forI_from b1.2 (fun ix ((adults, children) : Int × Int) => (ages1, prices1, offers1, b1, adults, children, (ix : Int))) _ _ ?_ ?_ (k := 0) (Nat.zero_le _) (len_lt_big hl) (adults, children)
  · rintro F k h ⟨adults, children⟩
    simp only [dec_lt h, condT, idx_get h, bindS, wrap_succ h hl]
  · rintro F ⟨adults, children⟩
    simp only [dec_end, condF]

theorem g28 (fuel : Nat) (ages : List (Int)) (prices : List (Int)) (offers : List ((Int) × ((Int) × ((Int) × (Int))))) (b : (Int) × (List (Int))) : (fnK tab env28 16 ann28 fuel Try.f28 [] ps28 rs28 true (ages, prices, offers, b) : Option ((Int) × (Bool))) = (
  lp28_1 fuel ages prices offers b 0 0 0 : Option ((Int) × (Bool))) := by kernel_rfl
theorem e28 (ages : List (Int)) (prices : List (Int)) (offers : List ((Int) × ((Int) × ((Int) × (Int))))) (b : (Int) × (List (Int))) : D28 ages prices offers b = (
  lp28_1 big ages prices offers b 0 0 0 : Option ((Int) × (Bool))) := g28 big ages prices offers b

/-! skiarea/skiarearef24.Cost -/
noncomputable def D17 (a0 : List (Int)) (a1 : List (Int)) (a2 : List ((Int) × ((Int) × ((Int) × (Int))))) (a3 : List ((Int) × (List (Int)))) : Option ((Int) × (Bool)) := d17 (a0, a1, a2, a3)
noncomputable def lp17_1 (fuel : Nat) (F : ((List (Int)) × (List (Int)) × (List ((Int) × ((Int) × ((Int) × (Int))))) × (List ((Int) × (List (Int)))) × Int × (List (Bool)) × Int × Int) → Option ((Int) × (Bool))) (ages2₀ : List (Int)) (prices2₀ : List (Int)) (offers2₀ : List ((Int) × ((Int) × ((Int) × (Int))))) (l2₀ : List ((Int) × (List (Int)))) (sum_1₀ : Int) (seen1₀ : List (Bool)) (all_1₀ : Int) (i1₀ : Int) (k_₀ : Int) : Option ((Int) × (Bool)) :=
  iter (fun F1 ((ages2, prices2, offers2, l2, sum_1, seen1, all_1, i1, k_) : (List (Int)) × (List (Int)) × (List ((Int) × ((Int) × ((Int) × (Int))))) × (List ((Int) × (List (Int)))) × Int × (List (Bool)) × Int × Int × Int) =>
    (idx l2 i1).bind fun e1 =>
    bif decide (k_ < (List.length e1.2 : Int)) then (
      (idx l2 i1).bind fun e2 =>
      (idx e2.2 k_).bind fun e3 =>
      (idx seen1 e3).bind fun e4 =>
      bif e4 then some (0, false)
      else (idx l2 i1).bind fun e5 =>
      (idx e5.2 k_).bind fun e6 =>
      (idx seen1 e6).bind fun _ =>
      F1 (ages2, prices2, offers2, l2, sum_1, List.set seen1 (Int.toNat e6) true, IntKind.i64.wrap (all_1 + 1), i1, IntKind.i64.wrap (k_ + 1)))
    else F (ages2, prices2, offers2, l2, sum_1, seen1, all_1, IntKind.i64.wrap (i1 + 1))) fuel (ages2₀, prices2₀, offers2₀, l2₀, sum_1₀, seen1₀, all_1₀, i1₀, k_₀)

noncomputable def lp17_2 (fuel : Nat)  (ages1₀ : List (Int)) (prices1₀ : List (Int)) (offers1₀ : List ((Int) × ((Int) × ((Int) × (Int))))) (l1₀ : List ((Int) × (List (Int)))) (sum_₀ : Int) (seen₀ : List (Bool)) (all_₀ : Int) (i₀ : Int) : Option ((Int) × (Bool)) :=
  iter (fun F ((ages1, prices1, offers1, l1, sum_, seen, all_, i) : (List (Int)) × (List (Int)) × (List ((Int) × ((Int) × ((Int) × (Int))))) × (List ((Int) × (List (Int)))) × Int × (List (Bool)) × Int × Int) =>
    bif decide (i < (List.length l1 : Int)) then (
      (idx l1 i).bind fun e =>
      (D28 ages1 prices1 offers1 e).bind fun r =>
      bif (!r.2) then some (0, false)
      else lp17_1 fuel F ages1 prices1 offers1 l1 (IntKind.i64.wrap (sum_ + r.1)) seen all_ i 0)
    else bif (all_ != (List.length ages1 : Int)) then some (0, false)
    else some (sum_, true)) fuel (ages1₀, prices1₀, offers1₀, l1₀, sum_₀, seen₀, all_₀, i₀)

theorem g17 (fuel : Nat) (ages : List (Int)) (prices : List (Int)) (offers : List ((Int) × ((Int) × ((Int) × (Int))))) (l : List ((Int) × (List (Int)))) : (fnK tab env17 17 ann17 fuel Try.f17 [] ps17 rs17 true (ages, prices, offers, l) : Option ((Int) × (Bool))) = (
  bif (decide (0 ≤ ((List.length ages : Int) : Int)) && (decide (((List.length ages : Int) : Int) ≤ (List.length ages : Int)) && (decide (1 * ((List.length ages : Int) : Int) ≤ (appendLimit : Int)) && decide (((List.length ages : Int) : Int) ≤ 9223372036854775807)))) then lp17_2 fuel ages prices offers l 0 (List.replicate (Int.toNat (List.length ages : Int)) false) 0 0
  else none : Option ((Int) × (Bool))) := by kernel_rfl
theorem e17 (ages : List (Int)) (prices : List (Int)) (offers : List ((Int) × ((Int) × ((Int) × (Int))))) (l : List ((Int) × (List (Int)))) : D17 ages prices offers l = (
  bif (decide (0 ≤ ((List.length ages : Int) : Int)) && (decide (((List.length ages : Int) : Int) ≤ (List.length ages : Int)) && (decide (1 * ((List.length ages : Int) : Int) ≤ (appendLimit : Int)) && decide (((List.length ages : Int) : Int) ≤ 9223372036854775807)))) then lp17_2 big ages prices offers l 0 (List.replicate (Int.toNat (List.length ages : Int)) false) 0 0
  else none : Option ((Int) × (Bool))) := g17 big ages prices offers l

/-! skiarea/skiarealaw24.GroupCosts -/
noncomputable def D4 (a0 : (List (Int)) × ((List (Int)) × (List ((Int) × ((Int) × ((Int) × (Int))))))) (a1 : List ((Int) × (List (Int)))) : Option (Bool) := d4 (a0, a1)
theorem e4 (g : (List (Int)) × ((List (Int)) × (List ((Int) × ((Int) × ((Int) × (Int))))))) (l : List ((Int) × (List (Int)))) : D4 g l = (
  (D10).bind fun r =>
  bif (!r) then some false
  else (D14 g).bind fun r1 =>
  bif (!r1) then some true
  else (D15 l).bind fun r2 =>
  bif (!r2) then some true
  else (D16 g l).bind fun r3 =>
  (D17 g.1 g.2.1 g.2.2 l).bind fun r4 =>
  bif (r3.1 == r4.1) then some (r3.2 == r4.2)
  else some false : Option (Bool)) := by kernel_rfl

/-! skiarea/skiarearef24.persons -/
noncomputable def D37 (a0 : Int) : Option (List (Int)) := d37 a0
noncomputable def lp37_1 (fuel : Nat)  (set_1₀ : Int) (out₀ : List (Int)) (i₀ : Int) : Option (List (Int)) :=
  iter (fun F ((set_1, out, i) : Int × (List (Int)) × Int) =>
    bif decide (i < 8) then (
      bif decide (IntKind.u64.wrap i < 0) then none
      else bif (Int.tmod (Int.fdiv set_1 (2 ^ (Nat.min (Int.toNat (IntKind.u64.wrap i)) 64))) 2 == 1) then (
        bif (Nat.ble ((List.length out + List.length [i]) * 8) appendLimit && Nat.ble (List.length out + List.length [i]) 9223372036854775807) then F (set_1, out ++ [i], IntKind.i64.wrap (i + 1))
        else none)
      else F (set_1, out, IntKind.i64.wrap (i + 1)))
    else some out) fuel (set_1₀, out₀, i₀)

theorem g37 (fuel : Nat) (set_ : Int) : (fnK tab env37 5 ann37 fuel Try.f37 [] ps37 rs37 true set_ : Option (List (Int))) = (
  lp37_1 fuel set_ ([] : List (Int)) 0 : Option (List (Int))) := by kernel_rfl
theorem e37 (set_ : Int) : D37 set_ = (
  lp37_1 big set_ ([] : List (Int)) 0 : Option (List (Int))) := g37 big set_

/-! skiarea/skiarearef24.cheapest -/
noncomputable def D29 (a0 : List (Int)) (a1 : List (Int)) (a2 : List ((Int) × ((Int) × ((Int) × (Int))))) (a3 : Int) : Option (Int) := d29 (a0, a1, a2, a3)
noncomputable def lp29_3 (fuel : Nat)  (ages1₀ : List (Int)) (prices1₀ : List (Int)) (offers1₀ : List ((Int) × ((Int) × ((Int) × (Int))))) (p₀ : List (Int)) (n₀ : Int) (i₀ : Int) : Option (Int) :=
  iter (fun F ((ages1, prices1, offers1, p, n, i) : (List (Int)) × (List (Int)) × (List ((Int) × ((Int) × ((Int) × (Int))))) × (List (Int)) × Int × Int) =>
    bif decide (i < (List.length offers1 : Int)) then (
      (idx offers1 i).bind fun e =>
      (D28 ages1 prices1 offers1 (e.1, p)).bind fun r2 =>
      bif r2.2 then (
        bif decide (n < 0) then F (ages1, prices1, offers1, p, r2.1, IntKind.i64.wrap (i + 1))
        else bif decide (r2.1 < n) then F (ages1, prices1, offers1, p, r2.1, IntKind.i64.wrap (i + 1))
        else F (ages1, prices1, offers1, p, n, IntKind.i64.wrap (i + 1)))
      else F (ages1, prices1, offers1, p, n, IntKind.i64.wrap (i + 1)))
    else some n) fuel (ages1₀, prices1₀, offers1₀, p₀, n₀, i₀)

theorem f29_3  (ages1 : List (Int)) (prices1 : List (Int)) (offers1 : List ((Int) × ((Int) × ((Int) × (Int))))) (p : List (Int)) (n : Int) (hl : (offers1).length ≤ maxLen) : lp29_3 big ages1 prices1 offers1 p n 0 =
  forE (fun  el (n : Int) K =>
    ((D28 ages1 prices1 offers1 (el.1, p)).bind fun r2 =>
    bif r2.2 then (
      bif decide (n < 0) then K r2.1
      else bif decide (r2.1 < n) then K r2.1
      else K n)
    else K n : Option (Int)))
    (fun (n : Int) =>
    (some n : Option (Int))) offers1 n := by
  refine iter_forE offers1 (fun ix (n : Int) => (ages1, prices1, offers1, p, n, (ix : Int))) _ _ ?_ ?_ (len_lt_big hl) n
  · rintro F k h n
    simp only [dec_lt h, condT, idx_get h, bindS, wrap_succ h hl]
  · rintro F n
    simp only [dec_end, condF]

theorem g29 (fuel : Nat) (ages : List (Int)) (prices : List (Int)) (offers : List ((Int) × ((Int) × ((Int) × (Int))))) (set_ : Int) : (fnK tab env29 15 ann29 fuel Try.f29 [] ps29 rs29 true (ages, prices, offers, set_) : Option (Int)) = (
  (D37 set_).bind fun r =>
  (D28 ages prices offers (0, r)).bind fun r1 =>
  bif (!r1.2) then lp29_3 fuel ages prices offers r (-1) 0
  else lp29_3 fuel ages prices offers r r1.1 0 : Option (Int)) := by kernel_rfl
theorem e29 (ages : List (Int)) (prices : List (Int)) (offers : List ((Int) × ((Int) × ((Int) × (Int))))) (set_ : Int) : D29 ages prices offers set_ = (
  (D37 set_).bind fun r =>
  (D28 ages prices offers (0, r)).bind fun r1 =>
  bif (!r1.2) then lp29_3 big ages prices offers r (-1) 0
  else lp29_3 big ages prices offers r r1.1 0 : Option (Int)) := g29 big ages prices offers set_

/-! skiarea/skiarearef24.Least -/
noncomputable def D21 (a0 : List (Int)) (a1 : List (Int)) (a2 : List ((Int) × ((Int) × ((Int) × (Int))))) : Option ((Int) × (Int)) := d21 (a0, a1, a2)
noncomputable def lp21_1 (fuel : Nat) (F1 : (Int × (List (Int)) × (List (Int)) × (List (Int)) × Int) → Option ((Int) × (Int))) (all_2₀ : Int) (single2₀ : List (Int)) (cost1₀ : List (Int)) (count_1₀ : List (Int)) (set_2₀ : Int) (part₀ : Int) : Option ((Int) × (Int)) :=
  iter (fun F2 ((all_2, single2, cost1, count_1, set_2, part) : Int × (List (Int)) × (List (Int)) × (List (Int)) × Int × Int) =>
    bif decide (part ≤ set_2) then (
      bif (IntKind.i64.wrap (((BitVec.ofInt 64 part &&& BitVec.ofInt 64 set_2).toNat : Int)) != part) then F2 (all_2, single2, cost1, count_1, set_2, IntKind.i64.wrap (part + 1))
      else (idx single2 part).bind fun e1 =>
      bif decide (e1 < 0) then F2 (all_2, single2, cost1, count_1, set_2, IntKind.i64.wrap (part + 1))
      else (idx single2 part).bind fun e2 =>
      (idx cost1 (IntKind.i64.wrap (set_2 - part))).bind fun e3 =>
      (idx count_1 (IntKind.i64.wrap (set_2 - part))).bind fun e4 =>
      (idx cost1 set_2).bind fun e5 =>
      bif decide (e5 < 0) then (
        (idx cost1 set_2).bind fun _ =>
        (idx count_1 set_2).bind fun _ =>
        F2 (all_2, single2, List.set cost1 (Int.toNat set_2) (IntKind.i64.wrap (e2 + e3)), List.set count_1 (Int.toNat set_2) (IntKind.i64.wrap ((1 : Int) + e4)), set_2, IntKind.i64.wrap (part + 1)))
      else (idx cost1 set_2).bind fun e6 =>
      bif decide (IntKind.i64.wrap (e2 + e3) < e6) then (
        (idx cost1 set_2).bind fun _ =>
        (idx count_1 set_2).bind fun _ =>
        F2 (all_2, single2, List.set cost1 (Int.toNat set_2) (IntKind.i64.wrap (e2 + e3)), List.set count_1 (Int.toNat set_2) (IntKind.i64.wrap ((1 : Int) + e4)), set_2, IntKind.i64.wrap (part + 1)))
      else (idx cost1 set_2).bind fun e7 =>
      bif (IntKind.i64.wrap (e2 + e3) == e7) then (
        (idx count_1 set_2).bind fun e8 =>
        bif decide (IntKind.i64.wrap ((1 : Int) + e4) < e8) then (
          (idx cost1 set_2).bind fun _ =>
          (idx count_1 set_2).bind fun _ =>
          F2 (all_2, single2, List.set cost1 (Int.toNat set_2) (IntKind.i64.wrap (e2 + e3)), List.set count_1 (Int.toNat set_2) (IntKind.i64.wrap ((1 : Int) + e4)), set_2, IntKind.i64.wrap (part + 1)))
        else F2 (all_2, single2, cost1, count_1, set_2, IntKind.i64.wrap (part + 1)))
      else F2 (all_2, single2, cost1, count_1, set_2, IntKind.i64.wrap (part + 1)))
    else F1 (all_2, single2, cost1, count_1, IntKind.i64.wrap (set_2 + 1))) fuel (all_2₀, single2₀, cost1₀, count_1₀, set_2₀, part₀)

noncomputable def lp21_2 (fuel : Nat)  (all_1₀ : Int) (single1₀ : List (Int)) (cost₀ : List (Int)) (count_₀ : List (Int)) (set_1₀ : Int) : Option ((Int) × (Int)) :=
  iter (fun F1 ((all_1, single1, cost, count_, set_1) : Int × (List (Int)) × (List (Int)) × (List (Int)) × Int) =>
    bif decide (set_1 < all_1) then (
      (idx cost set_1).bind fun _ =>
      lp21_1 fuel F1 all_1 single1 (List.set cost (Int.toNat set_1) (-1)) count_ set_1 1)
    else (idx cost (IntKind.i64.wrap (all_1 - 1))).bind fun e =>
    (idx count_ (IntKind.i64.wrap (all_1 - 1))).bind fun e1 =>
    some (e, e1)) fuel (all_1₀, single1₀, cost₀, count_₀, set_1₀)

noncomputable def lp21_3 (fuel : Nat)  (ages1₀ : List (Int)) (prices1₀ : List (Int)) (offers1₀ : List ((Int) × ((Int) × ((Int) × (Int))))) (all_₀ : Int) (single₀ : List (Int)) (set_₀ : Int) : Option ((Int) × (Int)) :=
  iter (fun F ((ages1, prices1, offers1, all_, single, set_) : (List (Int)) × (List (Int)) × (List ((Int) × ((Int) × ((Int) × (Int))))) × Int × (List (Int)) × Int) =>
    bif decide (set_ < all_) then (
      (D29 ages1 prices1 offers1 set_).bind fun r =>
      bif (Nat.ble ((List.length single + List.length [r]) * 8) appendLimit && Nat.ble (List.length single + List.length [r]) 9223372036854775807) then F (ages1, prices1, offers1, all_, single ++ [r], IntKind.i64.wrap (set_ + 1))
      else none)
    else bif (decide (0 ≤ (all_ : Int)) && (decide ((all_ : Int) ≤ all_) && (decide (8 * (all_ : Int) ≤ (appendLimit : Int)) && decide ((all_ : Int) ≤ 9223372036854775807)))) then (
      bif (decide (0 ≤ (all_ : Int)) && (decide ((all_ : Int) ≤ all_) && (decide (8 * (all_ : Int) ≤ (appendLimit : Int)) && decide ((all_ : Int) ≤ 9223372036854775807)))) then lp21_2 fuel all_ single (List.replicate (Int.toNat all_) (0 : Int)) (List.replicate (Int.toNat all_) (0 : Int)) 1
      else none)
    else none) fuel (ages1₀, prices1₀, offers1₀, all_₀, single₀, set_₀)

theorem f21_3  (ages1 : List (Int)) (prices1 : List (Int)) (offers1 : List ((Int) × ((Int) × ((Int) × (Int))))) (all_ : Int) (single : List (Int)) (hl : all_ ≤ 9223372036854775807) : lp21_3 big ages1 prices1 offers1 all_ single 0 =
  forN (fun ix (single : (List (Int))) K =>
    ((D29 ages1 prices1 offers1 (ix : Int)).bind fun r =>
    bif (Nat.ble ((List.length single + List.length [r]) * 8) appendLimit && Nat.ble (List.length single + List.length [r]) 9223372036854775807) then K (single ++ [r])
    else none : Option ((Int) × (Int))))
    (fun (single : (List (Int))) =>
    (bif (decide (0 ≤ (all_ : Int)) && (decide ((all_ : Int) ≤ all_) && (decide (8 * (all_ : Int) ≤ (appendLimit : Int)) && decide ((all_ : Int) ≤ 9223372036854775807)))) then (
      bif (decide (0 ≤ (all_ : Int)) && (decide ((all_ : Int) ≤ all_) && (decide (8 * (all_ : Int) ≤ (appendLimit : Int)) && decide ((all_ : Int) ≤ 9223372036854775807)))) then lp21_2 big all_ single (List.replicate (Int.toNat all_) (0 : Int)) (List.replicate (Int.toNat all_) (0 : Int)) 1
      else none)
    else none : Option ((Int) × (Int)))) 0 (Int.toNat all_) single := by
  refine iter_forN (Int.toNat all_) (fun ix (single : (List (Int))) => (ages1, prices1, offers1, all_, single, (ix : Int))) _ _ ?_ ?_ (int_lt_big hl) single
  · rintro F k h single
    simp only [dec_lt_int h, condT, wrap_succ_int h hl]
  · rintro F single
    simp only [dec_end_int, condF]

theorem g21 (fuel : Nat) (ages : List (Int)) (prices : List (Int)) (offers : List ((Int) × ((Int) × ((Int) × (Int))))) : (fnK tab env21 17 ann21 fuel Try.f21 [] ps21 rs21 true (ages, prices, offers) : Option ((Int) × (Int))) = (
  bif decide (IntKind.u64.wrap (List.length ages : Int) < 0) then none
  else lp21_3 fuel ages prices offers (IntKind.i64.wrap ((1 : Int) * 2 ^ (Nat.min (Int.toNat (IntKind.u64.wrap (List.length ages : Int))) 64))) ([] : List (Int)) 0 : Option ((Int) × (Int))) := by kernel_rfl
theorem e21 (ages : List (Int)) (prices : List (Int)) (offers : List ((Int) × ((Int) × ((Int) × (Int))))) : D21 ages prices offers = (
  bif decide (IntKind.u64.wrap (List.length ages : Int) < 0) then none
  else lp21_3 big ages prices offers (IntKind.i64.wrap ((1 : Int) * 2 ^ (Nat.min (Int.toNat (IntKind.u64.wrap (List.length ages : Int))) 64))) ([] : List (Int)) 0 : Option ((Int) × (Int))) := g21 big ages prices offers

/-! skiarea/skiarearef24.Saving -/
noncomputable def D20 (a0 : List (Int)) (a1 : List (Int)) (a2 : List ((Int) × ((Int) × ((Int) × (Int))))) : Option ((Int) × (Int)) := d20 (a0, a1, a2)
noncomputable def lp20_1 (fuel : Nat)  (ages1₀ : List (Int)) (prices1₀ : List (Int)) (offers1₀ : List ((Int) × ((Int) × ((Int) × (Int))))) (sum_₀ : Int) (i₀ : Int) : Option ((Int) × (Int)) :=
  iter (fun F ((ages1, prices1, offers1, sum_, i) : (List (Int)) × (List (Int)) × (List ((Int) × ((Int) × ((Int) × (Int))))) × Int × Int) =>
    bif decide (i < (List.length prices1 : Int)) then (
      (idx prices1 i).bind fun e =>
      F (ages1, prices1, offers1, IntKind.i64.wrap (sum_ + e), IntKind.i64.wrap (i + 1)))
    else (D21 ages1 prices1 offers1).bind fun r1 =>
    some (IntKind.i64.wrap (sum_ - r1.1), 0)) fuel (ages1₀, prices1₀, offers1₀, sum_₀, i₀)

theorem f20_1  (ages1 : List (Int)) (prices1 : List (Int)) (offers1 : List ((Int) × ((Int) × ((Int) × (Int))))) (sum_ : Int) (hl : (prices1).length ≤ maxLen) : lp20_1 big ages1 prices1 offers1 sum_ 0 =
  forE (fun  el (sum_ : Int) K =>
    (K (IntKind.i64.wrap (sum_ + el)) : Option ((Int) × (Int))))
    (fun (sum_ : Int) =>
    ((D21 ages1 prices1 offers1).bind fun r1 =>
    some (IntKind.i64.wrap (sum_ - r1.1), 0) : Option ((Int) × (Int)))) prices1 sum_ := by
  refine iter_forE prices1 (fun ix (sum_ : Int) => (ages1, prices1, offers1, sum_, (ix : Int))) _ _ ?_ ?_ (len_lt_big hl) sum_
  · rintro F k h sum_
    simp only [dec_lt h, condT, idx_get h, bindS, wrap_succ h hl]
  · rintro F sum_
    simp only [dec_end, condF]

theorem g20 (fuel : Nat) (ages : List (Int)) (prices : List (Int)) (offers : List ((Int) × ((Int) × ((Int) × (Int))))) : (fnK tab env20 13 ann20 fuel Try.f20 [] ps20 rs20 true (ages, prices, offers) : Option ((Int) × (Int))) = (
  (D13 ages prices offers).bind fun r =>
  bif (r != 0) then some (0, r)
  else lp20_1 fuel ages prices offers 0 0 : Option ((Int) × (Int))) := by kernel_rfl
theorem e20 (ages : List (Int)) (prices : List (Int)) (offers : List ((Int) × ((Int) × ((Int) × (Int))))) : D20 ages prices offers = (
  (D13 ages prices offers).bind fun r =>
  bif (r != 0) then some (0, r)
  else lp20_1 big ages prices offers 0 0 : Option ((Int) × (Int))) := g20 big ages prices offers

/-! skiarea/skiarealaw24.GroupBests -/
noncomputable def D5 (a0 : (List (Int)) × ((List (Int)) × (List ((Int) × ((Int) × ((Int) × (Int))))))) : Option (Bool) := d5 a0
noncomputable def lp5_1 (fuel : Nat)  (l₀ : List ((Int) × (List (Int)))) (n₀ : Int) (m₀ : Int) (count_₀ : Int) (k_₀ : Int) (ok₀ : Bool) (i₀ : Int) : Option (Bool) :=
  iter (fun F ((l, n, m, count_, k_, ok, i) : (List ((Int) × (List (Int)))) × Int × Int × Int × Int × Bool × Int) =>
    bif ok then (
      bif decide (i < (List.length l : Int)) then (
        (idx l i).bind fun e =>
        (idx e.2 0).bind fun e1 =>
        (idx l (IntKind.i64.wrap (i - 1))).bind fun e2 =>
        (idx e2.2 0).bind fun e3 =>
        bif decide (e1 ≤ e3) then some false
        else F (l, n, m, count_, k_, ok, IntKind.i64.wrap (i + 1)))
      else bif ok then (
        bif (n == m) then (
          bif (k_ == n) then some ((List.length l : Int) == count_)
          else some false)
        else some false)
      else some false)
    else bif ok then (
      bif (n == m) then (
        bif (k_ == n) then some ((List.length l : Int) == count_)
        else some false)
      else some false)
    else some false) fuel (l₀, n₀, m₀, count_₀, k_₀, ok₀, i₀)

theorem g5 (fuel : Nat) (g : (List (Int)) × ((List (Int)) × (List ((Int) × ((Int) × ((Int) × (Int))))))) : (fnK tab env5 15 ann5 fuel Try.f5 [] ps5 rs5 true g : Option (Bool)) = (
  (D10).bind fun r =>
  bif (!r) then some false
  else (D11 g).bind fun r1 =>
  bif (!r1) then some true
  else (D18 g).bind fun r2 =>
  (D19 g.1 g.2.1 g.2.2).bind fun r3 =>
  (D20 g.1 g.2.1 g.2.2).bind fun r4 =>
  (D13 g.1 g.2.1 g.2.2).bind fun r5 =>
  bif (r2.2.2 != r5) then some false
  else bif (r3.1 != r4.1) then some false
  else bif (r3.2 != r4.2) then some false
  else bif (r2.2.2 != 0) then (
    bif ((List.length r2.1 : Int) == 0) then some (r2.2.1 == 0)
    else some false)
  else (D21 g.1 g.2.1 g.2.2).bind fun r6 =>
  (D17 g.1 g.2.1 g.2.2 r2.1).bind fun r7 =>
  lp5_1 fuel r2.1 r2.2.1 r6.1 r6.2 r7.1 r7.2 1 : Option (Bool)) := by kernel_rfl
theorem e5 (g : (List (Int)) × ((List (Int)) × (List ((Int) × ((Int) × ((Int) × (Int))))))) : D5 g = (
  (D10).bind fun r =>
  bif (!r) then some false
  else (D11 g).bind fun r1 =>
  bif (!r1) then some true
  else (D18 g).bind fun r2 =>
  (D19 g.1 g.2.1 g.2.2).bind fun r3 =>
  (D20 g.1 g.2.1 g.2.2).bind fun r4 =>
  (D13 g.1 g.2.1 g.2.2).bind fun r5 =>
  bif (r2.2.2 != r5) then some false
  else bif (r3.1 != r4.1) then some false
  else bif (r3.2 != r4.2) then some false
  else bif (r2.2.2 != 0) then (
    bif ((List.length r2.1 : Int) == 0) then some (r2.2.1 == 0)
    else some false)
  else (D21 g.1 g.2.1 g.2.2).bind fun r6 =>
  (D17 g.1 g.2.1 g.2.2 r2.1).bind fun r7 =>
  lp5_1 big r2.1 r2.2.1 r6.1 r6.2 r7.1 r7.2 1 : Option (Bool)) := g5 big g

/-! skiarea/skiarealaw24.GroupCheapest -/
noncomputable def D6 (a0 : (List (Int)) × ((List (Int)) × (List ((Int) × ((Int) × ((Int) × (Int))))))) (a1 : List ((Int) × (List (Int)))) : Option (Bool) := d6 (a0, a1)
theorem e6 (g : (List (Int)) × ((List (Int)) × (List ((Int) × ((Int) × ((Int) × (Int))))))) (other : List ((Int) × (List (Int)))) : D6 g other = (
  (D10).bind fun r =>
  bif (!r) then some false
  else (D14 g).bind fun r1 =>
  bif (!r1) then some true
  else (D15 other).bind fun r2 =>
  bif (!r2) then some true
  else (D18 g).bind fun r3 =>
  (D16 g r3.1).bind fun r4 =>
  bif (r3.2.2 != 0) then some false
  else bif (!r4.2) then some false
  else bif (r4.1 != r3.2.1) then some false
  else (D17 g.1 g.2.1 g.2.2 other).bind fun r5 =>
  bif (!r5.2) then some true
  else bif decide (r3.2.1 < r5.1) then some true
  else bif (r3.2.1 == r5.1) then some (decide ((List.length r3.1 : Int) ≤ (List.length other : Int)))
  else some false : Option (Bool)) := by kernel_rfl

/-! skiarea/skiarealaw24.GroupOffers -/
noncomputable def D7 (a0 : (List (Int)) × ((List (Int)) × (List ((Int) × ((Int) × ((Int) × (Int))))))) (a1 : (Int) × ((Int) × ((Int) × (Int)))) : Option (Bool) := d7 (a0, a1)
noncomputable def lp7_1 (fuel : Nat)  (g1₀ : (List (Int)) × ((List (Int)) × (List ((Int) × ((Int) × ((Int) × (Int))))))) (n₀ : Int) (e₀ : Int) (m₀ : Int) (f₀ : Int) (l₀ : List ((Int) × (List (Int)))) (k_₀ : Int) (h₀ : Int) (sum_₀ : Int) (i₀ : Int) : Option (Bool) :=
  iter (fun F ((g1, n, e, m, f, l, k_, h, sum_, i) : ((List (Int)) × ((List (Int)) × (List ((Int) × ((Int) × ((Int) × (Int))))))) × Int × Int × Int × Int × (List ((Int) × (List (Int)))) × Int × Int × Int × Int) =>
    bif decide (i < (List.length g1.2.1 : Int)) then (
      (idx g1.2.1 i).bind fun e1 =>
      F (g1, n, e, m, f, l, k_, h, IntKind.i64.wrap (sum_ + e1), IntKind.i64.wrap (i + 1)))
    else bif (e == 0) then (
      bif (h == 0) then (
        bif (k_ == sum_) then (
          bif ((List.length l : Int) == (List.length g1.1 : Int)) then (
            bif decide (n ≤ sum_) then (
              bif (f != 0) then some true
              else some (decide (m ≤ n)))
            else some false)
          else some false)
        else some false)
      else some false)
    else some false) fuel (g1₀, n₀, e₀, m₀, f₀, l₀, k_₀, h₀, sum_₀, i₀)

theorem f7_1  (g1 : (List (Int)) × ((List (Int)) × (List ((Int) × ((Int) × ((Int) × (Int))))))) (n : Int) (e : Int) (m : Int) (f : Int) (l : List ((Int) × (List (Int)))) (k_ : Int) (h : Int) (sum_ : Int) (hl : (g1.2.1).length ≤ maxLen) : lp7_1 big g1 n e m f l k_ h sum_ 0 =
  forE (fun  el (sum_ : Int) K =>
    (K (IntKind.i64.wrap (sum_ + el)) : Option (Bool)))
    (fun (sum_ : Int) =>
    (bif (e == 0) then (
      bif (h == 0) then (
        bif (k_ == sum_) then (
          bif ((List.length l : Int) == (List.length g1.1 : Int)) then (
            bif decide (n ≤ sum_) then (
              bif (f != 0) then some true
              else some (decide (m ≤ n)))
            else some false)
          else some false)
        else some false)
      else some false)
    else some false : Option (Bool))) g1.2.1 sum_ := by
  refine iter_forE g1.2.1 (fun ix (sum_ : Int) => (g1, n, e, m, f, l, k_, h, sum_, (ix : Int))) _ _ ?_ ?_ (len_lt_big hl) sum_
  · rintro F k h sum_
    simp only [dec_lt h, condT, idx_get h, bindS, wrap_succ h hl]
  · rintro F sum_
    simp only [dec_end, condF]

theorem g7 (fuel : Nat) (g : (List (Int)) × ((List (Int)) × (List ((Int) × ((Int) × ((Int) × (Int))))))) (o : (Int) × ((Int) × ((Int) × (Int)))) : (fnK tab env7 17 ann7 fuel Try.f7 [] ps7 rs7 true (g, o) : Option (Bool)) = (
  (D10).bind fun r =>
  bif (!r) then some false
  else (D14 g).bind fun r1 =>
  bif (!r1) then some true
  else bif (Nat.ble ((List.length ([] : List ((Int) × ((Int) × ((Int) × (Int))))) + List.length [o]) * 32) appendLimit && Nat.ble (List.length ([] : List ((Int) × ((Int) × ((Int) × (Int))))) + List.length [o]) 9223372036854775807) then (
    bif (Nat.ble ((List.length (([] : List ((Int) × ((Int) × ((Int) × (Int))))) ++ [o]) + List.length g.2.2) * 32) appendLimit && Nat.ble (List.length (([] : List ((Int) × ((Int) × ((Int) × (Int))))) ++ [o]) + List.length g.2.2) 9223372036854775807) then (
      (D18 g).bind fun r2 =>
      (D18 (g.1, g.2.1, (([] : List ((Int) × ((Int) × ((Int) × (Int))))) ++ [o]) ++ g.2.2)).bind fun r3 =>
      (D22 g.1 g.2.1 ([] : List ((Int) × ((Int) × ((Int) × (Int)))))).bind fun r4 =>
      lp7_1 fuel g r2.2.1 r2.2.2 r3.2.1 r3.2.2 r4.1 r4.2.1 r4.2.2 0 0)
    else none)
  else none : Option (Bool)) := by kernel_rfl
theorem e7 (g : (List (Int)) × ((List (Int)) × (List ((Int) × ((Int) × ((Int) × (Int))))))) (o : (Int) × ((Int) × ((Int) × (Int)))) : D7 g o = (
  (D10).bind fun r =>
  bif (!r) then some false
  else (D14 g).bind fun r1 =>
  bif (!r1) then some true
  else bif (Nat.ble ((List.length ([] : List ((Int) × ((Int) × ((Int) × (Int))))) + List.length [o]) * 32) appendLimit && Nat.ble (List.length ([] : List ((Int) × ((Int) × ((Int) × (Int))))) + List.length [o]) 9223372036854775807) then (
    bif (Nat.ble ((List.length (([] : List ((Int) × ((Int) × ((Int) × (Int))))) ++ [o]) + List.length g.2.2) * 32) appendLimit && Nat.ble (List.length (([] : List ((Int) × ((Int) × ((Int) × (Int))))) ++ [o]) + List.length g.2.2) 9223372036854775807) then (
      (D18 g).bind fun r2 =>
      (D18 (g.1, g.2.1, (([] : List ((Int) × ((Int) × ((Int) × (Int))))) ++ [o]) ++ g.2.2)).bind fun r3 =>
      (D22 g.1 g.2.1 ([] : List ((Int) × ((Int) × ((Int) × (Int)))))).bind fun r4 =>
      lp7_1 big g r2.2.1 r2.2.2 r3.2.1 r3.2.2 r4.1 r4.2.1 r4.2.2 0 0)
    else none)
  else none : Option (Bool)) := g7 big g o

/-! skiarea/skiarealaw24.GroupFewer -/
noncomputable def D8 (a0 : (List (Int)) × ((List (Int)) × (List ((Int) × ((Int) × ((Int) × (Int))))))) (a1 : Int) : Option (Bool) := d8 (a0, a1)
noncomputable def lp8_1 (fuel : Nat)  (person1₀ : Int) (g1₀ : (List (Int)) × ((List (Int)) × (List ((Int) × ((Int) × ((Int) × (Int))))))) (fewer₀ : (List (Int)) × ((List (Int)) × (List ((Int) × ((Int) × ((Int) × (Int))))))) (i₀ : Int) : Option (Bool) :=
  iter (fun F ((person1, g1, fewer, i) : Int × ((List (Int)) × ((List (Int)) × (List ((Int) × ((Int) × ((Int) × (Int))))))) × ((List (Int)) × ((List (Int)) × (List ((Int) × ((Int) × ((Int) × (Int))))))) × Int) =>
    bif decide (i < (List.length g1.1 : Int)) then (
      bif (i != person1) then (
        (idx g1.1 i).bind fun e =>
        bif (Nat.ble ((List.length fewer.1 + List.length [e]) * 8) appendLimit && Nat.ble (List.length fewer.1 + List.length [e]) 9223372036854775807) then (
          (idx g1.2.1 i).bind fun e1 =>
          bif (Nat.ble ((List.length fewer.2.1 + List.length [e1]) * 8) appendLimit && Nat.ble (List.length fewer.2.1 + List.length [e1]) 9223372036854775807) then F (person1, g1, (fewer.1 ++ [e], fewer.2.1 ++ [e1], fewer.2.2), IntKind.i64.wrap (i + 1))
          else none)
        else none)
      else F (person1, g1, fewer, IntKind.i64.wrap (i + 1)))
    else (D18 g1).bind fun r2 =>
    (D18 fewer).bind fun r3 =>
    bif (r2.2.2 == 0) then (
      bif (r3.2.2 == 0) then (
        bif decide (r3.2.1 ≤ r2.2.1) then (
          (idx g1.2.1 person1).bind fun e =>
          some (decide (r2.2.1 ≤ IntKind.i64.wrap (r3.2.1 + e))))
        else some false)
      else some false)
    else some false) fuel (person1₀, g1₀, fewer₀, i₀)

theorem f8_1  (person1 : Int) (g1 : (List (Int)) × ((List (Int)) × (List ((Int) × ((Int) × ((Int) × (Int))))))) (fewer : (List (Int)) × ((List (Int)) × (List ((Int) × ((Int) × ((Int) × (Int))))))) (hl : (g1.1).length ≤ maxLen) : lp8_1 big person1 g1 fewer 0 =
  forI (fun ix el (fewer : ((List (Int)) × ((List (Int)) × (List ((Int) × ((Int) × ((Int) × (Int)))))))) K =>
    (bif ((ix : Int) != person1) then (
      bif (Nat.ble ((List.length fewer.1 + List.length [el]) * 8) appendLimit && Nat.ble (List.length fewer.1 + List.length [el]) 9223372036854775807) then (
        (idx g1.2.1 (ix : Int)).bind fun e1 =>
        bif (Nat.ble ((List.length fewer.2.1 + List.length [e1]) * 8) appendLimit && Nat.ble (List.length fewer.2.1 + List.length [e1]) 9223372036854775807) then K (fewer.1 ++ [el], fewer.2.1 ++ [e1], fewer.2.2)
        else none)
      else none)
    else K fewer : Option (Bool)))
    (fun (fewer : ((List (Int)) × ((List (Int)) × (List ((Int) × ((Int) × ((Int) × (Int)))))))) =>
    ((D18 g1).bind fun r2 =>
    (D18 fewer).bind fun r3 =>
    bif (r2.2.2 == 0) then (
      bif (r3.2.2 == 0) then (
        bif decide (r3.2.1 ≤ r2.2.1) then (
          (idx g1.2.1 person1).bind fun e =>
          some (decide (r2.2.1 ≤ IntKind.i64.wrap (r3.2.1 + e))))
        else some false)
      else some false)
    else some false : Option (Bool))) 0 g1.1 fewer := by
  refine iter_forI_from g1.1 (fun ix (fewer : ((List (Int)) × ((List (Int)) × (List ((Int) × ((Int) × ((Int) × (Int)))))))) => (person1, g1, fewer, (ix : Int))) _ _ ?_ ?_ (k := 0) (Nat.zero_le _) (len_lt_big hl) fewer
  · rintro F k h fewer
    simp only [dec_lt h, condT, idx_get h, bindS, wrap_succ h hl]
  · rintro F fewer
    simp only [dec_end, condF]

theorem g8 (fuel : Nat) (g : (List (Int)) × ((List (Int)) × (List ((Int) × ((Int) × ((Int) × (Int))))))) (person : Int) : (fnK tab env8 13 ann8 fuel Try.f8 [] ps8 rs8 true (g, person) : Option (Bool)) = (
  (D10).bind fun r =>
  bif (!r) then some false
  else (D14 g).bind fun r1 =>
  bif (!r1) then some true
  else bif decide (person < 0) then some true
  else bif decide (person ≥ (List.length g.1 : Int)) then some true
  else lp8_1 fuel person g (([] : List (Int)), ([] : List (Int)), g.2.2) 0 : Option (Bool)) := by kernel_rfl
theorem e8 (g : (List (Int)) × ((List (Int)) × (List ((Int) × ((Int) × ((Int) × (Int))))))) (person : Int) : D8 g person = (
  (D10).bind fun r =>
  bif (!r) then some false
  else (D14 g).bind fun r1 =>
  bif (!r1) then some true
  else bif decide (person < 0) then some true
  else bif decide (person ≥ (List.length g.1 : Int)) then some true
  else lp8_1 big person g (([] : List (Int)), ([] : List (Int)), g.2.2) 0 : Option (Bool)) := g8 big g person

/-! skiarea/skiarealaw24.GroupOrder -/
noncomputable def D9 (a0 : (List (Int)) × ((List (Int)) × (List ((Int) × ((Int) × ((Int) × (Int))))))) : Option (Bool) := d9 a0
noncomputable def lp9_1 (fuel : Nat)  (g2₀ : (List (Int)) × ((List (Int)) × (List ((Int) × ((Int) × ((Int) × (Int))))))) (h1₀ : (List (Int)) × ((List (Int)) × (List ((Int) × ((Int) × ((Int) × (Int))))))) (i1₀ : Int) : Option (Bool) :=
  iter (fun F1 ((g2, h1, i1) : ((List (Int)) × ((List (Int)) × (List ((Int) × ((Int) × ((Int) × (Int))))))) × ((List (Int)) × ((List (Int)) × (List ((Int) × ((Int) × ((Int) × (Int))))))) × Int) =>
    bif decide (i1 ≥ 0) then (
      (idx g2.2.2 i1).bind fun e =>
      bif (Nat.ble ((List.length h1.2.2 + List.length [e]) * 32) appendLimit && Nat.ble (List.length h1.2.2 + List.length [e]) 9223372036854775807) then F1 (g2, (h1.1, h1.2.1, h1.2.2 ++ [e]), IntKind.i64.wrap (i1 - 1))
      else none)
    else (D18 g2).bind fun r2 =>
    (D18 h1).bind fun r3 =>
    bif (r2.2.2 == 0) then (
      bif (r3.2.2 == 0) then (
        bif (r2.2.1 == r3.2.1) then some ((List.length r2.1 : Int) == (List.length r3.1 : Int))
        else some false)
      else some false)
    else some false) fuel (g2₀, h1₀, i1₀)

noncomputable def lp9_2 (fuel : Nat)  (g1₀ : (List (Int)) × ((List (Int)) × (List ((Int) × ((Int) × ((Int) × (Int))))))) (h₀ : (List (Int)) × ((List (Int)) × (List ((Int) × ((Int) × ((Int) × (Int))))))) (i₀ : Int) : Option (Bool) :=
  iter (fun F ((g1, h, i) : ((List (Int)) × ((List (Int)) × (List ((Int) × ((Int) × ((Int) × (Int))))))) × ((List (Int)) × ((List (Int)) × (List ((Int) × ((Int) × ((Int) × (Int))))))) × Int) =>
    bif decide (i ≥ 0) then (
      (idx g1.1 i).bind fun e =>
      bif (Nat.ble ((List.length h.1 + List.length [e]) * 8) appendLimit && Nat.ble (List.length h.1 + List.length [e]) 9223372036854775807) then (
        (idx g1.2.1 i).bind fun e1 =>
        bif (Nat.ble ((List.length h.2.1 + List.length [e1]) * 8) appendLimit && Nat.ble (List.length h.2.1 + List.length [e1]) 9223372036854775807) then F (g1, (h.1 ++ [e], h.2.1 ++ [e1], h.2.2), IntKind.i64.wrap (i - 1))
        else none)
      else none)
    else lp9_1 fuel g1 h (IntKind.i64.wrap ((List.length g1.2.2 : Int) - 1))) fuel (g1₀, h₀, i₀)

theorem g9 (fuel : Nat) (g : (List (Int)) × ((List (Int)) × (List ((Int) × ((Int) × ((Int) × (Int))))))) : (fnK tab env9 12 ann9 fuel Try.f9 [] ps9 rs9 true g : Option (Bool)) = (
  (D10).bind fun r =>
  bif (!r) then some false
  else (D14 g).bind fun r1 =>
  bif (!r1) then some true
  else lp9_2 fuel g (([] : List (Int)), ([] : List (Int)), ([] : List ((Int) × ((Int) × ((Int) × (Int)))))) (IntKind.i64.wrap ((List.length g.1 : Int) - 1)) : Option (Bool)) := by kernel_rfl
theorem e9 (g : (List (Int)) × ((List (Int)) × (List ((Int) × ((Int) × ((Int) × (Int))))))) : D9 g = (
  (D10).bind fun r =>
  bif (!r) then some false
  else (D14 g).bind fun r1 =>
  bif (!r1) then some true
  else lp9_2 big g (([] : List (Int)), ([] : List (Int)), ([] : List ((Int) × ((Int) × ((Int) × (Int)))))) (IntKind.i64.wrap ((List.length g.1 : Int) - 1)) : Option (Bool)) := g9 big g

end Go.Proofs.Ytmmlfdnpgigfbaa.D
