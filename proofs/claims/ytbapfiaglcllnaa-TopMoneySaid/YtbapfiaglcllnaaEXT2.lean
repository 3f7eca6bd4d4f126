import Derived.Test.YtbapfiaglcllnaaXT2
import Derived.Test.YtbapfiaglcllnaaEXT46
import Derived.Test.YtbapfiaglcllnaaEXT24a
open Go Go.GD Go.Proofs
namespace Go.Proofs.Ytbapfiaglcllnaa.D
noncomputable def D20 (a0 : List ((Int) × (Int))) : Option (Int) := d20 a0
theorem e20 (l : List ((Int) × (Int))) : D20 l = (
  (D46 l).bind fun r =>
  (D47 r).bind fun r1 =>
  (idx r1.2 (IntKind.i64.wrap ((List.length r1.2 : Int) - 1))).bind fun e =>
  some (IntKind.i64.wrap ((List.length r : Int) - e)) : Option (Int)) := by kernel_rfl
noncomputable def D16  : Option (Bool) := d16 ()
noncomputable def D23 (a0 : List (Int)) (a1 : List (Int)) (a2 : List ((Int) × ((Int) × ((Int) × (Int))))) (a3 : List ((Int) × (List (Int)))) : Option ((Int) × (Bool)) := d23 (a0, a1, a2, a3)
noncomputable def lp23_1 (fuel : Nat) (F : ((List (Int)) × (List (Int)) × (List ((Int) × ((Int) × ((Int) × (Int))))) × (List (Bool)) × Int × (List ((Int) × (List (Int)))) × Int × Int) → Option ((Int) × (Bool))) (ages2₀ : List (Int)) (prices2₀ : List (Int)) (offers2₀ : List ((Int) × ((Int) × ((Int) × (Int))))) (has1₀ : List (Bool)) (total1₀ : Int) (b₀ : (Int) × (List (Int))) (last_₀ : Int) (v3₀ : List ((Int) × (List (Int)))) (v4₀ : Int) (v5₀ : Int) (v6₀ : List (Int)) (v7₀ : Int) (v8₀ : Int) : Option ((Int) × (Bool)) :=
  iter (fun F1 ((ages2, prices2, offers2, has1, total1, b, last_, v3, v4, v5, v6, v7, v8) : (List (Int)) × (List (Int)) × (List ((Int) × ((Int) × ((Int) × (Int))))) × (List (Bool)) × Int × ((Int) × (List (Int))) × Int × (List ((Int) × (List (Int)))) × Int × Int × (List (Int)) × Int × Int) =>
    bif decide (v8 < v7) then (
      (idx v6 v8).bind fun e1 =>
      bif decide (e1 ≤ last_) then some (0, false)
      else bif decide (e1 ≥ (List.length ages2 : Int)) then some (0, false)
      else (idx has1 e1).bind fun e2 =>
      bif e2 then some (0, false)
      else (idx has1 e1).bind fun _ =>
      F1 (ages2, prices2, offers2, List.set has1 (Int.toNat e1) true, total1, b, e1, v3, v4, v5, v6, v7, IntKind.i64.wrap (v8 + 1)))
    else bif ((List.length b.2 : Int) == 0) then some (0, false)
    else (D62 ages2 prices2 offers2 b).bind fun r =>
    bif (!r.2) then some (0, false)
    else F (ages2, prices2, offers2, has1, IntKind.i64.wrap (total1 + r.1), v3, v4, IntKind.i64.wrap (v5 + 1))) fuel (ages2₀, prices2₀, offers2₀, has1₀, total1₀, b₀, last_₀, v3₀, v4₀, v5₀, v6₀, v7₀, v8₀)
theorem f23_1 (F : ((List (Int)) × (List (Int)) × (List ((Int) × ((Int) × ((Int) × (Int))))) × (List (Bool)) × Int × (List ((Int) × (List (Int)))) × Int × Int) → Option ((Int) × (Bool))) (ages2 : List (Int)) (prices2 : List (Int)) (offers2 : List ((Int) × ((Int) × ((Int) × (Int))))) (has1 : List (Bool)) (total1 : Int) (b : (Int) × (List (Int))) (last_ : Int) (v3 : List ((Int) × (List (Int)))) (v4 : Int) (v5 : Int) (v6 : List (Int)) (hl : (v6).length ≤ maxLen) : lp23_1 big F ages2 prices2 offers2 has1 total1 b last_ v3 v4 v5 v6 (List.length v6 : Int) 0 =
  forE (fun  el ((has1, last_) : (List (Bool)) × Int) K =>
    (bif decide (el ≤ last_) then some (0, false)
    else bif decide (el ≥ (List.length ages2 : Int)) then some (0, false)
    else (idx has1 el).bind fun e2 =>
    bif e2 then some (0, false)
    else (idx has1 el).bind fun _ =>
    K (List.set has1 (Int.toNat el) true, el) : Option ((Int) × (Bool))))
    (fun ((has1, _) : (List (Bool)) × Int) =>
    (bif ((List.length b.2 : Int) == 0) then some (0, false)
    else (D62 ages2 prices2 offers2 b).bind fun r =>
    bif (!r.2) then some (0, false)
    else F (ages2, prices2, offers2, has1, IntKind.i64.wrap (total1 + r.1), v3, v4, IntKind.i64.wrap (v5 + 1)) : Option ((Int) × (Bool)))) v6 (has1, last_) := by
  refine iter_forE v6 (fun ix ((has1, last_) : (List (Bool)) × Int) => (ages2, prices2, offers2, has1, total1, b, last_, v3, v4, v5, v6, (List.length v6 : Int), (ix : Int))) _ _ ?_ ?_ (len_lt_big hl) (has1, last_)
  · rintro F k h ⟨has1, last_⟩
    simp only [dec_lt h, condT, idx_get h, bindS, wrap_succ h hl]
  · rintro F ⟨has1, last_⟩
    simp only [dec_end, condF]
noncomputable def lp23_3 (fuel : Nat)  (ages1₀ : List (Int)) (prices1₀ : List (Int)) (offers1₀ : List ((Int) × ((Int) × ((Int) × (Int))))) (has₀ : List (Bool)) (total₀ : Int) (v₀ : List ((Int) × (List (Int)))) (v1₀ : Int) (v2₀ : Int) : Option ((Int) × (Bool)) :=
  iter (fun F ((ages1, prices1, offers1, has, total, v, v1, v2) : (List (Int)) × (List (Int)) × (List ((Int) × ((Int) × ((Int) × (Int))))) × (List (Bool)) × Int × (List ((Int) × (List (Int)))) × Int × Int) =>
    bif decide (v2 < v1) then (
      (idx v v2).bind fun e =>
      lp23_1 fuel F ages1 prices1 offers1 has total e (-1) v v1 v2 e.2 (List.length e.2 : Int) 0)
    else (D63 has false).bind fun r =>
    bif r then some (0, false)
    else some (total, true)) fuel (ages1₀, prices1₀, offers1₀, has₀, total₀, v₀, v1₀, v2₀)
theorem g23 (fuel : Nat) (ages : List (Int)) (prices : List (Int)) (offers : List ((Int) × ((Int) × ((Int) × (Int))))) (l : List ((Int) × (List (Int)))) : (fnK tab env23 19 ann23 fuel Try.f23 [] ps23 rs23 true (ages, prices, offers, l) : Option ((Int) × (Bool))) = (
  bif (decide (0 ≤ ((List.length ages : Int) : Int)) && (decide (((List.length ages : Int) : Int) ≤ (List.length ages : Int)) && (decide (1 * ((List.length ages : Int) : Int) ≤ (appendLimit : Int)) && decide (((List.length ages : Int) : Int) ≤ 9223372036854775807)))) then lp23_3 fuel ages prices offers (List.replicate (Int.toNat (List.length ages : Int)) false) 0 l (List.length l : Int) 0
  else none : Option ((Int) × (Bool))) := by kernel_rfl
theorem e23 (ages : List (Int)) (prices : List (Int)) (offers : List ((Int) × ((Int) × ((Int) × (Int))))) (l : List ((Int) × (List (Int)))) : D23 ages prices offers l = (
  bif (decide (0 ≤ ((List.length ages : Int) : Int)) && (decide (((List.length ages : Int) : Int) ≤ (List.length ages : Int)) && (decide (1 * ((List.length ages : Int) : Int) ≤ (appendLimit : Int)) && decide (((List.length ages : Int) : Int) ≤ 9223372036854775807)))) then lp23_3 big ages prices offers (List.replicate (Int.toNat (List.length ages : Int)) false) 0 l (List.length l : Int) 0
  else none : Option ((Int) × (Bool))) := g23 big ages prices offers l
noncomputable def D18 (a0 : List ((Int) × (Int))) : Option (List ((Int) × ((Int) × (Int)))) := d18 a0
noncomputable def D19 (a0 : List ((Int) × (Int))) (a1 : List ((Int) × ((Int) × (Int)))) : Option (Bool) := d19 (a0, a1)
noncomputable def D21 (a0 : List (Int)) (a1 : List (Int)) (a2 : List ((Int) × ((Int) × ((Int) × (Int))))) : Option ((List ((Int) × (List (Int)))) × ((Int) × (Int))) := d21 (a0, a1, a2)
noncomputable def D4 (a0 : List ((Int) × (Int))) (a1 : List ((Int) × ((Int) × (Int)))) (a2 : List (Int)) (a3 : List (Int)) (a4 : List ((Int) × ((Int) × ((Int) × (Int))))) (a5 : List ((Int) × (List (Int)))) : Option (Bool) := d4 (a0, a1, a2, a3, a4, a5)
noncomputable def lp4_3 (fuel : Nat)  (ages1₀ : List (Int)) (prices1₀ : List (Int)) (offers1₀ : List ((Int) × ((Int) × ((Int) × (Int))))) (other1₀ : List ((Int) × (List (Int)))) (i₀ : Int) : Option (Bool) :=
  iter (fun F ((ages1, prices1, offers1, other1, i) : (List (Int)) × (List (Int)) × (List ((Int) × ((Int) × ((Int) × (Int))))) × (List ((Int) × (List (Int)))) × Int) =>
    bif decide (i < (List.length other1 : Int)) then (
      (idx other1 i).bind fun e =>
      bif decide ((List.length e.2 : Int) > 20) then some true
      else F (ages1, prices1, offers1, other1, IntKind.i64.wrap (i + 1)))
    else (D21 ages1 prices1 offers1).bind fun r6 =>
    bif (r6.2.2 != 0) then (
      bif ((List.length r6.1 : Int) == 0) then (
        bif (r6.2.1 == 0) then (
          (D22 ages1 prices1 offers1).bind fun r7 =>
          some (r7 == r6.2.2))
        else some false)
      else some false)
    else (D23 ages1 prices1 offers1 r6.1).bind fun r7 =>
    (D23 ages1 prices1 offers1 other1).bind fun r8 =>
    bif r7.2 then (
      bif (r7.1 == r6.2.1) then (
        bif (!r8.2) then some true
        else some (decide (r8.1 ≥ r6.2.1)))
      else some false)
    else some false) fuel (ages1₀, prices1₀, offers1₀, other1₀, i₀)
theorem f4_3  (ages1 : List (Int)) (prices1 : List (Int)) (offers1 : List ((Int) × ((Int) × ((Int) × (Int))))) (other1 : List ((Int) × (List (Int)))) (hl : (other1).length ≤ maxLen) : lp4_3 big ages1 prices1 offers1 other1 0 =
  forE (fun  el (_ : Unit) K =>
    (bif decide ((List.length el.2 : Int) > 20) then some true
    else K () : Option (Bool)))
    (fun (_ : Unit) =>
    ((D21 ages1 prices1 offers1).bind fun r6 =>
    bif (r6.2.2 != 0) then (
      bif ((List.length r6.1 : Int) == 0) then (
        bif (r6.2.1 == 0) then (
          (D22 ages1 prices1 offers1).bind fun r7 =>
          some (r7 == r6.2.2))
        else some false)
      else some false)
    else (D23 ages1 prices1 offers1 r6.1).bind fun r7 =>
    (D23 ages1 prices1 offers1 other1).bind fun r8 =>
    bif r7.2 then (
      bif (r7.1 == r6.2.1) then (
        bif (!r8.2) then some true
        else some (decide (r8.1 ≥ r6.2.1)))
      else some false)
    else some false : Option (Bool))) other1 () := by
  refine iter_forE other1 (fun ix (_ : Unit) => (ages1, prices1, offers1, other1, (ix : Int))) _ _ ?_ ?_ (len_lt_big hl) ()
  · rintro F k h _
    simp only [dec_lt h, condT, idx_get h, bindS, wrap_succ h hl]
  · rintro F _
    simp only [dec_end, condF]
theorem g4 (fuel : Nat) (l : List ((Int) × (Int))) (pay : List ((Int) × ((Int) × (Int)))) (ages : List (Int)) (prices : List (Int)) (offers : List ((Int) × ((Int) × ((Int) × (Int))))) (other : List ((Int) × (List (Int)))) : (fnK tab env4 22 ann4 fuel Try.f4 [] ps4 rs4 true (l, pay, ages, prices, offers, other) : Option (Bool)) = (
  (D16).bind fun r =>
  bif (!r) then some false
  else bif decide ((List.length l : Int) > 8) then some true
  else bif decide ((List.length pay : Int) > 20) then some true
  else bif decide ((List.length ages : Int) > 8) then some true
  else bif decide ((List.length prices : Int) > 8) then some true
  else bif decide ((List.length offers : Int) > 8) then some true
  else bif decide ((List.length other : Int) > 10) then some true
  else (D17 l).bind fun r1 =>
  bif (r1 != 0) then some true
  else (D18 l).bind fun r2 =>
  (D19 l r2).bind fun r3 =>
  bif (!r3) then some false
  else (D20 l).bind fun r4 =>
  bif ((List.length r2 : Int) != r4) then some false
  else (D19 l pay).bind fun r5 =>
  bif r5 then (
    bif decide ((List.length pay : Int) < (List.length r2 : Int)) then some false
    else lp4_3 fuel ages prices offers other 0)
  else lp4_3 fuel ages prices offers other 0 : Option (Bool)) := by kernel_rfl
theorem e4 (l : List ((Int) × (Int))) (pay : List ((Int) × ((Int) × (Int)))) (ages : List (Int)) (prices : List (Int)) (offers : List ((Int) × ((Int) × ((Int) × (Int))))) (other : List ((Int) × (List (Int)))) : D4 l pay ages prices offers other = (
  (D16).bind fun r =>
  bif (!r) then some false
  else bif decide ((List.length l : Int) > 8) then some true
  else bif decide ((List.length pay : Int) > 20) then some true
  else bif decide ((List.length ages : Int) > 8) then some true
  else bif decide ((List.length prices : Int) > 8) then some true
  else bif decide ((List.length offers : Int) > 8) then some true
  else bif decide ((List.length other : Int) > 10) then some true
  else (D17 l).bind fun r1 =>
  bif (r1 != 0) then some true
  else (D18 l).bind fun r2 =>
  (D19 l r2).bind fun r3 =>
  bif (!r3) then some false
  else (D20 l).bind fun r4 =>
  bif ((List.length r2 : Int) != r4) then some false
  else (D19 l pay).bind fun r5 =>
  bif r5 then (
    bif decide ((List.length pay : Int) < (List.length r2 : Int)) then some false
    else lp4_3 big ages prices offers other 0)
  else lp4_3 big ages prices offers other 0 : Option (Bool)) := g4 big l pay ages prices offers other
end Go.Proofs.Ytbapfiaglcllnaa.D
