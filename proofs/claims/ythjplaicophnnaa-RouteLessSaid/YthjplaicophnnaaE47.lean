import Derived.Test.YthjplaicophnnaaT47
import Derived.Test.YthjplaicophnnaaET47a
open Go Go.GD Go.Proofs
namespace Go.Proofs.Ythjplaicophnnaa.D
/-! skiarea/route.fits -/
noncomputable def D24 (a0 : (Int) × ((Int) × ((Bool) × (List (Int))))) (a1 : List (Bool)) (a2 : (Int) × ((Int) × ((Int) × (Int)))) : Option (Bool) := d24 (a0, a1, a2)
theorem e24 (a : (Int) × ((Int) × ((Bool) × (List (Int))))) (winch : List (Bool)) (s : (Int) × ((Int) × ((Int) × (Int)))) : D24 a winch s = (
  bif decide (s.1 < 1) then some false
  else bif decide (s.1 > (List.length winch : Int)) then some false
  else bif a.2.2.1 then (
    (idx winch (IntKind.i64.wrap (s.1 - 1))).bind fun e =>
    bif (!e) then some false
    else bif decide (s.2.2.1 ≥ 0) then (
      bif decide (s.2.2.2 ≥ s.2.2.1) then some (IntKind.i64.wrap (s.2.2.2 - s.2.2.1) == a.2.1)
      else some false)
    else some false)
  else bif decide (s.2.2.1 ≥ 0) then (
    bif decide (s.2.2.2 ≥ s.2.2.1) then some (IntKind.i64.wrap (s.2.2.2 - s.2.2.1) == a.2.1)
    else some false)
  else some false : Option (Bool)) := by kernel_rfl

/-! skiarea/route.Valid -/
noncomputable def D14 (a0 : List ((Int) × ((Int) × ((Bool) × (List (Int)))))) (a1 : List (Bool)) (a2 : List ((Int) × ((Int) × ((Int) × (Int))))) : Option (Bool) := d14 (a0, a1, a2)
noncomputable def lp14_1 (fuel : Nat) (F : ((List ((Int) × ((Int) × ((Bool) × (List (Int)))))) × (List (Bool)) × (List ((Int) × ((Int) × ((Int) × (Int))))) × (List ((Int) × ((Int) × ((Bool) × (List (Int)))))) × (List ((Int) × ((Int) × ((Int) × (Int))))) × Int × Int) → Option (Bool)) (l2₀ : List ((Int) × ((Int) × ((Bool) × (List (Int)))))) (winch2₀ : List (Bool)) (plan2₀ : List ((Int) × ((Int) × ((Int) × (Int))))) (tasks1₀ : List ((Int) × ((Int) × ((Bool) × (List (Int)))))) (s₀ : (Int) × ((Int) × ((Int) × (Int)))) (k_₀ : Int) (v3₀ : List ((Int) × ((Int) × ((Int) × (Int))))) (v4₀ : Int) (v5₀ : Int) (v6₀ : List ((Int) × ((Int) × ((Int) × (Int))))) (v7₀ : Int) (v8₀ : Int) : Option (Bool) :=
  iter (fun F1 ((l2, winch2, plan2, tasks1, s, k_, v3, v4, v5, v6, v7, v8) : (List ((Int) × ((Int) × ((Bool) × (List (Int)))))) × (List (Bool)) × (List ((Int) × ((Int) × ((Int) × (Int))))) × (List ((Int) × ((Int) × ((Bool) × (List (Int)))))) × ((Int) × ((Int) × ((Int) × (Int)))) × Int × (List ((Int) × ((Int) × ((Int) × (Int))))) × Int × Int × (List ((Int) × ((Int) × ((Int) × (Int))))) × Int × Int) =>
    bif decide (v8 < v7) then (
      (idx v6 v8).bind fun e3 =>
      bif decide (e3.2.2.1 < s.2.2.2) then (
        bif decide (s.2.2.1 < e3.2.2.2) then (
          bif (e3.1 == s.1) then some false
          else (idx tasks1 v8).bind fun e4 =>
          (idx l2 k_).bind fun e5 =>
          (D25 e4 e5).bind fun r3 =>
          bif r3 then some false
          else F1 (l2, winch2, plan2, tasks1, s, k_, v3, v4, v5, v6, v7, IntKind.i64.wrap (v8 + 1)))
        else F1 (l2, winch2, plan2, tasks1, s, k_, v3, v4, v5, v6, v7, IntKind.i64.wrap (v8 + 1)))
      else F1 (l2, winch2, plan2, tasks1, s, k_, v3, v4, v5, v6, v7, IntKind.i64.wrap (v8 + 1)))
    else F (l2, winch2, plan2, tasks1, v3, v4, IntKind.i64.wrap (v5 + 1))) fuel (l2₀, winch2₀, plan2₀, tasks1₀, s₀, k_₀, v3₀, v4₀, v5₀, v6₀, v7₀, v8₀)

theorem f14_1 (F : ((List ((Int) × ((Int) × ((Bool) × (List (Int)))))) × (List (Bool)) × (List ((Int) × ((Int) × ((Int) × (Int))))) × (List ((Int) × ((Int) × ((Bool) × (List (Int)))))) × (List ((Int) × ((Int) × ((Int) × (Int))))) × Int × Int) → Option (Bool)) (l2 : List ((Int) × ((Int) × ((Bool) × (List (Int)))))) (winch2 : List (Bool)) (plan2 : List ((Int) × ((Int) × ((Int) × (Int))))) (tasks1 : List ((Int) × ((Int) × ((Bool) × (List (Int)))))) (s : (Int) × ((Int) × ((Int) × (Int)))) (k_ : Int) (v3 : List ((Int) × ((Int) × ((Int) × (Int))))) (v4 : Int) (v5 : Int) (v6 : List ((Int) × ((Int) × ((Int) × (Int))))) (hl : (v6).length ≤ maxLen) : lp14_1 big F l2 winch2 plan2 tasks1 s k_ v3 v4 v5 v6 (List.length v6 : Int) 0 =
  forI (fun ix el (_ : Unit) K =>
    (bif decide (el.2.2.1 < s.2.2.2) then (
      bif decide (s.2.2.1 < el.2.2.2) then (
        bif (el.1 == s.1) then some false
        else (idx tasks1 (ix : Int)).bind fun e4 =>
        (idx l2 k_).bind fun e5 =>
        (D25 e4 e5).bind fun r3 =>
        bif r3 then some false
        else K ())
      else K ())
    else K () : Option (Bool)))
    (fun (_ : Unit) =>
    (F (l2, winch2, plan2, tasks1, v3, v4, IntKind.i64.wrap (v5 + 1)) : Option (Bool))) 0 v6 () := by
  refine iter_forI_from v6 (fun ix (_ : Unit) => (l2, winch2, plan2, tasks1, s, k_, v3, v4, v5, v6, (List.length v6 : Int), (ix : Int))) _ _ ?_ ?_ (k := 0) (Nat.zero_le _) (len_lt_big hl) ()
  · rintro F k h _
    simp only [dec_lt h, condT, idx_get h, bindS, wrap_succ h hl]
  · rintro F _
    simp only [dec_end, condF]

noncomputable def lp14_3 (fuel : Nat)  (l1₀ : List ((Int) × ((Int) × ((Bool) × (List (Int)))))) (winch1₀ : List (Bool)) (plan1₀ : List ((Int) × ((Int) × ((Int) × (Int))))) (tasks₀ : List ((Int) × ((Int) × ((Bool) × (List (Int)))))) (v₀ : List ((Int) × ((Int) × ((Int) × (Int))))) (v1₀ : Int) (v2₀ : Int) : Option (Bool) :=
  iter (fun F ((l1, winch1, plan1, tasks, v, v1, v2) : (List ((Int) × ((Int) × ((Bool) × (List (Int)))))) × (List (Bool)) × (List ((Int) × ((Int) × ((Int) × (Int))))) × (List ((Int) × ((Int) × ((Bool) × (List (Int)))))) × (List ((Int) × ((Int) × ((Int) × (Int))))) × Int × Int) =>
    bif decide (v2 < v1) then (
      (idx v v2).bind fun e =>
      (D22 l1 e.2.1).bind fun r =>
      bif decide (r < 0) then some false
      else (D22 tasks e.2.1).bind fun r1 =>
      bif decide (r1 ≥ 0) then some false
      else (idx l1 r).bind fun e1 =>
      (D24 e1 winch1 e).bind fun r2 =>
      bif (!r2) then some false
      else (idx l1 r).bind fun e2 =>
      bif (Nat.ble ((List.length tasks + List.length [e2]) * 48) appendLimit && Nat.ble (List.length tasks + List.length [e2]) 9223372036854775807) then (
        bif (decide (0 ≤ (0 : Int)) && (decide ((0 : Int) ≤ v2) && decide ((v2 : Int) ≤ (List.length plan1 : Int)))) then lp14_1 fuel F l1 winch1 plan1 (tasks ++ [e2]) e r v v1 v2 (List.drop (Int.toNat 0) (List.take (Int.toNat v2) plan1)) (List.length (List.drop (Int.toNat 0) (List.take (Int.toNat v2) plan1)) : Int) 0
        else none)
      else none)
    else some true) fuel (l1₀, winch1₀, plan1₀, tasks₀, v₀, v1₀, v2₀)

theorem g14 (fuel : Nat) (l : List ((Int) × ((Int) × ((Bool) × (List (Int)))))) (winch : List (Bool)) (plan : List ((Int) × ((Int) × ((Int) × (Int))))) : (fnK tab env14 14 ann14 fuel Try.f14 [] ps14 rs14 true (l, winch, plan) : Option (Bool)) = (
  bif ((List.length plan : Int) != (List.length l : Int)) then some false
  else lp14_3 fuel l winch plan ([] : List ((Int) × ((Int) × ((Bool) × (List (Int)))))) plan (List.length plan : Int) 0 : Option (Bool)) := by kernel_rfl
theorem e14 (l : List ((Int) × ((Int) × ((Bool) × (List (Int)))))) (winch : List (Bool)) (plan : List ((Int) × ((Int) × ((Int) × (Int))))) : D14 l winch plan = (
  bif ((List.length plan : Int) != (List.length l : Int)) then some false
  else lp14_3 big l winch plan ([] : List ((Int) × ((Int) × ((Bool) × (List (Int)))))) plan (List.length plan : Int) 0 : Option (Bool)) := g14 big l winch plan

/-! skiarea/route.End -/
noncomputable def D16 (a0 : List ((Int) × ((Int) × ((Int) × (Int))))) : Option (Int) := d16 a0
noncomputable def lp16_1 (fuel : Nat)  (t₀ : Int) (v₀ : List ((Int) × ((Int) × ((Int) × (Int))))) (v1₀ : Int) (v2₀ : Int) : Option (Int) :=
  iter (fun F ((t, v, v1, v2) : Int × (List ((Int) × ((Int) × ((Int) × (Int))))) × Int × Int) =>
    bif decide (v2 < v1) then (
      (idx v v2).bind fun e =>
      bif (v2 == 0) then F (e.2.2.2, v, v1, IntKind.i64.wrap (v2 + 1))
      else bif decide (e.2.2.2 > t) then F (e.2.2.2, v, v1, IntKind.i64.wrap (v2 + 1))
      else F (t, v, v1, IntKind.i64.wrap (v2 + 1)))
    else some t) fuel (t₀, v₀, v1₀, v2₀)

theorem f16_1  (t : Int) (v : List ((Int) × ((Int) × ((Int) × (Int))))) (hl : (v).length ≤ maxLen) : lp16_1 big t v (List.length v : Int) 0 =
  forI (fun ix el (t : Int) K =>
    (bif ((ix : Int) == 0) then K el.2.2.2
    else bif decide (el.2.2.2 > t) then K el.2.2.2
    else K t : Option (Int)))
    (fun (t : Int) =>
    (some t : Option (Int))) 0 v t := by
  refine iter_forI_from v (fun ix (t : Int) => (t, v, (List.length v : Int), (ix : Int))) _ _ ?_ ?_ (k := 0) (Nat.zero_le _) (len_lt_big hl) t
  · rintro F k h t
    simp only [dec_lt h, condT, idx_get h, bindS, wrap_succ h hl]
  · rintro F t
    simp only [dec_end, condF]

theorem g16 (fuel : Nat) (plan : List ((Int) × ((Int) × ((Int) × (Int))))) : (fnK tab env16 6 ann16 fuel Try.f16 [] ps16 rs16 true plan : Option (Int)) = (
  lp16_1 fuel 0 plan (List.length plan : Int) 0 : Option (Int)) := by kernel_rfl
theorem e16 (plan : List ((Int) × ((Int) × ((Int) × (Int))))) : D16 plan = (
  lp16_1 big 0 plan (List.length plan : Int) 0 : Option (Int)) := g16 big plan

noncomputable def D20 (a0 : List ((Int) × ((Int) × ((Bool) × (List (Int)))))) (a1 : List (Bool)) : Option (List ((Int) × ((Int) × ((Int) × (Int))))) := d20 (a0, a1)

/-! skiarea/route.Least -/
noncomputable def D18 (a0 : List ((Int) × ((Int) × ((Bool) × (List (Int)))))) (a1 : List (Bool)) : Option (Int) := d18 (a0, a1)
theorem e18 (l : List ((Int) × ((Int) × ((Bool) × (List (Int)))))) (winch : List (Bool)) : D18 l winch = (
  (D20 l winch).bind fun r =>
  (D16 r).bind fun r1 =>
  some r1 : Option (Int)) := by kernel_rfl

/-! skiarea/skiarealaw47.three -/
noncomputable def D21  : Option (List ((Int) × ((Int) × ((Bool) × (List (Int)))))) := d21 ()
theorem e21  : D21 = (
  some [(1, 300, false, ([] : List (Int))), (2, 200, false, ([] : List (Int))), (3, 100, false, ([] : List (Int)))] : Option (List ((Int) × ((Int) × ((Bool) × (List (Int))))))) := by kernel_rfl

noncomputable def D10  : Option (Bool) := d10 ()
theorem aliveD : D10 = some true := alive

/-! skiarea/skiarearef47.Right -/
noncomputable def D12 (a0 : List ((Int) × ((Int) × ((Bool) × (List (Int)))))) (a1 : List (Bool)) : Option (Int) := d12 (a0, a1)
noncomputable def lp12_1 (fuel : Nat) (F1 : ((List ((Int) × ((Int) × ((Bool) × (List (Int)))))) × Bool × Int) → Option (Int)) (l3₀ : List ((Int) × ((Int) × ((Bool) × (List (Int)))))) (any_2₀ : Bool) (i2₀ : Int) (k_₀ : Int) : Option (Int) :=
  iter (fun F2 ((l3, any_2, i2, k_) : (List ((Int) × ((Int) × ((Bool) × (List (Int)))))) × Bool × Int × Int) =>
    bif decide (k_ < i2) then (
      (idx l3 k_).bind fun e5 =>
      (idx l3 i2).bind fun e6 =>
      bif (e5.1 == e6.1) then some 7
      else F2 (l3, any_2, i2, IntKind.i64.wrap (k_ + 1)))
    else (idx l3 i2).bind fun e5 =>
    bif e5.2.2.1 then (
      bif (!any_2) then some 13
      else F1 (l3, any_2, IntKind.i64.wrap (i2 + 1)))
    else F1 (l3, any_2, IntKind.i64.wrap (i2 + 1))) fuel (l3₀, any_2₀, i2₀, k_₀)

theorem f12_1 (F1 : ((List ((Int) × ((Int) × ((Bool) × (List (Int)))))) × Bool × Int) → Option (Int)) (l3 : List ((Int) × ((Int) × ((Bool) × (List (Int)))))) (any_2 : Bool) (i2 : Int) (hl : i2 ≤ 9223372036854775807) : lp12_1 big F1 l3 any_2 i2 0 =
  forN (fun ix (_ : Unit) K =>
    ((idx l3 (ix : Int)).bind fun e5 =>
    (idx l3 i2).bind fun e6 =>
    bif (e5.1 == e6.1) then some 7
    else K () : Option (Int)))
    (fun (_ : Unit) =>
    ((idx l3 i2).bind fun e5 =>
    bif e5.2.2.1 then (
      bif (!any_2) then some 13
      else F1 (l3, any_2, IntKind.i64.wrap (i2 + 1)))
    else F1 (l3, any_2, IntKind.i64.wrap (i2 + 1)) : Option (Int))) 0 (Int.toNat i2) () := by
  refine iter_forN (Int.toNat i2) (fun ix (_ : Unit) => (l3, any_2, i2, (ix : Int))) _ _ ?_ ?_ (int_lt_big hl) ()
  · rintro F k h _
    simp only [dec_lt_int h, condT, wrap_succ_int h hl]
  · rintro F _
    simp only [dec_end_int, condF]

noncomputable def lp12_3 (fuel : Nat)  (l2₀ : List ((Int) × ((Int) × ((Bool) × (List (Int)))))) (any_1₀ : Bool) (i1₀ : Int) : Option (Int) :=
  iter (fun F1 ((l2, any_1, i1) : (List ((Int) × ((Int) × ((Bool) × (List (Int)))))) × Bool × Int) =>
    bif decide (i1 < (List.length l2 : Int)) then (
      (idx l2 i1).bind fun e =>
      bif decide (e.1 < 1) then some 2
      else (idx l2 i1).bind fun e1 =>
      bif decide (e1.1 > 9999) then some 2
      else (idx l2 i1).bind fun e2 =>
      bif decide (e2.2.1 < 1) then some 2
      else (idx l2 i1).bind fun e3 =>
      bif decide (e3.2.1 > 86400) then some 2
      else (idx l2 i1).bind fun e4 =>
      bif decide ((List.length e4.2.2.2 : Int) > 6) then some 2
      else lp12_1 fuel F1 l2 any_1 i1 0)
    else some 0) fuel (l2₀, any_1₀, i1₀)

noncomputable def lp12_4 (fuel : Nat)  (l1₀ : List ((Int) × ((Int) × ((Bool) × (List (Int)))))) (winch1₀ : List (Bool)) (any_₀ : Bool) (i₀ : Int) : Option (Int) :=
  iter (fun F ((l1, winch1, any_, i) : (List ((Int) × ((Int) × ((Bool) × (List (Int)))))) × (List (Bool)) × Bool × Int) =>
    bif decide (i < (List.length winch1 : Int)) then (
      bif any_ then F (l1, winch1, true, IntKind.i64.wrap (i + 1))
      else (idx winch1 i).bind fun e =>
      F (l1, winch1, e, IntKind.i64.wrap (i + 1)))
    else lp12_3 fuel l1 any_ 0) fuel (l1₀, winch1₀, any_₀, i₀)

theorem f12_4  (l1 : List ((Int) × ((Int) × ((Bool) × (List (Int)))))) (winch1 : List (Bool)) (any_ : Bool) (hl : (winch1).length ≤ maxLen) : lp12_4 big l1 winch1 any_ 0 =
  forE (fun  el (any_ : Bool) K =>
    (bif any_ then K true
    else K el : Option (Int)))
    (fun (any_ : Bool) =>
    (lp12_3 big l1 any_ 0 : Option (Int))) winch1 any_ := by
  refine iter_forE winch1 (fun ix (any_ : Bool) => (l1, winch1, any_, (ix : Int))) _ _ ?_ ?_ (len_lt_big hl) any_
  · rintro F k h any_
    simp only [dec_lt h, condT, idx_get h, bindS, wrap_succ h hl]
  · rintro F any_
    simp only [dec_end, condF]

theorem g12 (fuel : Nat) (l : List ((Int) × ((Int) × ((Bool) × (List (Int)))))) (winch : List (Bool)) : (fnK tab env12 9 ann12 fuel Try.f12 [] ps12 rs12 true (l, winch) : Option (Int)) = (
  bif decide ((List.length l : Int) > 6) then some 4
  else bif decide ((List.length winch : Int) > 3) then some 4
  else bif ((List.length winch : Int) == 0) then some 8
  else lp12_4 fuel l winch false 0 : Option (Int)) := by kernel_rfl
theorem e12 (l : List ((Int) × ((Int) × ((Bool) × (List (Int)))))) (winch : List (Bool)) : D12 l winch = (
  bif decide ((List.length l : Int) > 6) then some 4
  else bif decide ((List.length winch : Int) > 3) then some 4
  else bif ((List.length winch : Int) == 0) then some 8
  else lp12_4 big l winch false 0 : Option (Int)) := g12 big l winch

/-! skiarea/skiarealaw47.RouteRight -/
noncomputable def D3 (a0 : List ((Int) × ((Int) × ((Bool) × (List (Int)))))) (a1 : List (Bool)) : Option (Bool) := d3 (a0, a1)
theorem e3 (l : List ((Int) × ((Int) × ((Bool) × (List (Int)))))) (winch : List (Bool)) : D3 l winch = (
  (D10).bind fun r =>
  bif (!r) then some false
  else bif decide ((List.length l : Int) > 50) then some true
  else bif decide ((List.length winch : Int) > 50) then some true
  else (D11 l winch).bind fun r1 =>
  (D12 l winch).bind fun r2 =>
  some (r1 == r2) : Option (Bool)) := by kernel_rfl

/-! skiarea/skiarealaw47.accepted -/
noncomputable def D13 (a0 : List ((Int) × ((Int) × ((Bool) × (List (Int)))))) (a1 : List (Bool)) : Option (Bool) := d13 (a0, a1)
theorem e13 (l : List ((Int) × ((Int) × ((Bool) × (List (Int)))))) (winch : List (Bool)) : D13 l winch = (
  bif decide ((List.length l : Int) ≤ 6) then (
    bif decide ((List.length winch : Int) ≤ 3) then (
      (D12 l winch).bind fun r =>
      some (r == 0))
    else some false)
  else some false : Option (Bool)) := by kernel_rfl

/-! skiarea/skiarearef47.find -/
noncomputable def D28 (a0 : List ((Int) × ((Int) × ((Bool) × (List (Int)))))) (a1 : Int) : Option (Int) := d28 (a0, a1)
noncomputable def lp28_1 (fuel : Nat)  (l1₀ : List ((Int) × ((Int) × ((Bool) × (List (Int)))))) (run_1₀ : Int) (i₀ : Int) : Option (Int) :=
  iter (fun F ((l1, run_1, i) : (List ((Int) × ((Int) × ((Bool) × (List (Int)))))) × Int × Int) =>
    bif decide (i < (List.length l1 : Int)) then (
      (idx l1 i).bind fun e =>
      bif (e.1 == run_1) then some i
      else F (l1, run_1, IntKind.i64.wrap (i + 1)))
    else some (-1)) fuel (l1₀, run_1₀, i₀)

theorem f28_1  (l1 : List ((Int) × ((Int) × ((Bool) × (List (Int)))))) (run_1 : Int) (hl : (l1).length ≤ maxLen) : lp28_1 big l1 run_1 0 =
  forI (fun ix el (_ : Unit) K =>
    (bif (el.1 == run_1) then some (ix : Int)
    else K () : Option (Int)))
    (fun (_ : Unit) =>
    (some (-1) : Option (Int))) 0 l1 () := by
  refine iter_forI_from l1 (fun ix (_ : Unit) => (l1, run_1, (ix : Int))) _ _ ?_ ?_ (k := 0) (Nat.zero_le _) (len_lt_big hl) ()
  · rintro F k h _
    simp only [dec_lt h, condT, idx_get h, bindS, wrap_succ h hl]
  · rintro F _
    simp only [dec_end, condF]

theorem g28 (fuel : Nat) (l : List ((Int) × ((Int) × ((Bool) × (List (Int)))))) (run_ : Int) : (fnK tab env28 6 ann28 fuel Try.f28 [] ps28 rs28 true (l, run_) : Option (Int)) = (
  lp28_1 fuel l run_ 0 : Option (Int)) := by kernel_rfl
theorem e28 (l : List ((Int) × ((Int) × ((Bool) × (List (Int)))))) (run_ : Int) : D28 l run_ = (
  lp28_1 big l run_ 0 : Option (Int)) := g28 big l run_

/-! skiarea/skiarearef47.fits -/
noncomputable def D26 (a0 : List ((Int) × ((Int) × ((Bool) × (List (Int)))))) (a1 : List (Bool)) (a2 : (Int) × ((Int) × ((Int) × (Int)))) : Option (Bool) := d26 (a0, a1, a2)
theorem e26 (l : List ((Int) × ((Int) × ((Bool) × (List (Int)))))) (winch : List (Bool)) (s : (Int) × ((Int) × ((Int) × (Int)))) : D26 l winch s = (
  (D28 l s.2.1).bind fun r =>
  bif decide (r < 0) then some false
  else bif decide (s.1 < 1) then some false
  else bif decide (s.1 > (List.length winch : Int)) then some false
  else bif decide (s.2.2.1 < 0) then some false
  else bif decide (s.2.2.2 < s.2.2.1) then some false
  else (idx l r).bind fun e =>
  bif (IntKind.i64.wrap (s.2.2.2 - s.2.2.1) == e.2.1) then (
    (idx winch (IntKind.i64.wrap (s.1 - 1))).bind fun e1 =>
    bif e1 then some true
    else (idx l r).bind fun e2 =>
    some (!e2.2.2.1))
  else some false : Option (Bool)) := by kernel_rfl

/-! skiarea/skiarearef47.lists -/
noncomputable def D35 (a0 : List (Int)) (a1 : Int) : Option (Bool) := d35 (a0, a1)
noncomputable def lp35_1 (fuel : Nat)  (l1₀ : List (Int)) (n1₀ : Int) (i₀ : Int) : Option (Bool) :=
  iter (fun F ((l1, n1, i) : (List (Int)) × Int × Int) =>
    bif decide (i < (List.length l1 : Int)) then (
      (idx l1 i).bind fun e =>
      bif (e == n1) then some true
      else F (l1, n1, IntKind.i64.wrap (i + 1)))
    else some false) fuel (l1₀, n1₀, i₀)

theorem f35_1  (l1 : List (Int)) (n1 : Int) (hl : (l1).length ≤ maxLen) : lp35_1 big l1 n1 0 =
  forE (fun  el (_ : Unit) K =>
    (bif (el == n1) then some true
    else K () : Option (Bool)))
    (fun (_ : Unit) =>
    (some false : Option (Bool))) l1 () := by
  refine iter_forE l1 (fun ix (_ : Unit) => (l1, n1, (ix : Int))) _ _ ?_ ?_ (len_lt_big hl) ()
  · rintro F k h _
    simp only [dec_lt h, condT, idx_get h, bindS, wrap_succ h hl]
  · rintro F _
    simp only [dec_end, condF]

theorem g35 (fuel : Nat) (l : List (Int)) (n : Int) : (fnK tab env35 6 ann35 fuel Try.f35 [] ps35 rs35 true (l, n) : Option (Bool)) = (
  lp35_1 fuel l n 0 : Option (Bool)) := by kernel_rfl
theorem e35 (l : List (Int)) (n : Int) : D35 l n = (
  lp35_1 big l n 0 : Option (Bool)) := g35 big l n

/-! skiarea/skiarearef47.clash -/
noncomputable def D27 (a0 : (Int) × ((Int) × ((Bool) × (List (Int))))) (a1 : (Int) × ((Int) × ((Bool) × (List (Int))))) : Option (Bool) := d27 (a0, a1)
theorem e27 (a : (Int) × ((Int) × ((Bool) × (List (Int))))) (b : (Int) × ((Int) × ((Bool) × (List (Int))))) : D27 a b = (
  (D35 a.2.2.2 b.1).bind fun r =>
  bif r then some true
  else (D35 b.2.2.2 a.1).bind fun r1 =>
  some r1 : Option (Bool)) := by kernel_rfl

/-! skiarea/skiarearef47.Valid -/
noncomputable def D15 (a0 : List ((Int) × ((Int) × ((Bool) × (List (Int)))))) (a1 : List (Bool)) (a2 : List ((Int) × ((Int) × ((Int) × (Int))))) : Option (Bool) := d15 (a0, a1, a2)
noncomputable def lp15_1 (fuel : Nat) (F : ((List ((Int) × ((Int) × ((Bool) × (List (Int)))))) × (List (Bool)) × (List ((Int) × ((Int) × ((Int) × (Int))))) × Int) → Option (Bool)) (l2₀ : List ((Int) × ((Int) × ((Bool) × (List (Int)))))) (winch2₀ : List (Bool)) (plan2₀ : List ((Int) × ((Int) × ((Int) × (Int))))) (i1₀ : Int) (k_₀ : Int) : Option (Bool) :=
  iter (fun F1 ((l2, winch2, plan2, i1, k_) : (List ((Int) × ((Int) × ((Bool) × (List (Int)))))) × (List (Bool)) × (List ((Int) × ((Int) × ((Int) × (Int))))) × Int × Int) =>
    bif decide (k_ < i1) then (
      (idx plan2 i1).bind fun e1 =>
      (idx plan2 k_).bind fun e2 =>
      bif (e1.2.1 == e2.2.1) then some false
      else bif decide (e1.2.2.1 < e2.2.2.2) then (
        bif decide (e2.2.2.1 < e1.2.2.2) then (
          bif (e1.1 == e2.1) then some false
          else (D28 l2 e1.2.1).bind fun r1 =>
          (idx l2 r1).bind fun e3 =>
          (D28 l2 e2.2.1).bind fun r2 =>
          (idx l2 r2).bind fun e4 =>
          (D27 e3 e4).bind fun r3 =>
          bif r3 then some false
          else F1 (l2, winch2, plan2, i1, IntKind.i64.wrap (k_ + 1)))
        else F1 (l2, winch2, plan2, i1, IntKind.i64.wrap (k_ + 1)))
      else F1 (l2, winch2, plan2, i1, IntKind.i64.wrap (k_ + 1)))
    else F (l2, winch2, plan2, IntKind.i64.wrap (i1 + 1))) fuel (l2₀, winch2₀, plan2₀, i1₀, k_₀)

theorem f15_1 (F : ((List ((Int) × ((Int) × ((Bool) × (List (Int)))))) × (List (Bool)) × (List ((Int) × ((Int) × ((Int) × (Int))))) × Int) → Option (Bool)) (l2 : List ((Int) × ((Int) × ((Bool) × (List (Int)))))) (winch2 : List (Bool)) (plan2 : List ((Int) × ((Int) × ((Int) × (Int))))) (i1 : Int) (hl : i1 ≤ 9223372036854775807) : lp15_1 big F l2 winch2 plan2 i1 0 =
  forN (fun ix (_ : Unit) K =>
    ((idx plan2 i1).bind fun e1 =>
    (idx plan2 (ix : Int)).bind fun e2 =>
    bif (e1.2.1 == e2.2.1) then some false
    else bif decide (e1.2.2.1 < e2.2.2.2) then (
      bif decide (e2.2.2.1 < e1.2.2.2) then (
        bif (e1.1 == e2.1) then some false
        else (D28 l2 e1.2.1).bind fun r1 =>
        (idx l2 r1).bind fun e3 =>
        (D28 l2 e2.2.1).bind fun r2 =>
        (idx l2 r2).bind fun e4 =>
        (D27 e3 e4).bind fun r3 =>
        bif r3 then some false
        else K ())
      else K ())
    else K () : Option (Bool)))
    (fun (_ : Unit) =>
    (F (l2, winch2, plan2, IntKind.i64.wrap (i1 + 1)) : Option (Bool))) 0 (Int.toNat i1) () := by
  refine iter_forN (Int.toNat i1) (fun ix (_ : Unit) => (l2, winch2, plan2, i1, (ix : Int))) _ _ ?_ ?_ (int_lt_big hl) ()
  · rintro F k h _
    simp only [dec_lt_int h, condT, wrap_succ_int h hl]
  · rintro F _
    simp only [dec_end_int, condF]

noncomputable def lp15_3 (fuel : Nat)  (l1₀ : List ((Int) × ((Int) × ((Bool) × (List (Int)))))) (winch1₀ : List (Bool)) (plan1₀ : List ((Int) × ((Int) × ((Int) × (Int))))) (i₀ : Int) : Option (Bool) :=
  iter (fun F ((l1, winch1, plan1, i) : (List ((Int) × ((Int) × ((Bool) × (List (Int)))))) × (List (Bool)) × (List ((Int) × ((Int) × ((Int) × (Int))))) × Int) =>
    bif decide (i < (List.length plan1 : Int)) then (
      (idx plan1 i).bind fun e =>
      (D26 l1 winch1 e).bind fun r =>
      bif (!r) then some false
      else lp15_1 fuel F l1 winch1 plan1 i 0)
    else some true) fuel (l1₀, winch1₀, plan1₀, i₀)

theorem g15 (fuel : Nat) (l : List ((Int) × ((Int) × ((Bool) × (List (Int)))))) (winch : List (Bool)) (plan : List ((Int) × ((Int) × ((Int) × (Int))))) : (fnK tab env15 12 ann15 fuel Try.f15 [] ps15 rs15 true (l, winch, plan) : Option (Bool)) = (
  bif ((List.length plan : Int) != (List.length l : Int)) then some false
  else lp15_3 fuel l winch plan 0 : Option (Bool)) := by kernel_rfl
theorem e15 (l : List ((Int) × ((Int) × ((Bool) × (List (Int)))))) (winch : List (Bool)) (plan : List ((Int) × ((Int) × ((Int) × (Int))))) : D15 l winch plan = (
  bif ((List.length plan : Int) != (List.length l : Int)) then some false
  else lp15_3 big l winch plan 0 : Option (Bool)) := g15 big l winch plan

/-! skiarea/skiarearef47.End -/
noncomputable def D17 (a0 : List ((Int) × ((Int) × ((Int) × (Int))))) : Option (Int) := d17 a0
noncomputable def lp17_1 (fuel : Nat)  (plan1₀ : List ((Int) × ((Int) × ((Int) × (Int))))) (t₀ : Int) (i₀ : Int) : Option (Int) :=
  iter (fun F ((plan1, t, i) : (List ((Int) × ((Int) × ((Int) × (Int))))) × Int × Int) =>
    bif decide (i < (List.length plan1 : Int)) then (
      bif (i == 0) then (
        (idx plan1 i).bind fun e =>
        F (plan1, e.2.2.2, IntKind.i64.wrap (i + 1)))
      else (idx plan1 i).bind fun e =>
      bif decide (e.2.2.2 > t) then (
        (idx plan1 i).bind fun e1 =>
        F (plan1, e1.2.2.2, IntKind.i64.wrap (i + 1)))
      else F (plan1, t, IntKind.i64.wrap (i + 1)))
    else some t) fuel (plan1₀, t₀, i₀)

theorem f17_1  (plan1 : List ((Int) × ((Int) × ((Int) × (Int))))) (t : Int) (hl : (plan1).length ≤ maxLen) : lp17_1 big plan1 t 0 =
  forI (fun ix el (t : Int) K =>
    (bif ((ix : Int) == 0) then K el.2.2.2
    else bif decide (el.2.2.2 > t) then K el.2.2.2
    else K t : Option (Int)))
    (fun (t : Int) =>
    (some t : Option (Int))) 0 plan1 t := by
  refine iter_forI_from plan1 (fun ix (t : Int) => (plan1, t, (ix : Int))) _ _ ?_ ?_ (k := 0) (Nat.zero_le _) (len_lt_big hl) t
  · rintro F k h t
    simp only [dec_lt h, condT, idx_get h, bindS, wrap_succ h hl]
  · rintro F t
    simp only [dec_end, condF]

theorem g17 (fuel : Nat) (plan : List ((Int) × ((Int) × ((Int) × (Int))))) : (fnK tab env17 5 ann17 fuel Try.f17 [] ps17 rs17 true plan : Option (Int)) = (
  lp17_1 fuel plan 0 0 : Option (Int)) := by kernel_rfl
theorem e17 (plan : List ((Int) × ((Int) × ((Int) × (Int))))) : D17 plan = (
  lp17_1 big plan 0 0 : Option (Int)) := g17 big plan

/-! skiarea/skiarealaw47.RouteValid -/
noncomputable def D4 (a0 : List ((Int) × ((Int) × ((Bool) × (List (Int)))))) (a1 : List (Bool)) (a2 : List ((Int) × ((Int) × ((Int) × (Int))))) : Option (Bool) := d4 (a0, a1, a2)
theorem e4 (l : List ((Int) × ((Int) × ((Bool) × (List (Int)))))) (winch : List (Bool)) (plan : List ((Int) × ((Int) × ((Int) × (Int))))) : D4 l winch plan = (
  (D10).bind fun r =>
  bif (!r) then some false
  else (D13 l winch).bind fun r1 =>
  bif (!r1) then some true
  else bif decide ((List.length plan : Int) > 50) then some true
  else (D14 l winch plan).bind fun r2 =>
  (D15 l winch plan).bind fun r3 =>
  bif (r2 == r3) then (
    (D16 plan).bind fun r4 =>
    (D17 plan).bind fun r5 =>
    some (r4 == r5))
  else some false : Option (Bool)) := by kernel_rfl

/-! (*skiarea/skiarearef47.search).from -/
noncomputable def D39 (a0 : (List ((Int) × ((Int) × ((Bool) × (List (Int)))))) × ((List (Bool)) × ((Int) × (List ((Int) × ((Int) × ((Int) × (Int)))))))) (a1 : List ((Int) × ((Int) × ((Int) × (Int))))) (a2 : (Int) × ((Int) × ((Bool) × (List (Int))))) (a3 : Int) : Option (((List ((Int) × ((Int) × ((Bool) × (List (Int)))))) × ((List (Bool)) × ((Int) × (List ((Int) × ((Int) × ((Int) × (Int)))))))) × Int) := d39 a0 (a1, a2, a3)
noncomputable def lp39_1 (fuel : Nat)  (x1₀ : (List ((Int) × ((Int) × ((Bool) × (List (Int)))))) × ((List (Bool)) × ((Int) × (List ((Int) × ((Int) × ((Int) × (Int)))))))) (plan1₀ : List ((Int) × ((Int) × ((Int) × (Int))))) (groomer1₀ : Int) (t1₀ : (Int) × ((Int) × ((Bool) × (List (Int))))) (n₀ : Int) (i₀ : Int) : Option (((List ((Int) × ((Int) × ((Bool) × (List (Int)))))) × ((List (Bool)) × ((Int) × (List ((Int) × ((Int) × ((Int) × (Int)))))))) × Int) :=
  iter (fun F ((x1, plan1, groomer1, t1, n, i) : ((List ((Int) × ((Int) × ((Bool) × (List (Int)))))) × ((List (Bool)) × ((Int) × (List ((Int) × ((Int) × ((Int) × (Int)))))))) × (List ((Int) × ((Int) × ((Int) × (Int))))) × Int × ((Int) × ((Int) × ((Bool) × (List (Int))))) × Int × Int) =>
    bif decide (i < (List.length plan1 : Int)) then (
      (idx plan1 i).bind fun e =>
      bif decide (e.2.2.2 > n) then (
        (idx plan1 i).bind fun e1 =>
        bif (e1.1 == groomer1) then (
          (idx plan1 i).bind fun e2 =>
          F (x1, plan1, groomer1, t1, e2.2.2.2, IntKind.i64.wrap (i + 1)))
        else (idx plan1 i).bind fun e2 =>
        (D28 x1.1 e2.2.1).bind fun r =>
        (idx x1.1 r).bind fun e3 =>
        (D27 e3 t1).bind fun r1 =>
        bif r1 then (
          (idx plan1 i).bind fun e4 =>
          F (x1, plan1, groomer1, t1, e4.2.2.2, IntKind.i64.wrap (i + 1)))
        else F (x1, plan1, groomer1, t1, n, IntKind.i64.wrap (i + 1)))
      else F (x1, plan1, groomer1, t1, n, IntKind.i64.wrap (i + 1)))
    else some (x1, n)) fuel (x1₀, plan1₀, groomer1₀, t1₀, n₀, i₀)

theorem f39_1  (x1 : (List ((Int) × ((Int) × ((Bool) × (List (Int)))))) × ((List (Bool)) × ((Int) × (List ((Int) × ((Int) × ((Int) × (Int)))))))) (plan1 : List ((Int) × ((Int) × ((Int) × (Int))))) (groomer1 : Int) (t1 : (Int) × ((Int) × ((Bool) × (List (Int))))) (n : Int) (hl : (plan1).length ≤ maxLen) : lp39_1 big x1 plan1 groomer1 t1 n 0 =
  forE (fun  el (n : Int) K =>
    (bif decide (el.2.2.2 > n) then (
      bif (el.1 == groomer1) then K el.2.2.2
      else (D28 x1.1 el.2.1).bind fun r =>
      (idx x1.1 r).bind fun e3 =>
      (D27 e3 t1).bind fun r1 =>
      bif r1 then K el.2.2.2
      else K n)
    else K n : Option (((List ((Int) × ((Int) × ((Bool) × (List (Int)))))) × ((List (Bool)) × ((Int) × (List ((Int) × ((Int) × ((Int) × (Int)))))))) × Int)))
    (fun (n : Int) =>
    (some (x1, n) : Option (((List ((Int) × ((Int) × ((Bool) × (List (Int)))))) × ((List (Bool)) × ((Int) × (List ((Int) × ((Int) × ((Int) × (Int)))))))) × Int))) plan1 n := by
  refine iter_forE plan1 (fun ix (n : Int) => (x1, plan1, groomer1, t1, n, (ix : Int))) _ _ ?_ ?_ (len_lt_big hl) n
  · rintro F k h n
    simp only [dec_lt h, condT, idx_get h, bindS, wrap_succ h hl]
  · rintro F n
    simp only [dec_end, condF]

theorem g39 (fuel : Nat) (x : (List ((Int) × ((Int) × ((Bool) × (List (Int)))))) × ((List (Bool)) × ((Int) × (List ((Int) × ((Int) × ((Int) × (Int)))))))) (plan : List ((Int) × ((Int) × ((Int) × (Int))))) (t : (Int) × ((Int) × ((Bool) × (List (Int))))) (groomer : Int) : (fnKB tab env39 bx39 11 ann39 fuel Try.f39 tB39 bm39 ps39 rs39 x (plan, t, groomer) : Option (((List ((Int) × ((Int) × ((Bool) × (List (Int)))))) × ((List (Bool)) × ((Int) × (List ((Int) × ((Int) × ((Int) × (Int)))))))) × Int)) = (
  lp39_1 fuel x plan groomer t 0 0 : Option (((List ((Int) × ((Int) × ((Bool) × (List (Int)))))) × ((List (Bool)) × ((Int) × (List ((Int) × ((Int) × ((Int) × (Int)))))))) × Int)) := by kernel_rfl
theorem e39 (x : (List ((Int) × ((Int) × ((Bool) × (List (Int)))))) × ((List (Bool)) × ((Int) × (List ((Int) × ((Int) × ((Int) × (Int)))))))) (plan : List ((Int) × ((Int) × ((Int) × (Int))))) (t : (Int) × ((Int) × ((Bool) × (List (Int))))) (groomer : Int) : D39 x plan t groomer = (
  lp39_1 big x plan groomer t 0 0 : Option (((List ((Int) × ((Int) × ((Bool) × (List (Int)))))) × ((List (Bool)) × ((Int) × (List ((Int) × ((Int) × ((Int) × (Int)))))))) × Int)) := g39 big x plan t groomer

/-! (*skiarea/skiarearef47.search).next -/
noncomputable def D36 (n : Nat) (a0 : (List ((Int) × ((Int) × ((Bool) × (List (Int)))))) × ((List (Bool)) × ((Int) × (List ((Int) × ((Int) × ((Int) × (Int)))))))) (a1 : List ((Int) × ((Int) × ((Int) × (Int))))) : Option (((List ((Int) × ((Int) × ((Bool) × (List (Int)))))) × ((List (Bool)) × ((Int) × (List ((Int) × ((Int) × ((Int) × (Int)))))))) × Unit) := d36 n a0 a1
noncomputable def lp36_1 (fuel : Nat) (dep : Nat) (F : (((List ((Int) × ((Int) × ((Bool) × (List (Int)))))) × ((List (Bool)) × ((Int) × (List ((Int) × ((Int) × ((Int) × (Int)))))))) × (List ((Int) × ((Int) × ((Int) × (Int))))) × Int) → Option (((List ((Int) × ((Int) × ((Bool) × (List (Int)))))) × ((List (Bool)) × ((Int) × (List ((Int) × ((Int) × ((Int) × (Int)))))))) × Unit)) (x3₀ : (List ((Int) × ((Int) × ((Bool) × (List (Int)))))) × ((List (Bool)) × ((Int) × (List ((Int) × ((Int) × ((Int) × (Int)))))))) (plan3₀ : List ((Int) × ((Int) × ((Int) × (Int))))) (i2₀ : Int) (t1₀ : (Int) × ((Int) × ((Bool) × (List (Int))))) (done1₀ : Bool) (g₀ : Int) : Option (((List ((Int) × ((Int) × ((Bool) × (List (Int)))))) × ((List (Bool)) × ((Int) × (List ((Int) × ((Int) × ((Int) × (Int)))))))) × Unit) :=
  iter (fun F2 ((x3, plan3, i2, t1, done1, g) : ((List ((Int) × ((Int) × ((Bool) × (List (Int)))))) × ((List (Bool)) × ((Int) × (List ((Int) × ((Int) × ((Int) × (Int)))))))) × (List ((Int) × ((Int) × ((Int) × (Int))))) × Int × ((Int) × ((Int) × ((Bool) × (List (Int))))) × Bool × Int) =>
    bif decide (g ≤ (List.length x3.2.1 : Int)) then (
      bif (!done1) then (
        (D39 x3 plan3 t1 g).bind fun r =>
        bif decide (IntKind.i64.wrap (r.2 + t1.2.1) < r.1.2.2.1) then (
          (idx r.1.2.1 (IntKind.i64.wrap (g - 1))).bind fun e1 =>
          bif e1 then (
            bif (Nat.ble ((List.length ([] : List ((Int) × ((Int) × ((Int) × (Int))))) + List.length plan3) * 32) appendLimit && Nat.ble (List.length ([] : List ((Int) × ((Int) × ((Int) × (Int))))) + List.length plan3) 9223372036854775807) then (
              bif (Nat.ble ((List.length (([] : List ((Int) × ((Int) × ((Int) × (Int))))) ++ plan3) + List.length [(g, t1.1, r.2, IntKind.i64.wrap (r.2 + t1.2.1))]) * 32) appendLimit && Nat.ble (List.length (([] : List ((Int) × ((Int) × ((Int) × (Int))))) ++ plan3) + List.length [(g, t1.1, r.2, IntKind.i64.wrap (r.2 + t1.2.1))]) 9223372036854775807) then (
                (D36 dep r.1 ((([] : List ((Int) × ((Int) × ((Int) × (Int))))) ++ plan3) ++ [(g, t1.1, r.2, IntKind.i64.wrap (r.2 + t1.2.1))])).bind fun r1 =>
                F2 (r1.1, plan3, i2, t1, done1, IntKind.i64.wrap (g + 1)))
              else none)
            else none)
          else bif (!t1.2.2.1) then (
            bif (Nat.ble ((List.length ([] : List ((Int) × ((Int) × ((Int) × (Int))))) + List.length plan3) * 32) appendLimit && Nat.ble (List.length ([] : List ((Int) × ((Int) × ((Int) × (Int))))) + List.length plan3) 9223372036854775807) then (
              bif (Nat.ble ((List.length (([] : List ((Int) × ((Int) × ((Int) × (Int))))) ++ plan3) + List.length [(g, t1.1, r.2, IntKind.i64.wrap (r.2 + t1.2.1))]) * 32) appendLimit && Nat.ble (List.length (([] : List ((Int) × ((Int) × ((Int) × (Int))))) ++ plan3) + List.length [(g, t1.1, r.2, IntKind.i64.wrap (r.2 + t1.2.1))]) 9223372036854775807) then (
                (D36 dep r.1 ((([] : List ((Int) × ((Int) × ((Int) × (Int))))) ++ plan3) ++ [(g, t1.1, r.2, IntKind.i64.wrap (r.2 + t1.2.1))])).bind fun r1 =>
                F2 (r1.1, plan3, i2, t1, done1, IntKind.i64.wrap (g + 1)))
              else none)
            else none)
          else F2 (r.1, plan3, i2, t1, done1, IntKind.i64.wrap (g + 1)))
        else F2 (r.1, plan3, i2, t1, done1, IntKind.i64.wrap (g + 1)))
      else F (x3, plan3, IntKind.i64.wrap (i2 + 1)))
    else F (x3, plan3, IntKind.i64.wrap (i2 + 1))) fuel (x3₀, plan3₀, i2₀, t1₀, done1₀, g₀)

noncomputable def lp36_2 (fuel : Nat) (dep : Nat) (F : (((List ((Int) × ((Int) × ((Bool) × (List (Int)))))) × ((List (Bool)) × ((Int) × (List ((Int) × ((Int) × ((Int) × (Int)))))))) × (List ((Int) × ((Int) × ((Int) × (Int))))) × Int) → Option (((List ((Int) × ((Int) × ((Bool) × (List (Int)))))) × ((List (Bool)) × ((Int) × (List ((Int) × ((Int) × ((Int) × (Int)))))))) × Unit)) (x2₀ : (List ((Int) × ((Int) × ((Bool) × (List (Int)))))) × ((List (Bool)) × ((Int) × (List ((Int) × ((Int) × ((Int) × (Int)))))))) (plan2₀ : List ((Int) × ((Int) × ((Int) × (Int))))) (i1₀ : Int) (t₀ : (Int) × ((Int) × ((Bool) × (List (Int))))) (done₀ : Bool) (k_₀ : Int) : Option (((List ((Int) × ((Int) × ((Bool) × (List (Int)))))) × ((List (Bool)) × ((Int) × (List ((Int) × ((Int) × ((Int) × (Int)))))))) × Unit) :=
  iter (fun F1 ((x2, plan2, i1, t, done, k_) : ((List ((Int) × ((Int) × ((Bool) × (List (Int)))))) × ((List (Bool)) × ((Int) × (List ((Int) × ((Int) × ((Int) × (Int)))))))) × (List ((Int) × ((Int) × ((Int) × (Int))))) × Int × ((Int) × ((Int) × ((Bool) × (List (Int))))) × Bool × Int) =>
    bif decide (k_ < (List.length plan2 : Int)) then (
      bif done then F1 (x2, plan2, i1, t, true, IntKind.i64.wrap (k_ + 1))
      else (idx plan2 k_).bind fun e1 =>
      F1 (x2, plan2, i1, t, (e1.2.1 == t.1), IntKind.i64.wrap (k_ + 1)))
    else lp36_1 fuel dep F x2 plan2 i1 t done 1) fuel (x2₀, plan2₀, i1₀, t₀, done₀, k_₀)

theorem f36_2 (dep : Nat) (F : (((List ((Int) × ((Int) × ((Bool) × (List (Int)))))) × ((List (Bool)) × ((Int) × (List ((Int) × ((Int) × ((Int) × (Int)))))))) × (List ((Int) × ((Int) × ((Int) × (Int))))) × Int) → Option (((List ((Int) × ((Int) × ((Bool) × (List (Int)))))) × ((List (Bool)) × ((Int) × (List ((Int) × ((Int) × ((Int) × (Int)))))))) × Unit)) (x2 : (List ((Int) × ((Int) × ((Bool) × (List (Int)))))) × ((List (Bool)) × ((Int) × (List ((Int) × ((Int) × ((Int) × (Int)))))))) (plan2 : List ((Int) × ((Int) × ((Int) × (Int))))) (i1 : Int) (t : (Int) × ((Int) × ((Bool) × (List (Int))))) (done : Bool) (hl : (plan2).length ≤ maxLen) : lp36_2 big dep F x2 plan2 i1 t done 0 =
  forE (fun  el (done : Bool) K =>
    (bif done then K true
    else K (el.2.1 == t.1) : Option (((List ((Int) × ((Int) × ((Bool) × (List (Int)))))) × ((List (Bool)) × ((Int) × (List ((Int) × ((Int) × ((Int) × (Int)))))))) × Unit)))
    (fun (done : Bool) =>
    (lp36_1 big dep F x2 plan2 i1 t done 1 : Option (((List ((Int) × ((Int) × ((Bool) × (List (Int)))))) × ((List (Bool)) × ((Int) × (List ((Int) × ((Int) × ((Int) × (Int)))))))) × Unit))) plan2 done := by
  refine iter_forE plan2 (fun ix (done : Bool) => (x2, plan2, i1, t, done, (ix : Int))) _ _ ?_ ?_ (len_lt_big hl) done
  · rintro F k h done
    simp only [dec_lt h, condT, idx_get h, bindS, wrap_succ h hl]
  · rintro F done
    simp only [dec_end, condF]

noncomputable def lp36_4 (fuel : Nat) (dep : Nat)  (x1₀ : (List ((Int) × ((Int) × ((Bool) × (List (Int)))))) × ((List (Bool)) × ((Int) × (List ((Int) × ((Int) × ((Int) × (Int)))))))) (plan1₀ : List ((Int) × ((Int) × ((Int) × (Int))))) (i₀ : Int) : Option (((List ((Int) × ((Int) × ((Bool) × (List (Int)))))) × ((List (Bool)) × ((Int) × (List ((Int) × ((Int) × ((Int) × (Int)))))))) × Unit) :=
  iter (fun F ((x1, plan1, i) : ((List ((Int) × ((Int) × ((Bool) × (List (Int)))))) × ((List (Bool)) × ((Int) × (List ((Int) × ((Int) × ((Int) × (Int)))))))) × (List ((Int) × ((Int) × ((Int) × (Int))))) × Int) =>
    bif decide (i < (List.length x1.1 : Int)) then (
      (idx x1.1 i).bind fun e =>
      lp36_2 fuel dep F x1 plan1 i e false 0)
    else some (x1, ())) fuel (x1₀, plan1₀, i₀)

theorem g36 (fuel : Nat) (dep : Nat) (x : (List ((Int) × ((Int) × ((Bool) × (List (Int)))))) × ((List (Bool)) × ((Int) × (List ((Int) × ((Int) × ((Int) × (Int)))))))) (plan : List ((Int) × ((Int) × ((Int) × (Int))))) : (fnKB tab env36 (bx36 (d36 dep)) 10 ann36 fuel Try.f36 tB36 bm36 ps36 rs36 x plan : Option (((List ((Int) × ((Int) × ((Bool) × (List (Int)))))) × ((List (Bool)) × ((Int) × (List ((Int) × ((Int) × ((Int) × (Int)))))))) × Unit)) = (
  bif ((List.length plan : Int) == (List.length x.1 : Int)) then (
    (D17 plan).bind fun r =>
    bif (Nat.ble ((List.length ([] : List ((Int) × ((Int) × ((Int) × (Int))))) + List.length plan) * 32) appendLimit && Nat.ble (List.length ([] : List ((Int) × ((Int) × ((Int) × (Int))))) + List.length plan) 9223372036854775807) then some ((x.1, x.2.1, r, ([] : List ((Int) × ((Int) × ((Int) × (Int))))) ++ plan), ())
    else none)
  else lp36_4 fuel dep x plan 0 : Option (((List ((Int) × ((Int) × ((Bool) × (List (Int)))))) × ((List (Bool)) × ((Int) × (List ((Int) × ((Int) × ((Int) × (Int)))))))) × Unit)) := by kernel_rfl
theorem e36 (dep : Nat) (x : (List ((Int) × ((Int) × ((Bool) × (List (Int)))))) × ((List (Bool)) × ((Int) × (List ((Int) × ((Int) × ((Int) × (Int)))))))) (plan : List ((Int) × ((Int) × ((Int) × (Int))))) : D36 (dep + 1) x plan = (
  bif ((List.length plan : Int) == (List.length x.1 : Int)) then (
    (D17 plan).bind fun r =>
    bif (Nat.ble ((List.length ([] : List ((Int) × ((Int) × ((Int) × (Int))))) + List.length plan) * 32) appendLimit && Nat.ble (List.length ([] : List ((Int) × ((Int) × ((Int) × (Int))))) + List.length plan) 9223372036854775807) then some ((x.1, x.2.1, r, ([] : List ((Int) × ((Int) × ((Int) × (Int))))) ++ plan), ())
    else none)
  else lp36_4 big dep x plan 0 : Option (((List ((Int) × ((Int) × ((Bool) × (List (Int)))))) × ((List (Bool)) × ((Int) × (List ((Int) × ((Int) × ((Int) × (Int)))))))) × Unit)) := g36 big dep x plan

/-! skiarea/skiarearef47.Best -/
noncomputable def D29 (a0 : List ((Int) × ((Int) × ((Bool) × (List (Int)))))) (a1 : List (Bool)) : Option (List ((Int) × ((Int) × ((Int) × (Int))))) := d29 (a0, a1)
noncomputable def lp29_1 (fuel : Nat) (F1 : ((List ((Int) × ((Int) × ((Bool) × (List (Int)))))) × (List ((Int) × ((Int) × ((Int) × (Int))))) × Int × ((List ((Int) × ((Int) × ((Bool) × (List (Int)))))) × ((List (Bool)) × ((Int) × (List ((Int) × ((Int) × ((Int) × (Int))))))))) → Option (List ((Int) × ((Int) × ((Int) × (Int)))))) (l3₀ : List ((Int) × ((Int) × ((Bool) × (List (Int)))))) (out1₀ : List ((Int) × ((Int) × ((Int) × (Int))))) (i2₀ : Int) (k_₀ : Int) (v2₀ : (List ((Int) × ((Int) × ((Bool) × (List (Int)))))) × ((List (Bool)) × ((Int) × (List ((Int) × ((Int) × ((Int) × (Int)))))))) : Option (List ((Int) × ((Int) × ((Int) × (Int))))) :=
  iter (fun F2 ((l3, out1, i2, k_, v2) : (List ((Int) × ((Int) × ((Bool) × (List (Int)))))) × (List ((Int) × ((Int) × ((Int) × (Int))))) × Int × Int × ((List ((Int) × ((Int) × ((Bool) × (List (Int)))))) × ((List (Bool)) × ((Int) × (List ((Int) × ((Int) × ((Int) × (Int))))))))) =>
    bif decide (k_ < (List.length v2.2.2.2 : Int)) then (
      (idx v2.2.2.2 k_).bind fun e =>
      (idx l3 i2).bind fun e1 =>
      bif (e.2.1 == e1.1) then (
        (idx v2.2.2.2 k_).bind fun e2 =>
        bif (Nat.ble ((List.length out1 + List.length [e2]) * 32) appendLimit && Nat.ble (List.length out1 + List.length [e2]) 9223372036854775807) then F2 (l3, out1 ++ [e2], i2, IntKind.i64.wrap (k_ + 1), v2)
        else none)
      else F2 (l3, out1, i2, IntKind.i64.wrap (k_ + 1), v2))
    else F1 (l3, out1, IntKind.i64.wrap (i2 + 1), v2)) fuel (l3₀, out1₀, i2₀, k_₀, v2₀)

theorem f29_1 (F1 : ((List ((Int) × ((Int) × ((Bool) × (List (Int)))))) × (List ((Int) × ((Int) × ((Int) × (Int))))) × Int × ((List ((Int) × ((Int) × ((Bool) × (List (Int)))))) × ((List (Bool)) × ((Int) × (List ((Int) × ((Int) × ((Int) × (Int))))))))) → Option (List ((Int) × ((Int) × ((Int) × (Int)))))) (l3 : List ((Int) × ((Int) × ((Bool) × (List (Int)))))) (out1 : List ((Int) × ((Int) × ((Int) × (Int))))) (i2 : Int) (v2 : (List ((Int) × ((Int) × ((Bool) × (List (Int)))))) × ((List (Bool)) × ((Int) × (List ((Int) × ((Int) × ((Int) × (Int)))))))) (hl : (v2.2.2.2).length ≤ maxLen) : lp29_1 big F1 l3 out1 i2 0 v2 =
  forE (fun  el (out1 : (List ((Int) × ((Int) × ((Int) × (Int)))))) K =>
    ((idx l3 i2).bind fun e1 =>
    bif (el.2.1 == e1.1) then (
      bif (Nat.ble ((List.length out1 + List.length [el]) * 32) appendLimit && Nat.ble (List.length out1 + List.length [el]) 9223372036854775807) then K (out1 ++ [el])
      else none)
    else K out1 : Option (List ((Int) × ((Int) × ((Int) × (Int)))))))
    (fun (out1 : (List ((Int) × ((Int) × ((Int) × (Int)))))) =>
    (F1 (l3, out1, IntKind.i64.wrap (i2 + 1), v2) : Option (List ((Int) × ((Int) × ((Int) × (Int))))))) v2.2.2.2 out1 := by
  refine iter_forE v2.2.2.2 (fun ix (out1 : (List ((Int) × ((Int) × ((Int) × (Int)))))) => (l3, out1, i2, (ix : Int), v2)) _ _ ?_ ?_ (len_lt_big hl) out1
  · rintro F k h out1
    simp only [dec_lt h, condT, idx_get h, bindS, wrap_succ h hl]
  · rintro F out1
    simp only [dec_end, condF]

noncomputable def lp29_3 (fuel : Nat)  (l2₀ : List ((Int) × ((Int) × ((Bool) × (List (Int)))))) (out₀ : List ((Int) × ((Int) × ((Int) × (Int))))) (i1₀ : Int) (v1₀ : (List ((Int) × ((Int) × ((Bool) × (List (Int)))))) × ((List (Bool)) × ((Int) × (List ((Int) × ((Int) × ((Int) × (Int)))))))) : Option (List ((Int) × ((Int) × ((Int) × (Int))))) :=
  iter (fun F1 ((l2, out, i1, v1) : (List ((Int) × ((Int) × ((Bool) × (List (Int)))))) × (List ((Int) × ((Int) × ((Int) × (Int))))) × Int × ((List ((Int) × ((Int) × ((Bool) × (List (Int)))))) × ((List (Bool)) × ((Int) × (List ((Int) × ((Int) × ((Int) × (Int))))))))) =>
    bif decide (i1 < (List.length l2 : Int)) then lp29_1 fuel F1 l2 out i1 0 v1
    else some out) fuel (l2₀, out₀, i1₀, v1₀)

noncomputable def lp29_4 (fuel : Nat)  (l1₀ : List ((Int) × ((Int) × ((Bool) × (List (Int)))))) (i₀ : Int) (v₀ : (List ((Int) × ((Int) × ((Bool) × (List (Int)))))) × ((List (Bool)) × ((Int) × (List ((Int) × ((Int) × ((Int) × (Int)))))))) : Option (List ((Int) × ((Int) × ((Int) × (Int))))) :=
  iter (fun F ((l1, i, v) : (List ((Int) × ((Int) × ((Bool) × (List (Int)))))) × Int × ((List ((Int) × ((Int) × ((Bool) × (List (Int)))))) × ((List (Bool)) × ((Int) × (List ((Int) × ((Int) × ((Int) × (Int))))))))) =>
    bif decide (i < (List.length l1 : Int)) then (
      (idx l1 i).bind fun e =>
      F (l1, IntKind.i64.wrap (i + 1), (v.1, v.2.1, IntKind.i64.wrap (v.2.2.1 + e.2.1), v.2.2.2)))
    else (D36 64 v ([] : List ((Int) × ((Int) × ((Int) × (Int)))))).bind fun r =>
    lp29_3 fuel l1 ([] : List ((Int) × ((Int) × ((Int) × (Int))))) 0 r.1) fuel (l1₀, i₀, v₀)

theorem f29_4  (l1 : List ((Int) × ((Int) × ((Bool) × (List (Int)))))) (v : (List ((Int) × ((Int) × ((Bool) × (List (Int)))))) × ((List (Bool)) × ((Int) × (List ((Int) × ((Int) × ((Int) × (Int)))))))) (hl : (l1).length ≤ maxLen) : lp29_4 big l1 0 v =
  forE (fun  el (v : ((List ((Int) × ((Int) × ((Bool) × (List (Int)))))) × ((List (Bool)) × ((Int) × (List ((Int) × ((Int) × ((Int) × (Int))))))))) K =>
    (K (v.1, v.2.1, IntKind.i64.wrap (v.2.2.1 + el.2.1), v.2.2.2) : Option (List ((Int) × ((Int) × ((Int) × (Int)))))))
    (fun (v : ((List ((Int) × ((Int) × ((Bool) × (List (Int)))))) × ((List (Bool)) × ((Int) × (List ((Int) × ((Int) × ((Int) × (Int))))))))) =>
    ((D36 64 v ([] : List ((Int) × ((Int) × ((Int) × (Int)))))).bind fun r =>
    lp29_3 big l1 ([] : List ((Int) × ((Int) × ((Int) × (Int))))) 0 r.1 : Option (List ((Int) × ((Int) × ((Int) × (Int))))))) l1 v := by
  refine iter_forE l1 (fun ix (v : ((List ((Int) × ((Int) × ((Bool) × (List (Int)))))) × ((List (Bool)) × ((Int) × (List ((Int) × ((Int) × ((Int) × (Int))))))))) => (l1, (ix : Int), v)) _ _ ?_ ?_ (len_lt_big hl) v
  · rintro F k h v
    simp only [dec_lt h, condT, idx_get h, bindS, wrap_succ h hl]
  · rintro F v
    simp only [dec_end, condF]

theorem g29 (fuel : Nat) (l : List ((Int) × ((Int) × ((Bool) × (List (Int)))))) (winch : List (Bool)) : (fnKX tab env29 bx29 10 ann29 fuel Try.f29 [] ps29 rs29 true (l, winch) : Option (List ((Int) × ((Int) × ((Int) × (Int)))))) = (
  lp29_4 fuel l 0 (l, winch, 1, ([] : List ((Int) × ((Int) × ((Int) × (Int)))))) : Option (List ((Int) × ((Int) × ((Int) × (Int)))))) := by kernel_rfl
theorem e29 (l : List ((Int) × ((Int) × ((Bool) × (List (Int)))))) (winch : List (Bool)) : D29 l winch = (
  lp29_4 big l 0 (l, winch, 1, ([] : List ((Int) × ((Int) × ((Int) × (Int)))))) : Option (List ((Int) × ((Int) × ((Int) × (Int)))))) := g29 big l winch

/-! skiarea/skiarearef47.Least -/
noncomputable def D19 (a0 : List ((Int) × ((Int) × ((Bool) × (List (Int)))))) (a1 : List (Bool)) : Option (Int) := d19 (a0, a1)
theorem e19 (l : List ((Int) × ((Int) × ((Bool) × (List (Int)))))) (winch : List (Bool)) : D19 l winch = (
  (D29 l winch).bind fun r =>
  (D17 r).bind fun r1 =>
  some r1 : Option (Int)) := by kernel_rfl

/-! skiarea/skiarealaw47.RouteCounts -/
noncomputable def D5 (a0 : List ((Int) × ((Int) × ((Bool) × (List (Int)))))) (a1 : List (Bool)) : Option (Bool) := d5 (a0, a1)
theorem e5 (l : List ((Int) × ((Int) × ((Bool) × (List (Int)))))) (winch : List (Bool)) : D5 l winch = (
  (D10).bind fun r =>
  bif (!r) then some false
  else (D13 l winch).bind fun r1 =>
  bif (!r1) then some true
  else (D18 l winch).bind fun r2 =>
  (D19 l winch).bind fun r3 =>
  some (r2 == r3) : Option (Bool)) := by kernel_rfl

/-! skiarea/skiarealaw47.RouteFinds -/
noncomputable def D6 (a0 : List ((Int) × ((Int) × ((Bool) × (List (Int)))))) (a1 : List (Bool)) : Option (Bool) := d6 (a0, a1)
noncomputable def lp6_1 (fuel : Nat)  (l1₀ : List ((Int) × ((Int) × ((Bool) × (List (Int)))))) (plan₀ : List ((Int) × ((Int) × ((Int) × (Int))))) (i₀ : Int) : Option (Bool) :=
  iter (fun F ((l1, plan, i) : (List ((Int) × ((Int) × ((Bool) × (List (Int)))))) × (List ((Int) × ((Int) × ((Int) × (Int))))) × Int) =>
    bif decide (i < (List.length l1 : Int)) then (
      (idx plan i).bind fun e =>
      (idx l1 i).bind fun e1 =>
      bif (e.2.1 != e1.1) then some false
      else F (l1, plan, IntKind.i64.wrap (i + 1)))
    else some true) fuel (l1₀, plan₀, i₀)

theorem f6_1  (l1 : List ((Int) × ((Int) × ((Bool) × (List (Int)))))) (plan : List ((Int) × ((Int) × ((Int) × (Int))))) (hl : (l1).length ≤ maxLen) : lp6_1 big l1 plan 0 =
  forI (fun ix el (_ : Unit) K =>
    ((idx plan (ix : Int)).bind fun e =>
    bif (e.2.1 != el.1) then some false
    else K () : Option (Bool)))
    (fun (_ : Unit) =>
    (some true : Option (Bool))) 0 l1 () := by
  refine iter_forI_from l1 (fun ix (_ : Unit) => (l1, plan, (ix : Int))) _ _ ?_ ?_ (k := 0) (Nat.zero_le _) (len_lt_big hl) ()
  · rintro F k h _
    simp only [dec_lt h, condT, idx_get h, bindS, wrap_succ h hl]
  · rintro F _
    simp only [dec_end, condF]

theorem g6 (fuel : Nat) (l : List ((Int) × ((Int) × ((Bool) × (List (Int)))))) (winch : List (Bool)) : (fnK tab env6 7 ann6 fuel Try.f6 [] ps6 rs6 true (l, winch) : Option (Bool)) = (
  (D10).bind fun r =>
  bif (!r) then some false
  else (D13 l winch).bind fun r1 =>
  bif (!r1) then some true
  else (D20 l winch).bind fun r2 =>
  (D15 l winch r2).bind fun r3 =>
  bif (!r3) then some false
  else (D17 r2).bind fun r4 =>
  (D19 l winch).bind fun r5 =>
  bif (r4 != r5) then some false
  else lp6_1 fuel l r2 0 : Option (Bool)) := by kernel_rfl
theorem e6 (l : List ((Int) × ((Int) × ((Bool) × (List (Int)))))) (winch : List (Bool)) : D6 l winch = (
  (D10).bind fun r =>
  bif (!r) then some false
  else (D13 l winch).bind fun r1 =>
  bif (!r1) then some true
  else (D20 l winch).bind fun r2 =>
  (D15 l winch r2).bind fun r3 =>
  bif (!r3) then some false
  else (D17 r2).bind fun r4 =>
  (D19 l winch).bind fun r5 =>
  bif (r4 != r5) then some false
  else lp6_1 big l r2 0 : Option (Bool)) := g6 big l winch

/-! skiarea/skiarealaw47.RouteLeast -/
noncomputable def D7 (a0 : List ((Int) × ((Int) × ((Bool) × (List (Int)))))) (a1 : List (Bool)) (a2 : List ((Int) × ((Int) × ((Int) × (Int))))) : Option (Bool) := d7 (a0, a1, a2)
theorem e7 (l : List ((Int) × ((Int) × ((Bool) × (List (Int)))))) (winch : List (Bool)) (other : List ((Int) × ((Int) × ((Int) × (Int))))) : D7 l winch other = (
  (D10).bind fun r =>
  bif (!r) then some false
  else bif decide ((List.length l : Int) > 6) then some true
  else bif decide ((List.length winch : Int) > 3) then some true
  else (D11 l winch).bind fun r1 =>
  bif (r1 != 0) then some true
  else bif decide ((List.length other : Int) > 50) then some true
  else (D20 l winch).bind fun r2 =>
  (D18 l winch).bind fun r3 =>
  (D14 l winch r2).bind fun r4 =>
  bif r4 then (
    (D16 r2).bind fun r5 =>
    bif (r5 == r3) then (
      (D14 l winch other).bind fun r6 =>
      bif (!r6) then some true
      else (D16 other).bind fun r7 =>
      some (decide (r7 ≥ r3)))
    else some false)
  else some false : Option (Bool)) := by kernel_rfl

/-! skiarea/skiarealaw47.RouteBounds -/
noncomputable def D8 (a0 : List ((Int) × ((Int) × ((Bool) × (List (Int)))))) (a1 : List (Bool)) : Option (Bool) := d8 (a0, a1)
noncomputable def lp8_1 (fuel : Nat)  (winch2₀ : List (Bool)) (least1₀ : Int) (sum_1₀ : Int) (longest1₀ : Int) (runs1₀ : List (Int)) (all_₀ : List ((Int) × ((Int) × ((Bool) × (List (Int)))))) (i1₀ : Int) : Option (Bool) :=
  iter (fun F1 ((winch2, least1, sum_1, longest1, runs1, all_, i1) : (List (Bool)) × Int × Int × Int × (List (Int)) × (List ((Int) × ((Int) × ((Bool) × (List (Int)))))) × Int) =>
    bif decide (i1 < (List.length all_ : Int)) then (
      (idx all_ i1).bind fun e =>
      F1 (winch2, least1, sum_1, longest1, runs1, List.set all_ (Int.toNat i1) (e.1, e.2.1, e.2.2.1, runs1), IntKind.i64.wrap (i1 + 1)))
    else bif decide (least1 ≥ longest1) then (
      bif decide (least1 ≤ sum_1) then (
        bif decide (IntKind.i64.wrap (least1 * (List.length winch2 : Int)) ≥ sum_1) then (
          (D18 all_ winch2).bind fun r3 =>
          some (r3 == sum_1))
        else some false)
      else some false)
    else some false) fuel (winch2₀, least1₀, sum_1₀, longest1₀, runs1₀, all_₀, i1₀)

noncomputable def lp8_2 (fuel : Nat)  (l1₀ : List ((Int) × ((Int) × ((Bool) × (List (Int)))))) (winch1₀ : List (Bool)) (least₀ : Int) (sum_₀ : Int) (longest₀ : Int) (runs₀ : List (Int)) (i₀ : Int) : Option (Bool) :=
  iter (fun F ((l1, winch1, least, sum_, longest, runs, i) : (List ((Int) × ((Int) × ((Bool) × (List (Int)))))) × (List (Bool)) × Int × Int × Int × (List (Int)) × Int) =>
    bif decide (i < (List.length l1 : Int)) then (
      (idx l1 i).bind fun e =>
      (idx l1 i).bind fun e1 =>
      (idx l1 i).bind fun e2 =>
      bif (Nat.ble ((List.length runs + List.length [e2.1]) * 8) appendLimit && Nat.ble (List.length runs + List.length [e2.1]) 9223372036854775807) then F (l1, winch1, least, IntKind.i64.wrap (sum_ + e.2.1), (bif decide ((e1.2.1 : Int) > longest) then e1.2.1 else longest), runs ++ [e2.1], IntKind.i64.wrap (i + 1))
      else none)
    else bif (Nat.ble ((List.length ([] : List ((Int) × ((Int) × ((Bool) × (List (Int)))))) + List.length l1) * 48) appendLimit && Nat.ble (List.length ([] : List ((Int) × ((Int) × ((Bool) × (List (Int)))))) + List.length l1) 9223372036854775807) then lp8_1 fuel winch1 least sum_ longest runs (([] : List ((Int) × ((Int) × ((Bool) × (List (Int)))))) ++ l1) 0
    else none) fuel (l1₀, winch1₀, least₀, sum_₀, longest₀, runs₀, i₀)

theorem f8_2  (l1 : List ((Int) × ((Int) × ((Bool) × (List (Int)))))) (winch1 : List (Bool)) (least : Int) (sum_ : Int) (longest : Int) (runs : List (Int)) (hl : (l1).length ≤ maxLen) : lp8_2 big l1 winch1 least sum_ longest runs 0 =
  forE (fun  el ((sum_, longest, runs) : Int × Int × (List (Int))) K =>
    (bif (Nat.ble ((List.length runs + List.length [el.1]) * 8) appendLimit && Nat.ble (List.length runs + List.length [el.1]) 9223372036854775807) then K (IntKind.i64.wrap (sum_ + el.2.1), (bif decide ((el.2.1 : Int) > longest) then el.2.1 else longest), runs ++ [el.1])
    else none : Option (Bool)))
    (fun ((sum_, longest, runs) : Int × Int × (List (Int))) =>
    (bif (Nat.ble ((List.length ([] : List ((Int) × ((Int) × ((Bool) × (List (Int)))))) + List.length l1) * 48) appendLimit && Nat.ble (List.length ([] : List ((Int) × ((Int) × ((Bool) × (List (Int)))))) + List.length l1) 9223372036854775807) then lp8_1 big winch1 least sum_ longest runs (([] : List ((Int) × ((Int) × ((Bool) × (List (Int)))))) ++ l1) 0
    else none : Option (Bool))) l1 (sum_, longest, runs) := by
  refine iter_forE l1 (fun ix ((sum_, longest, runs) : Int × Int × (List (Int))) => (l1, winch1, least, sum_, longest, runs, (ix : Int))) _ _ ?_ ?_ (len_lt_big hl) (sum_, longest, runs)
  · rintro F k h ⟨sum_, longest, runs⟩
    simp only [dec_lt h, condT, idx_get h, bindS, wrap_succ h hl]
  · rintro F ⟨sum_, longest, runs⟩
    simp only [dec_end, condF]

theorem g8 (fuel : Nat) (l : List ((Int) × ((Int) × ((Bool) × (List (Int)))))) (winch : List (Bool)) : (fnK tab env8 12 ann8 fuel Try.f8 [] ps8 rs8 true (l, winch) : Option (Bool)) = (
  (D10).bind fun r =>
  bif (!r) then some false
  else bif decide ((List.length l : Int) > 6) then some true
  else bif decide ((List.length winch : Int) > 3) then some true
  else (D11 l winch).bind fun r1 =>
  bif (r1 != 0) then some true
  else (D18 l winch).bind fun r2 =>
  lp8_2 fuel l winch r2 0 0 ([] : List (Int)) 0 : Option (Bool)) := by kernel_rfl
theorem e8 (l : List ((Int) × ((Int) × ((Bool) × (List (Int)))))) (winch : List (Bool)) : D8 l winch = (
  (D10).bind fun r =>
  bif (!r) then some false
  else bif decide ((List.length l : Int) > 6) then some true
  else bif decide ((List.length winch : Int) > 3) then some true
  else (D11 l winch).bind fun r1 =>
  bif (r1 != 0) then some true
  else (D18 l winch).bind fun r2 =>
  lp8_2 big l winch r2 0 0 ([] : List (Int)) 0 : Option (Bool)) := g8 big l winch

/-! skiarea/skiarealaw47.RouteLess -/
noncomputable def D9 (a0 : List ((Int) × ((Int) × ((Bool) × (List (Int)))))) (a1 : List (Bool)) (a2 : Int) (a3 : Bool) : Option (Bool) := d9 (a0, a1, a2, a3)
theorem e9 (l : List ((Int) × ((Int) × ((Bool) × (List (Int)))))) (winch : List (Bool)) (at_ : Int) (another : Bool) : D9 l winch at_ another = (
  (D10).bind fun r =>
  bif (!r) then some false
  else bif decide ((List.length l : Int) > 6) then some true
  else bif decide ((List.length winch : Int) > 3) then some true
  else (D11 l winch).bind fun r1 =>
  bif (r1 != 0) then some true
  else (D18 l winch).bind fun r2 =>
  bif decide ((List.length winch : Int) < 3) then (
    bif (Nat.ble ((List.length ([] : List (Bool)) + List.length winch) * 1) appendLimit && Nat.ble (List.length ([] : List (Bool)) + List.length winch) 9223372036854775807) then (
      bif (Nat.ble ((List.length (([] : List (Bool)) ++ winch) + List.length [another]) * 1) appendLimit && Nat.ble (List.length (([] : List (Bool)) ++ winch) + List.length [another]) 9223372036854775807) then (
        (D18 l ((([] : List (Bool)) ++ winch) ++ [another])).bind fun r3 =>
        bif decide (r3 > r2) then some false
        else bif ((List.length l : Int) == 0) then some (r2 == 0)
        else bif ((List.length l : Int) == 0) then none
        else bif (decide (0 ≤ (0 : Int)) && (decide ((0 : Int) ≤ Int.tmod (IntKind.i64.wrap at_) (List.length l : Int)) && decide ((Int.tmod (IntKind.i64.wrap at_) (List.length l : Int) : Int) ≤ (List.length l : Int)))) then (
          bif (Nat.ble ((List.length ([] : List ((Int) × ((Int) × ((Bool) × (List (Int)))))) + List.length (List.drop (Int.toNat 0) (List.take (Int.toNat (Int.tmod (IntKind.i64.wrap at_) (List.length l : Int))) l))) * 48) appendLimit && Nat.ble (List.length ([] : List ((Int) × ((Int) × ((Bool) × (List (Int)))))) + List.length (List.drop (Int.toNat 0) (List.take (Int.toNat (Int.tmod (IntKind.i64.wrap at_) (List.length l : Int))) l))) 9223372036854775807) then (
            bif (decide (0 ≤ (IntKind.i64.wrap ((Int.tmod (IntKind.i64.wrap at_) (List.length l : Int)) + 1) : Int)) && (decide ((IntKind.i64.wrap ((Int.tmod (IntKind.i64.wrap at_) (List.length l : Int)) + 1) : Int) ≤ (List.length l : Int)) && decide (((List.length l : Int) : Int) ≤ (List.length l : Int)))) then (
              bif (Nat.ble ((List.length (([] : List ((Int) × ((Int) × ((Bool) × (List (Int)))))) ++ (List.drop (Int.toNat 0) (List.take (Int.toNat (Int.tmod (IntKind.i64.wrap at_) (List.length l : Int))) l))) + List.length (List.drop (Int.toNat (IntKind.i64.wrap ((Int.tmod (IntKind.i64.wrap at_) (List.length l : Int)) + 1))) (List.take (Int.toNat (List.length l : Int)) l))) * 48) appendLimit && Nat.ble (List.length (([] : List ((Int) × ((Int) × ((Bool) × (List (Int)))))) ++ (List.drop (Int.toNat 0) (List.take (Int.toNat (Int.tmod (IntKind.i64.wrap at_) (List.length l : Int))) l))) + List.length (List.drop (Int.toNat (IntKind.i64.wrap ((Int.tmod (IntKind.i64.wrap at_) (List.length l : Int)) + 1))) (List.take (Int.toNat (List.length l : Int)) l))) 9223372036854775807) then (
                (D18 ((([] : List ((Int) × ((Int) × ((Bool) × (List (Int)))))) ++ (List.drop (Int.toNat 0) (List.take (Int.toNat (Int.tmod (IntKind.i64.wrap at_) (List.length l : Int))) l))) ++ (List.drop (Int.toNat (IntKind.i64.wrap ((Int.tmod (IntKind.i64.wrap at_) (List.length l : Int)) + 1))) (List.take (Int.toNat (List.length l : Int)) l))) winch).bind fun r4 =>
                some (decide (r4 ≤ r2)))
              else none)
            else none)
          else none)
        else none)
      else none)
    else none)
  else bif ((List.length l : Int) == 0) then some (r2 == 0)
  else bif ((List.length l : Int) == 0) then none
  else bif (decide (0 ≤ (0 : Int)) && (decide ((0 : Int) ≤ Int.tmod (IntKind.i64.wrap at_) (List.length l : Int)) && decide ((Int.tmod (IntKind.i64.wrap at_) (List.length l : Int) : Int) ≤ (List.length l : Int)))) then (
    bif (Nat.ble ((List.length ([] : List ((Int) × ((Int) × ((Bool) × (List (Int)))))) + List.length (List.drop (Int.toNat 0) (List.take (Int.toNat (Int.tmod (IntKind.i64.wrap at_) (List.length l : Int))) l))) * 48) appendLimit && Nat.ble (List.length ([] : List ((Int) × ((Int) × ((Bool) × (List (Int)))))) + List.length (List.drop (Int.toNat 0) (List.take (Int.toNat (Int.tmod (IntKind.i64.wrap at_) (List.length l : Int))) l))) 9223372036854775807) then (
      bif (decide (0 ≤ (IntKind.i64.wrap ((Int.tmod (IntKind.i64.wrap at_) (List.length l : Int)) + 1) : Int)) && (decide ((IntKind.i64.wrap ((Int.tmod (IntKind.i64.wrap at_) (List.length l : Int)) + 1) : Int) ≤ (List.length l : Int)) && decide (((List.length l : Int) : Int) ≤ (List.length l : Int)))) then (
        bif (Nat.ble ((List.length (([] : List ((Int) × ((Int) × ((Bool) × (List (Int)))))) ++ (List.drop (Int.toNat 0) (List.take (Int.toNat (Int.tmod (IntKind.i64.wrap at_) (List.length l : Int))) l))) + List.length (List.drop (Int.toNat (IntKind.i64.wrap ((Int.tmod (IntKind.i64.wrap at_) (List.length l : Int)) + 1))) (List.take (Int.toNat (List.length l : Int)) l))) * 48) appendLimit && Nat.ble (List.length (([] : List ((Int) × ((Int) × ((Bool) × (List (Int)))))) ++ (List.drop (Int.toNat 0) (List.take (Int.toNat (Int.tmod (IntKind.i64.wrap at_) (List.length l : Int))) l))) + List.length (List.drop (Int.toNat (IntKind.i64.wrap ((Int.tmod (IntKind.i64.wrap at_) (List.length l : Int)) + 1))) (List.take (Int.toNat (List.length l : Int)) l))) 9223372036854775807) then (
          (D18 ((([] : List ((Int) × ((Int) × ((Bool) × (List (Int)))))) ++ (List.drop (Int.toNat 0) (List.take (Int.toNat (Int.tmod (IntKind.i64.wrap at_) (List.length l : Int))) l))) ++ (List.drop (Int.toNat (IntKind.i64.wrap ((Int.tmod (IntKind.i64.wrap at_) (List.length l : Int)) + 1))) (List.take (Int.toNat (List.length l : Int)) l))) winch).bind fun r3 =>
          some (decide (r3 ≤ r2)))
        else none)
      else none)
    else none)
  else none : Option (Bool)) := by kernel_rfl

end Go.Proofs.Ythjplaicophnnaa.D
