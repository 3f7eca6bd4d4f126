import Derived.Test.YtchgholmoclbhaaT58
open Go Go.GD Go.Proofs
namespace Go.Proofs.Ytchgholmoclbhaa.D
/-! skiarea/network.New -/
noncomputable def D16 (a0 : Int) : Option (((List (Int)) × (List ((Int) × ((Int) × (List (Int)))))) × (Int)) := d16 a0
theorem e16 (sites : Int) : D16 sites = (
  bif decide (sites < 1) then some ((([] : List (Int)), ([] : List ((Int) × ((Int) × (List (Int)))))), 2)
  else bif decide (sites > 16) then some ((([] : List (Int)), ([] : List ((Int) × ((Int) × (List (Int)))))), 2)
  else bif (decide (0 ≤ (sites : Int)) && (decide ((sites : Int) ≤ sites) && (decide (8 * (sites : Int) ≤ (appendLimit : Int)) && decide ((sites : Int) ≤ 9223372036854775807)))) then some ((List.replicate (Int.toNat sites) (0 : Int), ([] : List ((Int) × ((Int) × (List (Int)))))), 0)
  else none : Option (((List (Int)) × (List ((Int) × ((Int) × (List (Int)))))) × (Int))) := by kernel_rfl

/-! skiarea/network.exists -/
noncomputable def D32 (a0 : (List (Int)) × (List ((Int) × ((Int) × (List (Int)))))) (a1 : Int) : Option (Bool) := d32 (a0, a1)
theorem e32 (n : (List (Int)) × (List ((Int) × ((Int) × (List (Int)))))) (site : Int) : D32 n site = (
  bif decide (site ≥ 0) then some (decide (site < (List.length n.1 : Int)))
  else some false : Option (Bool)) := by kernel_rfl

/-! skiarea/network.Can -/
noncomputable def D18 (a0 : (List (Int)) × (List ((Int) × ((Int) × (List (Int)))))) (a1 : Int) (a2 : Int) : Option (Bool) := d18 (a0, a1, a2)
theorem e18 (n : (List (Int)) × (List ((Int) × ((Int) × (List (Int)))))) (a : Int) (b : Int) : D18 n a b = (
  (D32 n a).bind fun r =>
  bif r then (
    (D32 n b).bind fun r1 =>
    bif r1 then (
      (idx n.1 a).bind fun e =>
      (idx n.1 b).bind fun e1 =>
      some (e == e1))
    else some false)
  else some false : Option (Bool)) := by kernel_rfl

noncomputable def D39 (a0 : List (Int)) : Option (List (Int)) := d39 a0
theorem e39 (s : List (Int)) : D39 s = (bif (Nat.ble ((List.length ([] : List (Int)) + List.length s) * 1) appendLimit && Nat.ble (List.length ([] : List (Int)) + List.length s) 9223372036854775807) then some (([] : List (Int)) ++ s) else none) := rfl

noncomputable def D40 (a0 : List (Int)) : Option (List (Int)) := d40 a0
theorem e40 (s : List (Int)) : D40 s = (bif (Nat.ble ((List.length ([] : List (Int)) + List.length s) * 8) appendLimit && Nat.ble (List.length ([] : List (Int)) + List.length s) 9223372036854775807) then some (([] : List (Int)) ++ s) else none) := rfl

/-! skiarea/network.copied -/
noncomputable def D33 (a0 : (List (Int)) × (List ((Int) × ((Int) × (List (Int)))))) : Option ((List (Int)) × (List ((Int) × ((Int) × (List (Int)))))) := d33 a0
noncomputable def lp33_1 (fuel : Nat)  (n1₀ : (List (Int)) × (List ((Int) × ((Int) × (List (Int)))))) (v₀ : (List (Int)) × (List ((Int) × ((Int) × (List (Int)))))) (mail₀ : List ((Int) × ((Int) × (List (Int))))) (v1₀ : List ((Int) × ((Int) × (List (Int))))) (v2₀ : Int) (v3₀ : Int) : Option ((List (Int)) × (List ((Int) × ((Int) × (List (Int)))))) :=
  iter (fun F ((n1, v, mail, v1, v2, v3) : ((List (Int)) × (List ((Int) × ((Int) × (List (Int)))))) × ((List (Int)) × (List ((Int) × ((Int) × (List (Int)))))) × (List ((Int) × ((Int) × (List (Int))))) × (List ((Int) × ((Int) × (List (Int))))) × Int × Int) =>
    bif decide (v3 < v2) then (
      (idx v1 v3).bind fun e =>
      (D39 e.2.2).bind fun r =>
      bif (Nat.ble ((List.length mail + List.length [(e.1, e.2.1, r)]) * 40) appendLimit && Nat.ble (List.length mail + List.length [(e.1, e.2.1, r)]) 9223372036854775807) then F (n1, v, mail ++ [(e.1, e.2.1, r)], v1, v2, IntKind.i64.wrap (v3 + 1))
      else none)
    else (D40 n1.1).bind fun r =>
    some (r, mail)) fuel (n1₀, v₀, mail₀, v1₀, v2₀, v3₀)

theorem f33_1  (n1 : (List (Int)) × (List ((Int) × ((Int) × (List (Int)))))) (v : (List (Int)) × (List ((Int) × ((Int) × (List (Int)))))) (mail : List ((Int) × ((Int) × (List (Int))))) (v1 : List ((Int) × ((Int) × (List (Int))))) (hl : (v1).length ≤ maxLen) : lp33_1 big n1 v mail v1 (List.length v1 : Int) 0 =
  forE (fun  el (mail : (List ((Int) × ((Int) × (List (Int)))))) K =>
    ((D39 el.2.2).bind fun r =>
    bif (Nat.ble ((List.length mail + List.length [(el.1, el.2.1, r)]) * 40) appendLimit && Nat.ble (List.length mail + List.length [(el.1, el.2.1, r)]) 9223372036854775807) then K (mail ++ [(el.1, el.2.1, r)])
    else none : Option ((List (Int)) × (List ((Int) × ((Int) × (List (Int))))))))
    (fun (mail : (List ((Int) × ((Int) × (List (Int)))))) =>
    ((D40 n1.1).bind fun r =>
    some (r, mail) : Option ((List (Int)) × (List ((Int) × ((Int) × (List (Int)))))))) v1 mail := by
  refine iter_forE v1 (fun ix (mail : (List ((Int) × ((Int) × (List (Int)))))) => (n1, v, mail, v1, (List.length v1 : Int), (ix : Int))) _ _ ?_ ?_ (len_lt_big hl) mail
  · rintro F k h mail
    simp only [dec_lt h, condT, idx_get h, bindS, wrap_succ h hl]
  · rintro F mail
    simp only [dec_end, condF]

theorem g33 (fuel : Nat) (n : (List (Int)) × (List ((Int) × ((Int) × (List (Int)))))) : (fnK tab env33 6 ann33 fuel Try.f33 [] ps33 rs33 true n : Option ((List (Int)) × (List ((Int) × ((Int) × (List (Int))))))) = (
  bif (decide (0 ≤ (0 : Int)) && (decide ((0 : Int) ≤ IntKind.i64.wrap ((List.length n.2 : Int) + 1)) && (decide (40 * (IntKind.i64.wrap ((List.length n.2 : Int) + 1) : Int) ≤ (appendLimit : Int)) && decide ((IntKind.i64.wrap ((List.length n.2 : Int) + 1) : Int) ≤ 9223372036854775807)))) then lp33_1 fuel n (([] : List (Int)), ([] : List ((Int) × ((Int) × (List (Int)))))) (List.replicate (Int.toNat 0) (0, 0, ([] : List (Int)))) n.2 (List.length n.2 : Int) 0
  else none : Option ((List (Int)) × (List ((Int) × ((Int) × (List (Int))))))) := by kernel_rfl
theorem e33 (n : (List (Int)) × (List ((Int) × ((Int) × (List (Int)))))) : D33 n = (
  bif (decide (0 ≤ (0 : Int)) && (decide ((0 : Int) ≤ IntKind.i64.wrap ((List.length n.2 : Int) + 1)) && (decide (40 * (IntKind.i64.wrap ((List.length n.2 : Int) + 1) : Int) ≤ (appendLimit : Int)) && decide ((IntKind.i64.wrap ((List.length n.2 : Int) + 1) : Int) ≤ 9223372036854775807)))) then lp33_1 big n (([] : List (Int)), ([] : List ((Int) × ((Int) × (List (Int)))))) (List.replicate (Int.toNat 0) (0, 0, ([] : List (Int)))) n.2 (List.length n.2 : Int) 0
  else none : Option ((List (Int)) × (List ((Int) × ((Int) × (List (Int))))))) := g33 big n

noncomputable def D34 (a0 : List ((Int) × ((Int) × (List (Int))))) (a1 : Int) (a2 : Int) : Option (List ((Int) × ((Int) × (List (Int))))) := d34 (a0, a1, a2)

/-! skiarea/network.Deliver -/
noncomputable def D19 (a0 : (List (Int)) × (List ((Int) × ((Int) × (List (Int)))))) (a1 : Int) : Option (((List (Int)) × (List ((Int) × ((Int) × (List (Int)))))) × (((Int) × ((Int) × (List (Int)))) × (Int))) := d19 (a0, a1)
theorem e19 (n : (List (Int)) × (List ((Int) × ((Int) × (List (Int)))))) (i : Int) : D19 n i = (
  bif decide (i < 0) then some ((([] : List (Int)), ([] : List ((Int) × ((Int) × (List (Int)))))), (0, 0, ([] : List (Int))), 8)
  else bif decide (i ≥ (List.length n.2 : Int)) then some ((([] : List (Int)), ([] : List ((Int) × ((Int) × (List (Int)))))), (0, 0, ([] : List (Int))), 8)
  else (idx n.2 i).bind fun e =>
  (idx n.2 i).bind fun e1 =>
  (D18 n e.1 e1.2.1).bind fun r =>
  bif (!r) then some ((([] : List (Int)), ([] : List ((Int) × ((Int) × (List (Int)))))), (0, 0, ([] : List (Int))), 13)
  else (D33 n).bind fun r1 =>
  (idx r1.2 i).bind fun e2 =>
  (D34 r1.2 i (IntKind.i64.wrap (i + 1))).bind fun r2 =>
  some ((r1.1, r2), e2, 0) : Option (((List (Int)) × (List ((Int) × ((Int) × (List (Int)))))) × (((Int) × ((Int) × (List (Int)))) × (Int)))) := by kernel_rfl

/-! skiarea/network.messageRight -/
noncomputable def D36 (a0 : (List (Int)) × (List ((Int) × ((Int) × (List (Int)))))) (a1 : Int) (a2 : Int) (a3 : List (Int)) : Option (Int) := d36 (a0, a1, a2, a3)
theorem e36 (n : (List (Int)) × (List ((Int) × ((Int) × (List (Int)))))) (from_ : Int) (to : Int) (body : List (Int)) : D36 n from_ to body = (
  (D32 n from_).bind fun r =>
  bif (!r) then some 8
  else (D32 n to).bind fun r1 =>
  bif (!r1) then some 8
  else bif (from_ == to) then some 1
  else bif decide ((List.length body : Int) > 2000) then some 4
  else some 0 : Option (Int)) := by kernel_rfl

/-! skiarea/network.Send -/
noncomputable def D23 (a0 : (List (Int)) × (List ((Int) × ((Int) × (List (Int)))))) (a1 : Int) (a2 : Int) (a3 : List (Int)) : Option (((List (Int)) × (List ((Int) × ((Int) × (List (Int)))))) × (Int)) := d23 (a0, a1, a2, a3)
theorem e23 (n : (List (Int)) × (List ((Int) × ((Int) × (List (Int)))))) (from_ : Int) (to : Int) (body : List (Int)) : D23 n from_ to body = (
  (D36 n from_ to body).bind fun r =>
  bif (r != 0) then some ((([] : List (Int)), ([] : List ((Int) × ((Int) × (List (Int)))))), r)
  else bif decide ((List.length n.2 : Int) ≥ 256) then some ((([] : List (Int)), ([] : List ((Int) × ((Int) × (List (Int)))))), 9)
  else (D33 n).bind fun r1 =>
  (D39 body).bind fun r2 =>
  bif (Nat.ble ((List.length r1.2 + List.length [(from_, to, r2)]) * 40) appendLimit && Nat.ble (List.length r1.2 + List.length [(from_, to, r2)]) 9223372036854775807) then some ((r1.1, r1.2 ++ [(from_, to, r2)]), 0)
  else none : Option (((List (Int)) × (List ((Int) × ((Int) × (List (Int)))))) × (Int))) := by kernel_rfl

/-! skiarea/network.partsRight -/
noncomputable def D35 (a0 : List (Int)) : Option (Bool) := d35 a0
noncomputable def lp35_1 (fuel : Nat)  (v₀ : List (Int)) (v1₀ : Int) (v2₀ : Int) : Option (Bool) :=
  iter (fun F ((v, v1, v2) : (List (Int)) × Int × Int) =>
    bif decide (v2 < v1) then (
      (idx v v2).bind fun e =>
      bif decide (e < 0) then some false
      else bif decide (e > 16) then some false
      else F (v, v1, IntKind.i64.wrap (v2 + 1)))
    else some true) fuel (v₀, v1₀, v2₀)

theorem f35_1  (v : List (Int)) (hl : (v).length ≤ maxLen) : lp35_1 big v (List.length v : Int) 0 =
  forE (fun  el (_ : Unit) K =>
    (bif decide (el < 0) then some false
    else bif decide (el > 16) then some false
    else K () : Option (Bool)))
    (fun (_ : Unit) =>
    (some true : Option (Bool))) v () := by
  refine iter_forE v (fun ix (_ : Unit) => (v, (List.length v : Int), (ix : Int))) _ _ ?_ ?_ (len_lt_big hl) ()
  · rintro F k h _
    simp only [dec_lt h, condT, idx_get h, bindS, wrap_succ h hl]
  · rintro F _
    simp only [dec_end, condF]

theorem g35 (fuel : Nat) (parts : List (Int)) : (fnK tab env35 5 ann35 fuel Try.f35 [] ps35 rs35 true parts : Option (Bool)) = (
  lp35_1 fuel parts (List.length parts : Int) 0 : Option (Bool)) := by kernel_rfl
theorem e35 (parts : List (Int)) : D35 parts = (
  lp35_1 big parts (List.length parts : Int) 0 : Option (Bool)) := g35 big parts

/-! skiarea/network.Split -/
noncomputable def D24 (a0 : (List (Int)) × (List ((Int) × ((Int) × (List (Int)))))) (a1 : List (Int)) : Option (((List (Int)) × (List ((Int) × ((Int) × (List (Int)))))) × (Int)) := d24 (a0, a1)
theorem e24 (n : (List (Int)) × (List ((Int) × ((Int) × (List (Int)))))) (parts : List (Int)) : D24 n parts = (
  bif ((List.length parts : Int) != (List.length n.1 : Int)) then some ((([] : List (Int)), ([] : List ((Int) × ((Int) × (List (Int)))))), 1)
  else (D35 parts).bind fun r =>
  bif (!r) then some ((([] : List (Int)), ([] : List ((Int) × ((Int) × (List (Int)))))), 1)
  else (D33 n).bind fun r1 =>
  (D40 parts).bind fun r2 =>
  some ((r2, r1.2), 0) : Option (((List (Int)) × (List ((Int) × ((Int) × (List (Int)))))) × (Int))) := by kernel_rfl

/-! skiarea/network.Copy -/
noncomputable def D25 (a0 : (List (Int)) × (List ((Int) × ((Int) × (List (Int)))))) (a1 : Int) : Option (((List (Int)) × (List ((Int) × ((Int) × (List (Int)))))) × (Int)) := d25 (a0, a1)
theorem e25 (n : (List (Int)) × (List ((Int) × ((Int) × (List (Int)))))) (i : Int) : D25 n i = (
  bif decide (i < 0) then some ((([] : List (Int)), ([] : List ((Int) × ((Int) × (List (Int)))))), 8)
  else bif decide (i ≥ (List.length n.2 : Int)) then some ((([] : List (Int)), ([] : List ((Int) × ((Int) × (List (Int)))))), 8)
  else bif decide ((List.length n.2 : Int) ≥ 256) then some ((([] : List (Int)), ([] : List ((Int) × ((Int) × (List (Int)))))), 9)
  else (D33 n).bind fun r =>
  (idx r.2 i).bind fun e =>
  (D39 e.2.2).bind fun r1 =>
  bif (Nat.ble ((List.length r.2 + List.length [(e.1, e.2.1, r1)]) * 40) appendLimit && Nat.ble (List.length r.2 + List.length [(e.1, e.2.1, r1)]) 9223372036854775807) then some ((r.1, r.2 ++ [(e.1, e.2.1, r1)]), 0)
  else none : Option (((List (Int)) × (List ((Int) × ((Int) × (List (Int)))))) × (Int))) := by kernel_rfl

/-! skiarea/network.Lose -/
noncomputable def D26 (a0 : (List (Int)) × (List ((Int) × ((Int) × (List (Int)))))) (a1 : Int) : Option (((List (Int)) × (List ((Int) × ((Int) × (List (Int)))))) × (Int)) := d26 (a0, a1)
theorem e26 (n : (List (Int)) × (List ((Int) × ((Int) × (List (Int)))))) (i : Int) : D26 n i = (
  bif decide (i < 0) then some ((([] : List (Int)), ([] : List ((Int) × ((Int) × (List (Int)))))), 8)
  else bif decide (i ≥ (List.length n.2 : Int)) then some ((([] : List (Int)), ([] : List ((Int) × ((Int) × (List (Int)))))), 8)
  else (D33 n).bind fun r =>
  (D34 r.2 i (IntKind.i64.wrap (i + 1))).bind fun r1 =>
  some ((r.1, r1), 0) : Option (((List (Int)) × (List ((Int) × ((Int) × (List (Int)))))) × (Int))) := by kernel_rfl

noncomputable def D9  : Option (Bool) := d9 ()
theorem aliveD : D9 = some true := alive

/-! skiarea/skiarearef58.New -/
noncomputable def D10 (a0 : Int) : Option (((List (Int)) × (List ((Int) × ((Int) × (List (Int)))))) × (Int)) := d10 a0
theorem e10 (sites : Int) : D10 sites = (
  bif decide (sites < 1) then some ((([] : List (Int)), ([] : List ((Int) × ((Int) × (List (Int)))))), 2)
  else bif decide (sites > 16) then some ((([] : List (Int)), ([] : List ((Int) × ((Int) × (List (Int)))))), 2)
  else bif (decide (0 ≤ (sites : Int)) && (decide ((sites : Int) ≤ sites) && (decide (8 * (sites : Int) ≤ (appendLimit : Int)) && decide ((sites : Int) ≤ 9223372036854775807)))) then some ((List.replicate (Int.toNat sites) (0 : Int), ([] : List ((Int) × ((Int) × (List (Int)))))), 0)
  else none : Option (((List (Int)) × (List ((Int) × ((Int) × (List (Int)))))) × (Int))) := by kernel_rfl

/-! skiarea/skiarealaw58.small -/
noncomputable def D11 (a0 : List ((Int) × ((Int) × ((Int) × ((List (Int)) × (List (Int))))))) : Option (Bool) := d11 a0
noncomputable def lp11_1 (fuel : Nat)  (l1₀ : List ((Int) × ((Int) × ((Int) × ((List (Int)) × (List (Int))))))) (i₀ : Int) : Option (Bool) :=
  iter (fun F ((l1, i) : (List ((Int) × ((Int) × ((Int) × ((List (Int)) × (List (Int))))))) × Int) =>
    bif decide (i < (List.length l1 : Int)) then (
      (idx l1 i).bind fun e =>
      bif decide ((List.length e.2.2.2.1 : Int) > 3000) then some false
      else (idx l1 i).bind fun e1 =>
      bif decide ((List.length e1.2.2.2.2 : Int) > 40) then some false
      else F (l1, IntKind.i64.wrap (i + 1)))
    else some true) fuel (l1₀, i₀)

theorem f11_1  (l1 : List ((Int) × ((Int) × ((Int) × ((List (Int)) × (List (Int))))))) (hl : (l1).length ≤ maxLen) : lp11_1 big l1 0 =
  forE (fun  el (_ : Unit) K =>
    (bif decide ((List.length el.2.2.2.1 : Int) > 3000) then some false
    else bif decide ((List.length el.2.2.2.2 : Int) > 40) then some false
    else K () : Option (Bool)))
    (fun (_ : Unit) =>
    (some true : Option (Bool))) l1 () := by
  refine iter_forE l1 (fun ix (_ : Unit) => (l1, (ix : Int))) _ _ ?_ ?_ (len_lt_big hl) ()
  · rintro F k h _
    simp only [dec_lt h, condT, idx_get h, bindS, wrap_succ h hl]
  · rintro F _
    simp only [dec_end, condF]

theorem g11 (fuel : Nat) (l : List ((Int) × ((Int) × ((Int) × ((List (Int)) × (List (Int))))))) : (fnK tab env11 4 ann11 fuel Try.f11 [] ps11 rs11 true l : Option (Bool)) = (
  bif decide ((List.length l : Int) > 40) then some false
  else lp11_1 fuel l 0 : Option (Bool)) := by kernel_rfl
theorem e11 (l : List ((Int) × ((Int) × ((Int) × ((List (Int)) × (List (Int))))))) : D11 l = (
  bif decide ((List.length l : Int) > 40) then some false
  else lp11_1 big l 0 : Option (Bool)) := g11 big l

/-! skiarea/skiarealaw58.done -/
noncomputable def D12 (a0 : (List (Int)) × (List ((Int) × ((Int) × (List (Int)))))) (a1 : (Int) × ((Int) × ((Int) × ((List (Int)) × (List (Int)))))) : Option (((List (Int)) × (List ((Int) × ((Int) × (List (Int)))))) × (((Int) × ((Int) × (List (Int)))) × (Int))) := d12 (a0, a1)
theorem e12 (n : (List (Int)) × (List ((Int) × ((Int) × (List (Int)))))) (o : (Int) × ((Int) × ((Int) × ((List (Int)) × (List (Int)))))) : D12 n o = (
  bif (o.1 == 0) then (
    (D23 n o.2.1 o.2.2.1 o.2.2.2.1).bind fun r =>
    some (r.1, (0, 0, ([] : List (Int))), r.2))
  else bif (o.1 == 1) then (
    (D19 n o.2.1).bind fun r =>
    some (r.1, r.2.1, r.2.2))
  else bif (o.1 == 2) then (
    (D26 n o.2.1).bind fun r =>
    some (r.1, (0, 0, ([] : List (Int))), r.2))
  else bif (o.1 == 3) then (
    (D25 n o.2.1).bind fun r =>
    some (r.1, (0, 0, ([] : List (Int))), r.2))
  else (D24 n o.2.2.2.2).bind fun r =>
  some (r.1, (0, 0, ([] : List (Int))), r.2) : Option (((List (Int)) × (List ((Int) × ((Int) × (List (Int)))))) × (((Int) × ((Int) × (List (Int)))) × (Int)))) := by kernel_rfl

/-! skiarea/skiarearef58.site -/
noncomputable def D44 (a0 : (List (Int)) × (List ((Int) × ((Int) × (List (Int)))))) (a1 : Int) : Option (Bool) := d44 (a0, a1)
theorem e44 (n : (List (Int)) × (List ((Int) × ((Int) × (List (Int)))))) (a : Int) : D44 n a = (
  bif decide (a ≥ 0) then some (decide (a < (List.length n.1 : Int)))
  else some false : Option (Bool)) := by kernel_rfl

/-! skiarea/skiarearef58.message -/
noncomputable def D38 (a0 : (List (Int)) × (List ((Int) × ((Int) × (List (Int)))))) (a1 : (Int) × ((Int) × (List (Int)))) : Option (Int) := d38 (a0, a1)
theorem e38 (n : (List (Int)) × (List ((Int) × ((Int) × (List (Int)))))) (m : (Int) × ((Int) × (List (Int)))) : D38 n m = (
  (D44 n m.1).bind fun r =>
  bif (!r) then some 8
  else (D44 n m.2.1).bind fun r1 =>
  bif (!r1) then some 8
  else bif (m.1 == m.2.1) then some 1
  else bif decide ((List.length m.2.2 : Int) > 2000) then some 4
  else some 0 : Option (Int)) := by kernel_rfl

/-! skiarea/skiarearef58.add -/
noncomputable def D41 (a0 : (List (Int)) × (List ((Int) × ((Int) × (List (Int)))))) (a1 : (Int) × ((Int) × (List (Int)))) : Option ((List (Int)) × (List ((Int) × ((Int) × (List (Int)))))) := d41 (a0, a1)
theorem e41 (n : (List (Int)) × (List ((Int) × ((Int) × (List (Int)))))) (m : (Int) × ((Int) × (List (Int)))) : D41 n m = (
  bif (Nat.ble ((List.length ([] : List (Int)) + List.length m.2.2) * 1) appendLimit && Nat.ble (List.length ([] : List (Int)) + List.length m.2.2) 9223372036854775807) then (
    bif (Nat.ble ((List.length ([] : List ((Int) × ((Int) × (List (Int))))) + List.length n.2) * 40) appendLimit && Nat.ble (List.length ([] : List ((Int) × ((Int) × (List (Int))))) + List.length n.2) 9223372036854775807) then (
      bif (Nat.ble ((List.length (([] : List ((Int) × ((Int) × (List (Int))))) ++ n.2) + List.length [(m.1, m.2.1, ([] : List (Int)) ++ m.2.2)]) * 40) appendLimit && Nat.ble (List.length (([] : List ((Int) × ((Int) × (List (Int))))) ++ n.2) + List.length [(m.1, m.2.1, ([] : List (Int)) ++ m.2.2)]) 9223372036854775807) then some (n.1, (([] : List ((Int) × ((Int) × (List (Int))))) ++ n.2) ++ [(m.1, m.2.1, ([] : List (Int)) ++ m.2.2)])
      else none)
    else none)
  else none : Option ((List (Int)) × (List ((Int) × ((Int) × (List (Int))))))) := by kernel_rfl

/-! skiarea/skiarearef58.Send -/
noncomputable def D27 (a0 : (List (Int)) × (List ((Int) × ((Int) × (List (Int)))))) (a1 : Int) (a2 : Int) (a3 : List (Int)) : Option (((List (Int)) × (List ((Int) × ((Int) × (List (Int)))))) × (Int)) := d27 (a0, a1, a2, a3)
theorem e27 (n : (List (Int)) × (List ((Int) × ((Int) × (List (Int)))))) (from_ : Int) (to : Int) (body : List (Int)) : D27 n from_ to body = (
  (D38 n (from_, to, body)).bind fun r =>
  bif (r != 0) then some ((([] : List (Int)), ([] : List ((Int) × ((Int) × (List (Int)))))), r)
  else bif decide ((List.length n.2 : Int) ≥ 256) then some ((([] : List (Int)), ([] : List ((Int) × ((Int) × (List (Int)))))), 9)
  else (D41 n (from_, to, body)).bind fun r1 =>
  some (r1, 0) : Option (((List (Int)) × (List ((Int) × ((Int) × (List (Int)))))) × (Int))) := by kernel_rfl

/-! skiarea/skiarearef58.Can -/
noncomputable def D42 (a0 : (List (Int)) × (List ((Int) × ((Int) × (List (Int)))))) (a1 : Int) (a2 : Int) : Option (Bool) := d42 (a0, a1, a2)
theorem e42 (n : (List (Int)) × (List ((Int) × ((Int) × (List (Int)))))) (a : Int) (b : Int) : D42 n a b = (
  (D44 n a).bind fun r =>
  bif r then (
    (D44 n b).bind fun r1 =>
    bif r1 then (
      (idx n.1 a).bind fun e =>
      (idx n.1 b).bind fun e1 =>
      some (e == e1))
    else some false)
  else some false : Option (Bool)) := by kernel_rfl

/-! skiarea/skiarearef58.without -/
noncomputable def D43 (a0 : (List (Int)) × (List ((Int) × ((Int) × (List (Int)))))) (a1 : Int) : Option ((List (Int)) × (List ((Int) × ((Int) × (List (Int)))))) := d43 (a0, a1)
theorem e43 (n : (List (Int)) × (List ((Int) × ((Int) × (List (Int)))))) (i : Int) : D43 n i = (
  bif (decide (0 ≤ (0 : Int)) && (decide ((0 : Int) ≤ i) && decide ((i : Int) ≤ (List.length n.2 : Int)))) then (
    bif (Nat.ble ((List.length ([] : List ((Int) × ((Int) × (List (Int))))) + List.length (List.drop (Int.toNat 0) (List.take (Int.toNat i) n.2))) * 40) appendLimit && Nat.ble (List.length ([] : List ((Int) × ((Int) × (List (Int))))) + List.length (List.drop (Int.toNat 0) (List.take (Int.toNat i) n.2))) 9223372036854775807) then (
      bif (decide (0 ≤ (IntKind.i64.wrap (i + 1) : Int)) && (decide ((IntKind.i64.wrap (i + 1) : Int) ≤ (List.length n.2 : Int)) && decide (((List.length n.2 : Int) : Int) ≤ (List.length n.2 : Int)))) then (
        bif (Nat.ble ((List.length (([] : List ((Int) × ((Int) × (List (Int))))) ++ (List.drop (Int.toNat 0) (List.take (Int.toNat i) n.2))) + List.length (List.drop (Int.toNat (IntKind.i64.wrap (i + 1))) (List.take (Int.toNat (List.length n.2 : Int)) n.2))) * 40) appendLimit && Nat.ble (List.length (([] : List ((Int) × ((Int) × (List (Int))))) ++ (List.drop (Int.toNat 0) (List.take (Int.toNat i) n.2))) + List.length (List.drop (Int.toNat (IntKind.i64.wrap (i + 1))) (List.take (Int.toNat (List.length n.2 : Int)) n.2))) 9223372036854775807) then some (n.1, (([] : List ((Int) × ((Int) × (List (Int))))) ++ (List.drop (Int.toNat 0) (List.take (Int.toNat i) n.2))) ++ (List.drop (Int.toNat (IntKind.i64.wrap (i + 1))) (List.take (Int.toNat (List.length n.2 : Int)) n.2)))
        else none)
      else none)
    else none)
  else none : Option ((List (Int)) × (List ((Int) × ((Int) × (List (Int))))))) := by kernel_rfl

/-! skiarea/skiarearef58.Deliver -/
noncomputable def D28 (a0 : (List (Int)) × (List ((Int) × ((Int) × (List (Int)))))) (a1 : Int) : Option (((List (Int)) × (List ((Int) × ((Int) × (List (Int)))))) × (((Int) × ((Int) × (List (Int)))) × (Int))) := d28 (a0, a1)
theorem e28 (n : (List (Int)) × (List ((Int) × ((Int) × (List (Int)))))) (i : Int) : D28 n i = (
  bif decide (i < 0) then some ((([] : List (Int)), ([] : List ((Int) × ((Int) × (List (Int)))))), (0, 0, ([] : List (Int))), 8)
  else bif decide (i ≥ (List.length n.2 : Int)) then some ((([] : List (Int)), ([] : List ((Int) × ((Int) × (List (Int)))))), (0, 0, ([] : List (Int))), 8)
  else (idx n.2 i).bind fun e =>
  (D42 n e.1 e.2.1).bind fun r =>
  bif (!r) then some ((([] : List (Int)), ([] : List ((Int) × ((Int) × (List (Int)))))), (0, 0, ([] : List (Int))), 13)
  else (D43 n i).bind fun r1 =>
  some (r1, e, 0) : Option (((List (Int)) × (List ((Int) × ((Int) × (List (Int)))))) × (((Int) × ((Int) × (List (Int)))) × (Int)))) := by kernel_rfl

/-! skiarea/skiarearef58.Lose -/
noncomputable def D29 (a0 : (List (Int)) × (List ((Int) × ((Int) × (List (Int)))))) (a1 : Int) : Option (((List (Int)) × (List ((Int) × ((Int) × (List (Int)))))) × (Int)) := d29 (a0, a1)
theorem e29 (n : (List (Int)) × (List ((Int) × ((Int) × (List (Int)))))) (i : Int) : D29 n i = (
  bif decide (i < 0) then some ((([] : List (Int)), ([] : List ((Int) × ((Int) × (List (Int)))))), 8)
  else bif decide (i ≥ (List.length n.2 : Int)) then some ((([] : List (Int)), ([] : List ((Int) × ((Int) × (List (Int)))))), 8)
  else (D43 n i).bind fun r =>
  some (r, 0) : Option (((List (Int)) × (List ((Int) × ((Int) × (List (Int)))))) × (Int))) := by kernel_rfl

/-! skiarea/skiarearef58.Copy -/
noncomputable def D30 (a0 : (List (Int)) × (List ((Int) × ((Int) × (List (Int)))))) (a1 : Int) : Option (((List (Int)) × (List ((Int) × ((Int) × (List (Int)))))) × (Int)) := d30 (a0, a1)
theorem e30 (n : (List (Int)) × (List ((Int) × ((Int) × (List (Int)))))) (i : Int) : D30 n i = (
  bif decide (i < 0) then some ((([] : List (Int)), ([] : List ((Int) × ((Int) × (List (Int)))))), 8)
  else bif decide (i ≥ (List.length n.2 : Int)) then some ((([] : List (Int)), ([] : List ((Int) × ((Int) × (List (Int)))))), 8)
  else bif decide ((List.length n.2 : Int) ≥ 256) then some ((([] : List (Int)), ([] : List ((Int) × ((Int) × (List (Int)))))), 9)
  else (idx n.2 i).bind fun e =>
  (D41 n e).bind fun r =>
  some (r, 0) : Option (((List (Int)) × (List ((Int) × ((Int) × (List (Int)))))) × (Int))) := by kernel_rfl

/-! skiarea/skiarearef58.parts -/
noncomputable def D37 (a0 : List (Int)) : Option (Bool) := d37 a0
noncomputable def lp37_1 (fuel : Nat)  (l1₀ : List (Int)) (i₀ : Int) : Option (Bool) :=
  iter (fun F ((l1, i) : (List (Int)) × Int) =>
    bif decide (i < (List.length l1 : Int)) then (
      (idx l1 i).bind fun e =>
      bif decide (e < 0) then some false
      else (idx l1 i).bind fun e1 =>
      bif decide (e1 > 16) then some false
      else F (l1, IntKind.i64.wrap (i + 1)))
    else some true) fuel (l1₀, i₀)

theorem f37_1  (l1 : List (Int)) (hl : (l1).length ≤ maxLen) : lp37_1 big l1 0 =
  forE (fun  el (_ : Unit) K =>
    (bif decide (el < 0) then some false
    else bif decide (el > 16) then some false
    else K () : Option (Bool)))
    (fun (_ : Unit) =>
    (some true : Option (Bool))) l1 () := by
  refine iter_forE l1 (fun ix (_ : Unit) => (l1, (ix : Int))) _ _ ?_ ?_ (len_lt_big hl) ()
  · rintro F k h _
    simp only [dec_lt h, condT, idx_get h, bindS, wrap_succ h hl]
  · rintro F _
    simp only [dec_end, condF]

theorem g37 (fuel : Nat) (l : List (Int)) : (fnK tab env37 4 ann37 fuel Try.f37 [] ps37 rs37 true l : Option (Bool)) = (
  lp37_1 fuel l 0 : Option (Bool)) := by kernel_rfl
theorem e37 (l : List (Int)) : D37 l = (
  lp37_1 big l 0 : Option (Bool)) := g37 big l

/-! skiarea/skiarearef58.Split -/
noncomputable def D31 (a0 : (List (Int)) × (List ((Int) × ((Int) × (List (Int)))))) (a1 : List (Int)) : Option (((List (Int)) × (List ((Int) × ((Int) × (List (Int)))))) × (Int)) := d31 (a0, a1)
theorem e31 (n : (List (Int)) × (List ((Int) × ((Int) × (List (Int)))))) (l : List (Int)) : D31 n l = (
  bif ((List.length l : Int) != (List.length n.1 : Int)) then some ((([] : List (Int)), ([] : List ((Int) × ((Int) × (List (Int)))))), 1)
  else (D37 l).bind fun r =>
  bif (!r) then some ((([] : List (Int)), ([] : List ((Int) × ((Int) × (List (Int)))))), 1)
  else bif (Nat.ble ((List.length ([] : List (Int)) + List.length l) * 8) appendLimit && Nat.ble (List.length ([] : List (Int)) + List.length l) 9223372036854775807) then some ((([] : List (Int)) ++ l, n.2), 0)
  else none : Option (((List (Int)) × (List ((Int) × ((Int) × (List (Int)))))) × (Int))) := by kernel_rfl

/-! skiarea/skiarealaw58.expected -/
noncomputable def D13 (a0 : (List (Int)) × (List ((Int) × ((Int) × (List (Int)))))) (a1 : (Int) × ((Int) × ((Int) × ((List (Int)) × (List (Int)))))) : Option (((List (Int)) × (List ((Int) × ((Int) × (List (Int)))))) × (((Int) × ((Int) × (List (Int)))) × (Int))) := d13 (a0, a1)
theorem e13 (n : (List (Int)) × (List ((Int) × ((Int) × (List (Int)))))) (o : (Int) × ((Int) × ((Int) × ((List (Int)) × (List (Int)))))) : D13 n o = (
  bif (o.1 == 0) then (
    (D27 n o.2.1 o.2.2.1 o.2.2.2.1).bind fun r =>
    some (r.1, (0, 0, ([] : List (Int))), r.2))
  else bif (o.1 == 1) then (
    (D28 n o.2.1).bind fun r =>
    some (r.1, r.2.1, r.2.2))
  else bif (o.1 == 2) then (
    (D29 n o.2.1).bind fun r =>
    some (r.1, (0, 0, ([] : List (Int))), r.2))
  else bif (o.1 == 3) then (
    (D30 n o.2.1).bind fun r =>
    some (r.1, (0, 0, ([] : List (Int))), r.2))
  else (D31 n o.2.2.2.2).bind fun r =>
  some (r.1, (0, 0, ([] : List (Int))), r.2) : Option (((List (Int)) × (List ((Int) × ((Int) × (List (Int)))))) × (((Int) × ((Int) × (List (Int)))) × (Int)))) := by kernel_rfl

/-! skiarea/skiarearef58.SameMessage -/
noncomputable def D15 (a0 : (Int) × ((Int) × (List (Int)))) (a1 : (Int) × ((Int) × (List (Int)))) : Option (Bool) := d15 (a0, a1)
theorem e15 (a : (Int) × ((Int) × (List (Int)))) (b : (Int) × ((Int) × (List (Int)))) : D15 a b = (
  bif (a.1 == b.1) then (
    bif (a.2.1 == b.2.1) then some (List.map (fun (n : Int) => UInt8.ofNat n.toNat) a.2.2 == List.map (fun (n : Int) => UInt8.ofNat n.toNat) b.2.2)
    else some false)
  else some false : Option (Bool)) := by kernel_rfl

/-! skiarea/skiarearef58.Same -/
noncomputable def D14 (a0 : (List (Int)) × (List ((Int) × ((Int) × (List (Int)))))) (a1 : (List (Int)) × (List ((Int) × ((Int) × (List (Int)))))) : Option (Bool) := d14 (a0, a1)
noncomputable def lp14_1 (fuel : Nat)  (a2₀ : (List (Int)) × (List ((Int) × ((Int) × (List (Int)))))) (b2₀ : (List (Int)) × (List ((Int) × ((Int) × (List (Int)))))) (i1₀ : Int) : Option (Bool) :=
  iter (fun F1 ((a2, b2, i1) : ((List (Int)) × (List ((Int) × ((Int) × (List (Int)))))) × ((List (Int)) × (List ((Int) × ((Int) × (List (Int)))))) × Int) =>
    bif decide (i1 < (List.length a2.2 : Int)) then (
      (idx a2.2 i1).bind fun e =>
      (idx b2.2 i1).bind fun e1 =>
      (D15 e e1).bind fun r =>
      bif (!r) then some false
      else F1 (a2, b2, IntKind.i64.wrap (i1 + 1)))
    else some true) fuel (a2₀, b2₀, i1₀)

theorem f14_1  (a2 : (List (Int)) × (List ((Int) × ((Int) × (List (Int)))))) (b2 : (List (Int)) × (List ((Int) × ((Int) × (List (Int)))))) (hl : (a2.2).length ≤ maxLen) : lp14_1 big a2 b2 0 =
  forI (fun ix el (_ : Unit) K =>
    ((idx b2.2 (ix : Int)).bind fun e1 =>
    (D15 el e1).bind fun r =>
    bif (!r) then some false
    else K () : Option (Bool)))
    (fun (_ : Unit) =>
    (some true : Option (Bool))) 0 a2.2 () := by
  refine iter_forI_from a2.2 (fun ix (_ : Unit) => (a2, b2, (ix : Int))) _ _ ?_ ?_ (k := 0) (Nat.zero_le _) (len_lt_big hl) ()
  · rintro F k h _
    simp only [dec_lt h, condT, idx_get h, bindS, wrap_succ h hl]
  · rintro F _
    simp only [dec_end, condF]

noncomputable def lp14_3 (fuel : Nat)  (a1₀ : (List (Int)) × (List ((Int) × ((Int) × (List (Int)))))) (b1₀ : (List (Int)) × (List ((Int) × ((Int) × (List (Int)))))) (i₀ : Int) : Option (Bool) :=
  iter (fun F ((a1, b1, i) : ((List (Int)) × (List ((Int) × ((Int) × (List (Int)))))) × ((List (Int)) × (List ((Int) × ((Int) × (List (Int)))))) × Int) =>
    bif decide (i < (List.length a1.1 : Int)) then (
      (idx a1.1 i).bind fun e =>
      (idx b1.1 i).bind fun e1 =>
      bif (e != e1) then some false
      else F (a1, b1, IntKind.i64.wrap (i + 1)))
    else lp14_1 fuel a1 b1 0) fuel (a1₀, b1₀, i₀)

theorem f14_3  (a1 : (List (Int)) × (List ((Int) × ((Int) × (List (Int)))))) (b1 : (List (Int)) × (List ((Int) × ((Int) × (List (Int)))))) (hl : (a1.1).length ≤ maxLen) : lp14_3 big a1 b1 0 =
  forI (fun ix el (_ : Unit) K =>
    ((idx b1.1 (ix : Int)).bind fun e1 =>
    bif (el != e1) then some false
    else K () : Option (Bool)))
    (fun (_ : Unit) =>
    (lp14_1 big a1 b1 0 : Option (Bool))) 0 a1.1 () := by
  refine iter_forI_from a1.1 (fun ix (_ : Unit) => (a1, b1, (ix : Int))) _ _ ?_ ?_ (k := 0) (Nat.zero_le _) (len_lt_big hl) ()
  · rintro F k h _
    simp only [dec_lt h, condT, idx_get h, bindS, wrap_succ h hl]
  · rintro F _
    simp only [dec_end, condF]

theorem g14 (fuel : Nat) (a : (List (Int)) × (List ((Int) × ((Int) × (List (Int)))))) (b : (List (Int)) × (List ((Int) × ((Int) × (List (Int)))))) : (fnK tab env14 7 ann14 fuel Try.f14 [] ps14 rs14 true (a, b) : Option (Bool)) = (
  bif ((List.length a.1 : Int) != (List.length b.1 : Int)) then some false
  else bif ((List.length a.2 : Int) != (List.length b.2 : Int)) then some false
  else lp14_3 fuel a b 0 : Option (Bool)) := by kernel_rfl
theorem e14 (a : (List (Int)) × (List ((Int) × ((Int) × (List (Int)))))) (b : (List (Int)) × (List ((Int) × ((Int) × (List (Int)))))) : D14 a b = (
  bif ((List.length a.1 : Int) != (List.length b.1 : Int)) then some false
  else bif ((List.length a.2 : Int) != (List.length b.2 : Int)) then some false
  else lp14_3 big a b 0 : Option (Bool)) := g14 big a b

/-! skiarea/skiarealaw58.NetworkPlays -/
noncomputable def D3 (a0 : Int) (a1 : List ((Int) × ((Int) × ((Int) × ((List (Int)) × (List (Int))))))) : Option (Bool) := d3 (a0, a1)
noncomputable def lp3_1 (fuel : Nat)  (l1₀ : List ((Int) × ((Int) × ((Int) × ((List (Int)) × (List (Int))))))) (n₀ : (List (Int)) × (List ((Int) × ((Int) × (List (Int)))))) (i₀ : Int) : Option (Bool) :=
  iter (fun F ((l1, n, i) : (List ((Int) × ((Int) × ((Int) × ((List (Int)) × (List (Int))))))) × ((List (Int)) × (List ((Int) × ((Int) × (List (Int)))))) × Int) =>
    bif decide (i < (List.length l1 : Int)) then (
      (idx l1 i).bind fun e =>
      (D12 n e).bind fun r3 =>
      (idx l1 i).bind fun e1 =>
      (D13 n e1).bind fun r4 =>
      bif (r3.2.2 != r4.2.2) then some false
      else (D14 r3.1 r4.1).bind fun r5 =>
      bif (!r5) then some false
      else (D15 r3.2.1 r4.2.1).bind fun r6 =>
      bif (!r6) then some false
      else bif (r4.2.2 == 0) then F (l1, r4.1, IntKind.i64.wrap (i + 1))
      else F (l1, n, IntKind.i64.wrap (i + 1)))
    else some true) fuel (l1₀, n₀, i₀)

theorem f3_1  (l1 : List ((Int) × ((Int) × ((Int) × ((List (Int)) × (List (Int))))))) (n : (List (Int)) × (List ((Int) × ((Int) × (List (Int)))))) (hl : (l1).length ≤ maxLen) : lp3_1 big l1 n 0 =
  forE (fun  el (n : ((List (Int)) × (List ((Int) × ((Int) × (List (Int))))))) K =>
    ((D12 n el).bind fun r3 =>
    (D13 n el).bind fun r4 =>
    bif (r3.2.2 != r4.2.2) then some false
    else (D14 r3.1 r4.1).bind fun r5 =>
    bif (!r5) then some false
    else (D15 r3.2.1 r4.2.1).bind fun r6 =>
    bif (!r6) then some false
    else bif (r4.2.2 == 0) then K r4.1
    else K n : Option (Bool)))
    (fun (_ : ((List (Int)) × (List ((Int) × ((Int) × (List (Int))))))) =>
    (some true : Option (Bool))) l1 n := by
  refine iter_forE l1 (fun ix (n : ((List (Int)) × (List ((Int) × ((Int) × (List (Int))))))) => (l1, n, (ix : Int))) _ _ ?_ ?_ (len_lt_big hl) n
  · rintro F k h n
    simp only [dec_lt h, condT, idx_get h, bindS, wrap_succ h hl]
  · rintro F n
    simp only [dec_end, condF]

theorem g3 (fuel : Nat) (sites : Int) (l : List ((Int) × ((Int) × ((Int) × ((List (Int)) × (List (Int))))))) : (fnK tab env3 14 ann3 fuel Try.f3 [] ps3 rs3 true (sites, l) : Option (Bool)) = (
  (D9).bind fun r =>
  bif (!r) then some false
  else (D10 sites).bind fun r1 =>
  (D11 l).bind fun r2 =>
  bif (!r2) then some true
  else bif (r1.2 != 0) then some true
  else lp3_1 fuel l r1.1 0 : Option (Bool)) := by kernel_rfl
theorem e3 (sites : Int) (l : List ((Int) × ((Int) × ((Int) × ((List (Int)) × (List (Int))))))) : D3 sites l = (
  (D9).bind fun r =>
  bif (!r) then some false
  else (D10 sites).bind fun r1 =>
  (D11 l).bind fun r2 =>
  bif (!r2) then some true
  else bif (r1.2 != 0) then some true
  else lp3_1 big l r1.1 0 : Option (Bool)) := g3 big sites l

/-! skiarea/skiarealaw58.NetworkFull -/
noncomputable def D4 (a0 : Int) (a1 : Int) (a2 : (Int) × ((Int) × ((Int) × ((List (Int)) × (List (Int)))))) : Option (Bool) := d4 (a0, a1, a2)
noncomputable def lp4_1 (fuel : Nat)  (sites1₀ : Int) (many1₀ : Int) (o1₀ : (Int) × ((Int) × ((Int) × ((List (Int)) × (List (Int)))))) (n₀ : (List (Int)) × (List ((Int) × ((Int) × (List (Int)))))) (i₀ : Int) : Option (Bool) :=
  iter (fun F ((sites1, many1, o1, n, i) : Int × Int × ((Int) × ((Int) × ((Int) × ((List (Int)) × (List (Int)))))) × ((List (Int)) × (List ((Int) × ((Int) × (List (Int)))))) × Int) =>
    bif decide (i < many1) then (
      bif (sites1 == 0) then none
      else bif (sites1 == 0) then none
      else bif (Nat.ble ((List.length n.2 + List.length [(Int.tmod i sites1, Int.tmod (IntKind.i64.wrap (i + 1)) sites1, [IntKind.u8.wrap i])]) * 40) appendLimit && Nat.ble (List.length n.2 + List.length [(Int.tmod i sites1, Int.tmod (IntKind.i64.wrap (i + 1)) sites1, [IntKind.u8.wrap i])]) 9223372036854775807) then F (sites1, many1, o1, (n.1, n.2 ++ [(Int.tmod i sites1, Int.tmod (IntKind.i64.wrap (i + 1)) sites1, [IntKind.u8.wrap i])]), IntKind.i64.wrap (i + 1))
      else none)
    else (D12 n o1).bind fun r3 =>
    (D13 n o1).bind fun r4 =>
    bif (r3.2.2 == r4.2.2) then (
      (D14 r3.1 r4.1).bind fun r5 =>
      bif r5 then (
        (D15 r3.2.1 r4.2.1).bind fun r6 =>
        some r6)
      else some false)
    else some false) fuel (sites1₀, many1₀, o1₀, n₀, i₀)

theorem f4_1  (sites1 : Int) (many1 : Int) (o1 : (Int) × ((Int) × ((Int) × ((List (Int)) × (List (Int)))))) (n : (List (Int)) × (List ((Int) × ((Int) × (List (Int)))))) (hl : many1 ≤ 9223372036854775807) : lp4_1 big sites1 many1 o1 n 0 =
  forN (fun ix (n : ((List (Int)) × (List ((Int) × ((Int) × (List (Int))))))) K =>
    (bif (sites1 == 0) then none
    else bif (sites1 == 0) then none
    else bif (Nat.ble ((List.length n.2 + List.length [(Int.tmod (ix : Int) sites1, Int.tmod (IntKind.i64.wrap ((ix : Int) + 1)) sites1, [IntKind.u8.wrap (ix : Int)])]) * 40) appendLimit && Nat.ble (List.length n.2 + List.length [(Int.tmod (ix : Int) sites1, Int.tmod (IntKind.i64.wrap ((ix : Int) + 1)) sites1, [IntKind.u8.wrap (ix : Int)])]) 9223372036854775807) then K (n.1, n.2 ++ [(Int.tmod (ix : Int) sites1, Int.tmod (IntKind.i64.wrap ((ix : Int) + 1)) sites1, [IntKind.u8.wrap (ix : Int)])])
    else none : Option (Bool)))
    (fun (n : ((List (Int)) × (List ((Int) × ((Int) × (List (Int))))))) =>
    ((D12 n o1).bind fun r3 =>
    (D13 n o1).bind fun r4 =>
    bif (r3.2.2 == r4.2.2) then (
      (D14 r3.1 r4.1).bind fun r5 =>
      bif r5 then (
        (D15 r3.2.1 r4.2.1).bind fun r6 =>
        some r6)
      else some false)
    else some false : Option (Bool))) 0 (Int.toNat many1) n := by
  refine iter_forN (Int.toNat many1) (fun ix (n : ((List (Int)) × (List ((Int) × ((Int) × (List (Int))))))) => (sites1, many1, o1, n, (ix : Int))) _ _ ?_ ?_ (int_lt_big hl) n
  · rintro F k h n
    simp only [dec_lt_int h, condT, wrap_succ_int h hl]
  · rintro F n
    simp only [dec_end_int, condF]

theorem g4 (fuel : Nat) (sites : Int) (many : Int) (o : (Int) × ((Int) × ((Int) × ((List (Int)) × (List (Int)))))) : (fnK tab env4 15 ann4 fuel Try.f4 [] ps4 rs4 true (sites, many, o) : Option (Bool)) = (
  (D9).bind fun r =>
  bif (!r) then some false
  else (D10 sites).bind fun r1 =>
  bif (r1.2 != 0) then some true
  else bif decide (sites < 2) then some true
  else bif decide (many < 0) then some true
  else bif decide (many > 256) then some true
  else (D11 [o]).bind fun r2 =>
  bif (!r2) then some true
  else bif decide (o.1 < 0) then some true
  else bif decide (o.1 > 4) then some true
  else lp4_1 fuel sites many o r1.1 0 : Option (Bool)) := by kernel_rfl
theorem e4 (sites : Int) (many : Int) (o : (Int) × ((Int) × ((Int) × ((List (Int)) × (List (Int)))))) : D4 sites many o = (
  (D9).bind fun r =>
  bif (!r) then some false
  else (D10 sites).bind fun r1 =>
  bif (r1.2 != 0) then some true
  else bif decide (sites < 2) then some true
  else bif decide (many < 0) then some true
  else bif decide (many > 256) then some true
  else (D11 [o]).bind fun r2 =>
  bif (!r2) then some true
  else bif decide (o.1 < 0) then some true
  else bif decide (o.1 > 4) then some true
  else lp4_1 big sites many o r1.1 0 : Option (Bool)) := g4 big sites many o

/-! skiarea/skiarealaw58.after -/
noncomputable def D17 (a0 : (List (Int)) × (List ((Int) × ((Int) × (List (Int)))))) (a1 : List ((Int) × ((Int) × ((Int) × ((List (Int)) × (List (Int))))))) : Option ((List (Int)) × (List ((Int) × ((Int) × (List (Int)))))) := d17 (a0, a1)
noncomputable def lp17_1 (fuel : Nat)  (l1₀ : List ((Int) × ((Int) × ((Int) × ((List (Int)) × (List (Int))))))) (n1₀ : (List (Int)) × (List ((Int) × ((Int) × (List (Int)))))) (v₀ : (List (Int)) × (List ((Int) × ((Int) × (List (Int)))))) (i₀ : Int) : Option ((List (Int)) × (List ((Int) × ((Int) × (List (Int)))))) :=
  iter (fun F ((l1, n1, v, i) : (List ((Int) × ((Int) × ((Int) × ((List (Int)) × (List (Int))))))) × ((List (Int)) × (List ((Int) × ((Int) × (List (Int)))))) × ((List (Int)) × (List ((Int) × ((Int) × (List (Int)))))) × Int) =>
    bif decide (i < (List.length l1 : Int)) then (
      (idx l1 i).bind fun e =>
      (D12 n1 e).bind fun r =>
      bif (r.2.2 == 0) then F (l1, r.1, v, IntKind.i64.wrap (i + 1))
      else F (l1, n1, v, IntKind.i64.wrap (i + 1)))
    else some n1) fuel (l1₀, n1₀, v₀, i₀)

theorem f17_1  (l1 : List ((Int) × ((Int) × ((Int) × ((List (Int)) × (List (Int))))))) (n1 : (List (Int)) × (List ((Int) × ((Int) × (List (Int)))))) (v : (List (Int)) × (List ((Int) × ((Int) × (List (Int)))))) (hl : (l1).length ≤ maxLen) : lp17_1 big l1 n1 v 0 =
  forE (fun  el (n1 : ((List (Int)) × (List ((Int) × ((Int) × (List (Int))))))) K =>
    ((D12 n1 el).bind fun r =>
    bif (r.2.2 == 0) then K r.1
    else K n1 : Option ((List (Int)) × (List ((Int) × ((Int) × (List (Int))))))))
    (fun (n1 : ((List (Int)) × (List ((Int) × ((Int) × (List (Int))))))) =>
    (some n1 : Option ((List (Int)) × (List ((Int) × ((Int) × (List (Int)))))))) l1 n1 := by
  refine iter_forE l1 (fun ix (n1 : ((List (Int)) × (List ((Int) × ((Int) × (List (Int))))))) => (l1, n1, v, (ix : Int))) _ _ ?_ ?_ (len_lt_big hl) n1
  · rintro F k h n1
    simp only [dec_lt h, condT, idx_get h, bindS, wrap_succ h hl]
  · rintro F n1
    simp only [dec_end, condF]

theorem g17 (fuel : Nat) (n : (List (Int)) × (List ((Int) × ((Int) × (List (Int)))))) (l : List ((Int) × ((Int) × ((Int) × ((List (Int)) × (List (Int))))))) : (fnK tab env17 9 ann17 fuel Try.f17 [] ps17 rs17 false (n, l) : Option ((List (Int)) × (List ((Int) × ((Int) × (List (Int))))))) = (
  lp17_1 fuel l n (([] : List (Int)), ([] : List ((Int) × ((Int) × (List (Int)))))) 0 : Option ((List (Int)) × (List ((Int) × ((Int) × (List (Int))))))) := by kernel_rfl
theorem e17 (n : (List (Int)) × (List ((Int) × ((Int) × (List (Int)))))) (l : List ((Int) × ((Int) × ((Int) × ((List (Int)) × (List (Int))))))) : D17 n l = (
  lp17_1 big l n (([] : List (Int)), ([] : List ((Int) × ((Int) × (List (Int)))))) 0 : Option ((List (Int)) × (List ((Int) × ((Int) × (List (Int))))))) := g17 big n l

/-! skiarea/skiarealaw58.NetworkParts -/
noncomputable def D5 (a0 : Int) (a1 : List ((Int) × ((Int) × ((Int) × ((List (Int)) × (List (Int))))))) (a2 : (Int) × ((Int) × (Int))) : Option (Bool) := d5 (a0, a1, a2)
noncomputable def lp5_1 (fuel : Nat)  (n₀ : (List (Int)) × (List ((Int) × ((Int) × (List (Int)))))) (i₀ : Int) : Option (Bool) :=
  iter (fun F ((n, i) : ((List (Int)) × (List ((Int) × ((Int) × (List (Int)))))) × Int) =>
    bif decide (i < (List.length n.2 : Int)) then (
      (D19 n i).bind fun r10 =>
      (idx n.2 i).bind fun e =>
      (idx n.2 i).bind fun e1 =>
      (D18 n e.1 e1.2.1).bind fun r11 =>
      bif (!(r11 == (r10.2.2 == 0))) then some false
      else bif (!r11) then (
        bif (r10.2.2 != 13) then some false
        else bif r11 then (
          (idx n.2 i).bind fun e2 =>
          (D15 r10.2.1 e2).bind fun r12 =>
          bif (!r12) then some false
          else bif ((List.length r10.1.2 : Int) != IntKind.i64.wrap ((List.length n.2 : Int) - 1)) then some false
          else F (n, IntKind.i64.wrap (i + 1)))
        else F (n, IntKind.i64.wrap (i + 1)))
      else bif r11 then (
        (idx n.2 i).bind fun e2 =>
        (D15 r10.2.1 e2).bind fun r12 =>
        bif (!r12) then some false
        else bif ((List.length r10.1.2 : Int) != IntKind.i64.wrap ((List.length n.2 : Int) - 1)) then some false
        else F (n, IntKind.i64.wrap (i + 1)))
      else F (n, IntKind.i64.wrap (i + 1)))
    else some true) fuel (n₀, i₀)

theorem f5_1  (n : (List (Int)) × (List ((Int) × ((Int) × (List (Int)))))) (hl : (n.2).length ≤ maxLen) : lp5_1 big n 0 =
  forI (fun ix el (_ : Unit) K =>
    ((D19 n (ix : Int)).bind fun r10 =>
    (D18 n el.1 el.2.1).bind fun r11 =>
    bif (!(r11 == (r10.2.2 == 0))) then some false
    else bif (!r11) then (
      bif (r10.2.2 != 13) then some false
      else bif r11 then (
        (D15 r10.2.1 el).bind fun r12 =>
        bif (!r12) then some false
        else bif ((List.length r10.1.2 : Int) != IntKind.i64.wrap ((List.length n.2 : Int) - 1)) then some false
        else K ())
      else K ())
    else bif r11 then (
      (D15 r10.2.1 el).bind fun r12 =>
      bif (!r12) then some false
      else bif ((List.length r10.1.2 : Int) != IntKind.i64.wrap ((List.length n.2 : Int) - 1)) then some false
      else K ())
    else K () : Option (Bool)))
    (fun (_ : Unit) =>
    (some true : Option (Bool))) 0 n.2 () := by
  refine iter_forI_from n.2 (fun ix (_ : Unit) => (n, (ix : Int))) _ _ ?_ ?_ (k := 0) (Nat.zero_le _) (len_lt_big hl) ()
  · rintro F k h _
    simp only [dec_lt h, condT, idx_get h, bindS, wrap_succ h hl]
  · rintro F _
    simp only [dec_end, condF]

noncomputable def lp5_3 (fuel : Nat)  (n₀ : (List (Int)) × (List ((Int) × ((Int) × (List (Int)))))) (i₀ : Int) : Option (Bool) :=
  iter (fun F ((n, i) : ((List (Int)) × (List ((Int) × ((Int) × (List (Int)))))) × Int) =>
    bif decide (i < (List.length n.2 : Int)) then (
      (D19 n i).bind fun r9 =>
      (idx n.2 i).bind fun e =>
      (idx n.2 i).bind fun e1 =>
      (D18 n e.1 e1.2.1).bind fun r10 =>
      bif (!(r10 == (r9.2.2 == 0))) then some false
      else bif (!r10) then (
        bif (r9.2.2 != 13) then some false
        else bif r10 then (
          (idx n.2 i).bind fun e2 =>
          (D15 r9.2.1 e2).bind fun r11 =>
          bif (!r11) then some false
          else bif ((List.length r9.1.2 : Int) != IntKind.i64.wrap ((List.length n.2 : Int) - 1)) then some false
          else F (n, IntKind.i64.wrap (i + 1)))
        else F (n, IntKind.i64.wrap (i + 1)))
      else bif r10 then (
        (idx n.2 i).bind fun e2 =>
        (D15 r9.2.1 e2).bind fun r11 =>
        bif (!r11) then some false
        else bif ((List.length r9.1.2 : Int) != IntKind.i64.wrap ((List.length n.2 : Int) - 1)) then some false
        else F (n, IntKind.i64.wrap (i + 1)))
      else F (n, IntKind.i64.wrap (i + 1)))
    else some true) fuel (n₀, i₀)

theorem f5_3  (n : (List (Int)) × (List ((Int) × ((Int) × (List (Int)))))) (hl : (n.2).length ≤ maxLen) : lp5_3 big n 0 =
  forI (fun ix el (_ : Unit) K =>
    ((D19 n (ix : Int)).bind fun r9 =>
    (D18 n el.1 el.2.1).bind fun r10 =>
    bif (!(r10 == (r9.2.2 == 0))) then some false
    else bif (!r10) then (
      bif (r9.2.2 != 13) then some false
      else bif r10 then (
        (D15 r9.2.1 el).bind fun r11 =>
        bif (!r11) then some false
        else bif ((List.length r9.1.2 : Int) != IntKind.i64.wrap ((List.length n.2 : Int) - 1)) then some false
        else K ())
      else K ())
    else bif r10 then (
      (D15 r9.2.1 el).bind fun r11 =>
      bif (!r11) then some false
      else bif ((List.length r9.1.2 : Int) != IntKind.i64.wrap ((List.length n.2 : Int) - 1)) then some false
      else K ())
    else K () : Option (Bool)))
    (fun (_ : Unit) =>
    (some true : Option (Bool))) 0 n.2 () := by
  refine iter_forI_from n.2 (fun ix (_ : Unit) => (n, (ix : Int))) _ _ ?_ ?_ (k := 0) (Nat.zero_le _) (len_lt_big hl) ()
  · rintro F k h _
    simp only [dec_lt h, condT, idx_get h, bindS, wrap_succ h hl]
  · rintro F _
    simp only [dec_end, condF]

noncomputable def lp5_5 (fuel : Nat)  (n₀ : (List (Int)) × (List ((Int) × ((Int) × (List (Int)))))) (i₀ : Int) : Option (Bool) :=
  iter (fun F ((n, i) : ((List (Int)) × (List ((Int) × ((Int) × (List (Int)))))) × Int) =>
    bif decide (i < (List.length n.2 : Int)) then (
      (D19 n i).bind fun r8 =>
      (idx n.2 i).bind fun e =>
      (idx n.2 i).bind fun e1 =>
      (D18 n e.1 e1.2.1).bind fun r9 =>
      bif (!(r9 == (r8.2.2 == 0))) then some false
      else bif (!r9) then (
        bif (r8.2.2 != 13) then some false
        else bif r9 then (
          (idx n.2 i).bind fun e2 =>
          (D15 r8.2.1 e2).bind fun r10 =>
          bif (!r10) then some false
          else bif ((List.length r8.1.2 : Int) != IntKind.i64.wrap ((List.length n.2 : Int) - 1)) then some false
          else F (n, IntKind.i64.wrap (i + 1)))
        else F (n, IntKind.i64.wrap (i + 1)))
      else bif r9 then (
        (idx n.2 i).bind fun e2 =>
        (D15 r8.2.1 e2).bind fun r10 =>
        bif (!r10) then some false
        else bif ((List.length r8.1.2 : Int) != IntKind.i64.wrap ((List.length n.2 : Int) - 1)) then some false
        else F (n, IntKind.i64.wrap (i + 1)))
      else F (n, IntKind.i64.wrap (i + 1)))
    else some true) fuel (n₀, i₀)

theorem f5_5  (n : (List (Int)) × (List ((Int) × ((Int) × (List (Int)))))) (hl : (n.2).length ≤ maxLen) : lp5_5 big n 0 =
  forI (fun ix el (_ : Unit) K =>
    ((D19 n (ix : Int)).bind fun r8 =>
    (D18 n el.1 el.2.1).bind fun r9 =>
    bif (!(r9 == (r8.2.2 == 0))) then some false
    else bif (!r9) then (
      bif (r8.2.2 != 13) then some false
      else bif r9 then (
        (D15 r8.2.1 el).bind fun r10 =>
        bif (!r10) then some false
        else bif ((List.length r8.1.2 : Int) != IntKind.i64.wrap ((List.length n.2 : Int) - 1)) then some false
        else K ())
      else K ())
    else bif r9 then (
      (D15 r8.2.1 el).bind fun r10 =>
      bif (!r10) then some false
      else bif ((List.length r8.1.2 : Int) != IntKind.i64.wrap ((List.length n.2 : Int) - 1)) then some false
      else K ())
    else K () : Option (Bool)))
    (fun (_ : Unit) =>
    (some true : Option (Bool))) 0 n.2 () := by
  refine iter_forI_from n.2 (fun ix (_ : Unit) => (n, (ix : Int))) _ _ ?_ ?_ (k := 0) (Nat.zero_le _) (len_lt_big hl) ()
  · rintro F k h _
    simp only [dec_lt h, condT, idx_get h, bindS, wrap_succ h hl]
  · rintro F _
    simp only [dec_end, condF]

noncomputable def lp5_7 (fuel : Nat)  (n₀ : (List (Int)) × (List ((Int) × ((Int) × (List (Int)))))) (i₀ : Int) : Option (Bool) :=
  iter (fun F ((n, i) : ((List (Int)) × (List ((Int) × ((Int) × (List (Int)))))) × Int) =>
    bif decide (i < (List.length n.2 : Int)) then (
      (D19 n i).bind fun r10 =>
      (idx n.2 i).bind fun e =>
      (idx n.2 i).bind fun e1 =>
      (D18 n e.1 e1.2.1).bind fun r11 =>
      bif (!(r11 == (r10.2.2 == 0))) then some false
      else bif (!r11) then (
        bif (r10.2.2 != 13) then some false
        else bif r11 then (
          (idx n.2 i).bind fun e2 =>
          (D15 r10.2.1 e2).bind fun r12 =>
          bif (!r12) then some false
          else bif ((List.length r10.1.2 : Int) != IntKind.i64.wrap ((List.length n.2 : Int) - 1)) then some false
          else F (n, IntKind.i64.wrap (i + 1)))
        else F (n, IntKind.i64.wrap (i + 1)))
      else bif r11 then (
        (idx n.2 i).bind fun e2 =>
        (D15 r10.2.1 e2).bind fun r12 =>
        bif (!r12) then some false
        else bif ((List.length r10.1.2 : Int) != IntKind.i64.wrap ((List.length n.2 : Int) - 1)) then some false
        else F (n, IntKind.i64.wrap (i + 1)))
      else F (n, IntKind.i64.wrap (i + 1)))
    else some true) fuel (n₀, i₀)

theorem f5_7  (n : (List (Int)) × (List ((Int) × ((Int) × (List (Int)))))) (hl : (n.2).length ≤ maxLen) : lp5_7 big n 0 =
  forI (fun ix el (_ : Unit) K =>
    ((D19 n (ix : Int)).bind fun r10 =>
    (D18 n el.1 el.2.1).bind fun r11 =>
    bif (!(r11 == (r10.2.2 == 0))) then some false
    else bif (!r11) then (
      bif (r10.2.2 != 13) then some false
      else bif r11 then (
        (D15 r10.2.1 el).bind fun r12 =>
        bif (!r12) then some false
        else bif ((List.length r10.1.2 : Int) != IntKind.i64.wrap ((List.length n.2 : Int) - 1)) then some false
        else K ())
      else K ())
    else bif r11 then (
      (D15 r10.2.1 el).bind fun r12 =>
      bif (!r12) then some false
      else bif ((List.length r10.1.2 : Int) != IntKind.i64.wrap ((List.length n.2 : Int) - 1)) then some false
      else K ())
    else K () : Option (Bool)))
    (fun (_ : Unit) =>
    (some true : Option (Bool))) 0 n.2 () := by
  refine iter_forI_from n.2 (fun ix (_ : Unit) => (n, (ix : Int))) _ _ ?_ ?_ (k := 0) (Nat.zero_le _) (len_lt_big hl) ()
  · rintro F k h _
    simp only [dec_lt h, condT, idx_get h, bindS, wrap_succ h hl]
  · rintro F _
    simp only [dec_end, condF]

noncomputable def lp5_9 (fuel : Nat)  (n₀ : (List (Int)) × (List ((Int) × ((Int) × (List (Int)))))) (i₀ : Int) : Option (Bool) :=
  iter (fun F ((n, i) : ((List (Int)) × (List ((Int) × ((Int) × (List (Int)))))) × Int) =>
    bif decide (i < (List.length n.2 : Int)) then (
      (D19 n i).bind fun r9 =>
      (idx n.2 i).bind fun e =>
      (idx n.2 i).bind fun e1 =>
      (D18 n e.1 e1.2.1).bind fun r10 =>
      bif (!(r10 == (r9.2.2 == 0))) then some false
      else bif (!r10) then (
        bif (r9.2.2 != 13) then some false
        else bif r10 then (
          (idx n.2 i).bind fun e2 =>
          (D15 r9.2.1 e2).bind fun r11 =>
          bif (!r11) then some false
          else bif ((List.length r9.1.2 : Int) != IntKind.i64.wrap ((List.length n.2 : Int) - 1)) then some false
          else F (n, IntKind.i64.wrap (i + 1)))
        else F (n, IntKind.i64.wrap (i + 1)))
      else bif r10 then (
        (idx n.2 i).bind fun e2 =>
        (D15 r9.2.1 e2).bind fun r11 =>
        bif (!r11) then some false
        else bif ((List.length r9.1.2 : Int) != IntKind.i64.wrap ((List.length n.2 : Int) - 1)) then some false
        else F (n, IntKind.i64.wrap (i + 1)))
      else F (n, IntKind.i64.wrap (i + 1)))
    else some true) fuel (n₀, i₀)

theorem f5_9  (n : (List (Int)) × (List ((Int) × ((Int) × (List (Int)))))) (hl : (n.2).length ≤ maxLen) : lp5_9 big n 0 =
  forI (fun ix el (_ : Unit) K =>
    ((D19 n (ix : Int)).bind fun r9 =>
    (D18 n el.1 el.2.1).bind fun r10 =>
    bif (!(r10 == (r9.2.2 == 0))) then some false
    else bif (!r10) then (
      bif (r9.2.2 != 13) then some false
      else bif r10 then (
        (D15 r9.2.1 el).bind fun r11 =>
        bif (!r11) then some false
        else bif ((List.length r9.1.2 : Int) != IntKind.i64.wrap ((List.length n.2 : Int) - 1)) then some false
        else K ())
      else K ())
    else bif r10 then (
      (D15 r9.2.1 el).bind fun r11 =>
      bif (!r11) then some false
      else bif ((List.length r9.1.2 : Int) != IntKind.i64.wrap ((List.length n.2 : Int) - 1)) then some false
      else K ())
    else K () : Option (Bool)))
    (fun (_ : Unit) =>
    (some true : Option (Bool))) 0 n.2 () := by
  refine iter_forI_from n.2 (fun ix (_ : Unit) => (n, (ix : Int))) _ _ ?_ ?_ (k := 0) (Nat.zero_le _) (len_lt_big hl) ()
  · rintro F k h _
    simp only [dec_lt h, condT, idx_get h, bindS, wrap_succ h hl]
  · rintro F _
    simp only [dec_end, condF]

noncomputable def lp5_11 (fuel : Nat)  (n₀ : (List (Int)) × (List ((Int) × ((Int) × (List (Int)))))) (i₀ : Int) : Option (Bool) :=
  iter (fun F ((n, i) : ((List (Int)) × (List ((Int) × ((Int) × (List (Int)))))) × Int) =>
    bif decide (i < (List.length n.2 : Int)) then (
      (D19 n i).bind fun r8 =>
      (idx n.2 i).bind fun e =>
      (idx n.2 i).bind fun e1 =>
      (D18 n e.1 e1.2.1).bind fun r9 =>
      bif (!(r9 == (r8.2.2 == 0))) then some false
      else bif (!r9) then (
        bif (r8.2.2 != 13) then some false
        else bif r9 then (
          (idx n.2 i).bind fun e2 =>
          (D15 r8.2.1 e2).bind fun r10 =>
          bif (!r10) then some false
          else bif ((List.length r8.1.2 : Int) != IntKind.i64.wrap ((List.length n.2 : Int) - 1)) then some false
          else F (n, IntKind.i64.wrap (i + 1)))
        else F (n, IntKind.i64.wrap (i + 1)))
      else bif r9 then (
        (idx n.2 i).bind fun e2 =>
        (D15 r8.2.1 e2).bind fun r10 =>
        bif (!r10) then some false
        else bif ((List.length r8.1.2 : Int) != IntKind.i64.wrap ((List.length n.2 : Int) - 1)) then some false
        else F (n, IntKind.i64.wrap (i + 1)))
      else F (n, IntKind.i64.wrap (i + 1)))
    else some true) fuel (n₀, i₀)

theorem f5_11  (n : (List (Int)) × (List ((Int) × ((Int) × (List (Int)))))) (hl : (n.2).length ≤ maxLen) : lp5_11 big n 0 =
  forI (fun ix el (_ : Unit) K =>
    ((D19 n (ix : Int)).bind fun r8 =>
    (D18 n el.1 el.2.1).bind fun r9 =>
    bif (!(r9 == (r8.2.2 == 0))) then some false
    else bif (!r9) then (
      bif (r8.2.2 != 13) then some false
      else bif r9 then (
        (D15 r8.2.1 el).bind fun r10 =>
        bif (!r10) then some false
        else bif ((List.length r8.1.2 : Int) != IntKind.i64.wrap ((List.length n.2 : Int) - 1)) then some false
        else K ())
      else K ())
    else bif r9 then (
      (D15 r8.2.1 el).bind fun r10 =>
      bif (!r10) then some false
      else bif ((List.length r8.1.2 : Int) != IntKind.i64.wrap ((List.length n.2 : Int) - 1)) then some false
      else K ())
    else K () : Option (Bool)))
    (fun (_ : Unit) =>
    (some true : Option (Bool))) 0 n.2 () := by
  refine iter_forI_from n.2 (fun ix (_ : Unit) => (n, (ix : Int))) _ _ ?_ ?_ (k := 0) (Nat.zero_le _) (len_lt_big hl) ()
  · rintro F k h _
    simp only [dec_lt h, condT, idx_get h, bindS, wrap_succ h hl]
  · rintro F _
    simp only [dec_end, condF]

theorem g5 (fuel : Nat) (sites : Int) (l : List ((Int) × ((Int) × ((Int) × ((List (Int)) × (List (Int))))))) (x : (Int) × ((Int) × (Int))) : (fnK tab env5 17 ann5 fuel Try.f5 [] ps5 rs5 true (sites, l, x) : Option (Bool)) = (
  (D9).bind fun r =>
  bif (!r) then some false
  else (D16 sites).bind fun r1 =>
  (D11 l).bind fun r2 =>
  bif (!r2) then some true
  else bif (r1.2 != 0) then some true
  else (D17 r1.1 l).bind fun r3 =>
  (D18 r3 x.1 x.1).bind fun r4 =>
  bif decide (x.1 ≥ 0) then (
    bif (!(r4 == decide (x.1 < sites))) then some false
    else (D18 r3 x.1 x.2.1).bind fun r5 =>
    (D18 r3 x.2.1 x.1).bind fun r6 =>
    bif (!(r5 == r6)) then some false
    else (D18 r3 x.1 x.2.1).bind fun r7 =>
    bif r7 then (
      (D18 r3 x.2.1 x.2.2).bind fun r8 =>
      bif r8 then (
        (D18 r3 x.1 x.2.2).bind fun r9 =>
        bif (!r9) then some false
        else lp5_1 fuel r3 0)
      else lp5_3 fuel r3 0)
    else lp5_5 fuel r3 0)
  else bif (!(r4 == false)) then some false
  else (D18 r3 x.1 x.2.1).bind fun r5 =>
  (D18 r3 x.2.1 x.1).bind fun r6 =>
  bif (!(r5 == r6)) then some false
  else (D18 r3 x.1 x.2.1).bind fun r7 =>
  bif r7 then (
    (D18 r3 x.2.1 x.2.2).bind fun r8 =>
    bif r8 then (
      (D18 r3 x.1 x.2.2).bind fun r9 =>
      bif (!r9) then some false
      else lp5_7 fuel r3 0)
    else lp5_9 fuel r3 0)
  else lp5_11 fuel r3 0 : Option (Bool)) := by kernel_rfl
theorem e5 (sites : Int) (l : List ((Int) × ((Int) × ((Int) × ((List (Int)) × (List (Int))))))) (x : (Int) × ((Int) × (Int))) : D5 sites l x = (
  (D9).bind fun r =>
  bif (!r) then some false
  else (D16 sites).bind fun r1 =>
  (D11 l).bind fun r2 =>
  bif (!r2) then some true
  else bif (r1.2 != 0) then some true
  else (D17 r1.1 l).bind fun r3 =>
  (D18 r3 x.1 x.1).bind fun r4 =>
  bif decide (x.1 ≥ 0) then (
    bif (!(r4 == decide (x.1 < sites))) then some false
    else (D18 r3 x.1 x.2.1).bind fun r5 =>
    (D18 r3 x.2.1 x.1).bind fun r6 =>
    bif (!(r5 == r6)) then some false
    else (D18 r3 x.1 x.2.1).bind fun r7 =>
    bif r7 then (
      (D18 r3 x.2.1 x.2.2).bind fun r8 =>
      bif r8 then (
        (D18 r3 x.1 x.2.2).bind fun r9 =>
        bif (!r9) then some false
        else lp5_1 big r3 0)
      else lp5_3 big r3 0)
    else lp5_5 big r3 0)
  else bif (!(r4 == false)) then some false
  else (D18 r3 x.1 x.2.1).bind fun r5 =>
  (D18 r3 x.2.1 x.1).bind fun r6 =>
  bif (!(r5 == r6)) then some false
  else (D18 r3 x.1 x.2.1).bind fun r7 =>
  bif r7 then (
    (D18 r3 x.2.1 x.2.2).bind fun r8 =>
    bif r8 then (
      (D18 r3 x.1 x.2.2).bind fun r9 =>
      bif (!r9) then some false
      else lp5_7 big r3 0)
    else lp5_9 big r3 0)
  else lp5_11 big r3 0 : Option (Bool)) := g5 big sites l x

/-! skiarea/skiarealaw58.count -/
noncomputable def D20 (a0 : List ((Int) × ((Int) × (List (Int))))) (a1 : (Int) × ((Int) × (List (Int)))) : Option (Int) := d20 (a0, a1)
noncomputable def lp20_1 (fuel : Nat)  (l1₀ : List ((Int) × ((Int) × (List (Int))))) (m1₀ : (Int) × ((Int) × (List (Int)))) (n₀ : Int) (i₀ : Int) : Option (Int) :=
  iter (fun F ((l1, m1, n, i) : (List ((Int) × ((Int) × (List (Int))))) × ((Int) × ((Int) × (List (Int)))) × Int × Int) =>
    bif decide (i < (List.length l1 : Int)) then (
      (idx l1 i).bind fun e =>
      (D15 e m1).bind fun r =>
      bif r then F (l1, m1, IntKind.i64.wrap (n + 1), IntKind.i64.wrap (i + 1))
      else F (l1, m1, n, IntKind.i64.wrap (i + 1)))
    else some n) fuel (l1₀, m1₀, n₀, i₀)

theorem f20_1  (l1 : List ((Int) × ((Int) × (List (Int))))) (m1 : (Int) × ((Int) × (List (Int)))) (n : Int) (hl : (l1).length ≤ maxLen) : lp20_1 big l1 m1 n 0 =
  forE (fun  el (n : Int) K =>
    ((D15 el m1).bind fun r =>
    bif r then K (IntKind.i64.wrap (n + 1))
    else K n : Option (Int)))
    (fun (n : Int) =>
    (some n : Option (Int))) l1 n := by
  refine iter_forE l1 (fun ix (n : Int) => (l1, m1, n, (ix : Int))) _ _ ?_ ?_ (len_lt_big hl) n
  · rintro F k h n
    simp only [dec_lt h, condT, idx_get h, bindS, wrap_succ h hl]
  · rintro F n
    simp only [dec_end, condF]

theorem g20 (fuel : Nat) (l : List ((Int) × ((Int) × (List (Int))))) (m : (Int) × ((Int) × (List (Int)))) : (fnK tab env20 7 ann20 fuel Try.f20 [] ps20 rs20 true (l, m) : Option (Int)) = (
  lp20_1 fuel l m 0 0 : Option (Int)) := by kernel_rfl
theorem e20 (l : List ((Int) × ((Int) × (List (Int))))) (m : (Int) × ((Int) × (List (Int)))) : D20 l m = (
  lp20_1 big l m 0 0 : Option (Int)) := g20 big l m

/-! skiarea/skiarealaw58.NetworkOnce -/
noncomputable def D6 (a0 : Int) (a1 : List ((Int) × ((Int) × ((Int) × ((List (Int)) × (List (Int))))))) : Option (Bool) := d6 (a0, a1)
noncomputable def lp6_1 (fuel : Nat)  (l1₀ : List ((Int) × ((Int) × ((Int) × ((List (Int)) × (List (Int))))))) (n₀ : (List (Int)) × (List ((Int) × ((Int) × (List (Int)))))) (sent₀ : List ((Int) × ((Int) × (List (Int))))) (got₀ : List ((Int) × ((Int) × (List (Int))))) (copied₀ : Bool) (i₀ : Int) : Option (Bool) :=
  iter (fun F ((l1, n, sent, got, copied, i) : (List ((Int) × ((Int) × ((Int) × ((List (Int)) × (List (Int))))))) × ((List (Int)) × (List ((Int) × ((Int) × (List (Int)))))) × (List ((Int) × ((Int) × (List (Int))))) × (List ((Int) × ((Int) × (List (Int))))) × Bool × Int) =>
    bif decide (i < (List.length l1 : Int)) then (
      (idx l1 i).bind fun e =>
      (D12 n e).bind fun r3 =>
      bif (r3.2.2 != 0) then F (l1, n, sent, got, copied, IntKind.i64.wrap (i + 1))
      else (idx l1 i).bind fun e1 =>
      bif (e1.1 == 0) then (
        (idx l1 i).bind fun e2 =>
        (idx l1 i).bind fun e3 =>
        (idx l1 i).bind fun e4 =>
        bif (Nat.ble ((List.length sent + List.length [(e2.2.1, e3.2.2.1, e4.2.2.2.1)]) * 40) appendLimit && Nat.ble (List.length sent + List.length [(e2.2.1, e3.2.2.1, e4.2.2.2.1)]) 9223372036854775807) then (
          bif copied then (
            (idx l1 i).bind fun e5 =>
            bif (e5.1 != 1) then F (l1, r3.1, sent ++ [(e2.2.1, e3.2.2.1, e4.2.2.2.1)], got, true, IntKind.i64.wrap (i + 1))
            else bif (Nat.ble ((List.length got + List.length [r3.2.1]) * 40) appendLimit && Nat.ble (List.length got + List.length [r3.2.1]) 9223372036854775807) then (
              (D20 (sent ++ [(e2.2.1, e3.2.2.1, e4.2.2.2.1)]) r3.2.1).bind fun r4 =>
              bif (r4 == 0) then some false
              else F (l1, r3.1, sent ++ [(e2.2.1, e3.2.2.1, e4.2.2.2.1)], got ++ [r3.2.1], true, IntKind.i64.wrap (i + 1)))
            else none)
          else (idx l1 i).bind fun e5 =>
          (idx l1 i).bind fun e6 =>
          bif (e6.1 != 1) then F (l1, r3.1, sent ++ [(e2.2.1, e3.2.2.1, e4.2.2.2.1)], got, (e5.1 == 3), IntKind.i64.wrap (i + 1))
          else bif (Nat.ble ((List.length got + List.length [r3.2.1]) * 40) appendLimit && Nat.ble (List.length got + List.length [r3.2.1]) 9223372036854775807) then (
            (D20 (sent ++ [(e2.2.1, e3.2.2.1, e4.2.2.2.1)]) r3.2.1).bind fun r4 =>
            bif (r4 == 0) then some false
            else bif (!(e5.1 == 3)) then (
              (D20 (got ++ [r3.2.1]) r3.2.1).bind fun r5 =>
              (D20 r3.1.2 r3.2.1).bind fun r6 =>
              (D20 (sent ++ [(e2.2.1, e3.2.2.1, e4.2.2.2.1)]) r3.2.1).bind fun r7 =>
              bif decide (IntKind.i64.wrap (r5 + r6) > r7) then some false
              else F (l1, r3.1, sent ++ [(e2.2.1, e3.2.2.1, e4.2.2.2.1)], got ++ [r3.2.1], (e5.1 == 3), IntKind.i64.wrap (i + 1)))
            else F (l1, r3.1, sent ++ [(e2.2.1, e3.2.2.1, e4.2.2.2.1)], got ++ [r3.2.1], (e5.1 == 3), IntKind.i64.wrap (i + 1)))
          else none)
        else none)
      else bif copied then (
        (idx l1 i).bind fun e2 =>
        bif (e2.1 != 1) then F (l1, r3.1, sent, got, true, IntKind.i64.wrap (i + 1))
        else bif (Nat.ble ((List.length got + List.length [r3.2.1]) * 40) appendLimit && Nat.ble (List.length got + List.length [r3.2.1]) 9223372036854775807) then (
          (D20 sent r3.2.1).bind fun r4 =>
          bif (r4 == 0) then some false
          else F (l1, r3.1, sent, got ++ [r3.2.1], true, IntKind.i64.wrap (i + 1)))
        else none)
      else (idx l1 i).bind fun e2 =>
      (idx l1 i).bind fun e3 =>
      bif (e3.1 != 1) then F (l1, r3.1, sent, got, (e2.1 == 3), IntKind.i64.wrap (i + 1))
      else bif (Nat.ble ((List.length got + List.length [r3.2.1]) * 40) appendLimit && Nat.ble (List.length got + List.length [r3.2.1]) 9223372036854775807) then (
        (D20 sent r3.2.1).bind fun r4 =>
        bif (r4 == 0) then some false
        else bif (!(e2.1 == 3)) then (
          (D20 (got ++ [r3.2.1]) r3.2.1).bind fun r5 =>
          (D20 r3.1.2 r3.2.1).bind fun r6 =>
          (D20 sent r3.2.1).bind fun r7 =>
          bif decide (IntKind.i64.wrap (r5 + r6) > r7) then some false
          else F (l1, r3.1, sent, got ++ [r3.2.1], (e2.1 == 3), IntKind.i64.wrap (i + 1)))
        else F (l1, r3.1, sent, got ++ [r3.2.1], (e2.1 == 3), IntKind.i64.wrap (i + 1)))
      else none)
    else some true) fuel (l1₀, n₀, sent₀, got₀, copied₀, i₀)

theorem f6_1  (l1 : List ((Int) × ((Int) × ((Int) × ((List (Int)) × (List (Int))))))) (n : (List (Int)) × (List ((Int) × ((Int) × (List (Int)))))) (sent : List ((Int) × ((Int) × (List (Int))))) (got : List ((Int) × ((Int) × (List (Int))))) (copied : Bool) (hl : (l1).length ≤ maxLen) : lp6_1 big l1 n sent got copied 0 =
  forE (fun  el ((n, sent, got, copied) : ((List (Int)) × (List ((Int) × ((Int) × (List (Int)))))) × (List ((Int) × ((Int) × (List (Int))))) × (List ((Int) × ((Int) × (List (Int))))) × Bool) K =>
    ((D12 n el).bind fun r3 =>
    bif (r3.2.2 != 0) then K (n, sent, got, copied)
    else bif (el.1 == 0) then (
      bif (Nat.ble ((List.length sent + List.length [(el.2.1, el.2.2.1, el.2.2.2.1)]) * 40) appendLimit && Nat.ble (List.length sent + List.length [(el.2.1, el.2.2.1, el.2.2.2.1)]) 9223372036854775807) then (
        bif copied then (
          bif (el.1 != 1) then K (r3.1, sent ++ [(el.2.1, el.2.2.1, el.2.2.2.1)], got, true)
          else bif (Nat.ble ((List.length got + List.length [r3.2.1]) * 40) appendLimit && Nat.ble (List.length got + List.length [r3.2.1]) 9223372036854775807) then (
            (D20 (sent ++ [(el.2.1, el.2.2.1, el.2.2.2.1)]) r3.2.1).bind fun r4 =>
            bif (r4 == 0) then some false
            else K (r3.1, sent ++ [(el.2.1, el.2.2.1, el.2.2.2.1)], got ++ [r3.2.1], true))
          else none)
        else bif (el.1 != 1) then K (r3.1, sent ++ [(el.2.1, el.2.2.1, el.2.2.2.1)], got, (el.1 == 3))
        else bif (Nat.ble ((List.length got + List.length [r3.2.1]) * 40) appendLimit && Nat.ble (List.length got + List.length [r3.2.1]) 9223372036854775807) then (
          (D20 (sent ++ [(el.2.1, el.2.2.1, el.2.2.2.1)]) r3.2.1).bind fun r4 =>
          bif (r4 == 0) then some false
          else bif (!(el.1 == 3)) then (
            (D20 (got ++ [r3.2.1]) r3.2.1).bind fun r5 =>
            (D20 r3.1.2 r3.2.1).bind fun r6 =>
            (D20 (sent ++ [(el.2.1, el.2.2.1, el.2.2.2.1)]) r3.2.1).bind fun r7 =>
            bif decide (IntKind.i64.wrap (r5 + r6) > r7) then some false
            else K (r3.1, sent ++ [(el.2.1, el.2.2.1, el.2.2.2.1)], got ++ [r3.2.1], (el.1 == 3)))
          else K (r3.1, sent ++ [(el.2.1, el.2.2.1, el.2.2.2.1)], got ++ [r3.2.1], (el.1 == 3)))
        else none)
      else none)
    else bif copied then (
      bif (el.1 != 1) then K (r3.1, sent, got, true)
      else bif (Nat.ble ((List.length got + List.length [r3.2.1]) * 40) appendLimit && Nat.ble (List.length got + List.length [r3.2.1]) 9223372036854775807) then (
        (D20 sent r3.2.1).bind fun r4 =>
        bif (r4 == 0) then some false
        else K (r3.1, sent, got ++ [r3.2.1], true))
      else none)
    else bif (el.1 != 1) then K (r3.1, sent, got, (el.1 == 3))
    else bif (Nat.ble ((List.length got + List.length [r3.2.1]) * 40) appendLimit && Nat.ble (List.length got + List.length [r3.2.1]) 9223372036854775807) then (
      (D20 sent r3.2.1).bind fun r4 =>
      bif (r4 == 0) then some false
      else bif (!(el.1 == 3)) then (
        (D20 (got ++ [r3.2.1]) r3.2.1).bind fun r5 =>
        (D20 r3.1.2 r3.2.1).bind fun r6 =>
        (D20 sent r3.2.1).bind fun r7 =>
        bif decide (IntKind.i64.wrap (r5 + r6) > r7) then some false
        else K (r3.1, sent, got ++ [r3.2.1], (el.1 == 3)))
      else K (r3.1, sent, got ++ [r3.2.1], (el.1 == 3)))
    else none : Option (Bool)))
    (fun ((_, _, _, _) : ((List (Int)) × (List ((Int) × ((Int) × (List (Int)))))) × (List ((Int) × ((Int) × (List (Int))))) × (List ((Int) × ((Int) × (List (Int))))) × Bool) =>
    (some true : Option (Bool))) l1 (n, sent, got, copied) := by
  refine iter_forE l1 (fun ix ((n, sent, got, copied) : ((List (Int)) × (List ((Int) × ((Int) × (List (Int)))))) × (List ((Int) × ((Int) × (List (Int))))) × (List ((Int) × ((Int) × (List (Int))))) × Bool) => (l1, n, sent, got, copied, (ix : Int))) _ _ ?_ ?_ (len_lt_big hl) (n, sent, got, copied)
  · rintro F k h ⟨n, sent, got, copied⟩
    simp only [dec_lt h, condT, idx_get h, bindS, wrap_succ h hl]
  · rintro F ⟨n, sent, got, copied⟩
    simp only [dec_end, condF]

theorem g6 (fuel : Nat) (sites : Int) (l : List ((Int) × ((Int) × ((Int) × ((List (Int)) × (List (Int))))))) : (fnK tab env6 14 ann6 fuel Try.f6 [] ps6 rs6 true (sites, l) : Option (Bool)) = (
  (D9).bind fun r =>
  bif (!r) then some false
  else (D16 sites).bind fun r1 =>
  (D11 l).bind fun r2 =>
  bif (!r2) then some true
  else bif (r1.2 != 0) then some true
  else lp6_1 fuel l r1.1 ([] : List ((Int) × ((Int) × (List (Int))))) ([] : List ((Int) × ((Int) × (List (Int))))) false 0 : Option (Bool)) := by kernel_rfl
theorem e6 (sites : Int) (l : List ((Int) × ((Int) × ((Int) × ((List (Int)) × (List (Int))))))) : D6 sites l = (
  (D9).bind fun r =>
  bif (!r) then some false
  else (D16 sites).bind fun r1 =>
  (D11 l).bind fun r2 =>
  bif (!r2) then some true
  else bif (r1.2 != 0) then some true
  else lp6_1 big l r1.1 ([] : List ((Int) × ((Int) × (List (Int))))) ([] : List ((Int) × ((Int) × (List (Int))))) false 0 : Option (Bool)) := g6 big sites l

/-! skiarea/network.Right -/
noncomputable def D21 (a0 : (List (Int)) × (List ((Int) × ((Int) × (List (Int)))))) : Option (Int) := d21 a0
noncomputable def lp21_1 (fuel : Nat)  (n1₀ : (List (Int)) × (List ((Int) × ((Int) × (List (Int)))))) (v₀ : List ((Int) × ((Int) × (List (Int))))) (v1₀ : Int) (v2₀ : Int) : Option (Int) :=
  iter (fun F ((n1, v, v1, v2) : ((List (Int)) × (List ((Int) × ((Int) × (List (Int)))))) × (List ((Int) × ((Int) × (List (Int))))) × Int × Int) =>
    bif decide (v2 < v1) then (
      (idx v v2).bind fun e =>
      (D36 n1 e.1 e.2.1 e.2.2).bind fun r1 =>
      bif (r1 != 0) then some r1
      else F (n1, v, v1, IntKind.i64.wrap (v2 + 1)))
    else some 0) fuel (n1₀, v₀, v1₀, v2₀)

theorem f21_1  (n1 : (List (Int)) × (List ((Int) × ((Int) × (List (Int)))))) (v : List ((Int) × ((Int) × (List (Int))))) (hl : (v).length ≤ maxLen) : lp21_1 big n1 v (List.length v : Int) 0 =
  forE (fun  el (_ : Unit) K =>
    ((D36 n1 el.1 el.2.1 el.2.2).bind fun r1 =>
    bif (r1 != 0) then some r1
    else K () : Option (Int)))
    (fun (_ : Unit) =>
    (some 0 : Option (Int))) v () := by
  refine iter_forE v (fun ix (_ : Unit) => (n1, v, (List.length v : Int), (ix : Int))) _ _ ?_ ?_ (len_lt_big hl) ()
  · rintro F k h _
    simp only [dec_lt h, condT, idx_get h, bindS, wrap_succ h hl]
  · rintro F _
    simp only [dec_end, condF]

theorem g21 (fuel : Nat) (n : (List (Int)) × (List ((Int) × ((Int) × (List (Int)))))) : (fnK tab env21 6 ann21 fuel Try.f21 [] ps21 rs21 true n : Option (Int)) = (
  bif decide ((List.length n.1 : Int) < 1) then some 2
  else bif decide ((List.length n.1 : Int) > 16) then some 2
  else (D35 n.1).bind fun r =>
  bif (!r) then some 2
  else bif decide ((List.length n.2 : Int) > 256) then some 4
  else lp21_1 fuel n n.2 (List.length n.2 : Int) 0 : Option (Int)) := by kernel_rfl
theorem e21 (n : (List (Int)) × (List ((Int) × ((Int) × (List (Int)))))) : D21 n = (
  bif decide ((List.length n.1 : Int) < 1) then some 2
  else bif decide ((List.length n.1 : Int) > 16) then some 2
  else (D35 n.1).bind fun r =>
  bif (!r) then some 2
  else bif decide ((List.length n.2 : Int) > 256) then some 4
  else lp21_1 big n n.2 (List.length n.2 : Int) 0 : Option (Int)) := g21 big n

/-! skiarea/skiarearef58.Right -/
noncomputable def D22 (a0 : (List (Int)) × (List ((Int) × ((Int) × (List (Int)))))) : Option (Int) := d22 a0
noncomputable def lp22_1 (fuel : Nat)  (n1₀ : (List (Int)) × (List ((Int) × ((Int) × (List (Int)))))) (i₀ : Int) : Option (Int) :=
  iter (fun F ((n1, i) : ((List (Int)) × (List ((Int) × ((Int) × (List (Int)))))) × Int) =>
    bif decide (i < (List.length n1.2 : Int)) then (
      (idx n1.2 i).bind fun e =>
      (D38 n1 e).bind fun r1 =>
      bif (r1 != 0) then some r1
      else F (n1, IntKind.i64.wrap (i + 1)))
    else some 0) fuel (n1₀, i₀)

theorem f22_1  (n1 : (List (Int)) × (List ((Int) × ((Int) × (List (Int)))))) (hl : (n1.2).length ≤ maxLen) : lp22_1 big n1 0 =
  forE (fun  el (_ : Unit) K =>
    ((D38 n1 el).bind fun r1 =>
    bif (r1 != 0) then some r1
    else K () : Option (Int)))
    (fun (_ : Unit) =>
    (some 0 : Option (Int))) n1.2 () := by
  refine iter_forE n1.2 (fun ix (_ : Unit) => (n1, (ix : Int))) _ _ ?_ ?_ (len_lt_big hl) ()
  · rintro F k h _
    simp only [dec_lt h, condT, idx_get h, bindS, wrap_succ h hl]
  · rintro F _
    simp only [dec_end, condF]

theorem g22 (fuel : Nat) (n : (List (Int)) × (List ((Int) × ((Int) × (List (Int)))))) : (fnK tab env22 5 ann22 fuel Try.f22 [] ps22 rs22 true n : Option (Int)) = (
  bif decide ((List.length n.1 : Int) < 1) then some 2
  else bif decide ((List.length n.1 : Int) > 16) then some 2
  else (D37 n.1).bind fun r =>
  bif (!r) then some 2
  else bif decide ((List.length n.2 : Int) > 256) then some 4
  else lp22_1 fuel n 0 : Option (Int)) := by kernel_rfl
theorem e22 (n : (List (Int)) × (List ((Int) × ((Int) × (List (Int)))))) : D22 n = (
  bif decide ((List.length n.1 : Int) < 1) then some 2
  else bif decide ((List.length n.1 : Int) > 16) then some 2
  else (D37 n.1).bind fun r =>
  bif (!r) then some 2
  else bif decide ((List.length n.2 : Int) > 256) then some 4
  else lp22_1 big n 0 : Option (Int)) := g22 big n

/-! skiarea/skiarealaw58.NetworkChecks -/
noncomputable def D7 (a0 : Int) (a1 : (List (Int)) × (List ((Int) × ((Int) × (List (Int)))))) : Option (Bool) := d7 (a0, a1)
theorem e7 (sites : Int) (n : (List (Int)) × (List ((Int) × ((Int) × (List (Int)))))) : D7 sites n = (
  (D9).bind fun r =>
  bif (!r) then some false
  else bif decide ((List.length n.1 : Int) > 300) then some true
  else bif decide ((List.length n.2 : Int) > 300) then some true
  else (D16 sites).bind fun r1 =>
  (D10 sites).bind fun r2 =>
  bif (r1.2 == r2.2) then (
    (D14 r1.1 r2.1).bind fun r3 =>
    bif r3 then (
      (D21 n).bind fun r4 =>
      (D22 n).bind fun r5 =>
      some (r4 == r5))
    else some false)
  else some false : Option (Bool)) := by kernel_rfl

/-! skiarea/skiarealaw58.NetworkBounds -/
noncomputable def D8 (a0 : Int) (a1 : List ((Int) × ((Int) × ((Int) × ((List (Int)) × (List (Int))))))) : Option (Bool) := d8 (a0, a1)
noncomputable def lp8_1 (fuel : Nat)  (sites1₀ : Int) (l1₀ : List ((Int) × ((Int) × ((Int) × ((List (Int)) × (List (Int))))))) (n₀ : (List (Int)) × (List ((Int) × ((Int) × (List (Int)))))) (i₀ : Int) : Option (Bool) :=
  iter (fun F ((sites1, l1, n, i) : Int × (List ((Int) × ((Int) × ((Int) × ((List (Int)) × (List (Int))))))) × ((List (Int)) × (List ((Int) × ((Int) × (List (Int)))))) × Int) =>
    bif decide (i < (List.length l1 : Int)) then (
      bif (decide (0 ≤ (i : Int)) && (decide ((i : Int) ≤ IntKind.i64.wrap (i + 1)) && decide ((IntKind.i64.wrap (i + 1) : Int) ≤ (List.length l1 : Int)))) then (
        (D17 n (List.drop (Int.toNat i) (List.take (Int.toNat (IntKind.i64.wrap (i + 1))) l1))).bind fun r3 =>
        (D21 r3).bind fun r4 =>
        bif (r4 != 0) then some false
        else bif ((List.length r3.1 : Int) != sites1) then some false
        else F (sites1, l1, r3, IntKind.i64.wrap (i + 1)))
      else none)
    else some true) fuel (sites1₀, l1₀, n₀, i₀)

theorem f8_1  (sites1 : Int) (l1 : List ((Int) × ((Int) × ((Int) × ((List (Int)) × (List (Int))))))) (n : (List (Int)) × (List ((Int) × ((Int) × (List (Int)))))) (hl : (l1).length ≤ maxLen) : lp8_1 big sites1 l1 n 0 =
  forI (fun ix _ (n : ((List (Int)) × (List ((Int) × ((Int) × (List (Int))))))) K =>
    (bif (decide (0 ≤ ((ix : Int) : Int)) && (decide (((ix : Int) : Int) ≤ IntKind.i64.wrap ((ix : Int) + 1)) && decide ((IntKind.i64.wrap ((ix : Int) + 1) : Int) ≤ (List.length l1 : Int)))) then (
      (D17 n (List.drop (Int.toNat (ix : Int)) (List.take (Int.toNat (IntKind.i64.wrap ((ix : Int) + 1))) l1))).bind fun r3 =>
      (D21 r3).bind fun r4 =>
      bif (r4 != 0) then some false
      else bif ((List.length r3.1 : Int) != sites1) then some false
      else K r3)
    else none : Option (Bool)))
    (fun (_ : ((List (Int)) × (List ((Int) × ((Int) × (List (Int))))))) =>
    (some true : Option (Bool))) 0 l1 n := by
  refine iter_forI_from l1 (fun ix (n : ((List (Int)) × (List ((Int) × ((Int) × (List (Int))))))) => (sites1, l1, n, (ix : Int))) _ _ ?_ ?_ (k := 0) (Nat.zero_le _) (len_lt_big hl) n
  · rintro F k h n
    simp only [dec_lt h, condT, wrap_succ h hl]
  · rintro F n
    simp only [dec_end, condF]

theorem g8 (fuel : Nat) (sites : Int) (l : List ((Int) × ((Int) × ((Int) × ((List (Int)) × (List (Int))))))) : (fnK tab env8 8 ann8 fuel Try.f8 [] ps8 rs8 true (sites, l) : Option (Bool)) = (
  (D9).bind fun r =>
  bif (!r) then some false
  else (D16 sites).bind fun r1 =>
  (D11 l).bind fun r2 =>
  bif (!r2) then some true
  else bif (r1.2 != 0) then some true
  else lp8_1 fuel sites l r1.1 0 : Option (Bool)) := by kernel_rfl
theorem e8 (sites : Int) (l : List ((Int) × ((Int) × ((Int) × ((List (Int)) × (List (Int))))))) : D8 sites l = (
  (D9).bind fun r =>
  bif (!r) then some false
  else (D16 sites).bind fun r1 =>
  (D11 l).bind fun r2 =>
  bif (!r2) then some true
  else bif (r1.2 != 0) then some true
  else lp8_1 big sites l r1.1 0 : Option (Bool)) := g8 big sites l

end Go.Proofs.Ytchgholmoclbhaa.D
