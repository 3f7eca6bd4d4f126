import Derived.Test.YtcfneiladppfnaaT30
import Derived.Test.YtcfneiladppfnaaET30a
open Go Go.GD Go.Proofs
namespace Go.Proofs.Ytcfneiladppfnaa.D
/-! skiarea/uplink.Open -/
noncomputable def D11 (a0 : Int) : Option (((Int) × ((Int) × (List ((Int) × ((Int) × ((Int) × ((Int) × ((Int) × ((Int) × (Int)))))))))) × ((Int) × ((Int) × ((List ((Int) × ((Int) × ((Int) × ((Int) × ((Int) × ((Int) × (Int)))))))) × (List ((Int) × ((Int) × ((Int) × ((Int) × ((Int) × ((Int) × (Int)))))))))))) := d11 a0
theorem e11 (gate : Int) : D11 gate = (
  some ((gate, 1, ([] : List ((Int) × ((Int) × ((Int) × ((Int) × ((Int) × ((Int) × (Int))))))))), (gate, 1, ([] : List ((Int) × ((Int) × ((Int) × ((Int) × ((Int) × ((Int) × (Int)))))))), ([] : List ((Int) × ((Int) × ((Int) × ((Int) × ((Int) × ((Int) × (Int)))))))))) : Option (((Int) × ((Int) × (List ((Int) × ((Int) × ((Int) × ((Int) × ((Int) × ((Int) × (Int)))))))))) × ((Int) × ((Int) × ((List ((Int) × ((Int) × ((Int) × ((Int) × ((Int) × ((Int) × (Int)))))))) × (List ((Int) × ((Int) × ((Int) × ((Int) × ((Int) × ((Int) × (Int))))))))))))) := by kernel_rfl

noncomputable def D27 (a0 : List ((Int) × ((Int) × ((Int) × ((Int) × ((Int) × ((Int) × (Int)))))))) : Option (List ((Int) × ((Int) × ((Int) × ((Int) × ((Int) × ((Int) × (Int)))))))) := d27 a0
theorem e27 (s : List ((Int) × ((Int) × ((Int) × ((Int) × ((Int) × ((Int) × (Int)))))))) : D27 s = (bif (Nat.ble ((List.length ([] : List ((Int) × ((Int) × ((Int) × ((Int) × ((Int) × ((Int) × (Int)))))))) + List.length s) * 56) appendLimit && Nat.ble (List.length ([] : List ((Int) × ((Int) × ((Int) × ((Int) × ((Int) × ((Int) × (Int)))))))) + List.length s) 9223372036854775807) then some (([] : List ((Int) × ((Int) × ((Int) × ((Int) × ((Int) × ((Int) × (Int)))))))) ++ s) else none) := rfl

/-! skiarea/uplink.Post -/
noncomputable def D13 (a0 : (Int) × ((Int) × (List ((Int) × ((Int) × ((Int) × ((Int) × ((Int) × ((Int) × (Int)))))))))) (a1 : (Int) × ((Int) × ((Int) × ((Int) × ((Int) × ((Int) × (Int))))))) : Option (((Int) × ((Int) × (List ((Int) × ((Int) × ((Int) × ((Int) × ((Int) × ((Int) × (Int)))))))))) × (Int)) := d13 (a0, a1)
theorem e13 (o : (Int) × ((Int) × (List ((Int) × ((Int) × ((Int) × ((Int) × ((Int) × ((Int) × (Int)))))))))) (r : (Int) × ((Int) × ((Int) × ((Int) × ((Int) × ((Int) × (Int))))))) : D13 o r = (
  bif (r.1 != o.1) then some ((0, 0, ([] : List ((Int) × ((Int) × ((Int) × ((Int) × ((Int) × ((Int) × (Int))))))))), 1)
  else bif (r.2.1 != o.2.1) then some ((0, 0, ([] : List ((Int) × ((Int) × ((Int) × ((Int) × ((Int) × ((Int) × (Int))))))))), 11)
  else bif decide ((List.length o.2.2 : Int) ≥ 64) then some ((0, 0, ([] : List ((Int) × ((Int) × ((Int) × ((Int) × ((Int) × ((Int) × (Int))))))))), 9)
  else bif decide (o.2.1 ≥ 1000000) then some ((0, 0, ([] : List ((Int) × ((Int) × ((Int) × ((Int) × ((Int) × ((Int) × (Int))))))))), 9)
  else (D27 o.2.2).bind fun r1 =>
  bif (Nat.ble ((List.length r1 + List.length [r]) * 56) appendLimit && Nat.ble (List.length r1 + List.length [r]) 9223372036854775807) then some ((o.1, IntKind.i64.wrap (o.2.1 + 1), r1 ++ [r]), 0)
  else none : Option (((Int) × ((Int) × (List ((Int) × ((Int) × ((Int) × ((Int) × ((Int) × ((Int) × (Int)))))))))) × (Int))) := by kernel_rfl

/-! skiarea/skiarearef30.Same -/
noncomputable def D17 (a0 : List ((Int) × ((Int) × ((Int) × ((Int) × ((Int) × ((Int) × (Int)))))))) (a1 : List ((Int) × ((Int) × ((Int) × ((Int) × ((Int) × ((Int) × (Int)))))))) : Option (Bool) := d17 (a0, a1)
noncomputable def lp17_1 (fuel : Nat)  (a1₀ : List ((Int) × ((Int) × ((Int) × ((Int) × ((Int) × ((Int) × (Int)))))))) (b1₀ : List ((Int) × ((Int) × ((Int) × ((Int) × ((Int) × ((Int) × (Int)))))))) (k_₀ : Int) : Option (Bool) :=
  iter (fun F ((a1, b1, k_) : (List ((Int) × ((Int) × ((Int) × ((Int) × ((Int) × ((Int) × (Int)))))))) × (List ((Int) × ((Int) × ((Int) × ((Int) × ((Int) × ((Int) × (Int)))))))) × Int) =>
    bif decide (k_ < (List.length a1 : Int)) then (
      (idx a1 k_).bind fun e =>
      (idx b1 k_).bind fun e1 =>
      bif (!((e.1 == e1.1) && ((e.2.1 == e1.2.1) && ((e.2.2.1 == e1.2.2.1) && ((e.2.2.2.1 == e1.2.2.2.1) && ((e.2.2.2.2.1 == e1.2.2.2.2.1) && ((e.2.2.2.2.2.1 == e1.2.2.2.2.2.1) && (e.2.2.2.2.2.2 == e1.2.2.2.2.2.2)))))))) then some false
      else F (a1, b1, IntKind.i64.wrap (k_ + 1)))
    else some true) fuel (a1₀, b1₀, k_₀)

theorem f17_1  (a1 : List ((Int) × ((Int) × ((Int) × ((Int) × ((Int) × ((Int) × (Int)))))))) (b1 : List ((Int) × ((Int) × ((Int) × ((Int) × ((Int) × ((Int) × (Int)))))))) (hl : (a1).length ≤ maxLen) : lp17_1 big a1 b1 0 =
  forI (fun ix el (_ : Unit) K =>
    ((idx b1 (ix : Int)).bind fun e1 =>
    bif (!((el.1 == e1.1) && ((el.2.1 == e1.2.1) && ((el.2.2.1 == e1.2.2.1) && ((el.2.2.2.1 == e1.2.2.2.1) && ((el.2.2.2.2.1 == e1.2.2.2.2.1) && ((el.2.2.2.2.2.1 == e1.2.2.2.2.2.1) && (el.2.2.2.2.2.2 == e1.2.2.2.2.2.2)))))))) then some false
    else K () : Option (Bool)))
    (fun (_ : Unit) =>
    (some true : Option (Bool))) 0 a1 () := by
  refine iter_forI_from a1 (fun ix (_ : Unit) => (a1, b1, (ix : Int))) _ _ ?_ ?_ (k := 0) (Nat.zero_le _) (len_lt_big hl) ()
  · rintro F k h _
    simp only [dec_lt h, condT, idx_get h, bindS, wrap_succ h hl]
  · rintro F _
    simp only [dec_end, condF]

theorem g17 (fuel : Nat) (a : List ((Int) × ((Int) × ((Int) × ((Int) × ((Int) × ((Int) × (Int)))))))) (b : List ((Int) × ((Int) × ((Int) × ((Int) × ((Int) × ((Int) × (Int)))))))) : (fnK tab env17 6 ann17 fuel Try.f17 [] ps17 rs17 true (a, b) : Option (Bool)) = (
  bif ((List.length a : Int) != (List.length b : Int)) then some false
  else lp17_1 fuel a b 0 : Option (Bool)) := by kernel_rfl
theorem e17 (a : List ((Int) × ((Int) × ((Int) × ((Int) × ((Int) × ((Int) × (Int)))))))) (b : List ((Int) × ((Int) × ((Int) × ((Int) × ((Int) × ((Int) × (Int)))))))) : D17 a b = (
  bif ((List.length a : Int) != (List.length b : Int)) then some false
  else lp17_1 big a b 0 : Option (Bool)) := g17 big a b

/-! skiarea/skiarearef30.SameIn -/
noncomputable def D16 (a0 : (Int) × ((Int) × ((List ((Int) × ((Int) × ((Int) × ((Int) × ((Int) × ((Int) × (Int)))))))) × (List ((Int) × ((Int) × ((Int) × ((Int) × ((Int) × ((Int) × (Int))))))))))) (a1 : (Int) × ((Int) × ((List ((Int) × ((Int) × ((Int) × ((Int) × ((Int) × ((Int) × (Int)))))))) × (List ((Int) × ((Int) × ((Int) × ((Int) × ((Int) × ((Int) × (Int))))))))))) : Option (Bool) := d16 (a0, a1)
theorem e16 (a : (Int) × ((Int) × ((List ((Int) × ((Int) × ((Int) × ((Int) × ((Int) × ((Int) × (Int)))))))) × (List ((Int) × ((Int) × ((Int) × ((Int) × ((Int) × ((Int) × (Int))))))))))) (b : (Int) × ((Int) × ((List ((Int) × ((Int) × ((Int) × ((Int) × ((Int) × ((Int) × (Int)))))))) × (List ((Int) × ((Int) × ((Int) × ((Int) × ((Int) × ((Int) × (Int))))))))))) : D16 a b = (
  bif (a.1 == b.1) then (
    bif (a.2.1 == b.2.1) then (
      (D17 a.2.2.1 b.2.2.1).bind fun r =>
      bif r then (
        (D17 a.2.2.2 b.2.2.2).bind fun r1 =>
        some r1)
      else some false)
    else some false)
  else some false : Option (Bool)) := by kernel_rfl

/-! skiarea/uplink.Pending -/
noncomputable def D18 (a0 : (Int) × ((Int) × (List ((Int) × ((Int) × ((Int) × ((Int) × ((Int) × ((Int) × (Int)))))))))) : Option (List ((Int) × ((Int) × ((Int) × ((Int) × ((Int) × ((Int) × (Int)))))))) := d18 a0
theorem e18 (o : (Int) × ((Int) × (List ((Int) × ((Int) × ((Int) × ((Int) × ((Int) × ((Int) × (Int)))))))))) : D18 o = (
  (D27 o.2.2).bind fun r =>
  some r : Option (List ((Int) × ((Int) × ((Int) × ((Int) × ((Int) × ((Int) × (Int))))))))) := by kernel_rfl

noncomputable def D28 (a0 : List ((Int) × ((Int) × ((Int) × ((Int) × ((Int) × ((Int) × (Int)))))))) (a1 : ((Int) × ((Int) × ((Int) × ((Int) × ((Int) × ((Int) × (Int))))))) → Option (Bool)) : Option (List ((Int) × ((Int) × ((Int) × ((Int) × ((Int) × ((Int) × (Int)))))))) := d28 (a0, a1)

/-! skiarea/uplink.Ack$1 -/
noncomputable def D29 (a0 : (Int) × ((Int) × ((Int) × ((Int) × ((Int) × ((Int) × (Int))))))) (a1 : Int) : Option (Bool) := d29 (a0, a1)
theorem e29 (r : (Int) × ((Int) × ((Int) × ((Int) × ((Int) × ((Int) × (Int))))))) (v : Int) : D29 r v = (
  some (decide (r.2.1 ≤ v)) : Option (Bool)) := by kernel_rfl

/-! skiarea/uplink.Ack -/
noncomputable def D19 (a0 : (Int) × ((Int) × (List ((Int) × ((Int) × ((Int) × ((Int) × ((Int) × ((Int) × (Int)))))))))) (a1 : Int) : Option ((Int) × ((Int) × (List ((Int) × ((Int) × ((Int) × ((Int) × ((Int) × ((Int) × (Int)))))))))) := d19 (a0, a1)
theorem e19 (o : (Int) × ((Int) × (List ((Int) × ((Int) × ((Int) × ((Int) × ((Int) × ((Int) × (Int)))))))))) (n : Int) : D19 o n = (
  (D27 o.2.2).bind fun r =>
  (D28 r (fun y => D29 y n)).bind fun r1 =>
  some (o.1, o.2.1, r1) : Option ((Int) × ((Int) × (List ((Int) × ((Int) × ((Int) × ((Int) × ((Int) × ((Int) × (Int))))))))))) := by kernel_rfl

/-! skiarea/uplink.Receive$1 -/
noncomputable def D31 (a0 : (Int) × ((Int) × ((Int) × ((Int) × ((Int) × ((Int) × (Int))))))) (a1 : (Int) × ((Int) × ((List ((Int) × ((Int) × ((Int) × ((Int) × ((Int) × ((Int) × (Int)))))))) × (List ((Int) × ((Int) × ((Int) × ((Int) × ((Int) × ((Int) × (Int))))))))))) : Option (Bool) := d31 (a0, a1)
theorem e31 (o : (Int) × ((Int) × ((Int) × ((Int) × ((Int) × ((Int) × (Int))))))) (v : (Int) × ((Int) × ((List ((Int) × ((Int) × ((Int) × ((Int) × ((Int) × ((Int) × (Int)))))))) × (List ((Int) × ((Int) × ((Int) × ((Int) × ((Int) × ((Int) × (Int))))))))))) : D31 o v = (
  some (o.2.1 == v.2.1) : Option (Bool)) := by kernel_rfl

noncomputable def D32 (a0 : List ((Int) × ((Int) × ((Int) × ((Int) × ((Int) × ((Int) × (Int)))))))) (a1 : Int) (a2 : Int) : Option (List ((Int) × ((Int) × ((Int) × ((Int) × ((Int) × ((Int) × (Int)))))))) := d32 (a0, a1, a2)

/-! slices.ContainsFunc[[]skiarea/api.Ride,skiarea/api.Ride] -/
noncomputable def D33 (a0 : List ((Int) × ((Int) × ((Int) × ((Int) × ((Int) × ((Int) × (Int)))))))) (a1 : ((Int) × ((Int) × ((Int) × ((Int) × ((Int) × ((Int) × (Int))))))) → Option (Bool)) : Option (Bool) := d33 (a0, a1)
theorem e33 (s : List ((Int) × ((Int) × ((Int) × ((Int) × ((Int) × ((Int) × (Int)))))))) (f : ((Int) × ((Int) × ((Int) × ((Int) × ((Int) × ((Int) × (Int))))))) → Option (Bool)) : D33 s f = (
  (D30 s f).bind fun r =>
  some (decide (r ≥ 0)) : Option (Bool)) := by kernel_rfl

/-! skiarea/uplink.Receive$2 -/
noncomputable def D34 (a0 : (Int) × ((Int) × ((Int) × ((Int) × ((Int) × ((Int) × (Int))))))) (a1 : (Int) × ((Int) × ((Int) × ((Int) × ((Int) × ((Int) × (Int))))))) : Option (Bool) := d34 (a0, a1)
theorem e34 (o : (Int) × ((Int) × ((Int) × ((Int) × ((Int) × ((Int) × (Int))))))) (v : (Int) × ((Int) × ((Int) × ((Int) × ((Int) × ((Int) × (Int))))))) : D34 o v = (
  some (o.2.1 == v.2.1) : Option (Bool)) := by kernel_rfl

/-! skiarea/uplink.Receive$3 -/
noncomputable def D35 (a0 : (Int) × ((Int) × ((Int) × ((Int) × ((Int) × ((Int) × (Int))))))) (a1 : (Int) × ((Int) × ((Int) × ((Int) × ((Int) × ((Int) × (Int))))))) : Option (Bool) := d35 (a0, a1)
theorem e35 (o : (Int) × ((Int) × ((Int) × ((Int) × ((Int) × ((Int) × (Int))))))) (v : (Int) × ((Int) × ((Int) × ((Int) × ((Int) × ((Int) × (Int))))))) : D35 o v = (
  some (decide (o.2.1 > v.2.1)) : Option (Bool)) := by kernel_rfl

noncomputable def D36 (a0 : List ((Int) × ((Int) × ((Int) × ((Int) × ((Int) × ((Int) × (Int)))))))) (a1 : Int) (a2 : List ((Int) × ((Int) × ((Int) × ((Int) × ((Int) × ((Int) × (Int)))))))) : Option (List ((Int) × ((Int) × ((Int) × ((Int) × ((Int) × ((Int) × (Int)))))))) := d36 (a0, a1, a2)

/-! skiarea/uplink.Receive -/
noncomputable def D21 (a0 : (Int) × ((Int) × ((List ((Int) × ((Int) × ((Int) × ((Int) × ((Int) × ((Int) × (Int)))))))) × (List ((Int) × ((Int) × ((Int) × ((Int) × ((Int) × ((Int) × (Int))))))))))) (a1 : (Int) × ((Int) × ((Int) × ((Int) × ((Int) × ((Int) × (Int))))))) : Option (((Int) × ((Int) × ((List ((Int) × ((Int) × ((Int) × ((Int) × ((Int) × ((Int) × (Int)))))))) × (List ((Int) × ((Int) × ((Int) × ((Int) × ((Int) × ((Int) × (Int))))))))))) × (Int)) := d21 (a0, a1)
noncomputable def lp21_1 (fuel : Nat)  (i1₀ : (Int) × ((Int) × ((List ((Int) × ((Int) × ((Int) × ((Int) × ((Int) × ((Int) × (Int)))))))) × (List ((Int) × ((Int) × ((Int) × ((Int) × ((Int) × ((Int) × (Int))))))))))) (v₀ : (Int) × ((Int) × ((List ((Int) × ((Int) × ((Int) × ((Int) × ((Int) × ((Int) × (Int)))))))) × (List ((Int) × ((Int) × ((Int) × ((Int) × ((Int) × ((Int) × (Int))))))))))) : Option (((Int) × ((Int) × ((List ((Int) × ((Int) × ((Int) × ((Int) × ((Int) × ((Int) × (Int)))))))) × (List ((Int) × ((Int) × ((Int) × ((Int) × ((Int) × ((Int) × (Int))))))))))) × (Int)) :=
  iter (fun F ((i1, v) : ((Int) × ((Int) × ((List ((Int) × ((Int) × ((Int) × ((Int) × ((Int) × ((Int) × (Int)))))))) × (List ((Int) × ((Int) × ((Int) × ((Int) × ((Int) × ((Int) × (Int))))))))))) × ((Int) × ((Int) × ((List ((Int) × ((Int) × ((Int) × ((Int) × ((Int) × ((Int) × (Int)))))))) × (List ((Int) × ((Int) × ((Int) × ((Int) × ((Int) × ((Int) × (Int)))))))))))) =>
    (D30 i1.2.2.2 (fun y => D31 y i1)).bind fun r3 =>
    bif decide (r3 < 0) then some (i1, IntKind.i64.wrap (i1.2.1 - 1))
    else (idx i1.2.2.2 r3).bind fun e =>
    bif (Nat.ble ((List.length i1.2.2.1 + List.length [e]) * 56) appendLimit && Nat.ble (List.length i1.2.2.1 + List.length [e]) 9223372036854775807) then (
      (D32 i1.2.2.2 r3 (IntKind.i64.wrap (r3 + 1))).bind fun r4 =>
      F ((i1.1, IntKind.i64.wrap (i1.2.1 + 1), i1.2.2.1 ++ [e], r4), v))
    else none) fuel (i1₀, v₀)

theorem g21 (fuel : Nat) (i : (Int) × ((Int) × ((List ((Int) × ((Int) × ((Int) × ((Int) × ((Int) × ((Int) × (Int)))))))) × (List ((Int) × ((Int) × ((Int) × ((Int) × ((Int) × ((Int) × (Int))))))))))) (r : (Int) × ((Int) × ((Int) × ((Int) × ((Int) × ((Int) × (Int))))))) : (fnK tab env21 8 ann21 fuel Try.f21 [] ps21 rs21 false (i, r) : Option (((Int) × ((Int) × ((List ((Int) × ((Int) × ((Int) × ((Int) × ((Int) × ((Int) × (Int)))))))) × (List ((Int) × ((Int) × ((Int) × ((Int) × ((Int) × ((Int) × (Int))))))))))) × (Int))) = (
  (D27 i.2.2.1).bind fun r1 =>
  (D27 i.2.2.2).bind fun r2 =>
  bif (r.1 != i.1) then some ((i.1, i.2.1, r1, r2), IntKind.i64.wrap (i.2.1 - 1))
  else bif decide (r.2.1 < i.2.1) then some ((i.1, i.2.1, r1, r2), IntKind.i64.wrap (i.2.1 - 1))
  else bif (r.2.1 == i.2.1) then (
    bif (Nat.ble ((List.length r1 + List.length [r]) * 56) appendLimit && Nat.ble (List.length r1 + List.length [r]) 9223372036854775807) then lp21_1 fuel (i.1, IntKind.i64.wrap (i.2.1 + 1), r1 ++ [r], r2) (0, 0, ([] : List ((Int) × ((Int) × ((Int) × ((Int) × ((Int) × ((Int) × (Int)))))))), ([] : List ((Int) × ((Int) × ((Int) × ((Int) × ((Int) × ((Int) × (Int)))))))))
    else none)
  else (D33 r2 (fun y => D34 y r)).bind fun r3 =>
  bif (!r3) then (
    (D30 r2 (fun y => D35 y r)).bind fun r4 =>
    bif decide (r4 < 0) then (
      (D36 r2 (List.length r2 : Int) [r]).bind fun r5 =>
      some ((i.1, i.2.1, r1, r5), IntKind.i64.wrap (i.2.1 - 1)))
    else (D36 r2 r4 [r]).bind fun r5 =>
    some ((i.1, i.2.1, r1, r5), IntKind.i64.wrap (i.2.1 - 1)))
  else some ((i.1, i.2.1, r1, r2), IntKind.i64.wrap (i.2.1 - 1)) : Option (((Int) × ((Int) × ((List ((Int) × ((Int) × ((Int) × ((Int) × ((Int) × ((Int) × (Int)))))))) × (List ((Int) × ((Int) × ((Int) × ((Int) × ((Int) × ((Int) × (Int))))))))))) × (Int))) := by kernel_rfl
theorem e21 (i : (Int) × ((Int) × ((List ((Int) × ((Int) × ((Int) × ((Int) × ((Int) × ((Int) × (Int)))))))) × (List ((Int) × ((Int) × ((Int) × ((Int) × ((Int) × ((Int) × (Int))))))))))) (r : (Int) × ((Int) × ((Int) × ((Int) × ((Int) × ((Int) × (Int))))))) : D21 i r = (
  (D27 i.2.2.1).bind fun r1 =>
  (D27 i.2.2.2).bind fun r2 =>
  bif (r.1 != i.1) then some ((i.1, i.2.1, r1, r2), IntKind.i64.wrap (i.2.1 - 1))
  else bif decide (r.2.1 < i.2.1) then some ((i.1, i.2.1, r1, r2), IntKind.i64.wrap (i.2.1 - 1))
  else bif (r.2.1 == i.2.1) then (
    bif (Nat.ble ((List.length r1 + List.length [r]) * 56) appendLimit && Nat.ble (List.length r1 + List.length [r]) 9223372036854775807) then lp21_1 big (i.1, IntKind.i64.wrap (i.2.1 + 1), r1 ++ [r], r2) (0, 0, ([] : List ((Int) × ((Int) × ((Int) × ((Int) × ((Int) × ((Int) × (Int)))))))), ([] : List ((Int) × ((Int) × ((Int) × ((Int) × ((Int) × ((Int) × (Int)))))))))
    else none)
  else (D33 r2 (fun y => D34 y r)).bind fun r3 =>
  bif (!r3) then (
    (D30 r2 (fun y => D35 y r)).bind fun r4 =>
    bif decide (r4 < 0) then (
      (D36 r2 (List.length r2 : Int) [r]).bind fun r5 =>
      some ((i.1, i.2.1, r1, r5), IntKind.i64.wrap (i.2.1 - 1)))
    else (D36 r2 r4 [r]).bind fun r5 =>
    some ((i.1, i.2.1, r1, r5), IntKind.i64.wrap (i.2.1 - 1)))
  else some ((i.1, i.2.1, r1, r2), IntKind.i64.wrap (i.2.1 - 1)) : Option (((Int) × ((Int) × ((List ((Int) × ((Int) × ((Int) × ((Int) × ((Int) × ((Int) × (Int)))))))) × (List ((Int) × ((Int) × ((Int) × ((Int) × ((Int) × ((Int) × (Int))))))))))) × (Int))) := g21 big i r

/-! skiarea/uplink.consecutive -/
noncomputable def D40 (a0 : List ((Int) × ((Int) × ((Int) × ((Int) × ((Int) × ((Int) × (Int)))))))) (a1 : Int) (a2 : Int) : Option (Bool) := d40 (a0, a1, a2)
noncomputable def lp40_1 (fuel : Nat)  (gate1₀ : Int) (first_1₀ : Int) (v₀ : List ((Int) × ((Int) × ((Int) × ((Int) × ((Int) × ((Int) × (Int)))))))) (v1₀ : Int) (v2₀ : Int) : Option (Bool) :=
  iter (fun F ((gate1, first_1, v, v1, v2) : Int × Int × (List ((Int) × ((Int) × ((Int) × ((Int) × ((Int) × ((Int) × (Int)))))))) × Int × Int) =>
    bif decide (v2 < v1) then (
      (idx v v2).bind fun e =>
      bif (e.1 != gate1) then some false
      else bif (e.2.1 != IntKind.i64.wrap (first_1 + v2)) then some false
      else F (gate1, first_1, v, v1, IntKind.i64.wrap (v2 + 1)))
    else some true) fuel (gate1₀, first_1₀, v₀, v1₀, v2₀)

theorem f40_1  (gate1 : Int) (first_1 : Int) (v : List ((Int) × ((Int) × ((Int) × ((Int) × ((Int) × ((Int) × (Int)))))))) (hl : (v).length ≤ maxLen) : lp40_1 big gate1 first_1 v (List.length v : Int) 0 =
  forI (fun ix el (_ : Unit) K =>
    (bif (el.1 != gate1) then some false
    else bif (el.2.1 != IntKind.i64.wrap (first_1 + (ix : Int))) then some false
    else K () : Option (Bool)))
    (fun (_ : Unit) =>
    (some true : Option (Bool))) 0 v () := by
  refine iter_forI_from v (fun ix (_ : Unit) => (gate1, first_1, v, (List.length v : Int), (ix : Int))) _ _ ?_ ?_ (k := 0) (Nat.zero_le _) (len_lt_big hl) ()
  · rintro F k h _
    simp only [dec_lt h, condT, idx_get h, bindS, wrap_succ h hl]
  · rintro F _
    simp only [dec_end, condF]

theorem g40 (fuel : Nat) (l : List ((Int) × ((Int) × ((Int) × ((Int) × ((Int) × ((Int) × (Int)))))))) (gate : Int) (first_ : Int) : (fnK tab env40 9 ann40 fuel Try.f40 [] ps40 rs40 true (l, gate, first_) : Option (Bool)) = (
  lp40_1 fuel gate first_ l (List.length l : Int) 0 : Option (Bool)) := by kernel_rfl
theorem e40 (l : List ((Int) × ((Int) × ((Int) × ((Int) × ((Int) × ((Int) × (Int)))))))) (gate : Int) (first_ : Int) : D40 l gate first_ = (
  lp40_1 big gate first_ l (List.length l : Int) 0 : Option (Bool)) := g40 big l gate first_

/-! skiarea/uplink.Right -/
noncomputable def D23 (a0 : (Int) × ((Int) × (List ((Int) × ((Int) × ((Int) × ((Int) × ((Int) × ((Int) × (Int)))))))))) (a1 : (Int) × ((Int) × ((List ((Int) × ((Int) × ((Int) × ((Int) × ((Int) × ((Int) × (Int)))))))) × (List ((Int) × ((Int) × ((Int) × ((Int) × ((Int) × ((Int) × (Int))))))))))) : Option (Bool) := d23 (a0, a1)
noncomputable def lp23_1 (fuel : Nat)  (o1₀ : (Int) × ((Int) × (List ((Int) × ((Int) × ((Int) × ((Int) × ((Int) × ((Int) × (Int)))))))))) (first_₀ : Int) (last_₀ : Int) (v₀ : List ((Int) × ((Int) × ((Int) × ((Int) × ((Int) × ((Int) × (Int)))))))) (v1₀ : Int) (v2₀ : Int) : Option (Bool) :=
  iter (fun F ((o1, first_, last_, v, v1, v2) : ((Int) × ((Int) × (List ((Int) × ((Int) × ((Int) × ((Int) × ((Int) × ((Int) × (Int)))))))))) × Int × Int × (List ((Int) × ((Int) × ((Int) × ((Int) × ((Int) × ((Int) × (Int)))))))) × Int × Int) =>
    bif decide (v2 < v1) then (
      (idx v v2).bind fun e =>
      bif decide (e.2.1 ≤ last_) then some false
      else bif decide (e.2.1 ≥ o1.2.1) then some false
      else (idx o1.2.2 (IntKind.i64.wrap (e.2.1 - first_))).bind fun e1 =>
      bif (!((e.1 == e1.1) && ((e.2.1 == e1.2.1) && ((e.2.2.1 == e1.2.2.1) && ((e.2.2.2.1 == e1.2.2.2.1) && ((e.2.2.2.2.1 == e1.2.2.2.2.1) && ((e.2.2.2.2.2.1 == e1.2.2.2.2.2.1) && (e.2.2.2.2.2.2 == e1.2.2.2.2.2.2)))))))) then some false
      else F (o1, first_, e.2.1, v, v1, IntKind.i64.wrap (v2 + 1)))
    else some true) fuel (o1₀, first_₀, last_₀, v₀, v1₀, v2₀)

theorem f23_1  (o1 : (Int) × ((Int) × (List ((Int) × ((Int) × ((Int) × ((Int) × ((Int) × ((Int) × (Int)))))))))) (first_ : Int) (last_ : Int) (v : List ((Int) × ((Int) × ((Int) × ((Int) × ((Int) × ((Int) × (Int)))))))) (hl : (v).length ≤ maxLen) : lp23_1 big o1 first_ last_ v (List.length v : Int) 0 =
  forE (fun  el (last_ : Int) K =>
    (bif decide (el.2.1 ≤ last_) then some false
    else bif decide (el.2.1 ≥ o1.2.1) then some false
    else (idx o1.2.2 (IntKind.i64.wrap (el.2.1 - first_))).bind fun e1 =>
    bif (!((el.1 == e1.1) && ((el.2.1 == e1.2.1) && ((el.2.2.1 == e1.2.2.1) && ((el.2.2.2.1 == e1.2.2.2.1) && ((el.2.2.2.2.1 == e1.2.2.2.2.1) && ((el.2.2.2.2.2.1 == e1.2.2.2.2.2.1) && (el.2.2.2.2.2.2 == e1.2.2.2.2.2.2)))))))) then some false
    else K el.2.1 : Option (Bool)))
    (fun (_ : Int) =>
    (some true : Option (Bool))) v last_ := by
  refine iter_forE v (fun ix (last_ : Int) => (o1, first_, last_, v, (List.length v : Int), (ix : Int))) _ _ ?_ ?_ (len_lt_big hl) last_
  · rintro F k h last_
    simp only [dec_lt h, condT, idx_get h, bindS, wrap_succ h hl]
  · rintro F last_
    simp only [dec_end, condF]

theorem g23 (fuel : Nat) (o : (Int) × ((Int) × (List ((Int) × ((Int) × ((Int) × ((Int) × ((Int) × ((Int) × (Int)))))))))) (i : (Int) × ((Int) × ((List ((Int) × ((Int) × ((Int) × ((Int) × ((Int) × ((Int) × (Int)))))))) × (List ((Int) × ((Int) × ((Int) × ((Int) × ((Int) × ((Int) × (Int))))))))))) : (fnK tab env23 9 ann23 fuel Try.f23 [] ps23 rs23 true (o, i) : Option (Bool)) = (
  bif (o.1 != i.1) then some false
  else bif decide (o.2.1 < 1) then some false
  else bif decide (o.2.1 > 1000000) then some false
  else bif decide ((List.length o.2.2 : Int) > IntKind.i64.wrap (o.2.1 - 1)) then some false
  else (D40 o.2.2 o.1 (IntKind.i64.wrap (o.2.1 - (List.length o.2.2 : Int)))).bind fun r =>
  bif (!r) then some false
  else bif decide (i.2.1 < IntKind.i64.wrap (o.2.1 - (List.length o.2.2 : Int))) then some false
  else bif decide (i.2.1 > o.2.1) then some false
  else bif ((List.length i.2.2.1 : Int) != IntKind.i64.wrap (i.2.1 - 1)) then some false
  else (D40 i.2.2.1 i.1 1).bind fun r1 =>
  bif (!r1) then some false
  else lp23_1 fuel o (IntKind.i64.wrap (o.2.1 - (List.length o.2.2 : Int))) i.2.1 i.2.2.2 (List.length i.2.2.2 : Int) 0 : Option (Bool)) := by kernel_rfl
theorem e23 (o : (Int) × ((Int) × (List ((Int) × ((Int) × ((Int) × ((Int) × ((Int) × ((Int) × (Int)))))))))) (i : (Int) × ((Int) × ((List ((Int) × ((Int) × ((Int) × ((Int) × ((Int) × ((Int) × (Int)))))))) × (List ((Int) × ((Int) × ((Int) × ((Int) × ((Int) × ((Int) × (Int))))))))))) : D23 o i = (
  bif (o.1 != i.1) then some false
  else bif decide (o.2.1 < 1) then some false
  else bif decide (o.2.1 > 1000000) then some false
  else bif decide ((List.length o.2.2 : Int) > IntKind.i64.wrap (o.2.1 - 1)) then some false
  else (D40 o.2.2 o.1 (IntKind.i64.wrap (o.2.1 - (List.length o.2.2 : Int)))).bind fun r =>
  bif (!r) then some false
  else bif decide (i.2.1 < IntKind.i64.wrap (o.2.1 - (List.length o.2.2 : Int))) then some false
  else bif decide (i.2.1 > o.2.1) then some false
  else bif ((List.length i.2.2.1 : Int) != IntKind.i64.wrap (i.2.1 - 1)) then some false
  else (D40 i.2.2.1 i.1 1).bind fun r1 =>
  bif (!r1) then some false
  else lp23_1 big o (IntKind.i64.wrap (o.2.1 - (List.length o.2.2 : Int))) i.2.1 i.2.2.2 (List.length i.2.2.2 : Int) 0 : Option (Bool)) := g23 big o i

/-! skiarea/skiarealaw30.ride -/
noncomputable def D26 (a0 : Int) : Option ((Int) × ((Int) × ((Int) × ((Int) × ((Int) × ((Int) × (Int))))))) := d26 a0
theorem e26 (seq : Int) : D26 seq = (
  some (7, seq, IntKind.i64.wrap ((100 : Int) + seq), 0, 0, 0, 0) : Option ((Int) × ((Int) × ((Int) × ((Int) × ((Int) × ((Int) × (Int)))))))) := by kernel_rfl

noncomputable def D9  : Option (Bool) := d9 ()
theorem aliveD : D9 = some true := alive

/-! skiarea/skiarealaw30.few -/
noncomputable def D10 (a0 : List ((Int) × ((Int) × ((Int) × ((Int) × ((Int) × ((Int) × (Int)))))))) : Option (Bool) := d10 a0
theorem e10 (l : List ((Int) × ((Int) × ((Int) × ((Int) × ((Int) × ((Int) × (Int)))))))) : D10 l = (
  some (decide ((List.length l : Int) ≤ 200)) : Option (Bool)) := by kernel_rfl

/-! skiarea/skiarearef30.Open -/
noncomputable def D12 (a0 : Int) : Option (((Int) × ((Int) × (List ((Int) × ((Int) × ((Int) × ((Int) × ((Int) × ((Int) × (Int)))))))))) × ((Int) × ((Int) × ((List ((Int) × ((Int) × ((Int) × ((Int) × ((Int) × ((Int) × (Int)))))))) × (List ((Int) × ((Int) × ((Int) × ((Int) × ((Int) × ((Int) × (Int)))))))))))) := d12 a0
theorem e12 (gate : Int) : D12 gate = (
  some ((gate, 1, ([] : List ((Int) × ((Int) × ((Int) × ((Int) × ((Int) × ((Int) × (Int))))))))), (gate, 1, ([] : List ((Int) × ((Int) × ((Int) × ((Int) × ((Int) × ((Int) × (Int)))))))), ([] : List ((Int) × ((Int) × ((Int) × ((Int) × ((Int) × ((Int) × (Int)))))))))) : Option (((Int) × ((Int) × (List ((Int) × ((Int) × ((Int) × ((Int) × ((Int) × ((Int) × (Int)))))))))) × ((Int) × ((Int) × ((List ((Int) × ((Int) × ((Int) × ((Int) × ((Int) × ((Int) × (Int)))))))) × (List ((Int) × ((Int) × ((Int) × ((Int) × ((Int) × ((Int) × (Int))))))))))))) := by kernel_rfl

/-! skiarea/skiarearef30.Post -/
noncomputable def D14 (a0 : (Int) × ((Int) × (List ((Int) × ((Int) × ((Int) × ((Int) × ((Int) × ((Int) × (Int)))))))))) (a1 : (Int) × ((Int) × ((Int) × ((Int) × ((Int) × ((Int) × (Int))))))) : Option (((Int) × ((Int) × (List ((Int) × ((Int) × ((Int) × ((Int) × ((Int) × ((Int) × (Int)))))))))) × (Int)) := d14 (a0, a1)
theorem e14 (o : (Int) × ((Int) × (List ((Int) × ((Int) × ((Int) × ((Int) × ((Int) × ((Int) × (Int)))))))))) (r : (Int) × ((Int) × ((Int) × ((Int) × ((Int) × ((Int) × (Int))))))) : D14 o r = (
  bif (r.1 != o.1) then some ((0, 0, ([] : List ((Int) × ((Int) × ((Int) × ((Int) × ((Int) × ((Int) × (Int))))))))), 1)
  else bif (r.2.1 != o.2.1) then some ((0, 0, ([] : List ((Int) × ((Int) × ((Int) × ((Int) × ((Int) × ((Int) × (Int))))))))), 11)
  else bif decide ((List.length o.2.2 : Int) ≥ 64) then some ((0, 0, ([] : List ((Int) × ((Int) × ((Int) × ((Int) × ((Int) × ((Int) × (Int))))))))), 9)
  else bif decide (o.2.1 ≥ 1000000) then some ((0, 0, ([] : List ((Int) × ((Int) × ((Int) × ((Int) × ((Int) × ((Int) × (Int))))))))), 9)
  else bif (Nat.ble ((List.length ([] : List ((Int) × ((Int) × ((Int) × ((Int) × ((Int) × ((Int) × (Int)))))))) + List.length o.2.2) * 56) appendLimit && Nat.ble (List.length ([] : List ((Int) × ((Int) × ((Int) × ((Int) × ((Int) × ((Int) × (Int)))))))) + List.length o.2.2) 9223372036854775807) then (
    bif (Nat.ble ((List.length (([] : List ((Int) × ((Int) × ((Int) × ((Int) × ((Int) × ((Int) × (Int)))))))) ++ o.2.2) + List.length [r]) * 56) appendLimit && Nat.ble (List.length (([] : List ((Int) × ((Int) × ((Int) × ((Int) × ((Int) × ((Int) × (Int)))))))) ++ o.2.2) + List.length [r]) 9223372036854775807) then some ((o.1, IntKind.i64.wrap (o.2.1 + 1), (([] : List ((Int) × ((Int) × ((Int) × ((Int) × ((Int) × ((Int) × (Int)))))))) ++ o.2.2) ++ [r]), 0)
    else none)
  else none : Option (((Int) × ((Int) × (List ((Int) × ((Int) × ((Int) × ((Int) × ((Int) × ((Int) × (Int)))))))))) × (Int))) := by kernel_rfl

/-! skiarea/skiarearef30.SameOut -/
noncomputable def D15 (a0 : (Int) × ((Int) × (List ((Int) × ((Int) × ((Int) × ((Int) × ((Int) × ((Int) × (Int)))))))))) (a1 : (Int) × ((Int) × (List ((Int) × ((Int) × ((Int) × ((Int) × ((Int) × ((Int) × (Int)))))))))) : Option (Bool) := d15 (a0, a1)
theorem e15 (a : (Int) × ((Int) × (List ((Int) × ((Int) × ((Int) × ((Int) × ((Int) × ((Int) × (Int)))))))))) (b : (Int) × ((Int) × (List ((Int) × ((Int) × ((Int) × ((Int) × ((Int) × ((Int) × (Int)))))))))) : D15 a b = (
  bif (a.1 == b.1) then (
    bif (a.2.1 == b.2.1) then (
      (D17 a.2.2 b.2.2).bind fun r =>
      some r)
    else some false)
  else some false : Option (Bool)) := by kernel_rfl

/-! skiarea/skiarearef30.Ack -/
noncomputable def D20 (a0 : (Int) × ((Int) × (List ((Int) × ((Int) × ((Int) × ((Int) × ((Int) × ((Int) × (Int)))))))))) (a1 : Int) : Option ((Int) × ((Int) × (List ((Int) × ((Int) × ((Int) × ((Int) × ((Int) × ((Int) × (Int)))))))))) := d20 (a0, a1)
noncomputable def lp20_1 (fuel : Nat)  (n1₀ : Int) (o1₀ : (Int) × ((Int) × (List ((Int) × ((Int) × ((Int) × ((Int) × ((Int) × ((Int) × (Int)))))))))) (v₀ : (Int) × ((Int) × (List ((Int) × ((Int) × ((Int) × ((Int) × ((Int) × ((Int) × (Int)))))))))) (out₀ : (Int) × ((Int) × (List ((Int) × ((Int) × ((Int) × ((Int) × ((Int) × ((Int) × (Int)))))))))) (k_₀ : Int) : Option ((Int) × ((Int) × (List ((Int) × ((Int) × ((Int) × ((Int) × ((Int) × ((Int) × (Int)))))))))) :=
  iter (fun F ((n1, o1, v, out, k_) : Int × ((Int) × ((Int) × (List ((Int) × ((Int) × ((Int) × ((Int) × ((Int) × ((Int) × (Int)))))))))) × ((Int) × ((Int) × (List ((Int) × ((Int) × ((Int) × ((Int) × ((Int) × ((Int) × (Int)))))))))) × ((Int) × ((Int) × (List ((Int) × ((Int) × ((Int) × ((Int) × ((Int) × ((Int) × (Int)))))))))) × Int) =>
    bif decide (k_ < (List.length o1.2.2 : Int)) then (
      (idx o1.2.2 k_).bind fun e =>
      bif decide (e.2.1 > n1) then (
        (idx o1.2.2 k_).bind fun e1 =>
        bif (Nat.ble ((List.length out.2.2 + List.length [e1]) * 56) appendLimit && Nat.ble (List.length out.2.2 + List.length [e1]) 9223372036854775807) then F (n1, o1, v, (out.1, out.2.1, out.2.2 ++ [e1]), IntKind.i64.wrap (k_ + 1))
        else none)
      else F (n1, o1, v, out, IntKind.i64.wrap (k_ + 1)))
    else some out) fuel (n1₀, o1₀, v₀, out₀, k_₀)

theorem f20_1  (n1 : Int) (o1 : (Int) × ((Int) × (List ((Int) × ((Int) × ((Int) × ((Int) × ((Int) × ((Int) × (Int)))))))))) (v : (Int) × ((Int) × (List ((Int) × ((Int) × ((Int) × ((Int) × ((Int) × ((Int) × (Int)))))))))) (out : (Int) × ((Int) × (List ((Int) × ((Int) × ((Int) × ((Int) × ((Int) × ((Int) × (Int)))))))))) (hl : (o1.2.2).length ≤ maxLen) : lp20_1 big n1 o1 v out 0 =
  forE (fun  el (out : ((Int) × ((Int) × (List ((Int) × ((Int) × ((Int) × ((Int) × ((Int) × ((Int) × (Int))))))))))) K =>
    (bif decide (el.2.1 > n1) then (
      bif (Nat.ble ((List.length out.2.2 + List.length [el]) * 56) appendLimit && Nat.ble (List.length out.2.2 + List.length [el]) 9223372036854775807) then K (out.1, out.2.1, out.2.2 ++ [el])
      else none)
    else K out : Option ((Int) × ((Int) × (List ((Int) × ((Int) × ((Int) × ((Int) × ((Int) × ((Int) × (Int))))))))))))
    (fun (out : ((Int) × ((Int) × (List ((Int) × ((Int) × ((Int) × ((Int) × ((Int) × ((Int) × (Int))))))))))) =>
    (some out : Option ((Int) × ((Int) × (List ((Int) × ((Int) × ((Int) × ((Int) × ((Int) × ((Int) × (Int)))))))))))) o1.2.2 out := by
  refine iter_forE o1.2.2 (fun ix (out : ((Int) × ((Int) × (List ((Int) × ((Int) × ((Int) × ((Int) × ((Int) × ((Int) × (Int))))))))))) => (n1, o1, v, out, (ix : Int))) _ _ ?_ ?_ (len_lt_big hl) out
  · rintro F k h out
    simp only [dec_lt h, condT, idx_get h, bindS, wrap_succ h hl]
  · rintro F out
    simp only [dec_end, condF]

theorem g20 (fuel : Nat) (o : (Int) × ((Int) × (List ((Int) × ((Int) × ((Int) × ((Int) × ((Int) × ((Int) × (Int)))))))))) (n : Int) : (fnK tab env20 7 ann20 fuel Try.f20 [] ps20 rs20 true (o, n) : Option ((Int) × ((Int) × (List ((Int) × ((Int) × ((Int) × ((Int) × ((Int) × ((Int) × (Int))))))))))) = (
  lp20_1 fuel n o (0, 0, ([] : List ((Int) × ((Int) × ((Int) × ((Int) × ((Int) × ((Int) × (Int))))))))) (o.1, o.2.1, ([] : List ((Int) × ((Int) × ((Int) × ((Int) × ((Int) × ((Int) × (Int))))))))) 0 : Option ((Int) × ((Int) × (List ((Int) × ((Int) × ((Int) × ((Int) × ((Int) × ((Int) × (Int))))))))))) := by kernel_rfl
theorem e20 (o : (Int) × ((Int) × (List ((Int) × ((Int) × ((Int) × ((Int) × ((Int) × ((Int) × (Int)))))))))) (n : Int) : D20 o n = (
  lp20_1 big n o (0, 0, ([] : List ((Int) × ((Int) × ((Int) × ((Int) × ((Int) × ((Int) × (Int))))))))) (o.1, o.2.1, ([] : List ((Int) × ((Int) × ((Int) × ((Int) × ((Int) × ((Int) × (Int))))))))) 0 : Option ((Int) × ((Int) × (List ((Int) × ((Int) × ((Int) × ((Int) × ((Int) × ((Int) × (Int))))))))))) := g20 big o n

/-! skiarea/skiarealaw30.UplinkPosts -/
noncomputable def D3 (a0 : (Int) × ((Int) × (List ((Int) × ((Int) × ((Int) × ((Int) × ((Int) × ((Int) × (Int)))))))))) (a1 : (Int) × ((Int) × ((Int) × ((Int) × ((Int) × ((Int) × (Int))))))) (a2 : Int) : Option (Bool) := d3 (a0, a1, a2)
theorem e3 (o : (Int) × ((Int) × (List ((Int) × ((Int) × ((Int) × ((Int) × ((Int) × ((Int) × (Int)))))))))) (r : (Int) × ((Int) × ((Int) × ((Int) × ((Int) × ((Int) × (Int))))))) (n : Int) : D3 o r n = (
  (D9).bind fun r1 =>
  bif (!r1) then some false
  else (D10 o.2.2).bind fun r2 =>
  bif (!r2) then some true
  else (D11 n).bind fun r3 =>
  (D12 n).bind fun r4 =>
  (D13 o r).bind fun r5 =>
  (D14 o r).bind fun r6 =>
  (D15 r3.1 r4.1).bind fun r7 =>
  bif r7 then (
    (D16 r3.2 r4.2).bind fun r8 =>
    bif r8 then (
      (D15 r5.1 r6.1).bind fun r9 =>
      bif r9 then (
        bif (r5.2 == r6.2) then (
          (D18 o).bind fun r10 =>
          (D17 r10 o.2.2).bind fun r11 =>
          bif r11 then (
            (D19 o n).bind fun r12 =>
            (D20 o n).bind fun r13 =>
            (D15 r12 r13).bind fun r14 =>
            some r14)
          else some false)
        else some false)
      else some false)
    else some false)
  else some false : Option (Bool)) := by kernel_rfl

/-! skiarea/skiarearef30.place -/
noncomputable def D37 (a0 : List ((Int) × ((Int) × ((Int) × ((Int) × ((Int) × ((Int) × (Int)))))))) (a1 : Int) : Option (Int) := d37 (a0, a1)
noncomputable def lp37_1 (fuel : Nat)  (l1₀ : List ((Int) × ((Int) × ((Int) × ((Int) × ((Int) × ((Int) × (Int)))))))) (seq1₀ : Int) (k_₀ : Int) : Option (Int) :=
  iter (fun F ((l1, seq1, k_) : (List ((Int) × ((Int) × ((Int) × ((Int) × ((Int) × ((Int) × (Int)))))))) × Int × Int) =>
    bif decide (k_ < (List.length l1 : Int)) then (
      (idx l1 k_).bind fun e =>
      bif (e.2.1 == seq1) then some k_
      else F (l1, seq1, IntKind.i64.wrap (k_ + 1)))
    else some (-1)) fuel (l1₀, seq1₀, k_₀)

theorem f37_1  (l1 : List ((Int) × ((Int) × ((Int) × ((Int) × ((Int) × ((Int) × (Int)))))))) (seq1 : Int) (hl : (l1).length ≤ maxLen) : lp37_1 big l1 seq1 0 =
  forI (fun ix el (_ : Unit) K =>
    (bif (el.2.1 == seq1) then some (ix : Int)
    else K () : Option (Int)))
    (fun (_ : Unit) =>
    (some (-1) : Option (Int))) 0 l1 () := by
  refine iter_forI_from l1 (fun ix (_ : Unit) => (l1, seq1, (ix : Int))) _ _ ?_ ?_ (k := 0) (Nat.zero_le _) (len_lt_big hl) ()
  · rintro F k h _
    simp only [dec_lt h, condT, idx_get h, bindS, wrap_succ h hl]
  · rintro F _
    simp only [dec_end, condF]

theorem g37 (fuel : Nat) (l : List ((Int) × ((Int) × ((Int) × ((Int) × ((Int) × ((Int) × (Int)))))))) (seq : Int) : (fnK tab env37 6 ann37 fuel Try.f37 [] ps37 rs37 true (l, seq) : Option (Int)) = (
  lp37_1 fuel l seq 0 : Option (Int)) := by kernel_rfl
theorem e37 (l : List ((Int) × ((Int) × ((Int) × ((Int) × ((Int) × ((Int) × (Int)))))))) (seq : Int) : D37 l seq = (
  lp37_1 big l seq 0 : Option (Int)) := g37 big l seq

/-! skiarea/skiarearef30.early -/
noncomputable def D38 (a0 : List ((Int) × ((Int) × ((Int) × ((Int) × ((Int) × ((Int) × (Int)))))))) (a1 : (Int) × ((Int) × ((Int) × ((Int) × ((Int) × ((Int) × (Int))))))) : Option (List ((Int) × ((Int) × ((Int) × ((Int) × ((Int) × ((Int) × (Int)))))))) := d38 (a0, a1)
noncomputable def lp38_1 (fuel : Nat)  (l1₀ : List ((Int) × ((Int) × ((Int) × ((Int) × ((Int) × ((Int) × (Int)))))))) (r1₀ : (Int) × ((Int) × ((Int) × ((Int) × ((Int) × ((Int) × (Int))))))) (out₀ : List ((Int) × ((Int) × ((Int) × ((Int) × ((Int) × ((Int) × (Int)))))))) (done₀ : Bool) (k_₀ : Int) : Option (List ((Int) × ((Int) × ((Int) × ((Int) × ((Int) × ((Int) × (Int)))))))) :=
  iter (fun F ((l1, r1, out, done, k_) : (List ((Int) × ((Int) × ((Int) × ((Int) × ((Int) × ((Int) × (Int)))))))) × ((Int) × ((Int) × ((Int) × ((Int) × ((Int) × ((Int) × (Int))))))) × (List ((Int) × ((Int) × ((Int) × ((Int) × ((Int) × ((Int) × (Int)))))))) × Bool × Int) =>
    bif decide (k_ < (List.length l1 : Int)) then (
      bif (!done) then (
        (idx l1 k_).bind fun e =>
        bif decide (e.2.1 > r1.2.1) then (
          bif (Nat.ble ((List.length out + List.length [r1]) * 56) appendLimit && Nat.ble (List.length out + List.length [r1]) 9223372036854775807) then (
            (idx l1 k_).bind fun e1 =>
            bif (Nat.ble ((List.length (out ++ [r1]) + List.length [e1]) * 56) appendLimit && Nat.ble (List.length (out ++ [r1]) + List.length [e1]) 9223372036854775807) then F (l1, r1, (out ++ [r1]) ++ [e1], true, IntKind.i64.wrap (k_ + 1))
            else none)
          else none)
        else (idx l1 k_).bind fun e1 =>
        bif (Nat.ble ((List.length out + List.length [e1]) * 56) appendLimit && Nat.ble (List.length out + List.length [e1]) 9223372036854775807) then F (l1, r1, out ++ [e1], done, IntKind.i64.wrap (k_ + 1))
        else none)
      else (idx l1 k_).bind fun e =>
      bif (Nat.ble ((List.length out + List.length [e]) * 56) appendLimit && Nat.ble (List.length out + List.length [e]) 9223372036854775807) then F (l1, r1, out ++ [e], done, IntKind.i64.wrap (k_ + 1))
      else none)
    else bif (!done) then (
      bif (Nat.ble ((List.length out + List.length [r1]) * 56) appendLimit && Nat.ble (List.length out + List.length [r1]) 9223372036854775807) then some (out ++ [r1])
      else none)
    else some out) fuel (l1₀, r1₀, out₀, done₀, k_₀)

theorem f38_1  (l1 : List ((Int) × ((Int) × ((Int) × ((Int) × ((Int) × ((Int) × (Int)))))))) (r1 : (Int) × ((Int) × ((Int) × ((Int) × ((Int) × ((Int) × (Int))))))) (out : List ((Int) × ((Int) × ((Int) × ((Int) × ((Int) × ((Int) × (Int)))))))) (done : Bool) (hl : (l1).length ≤ maxLen) : lp38_1 big l1 r1 out done 0 =
  forE (fun  el ((out, done) : (List ((Int) × ((Int) × ((Int) × ((Int) × ((Int) × ((Int) × (Int)))))))) × Bool) K =>
    (bif (!done) then (
      bif decide (el.2.1 > r1.2.1) then (
        bif (Nat.ble ((List.length out + List.length [r1]) * 56) appendLimit && Nat.ble (List.length out + List.length [r1]) 9223372036854775807) then (
          bif (Nat.ble ((List.length (out ++ [r1]) + List.length [el]) * 56) appendLimit && Nat.ble (List.length (out ++ [r1]) + List.length [el]) 9223372036854775807) then K ((out ++ [r1]) ++ [el], true)
          else none)
        else none)
      else bif (Nat.ble ((List.length out + List.length [el]) * 56) appendLimit && Nat.ble (List.length out + List.length [el]) 9223372036854775807) then K (out ++ [el], done)
      else none)
    else bif (Nat.ble ((List.length out + List.length [el]) * 56) appendLimit && Nat.ble (List.length out + List.length [el]) 9223372036854775807) then K (out ++ [el], done)
    else none : Option (List ((Int) × ((Int) × ((Int) × ((Int) × ((Int) × ((Int) × (Int))))))))))
    (fun ((out, done) : (List ((Int) × ((Int) × ((Int) × ((Int) × ((Int) × ((Int) × (Int)))))))) × Bool) =>
    (bif (!done) then (
      bif (Nat.ble ((List.length out + List.length [r1]) * 56) appendLimit && Nat.ble (List.length out + List.length [r1]) 9223372036854775807) then some (out ++ [r1])
      else none)
    else some out : Option (List ((Int) × ((Int) × ((Int) × ((Int) × ((Int) × ((Int) × (Int)))))))))) l1 (out, done) := by
  refine iter_forE l1 (fun ix ((out, done) : (List ((Int) × ((Int) × ((Int) × ((Int) × ((Int) × ((Int) × (Int)))))))) × Bool) => (l1, r1, out, done, (ix : Int))) _ _ ?_ ?_ (len_lt_big hl) (out, done)
  · rintro F k h ⟨out, done⟩
    simp only [dec_lt h, condT, idx_get h, bindS, wrap_succ h hl]
  · rintro F ⟨out, done⟩
    simp only [dec_end, condF]

theorem g38 (fuel : Nat) (l : List ((Int) × ((Int) × ((Int) × ((Int) × ((Int) × ((Int) × (Int)))))))) (r : (Int) × ((Int) × ((Int) × ((Int) × ((Int) × ((Int) × (Int))))))) : (fnK tab env38 8 ann38 fuel Try.f38 [] ps38 rs38 false (l, r) : Option (List ((Int) × ((Int) × ((Int) × ((Int) × ((Int) × ((Int) × (Int))))))))) = (
  lp38_1 fuel l r ([] : List ((Int) × ((Int) × ((Int) × ((Int) × ((Int) × ((Int) × (Int)))))))) false 0 : Option (List ((Int) × ((Int) × ((Int) × ((Int) × ((Int) × ((Int) × (Int))))))))) := by kernel_rfl
theorem e38 (l : List ((Int) × ((Int) × ((Int) × ((Int) × ((Int) × ((Int) × (Int)))))))) (r : (Int) × ((Int) × ((Int) × ((Int) × ((Int) × ((Int) × (Int))))))) : D38 l r = (
  lp38_1 big l r ([] : List ((Int) × ((Int) × ((Int) × ((Int) × ((Int) × ((Int) × (Int)))))))) false 0 : Option (List ((Int) × ((Int) × ((Int) × ((Int) × ((Int) × ((Int) × (Int))))))))) := g38 big l r

/-! skiarea/skiarearef30.next -/
noncomputable def D39 (a0 : (Int) × ((Int) × ((List ((Int) × ((Int) × ((Int) × ((Int) × ((Int) × ((Int) × (Int)))))))) × (List ((Int) × ((Int) × ((Int) × ((Int) × ((Int) × ((Int) × (Int))))))))))) (a1 : (Int) × ((Int) × ((Int) × ((Int) × ((Int) × ((Int) × (Int))))))) : Option ((Int) × ((Int) × ((List ((Int) × ((Int) × ((Int) × ((Int) × ((Int) × ((Int) × (Int)))))))) × (List ((Int) × ((Int) × ((Int) × ((Int) × ((Int) × ((Int) × (Int))))))))))) := d39 (a0, a1)
theorem e39 (i : (Int) × ((Int) × ((List ((Int) × ((Int) × ((Int) × ((Int) × ((Int) × ((Int) × (Int)))))))) × (List ((Int) × ((Int) × ((Int) × ((Int) × ((Int) × ((Int) × (Int))))))))))) (r : (Int) × ((Int) × ((Int) × ((Int) × ((Int) × ((Int) × (Int))))))) : D39 i r = (
  bif (Nat.ble ((List.length ([] : List ((Int) × ((Int) × ((Int) × ((Int) × ((Int) × ((Int) × (Int)))))))) + List.length i.2.2.1) * 56) appendLimit && Nat.ble (List.length ([] : List ((Int) × ((Int) × ((Int) × ((Int) × ((Int) × ((Int) × (Int)))))))) + List.length i.2.2.1) 9223372036854775807) then (
    bif (Nat.ble ((List.length (([] : List ((Int) × ((Int) × ((Int) × ((Int) × ((Int) × ((Int) × (Int)))))))) ++ i.2.2.1) + List.length [r]) * 56) appendLimit && Nat.ble (List.length (([] : List ((Int) × ((Int) × ((Int) × ((Int) × ((Int) × ((Int) × (Int)))))))) ++ i.2.2.1) + List.length [r]) 9223372036854775807) then some (i.1, IntKind.i64.wrap (i.2.1 + 1), (([] : List ((Int) × ((Int) × ((Int) × ((Int) × ((Int) × ((Int) × (Int)))))))) ++ i.2.2.1) ++ [r], i.2.2.2)
    else none)
  else none : Option ((Int) × ((Int) × ((List ((Int) × ((Int) × ((Int) × ((Int) × ((Int) × ((Int) × (Int)))))))) × (List ((Int) × ((Int) × ((Int) × ((Int) × ((Int) × ((Int) × (Int)))))))))))) := by kernel_rfl

/-! skiarea/skiarearef30.Receive -/
noncomputable def D22 (a0 : (Int) × ((Int) × ((List ((Int) × ((Int) × ((Int) × ((Int) × ((Int) × ((Int) × (Int)))))))) × (List ((Int) × ((Int) × ((Int) × ((Int) × ((Int) × ((Int) × (Int))))))))))) (a1 : (Int) × ((Int) × ((Int) × ((Int) × ((Int) × ((Int) × (Int))))))) : Option (((Int) × ((Int) × ((List ((Int) × ((Int) × ((Int) × ((Int) × ((Int) × ((Int) × (Int)))))))) × (List ((Int) × ((Int) × ((Int) × ((Int) × ((Int) × ((Int) × (Int))))))))))) × (Int)) := d22 (a0, a1)
noncomputable def lp22_1 (fuel : Nat)  (i1₀ : (Int) × ((Int) × ((List ((Int) × ((Int) × ((Int) × ((Int) × ((Int) × ((Int) × (Int)))))))) × (List ((Int) × ((Int) × ((Int) × ((Int) × ((Int) × ((Int) × (Int))))))))))) (v₀ : (Int) × ((Int) × ((List ((Int) × ((Int) × ((Int) × ((Int) × ((Int) × ((Int) × (Int)))))))) × (List ((Int) × ((Int) × ((Int) × ((Int) × ((Int) × ((Int) × (Int))))))))))) : Option (((Int) × ((Int) × ((List ((Int) × ((Int) × ((Int) × ((Int) × ((Int) × ((Int) × (Int)))))))) × (List ((Int) × ((Int) × ((Int) × ((Int) × ((Int) × ((Int) × (Int))))))))))) × (Int)) :=
  iter (fun F ((i1, v) : ((Int) × ((Int) × ((List ((Int) × ((Int) × ((Int) × ((Int) × ((Int) × ((Int) × (Int)))))))) × (List ((Int) × ((Int) × ((Int) × ((Int) × ((Int) × ((Int) × (Int))))))))))) × ((Int) × ((Int) × ((List ((Int) × ((Int) × ((Int) × ((Int) × ((Int) × ((Int) × (Int)))))))) × (List ((Int) × ((Int) × ((Int) × ((Int) × ((Int) × ((Int) × (Int)))))))))))) =>
    (D37 i1.2.2.2 i1.2.1).bind fun r2 =>
    bif decide (r2 ≥ 0) then (
      (D37 i1.2.2.2 i1.2.1).bind fun r3 =>
      bif (decide (0 ≤ (0 : Int)) && (decide ((0 : Int) ≤ r3) && decide ((r3 : Int) ≤ (List.length i1.2.2.2 : Int)))) then (
        bif (Nat.ble ((List.length ([] : List ((Int) × ((Int) × ((Int) × ((Int) × ((Int) × ((Int) × (Int)))))))) + List.length (List.drop (Int.toNat 0) (List.take (Int.toNat r3) i1.2.2.2))) * 56) appendLimit && Nat.ble (List.length ([] : List ((Int) × ((Int) × ((Int) × ((Int) × ((Int) × ((Int) × (Int)))))))) + List.length (List.drop (Int.toNat 0) (List.take (Int.toNat r3) i1.2.2.2))) 9223372036854775807) then (
          bif (decide (0 ≤ (IntKind.i64.wrap (r3 + 1) : Int)) && (decide ((IntKind.i64.wrap (r3 + 1) : Int) ≤ (List.length i1.2.2.2 : Int)) && decide (((List.length i1.2.2.2 : Int) : Int) ≤ (List.length i1.2.2.2 : Int)))) then (
            bif (Nat.ble ((List.length (([] : List ((Int) × ((Int) × ((Int) × ((Int) × ((Int) × ((Int) × (Int)))))))) ++ (List.drop (Int.toNat 0) (List.take (Int.toNat r3) i1.2.2.2))) + List.length (List.drop (Int.toNat (IntKind.i64.wrap (r3 + 1))) (List.take (Int.toNat (List.length i1.2.2.2 : Int)) i1.2.2.2))) * 56) appendLimit && Nat.ble (List.length (([] : List ((Int) × ((Int) × ((Int) × ((Int) × ((Int) × ((Int) × (Int)))))))) ++ (List.drop (Int.toNat 0) (List.take (Int.toNat r3) i1.2.2.2))) + List.length (List.drop (Int.toNat (IntKind.i64.wrap (r3 + 1))) (List.take (Int.toNat (List.length i1.2.2.2 : Int)) i1.2.2.2))) 9223372036854775807) then (
              (idx i1.2.2.2 r3).bind fun e =>
              (D39 i1 e).bind fun r4 =>
              F ((r4.1, r4.2.1, r4.2.2.1, (([] : List ((Int) × ((Int) × ((Int) × ((Int) × ((Int) × ((Int) × (Int)))))))) ++ (List.drop (Int.toNat 0) (List.take (Int.toNat r3) i1.2.2.2))) ++ (List.drop (Int.toNat (IntKind.i64.wrap (r3 + 1))) (List.take (Int.toNat (List.length i1.2.2.2 : Int)) i1.2.2.2))), v))
            else none)
          else none)
        else none)
      else none)
    else some (i1, IntKind.i64.wrap (i1.2.1 - 1))) fuel (i1₀, v₀)

theorem g22 (fuel : Nat) (i : (Int) × ((Int) × ((List ((Int) × ((Int) × ((Int) × ((Int) × ((Int) × ((Int) × (Int)))))))) × (List ((Int) × ((Int) × ((Int) × ((Int) × ((Int) × ((Int) × (Int))))))))))) (r : (Int) × ((Int) × ((Int) × ((Int) × ((Int) × ((Int) × (Int))))))) : (fnK tab env22 8 ann22 fuel Try.f22 [] ps22 rs22 false (i, r) : Option (((Int) × ((Int) × ((List ((Int) × ((Int) × ((Int) × ((Int) × ((Int) × ((Int) × (Int)))))))) × (List ((Int) × ((Int) × ((Int) × ((Int) × ((Int) × ((Int) × (Int))))))))))) × (Int))) = (
  bif (r.1 != i.1) then some (i, IntKind.i64.wrap (i.2.1 - 1))
  else bif decide (r.2.1 < i.2.1) then some (i, IntKind.i64.wrap (i.2.1 - 1))
  else bif decide (r.2.1 > i.2.1) then (
    (D37 i.2.2.2 r.2.1).bind fun r1 =>
    bif decide (r1 < 0) then (
      (D38 i.2.2.2 r).bind fun r2 =>
      some ((i.1, i.2.1, i.2.2.1, r2), IntKind.i64.wrap (i.2.1 - 1)))
    else some (i, IntKind.i64.wrap (i.2.1 - 1)))
  else (D39 i r).bind fun r1 =>
  lp22_1 fuel r1 (0, 0, ([] : List ((Int) × ((Int) × ((Int) × ((Int) × ((Int) × ((Int) × (Int)))))))), ([] : List ((Int) × ((Int) × ((Int) × ((Int) × ((Int) × ((Int) × (Int))))))))) : Option (((Int) × ((Int) × ((List ((Int) × ((Int) × ((Int) × ((Int) × ((Int) × ((Int) × (Int)))))))) × (List ((Int) × ((Int) × ((Int) × ((Int) × ((Int) × ((Int) × (Int))))))))))) × (Int))) := by kernel_rfl
theorem e22 (i : (Int) × ((Int) × ((List ((Int) × ((Int) × ((Int) × ((Int) × ((Int) × ((Int) × (Int)))))))) × (List ((Int) × ((Int) × ((Int) × ((Int) × ((Int) × ((Int) × (Int))))))))))) (r : (Int) × ((Int) × ((Int) × ((Int) × ((Int) × ((Int) × (Int))))))) : D22 i r = (
  bif (r.1 != i.1) then some (i, IntKind.i64.wrap (i.2.1 - 1))
  else bif decide (r.2.1 < i.2.1) then some (i, IntKind.i64.wrap (i.2.1 - 1))
  else bif decide (r.2.1 > i.2.1) then (
    (D37 i.2.2.2 r.2.1).bind fun r1 =>
    bif decide (r1 < 0) then (
      (D38 i.2.2.2 r).bind fun r2 =>
      some ((i.1, i.2.1, i.2.2.1, r2), IntKind.i64.wrap (i.2.1 - 1)))
    else some (i, IntKind.i64.wrap (i.2.1 - 1)))
  else (D39 i r).bind fun r1 =>
  lp22_1 big r1 (0, 0, ([] : List ((Int) × ((Int) × ((Int) × ((Int) × ((Int) × ((Int) × (Int)))))))), ([] : List ((Int) × ((Int) × ((Int) × ((Int) × ((Int) × ((Int) × (Int))))))))) : Option (((Int) × ((Int) × ((List ((Int) × ((Int) × ((Int) × ((Int) × ((Int) × ((Int) × (Int)))))))) × (List ((Int) × ((Int) × ((Int) × ((Int) × ((Int) × ((Int) × (Int))))))))))) × (Int))) := g22 big i r

/-! skiarea/skiarealaw30.UplinkReceives -/
noncomputable def D4 (a0 : (Int) × ((Int) × ((List ((Int) × ((Int) × ((Int) × ((Int) × ((Int) × ((Int) × (Int)))))))) × (List ((Int) × ((Int) × ((Int) × ((Int) × ((Int) × ((Int) × (Int))))))))))) (a1 : (Int) × ((Int) × ((Int) × ((Int) × ((Int) × ((Int) × (Int))))))) : Option (Bool) := d4 (a0, a1)
theorem e4 (i : (Int) × ((Int) × ((List ((Int) × ((Int) × ((Int) × ((Int) × ((Int) × ((Int) × (Int)))))))) × (List ((Int) × ((Int) × ((Int) × ((Int) × ((Int) × ((Int) × (Int))))))))))) (r : (Int) × ((Int) × ((Int) × ((Int) × ((Int) × ((Int) × (Int))))))) : D4 i r = (
  (D9).bind fun r1 =>
  bif (!r1) then some false
  else (D10 i.2.2.1).bind fun r2 =>
  bif (!r2) then some true
  else (D10 i.2.2.2).bind fun r3 =>
  bif (!r3) then some true
  else bif decide (i.2.1 < 1) then some true
  else bif decide (i.2.1 > 1000000) then some true
  else (D21 i r).bind fun r4 =>
  (D22 i r).bind fun r5 =>
  (D16 r4.1 r5.1).bind fun r6 =>
  bif r6 then some (r4.2 == r5.2)
  else some false : Option (Bool)) := by kernel_rfl

/-! skiarea/skiarearef30.has -/
noncomputable def D41 (a0 : List ((Int) × ((Int) × ((Int) × ((Int) × ((Int) × ((Int) × (Int)))))))) (a1 : (Int) × ((Int) × ((Int) × ((Int) × ((Int) × ((Int) × (Int))))))) : Option (Bool) := d41 (a0, a1)
noncomputable def lp41_1 (fuel : Nat)  (l1₀ : List ((Int) × ((Int) × ((Int) × ((Int) × ((Int) × ((Int) × (Int)))))))) (r1₀ : (Int) × ((Int) × ((Int) × ((Int) × ((Int) × ((Int) × (Int))))))) (k_₀ : Int) : Option (Bool) :=
  iter (fun F ((l1, r1, k_) : (List ((Int) × ((Int) × ((Int) × ((Int) × ((Int) × ((Int) × (Int)))))))) × ((Int) × ((Int) × ((Int) × ((Int) × ((Int) × ((Int) × (Int))))))) × Int) =>
    bif decide (k_ < (List.length l1 : Int)) then (
      (idx l1 k_).bind fun e =>
      bif ((e.1 == r1.1) && ((e.2.1 == r1.2.1) && ((e.2.2.1 == r1.2.2.1) && ((e.2.2.2.1 == r1.2.2.2.1) && ((e.2.2.2.2.1 == r1.2.2.2.2.1) && ((e.2.2.2.2.2.1 == r1.2.2.2.2.2.1) && (e.2.2.2.2.2.2 == r1.2.2.2.2.2.2))))))) then some true
      else F (l1, r1, IntKind.i64.wrap (k_ + 1)))
    else some false) fuel (l1₀, r1₀, k_₀)

theorem f41_1  (l1 : List ((Int) × ((Int) × ((Int) × ((Int) × ((Int) × ((Int) × (Int)))))))) (r1 : (Int) × ((Int) × ((Int) × ((Int) × ((Int) × ((Int) × (Int))))))) (hl : (l1).length ≤ maxLen) : lp41_1 big l1 r1 0 =
  forE (fun  el (_ : Unit) K =>
    (bif ((el.1 == r1.1) && ((el.2.1 == r1.2.1) && ((el.2.2.1 == r1.2.2.1) && ((el.2.2.2.1 == r1.2.2.2.1) && ((el.2.2.2.2.1 == r1.2.2.2.2.1) && ((el.2.2.2.2.2.1 == r1.2.2.2.2.2.1) && (el.2.2.2.2.2.2 == r1.2.2.2.2.2.2))))))) then some true
    else K () : Option (Bool)))
    (fun (_ : Unit) =>
    (some false : Option (Bool))) l1 () := by
  refine iter_forE l1 (fun ix (_ : Unit) => (l1, r1, (ix : Int))) _ _ ?_ ?_ (len_lt_big hl) ()
  · rintro F k h _
    simp only [dec_lt h, condT, idx_get h, bindS, wrap_succ h hl]
  · rintro F _
    simp only [dec_end, condF]

theorem g41 (fuel : Nat) (l : List ((Int) × ((Int) × ((Int) × ((Int) × ((Int) × ((Int) × (Int)))))))) (r : (Int) × ((Int) × ((Int) × ((Int) × ((Int) × ((Int) × (Int))))))) : (fnK tab env41 6 ann41 fuel Try.f41 [] ps41 rs41 true (l, r) : Option (Bool)) = (
  lp41_1 fuel l r 0 : Option (Bool)) := by kernel_rfl
theorem e41 (l : List ((Int) × ((Int) × ((Int) × ((Int) × ((Int) × ((Int) × (Int)))))))) (r : (Int) × ((Int) × ((Int) × ((Int) × ((Int) × ((Int) × (Int))))))) : D41 l r = (
  lp41_1 big l r 0 : Option (Bool)) := g41 big l r

/-! skiarea/skiarearef30.Right -/
noncomputable def D24 (a0 : (Int) × ((Int) × (List ((Int) × ((Int) × ((Int) × ((Int) × ((Int) × ((Int) × (Int)))))))))) (a1 : (Int) × ((Int) × ((List ((Int) × ((Int) × ((Int) × ((Int) × ((Int) × ((Int) × (Int)))))))) × (List ((Int) × ((Int) × ((Int) × ((Int) × ((Int) × ((Int) × (Int))))))))))) : Option (Bool) := d24 (a0, a1)
noncomputable def lp24_1 (fuel : Nat)  (o3₀ : (Int) × ((Int) × (List ((Int) × ((Int) × ((Int) × ((Int) × ((Int) × ((Int) × (Int)))))))))) (i3₀ : (Int) × ((Int) × ((List ((Int) × ((Int) × ((Int) × ((Int) × ((Int) × ((Int) × (Int)))))))) × (List ((Int) × ((Int) × ((Int) × ((Int) × ((Int) × ((Int) × (Int))))))))))) (k_2₀ : Int) : Option (Bool) :=
  iter (fun F2 ((o3, i3, k_2) : ((Int) × ((Int) × (List ((Int) × ((Int) × ((Int) × ((Int) × ((Int) × ((Int) × (Int)))))))))) × ((Int) × ((Int) × ((List ((Int) × ((Int) × ((Int) × ((Int) × ((Int) × ((Int) × (Int)))))))) × (List ((Int) × ((Int) × ((Int) × ((Int) × ((Int) × ((Int) × (Int))))))))))) × Int) =>
    bif decide (k_2 < (List.length i3.2.2.2 : Int)) then (
      (idx i3.2.2.2 k_2).bind fun e =>
      bif decide (e.2.1 ≤ i3.2.1) then some false
      else bif decide (k_2 > 0) then (
        (idx i3.2.2.2 k_2).bind fun e1 =>
        (idx i3.2.2.2 (IntKind.i64.wrap (k_2 - 1))).bind fun e2 =>
        bif decide (e1.2.1 ≤ e2.2.1) then some false
        else (idx i3.2.2.2 k_2).bind fun e3 =>
        (D41 o3.2.2 e3).bind fun r =>
        bif (!r) then some false
        else F2 (o3, i3, IntKind.i64.wrap (k_2 + 1)))
      else (idx i3.2.2.2 k_2).bind fun e1 =>
      (D41 o3.2.2 e1).bind fun r =>
      bif (!r) then some false
      else F2 (o3, i3, IntKind.i64.wrap (k_2 + 1)))
    else some true) fuel (o3₀, i3₀, k_2₀)

theorem f24_1  (o3 : (Int) × ((Int) × (List ((Int) × ((Int) × ((Int) × ((Int) × ((Int) × ((Int) × (Int)))))))))) (i3 : (Int) × ((Int) × ((List ((Int) × ((Int) × ((Int) × ((Int) × ((Int) × ((Int) × (Int)))))))) × (List ((Int) × ((Int) × ((Int) × ((Int) × ((Int) × ((Int) × (Int))))))))))) (hl : (i3.2.2.2).length ≤ maxLen) : lp24_1 big o3 i3 0 =
  forI (fun ix el (_ : Unit) K =>
    (bif decide (el.2.1 ≤ i3.2.1) then some false
    else bif decide ((ix : Int) > 0) then (
      (idx i3.2.2.2 (IntKind.i64.wrap ((ix : Int) - 1))).bind fun e2 =>
      bif decide (el.2.1 ≤ e2.2.1) then some false
      else (D41 o3.2.2 el).bind fun r =>
      bif (!r) then some false
      else K ())
    else (D41 o3.2.2 el).bind fun r =>
    bif (!r) then some false
    else K () : Option (Bool)))
    (fun (_ : Unit) =>
    (some true : Option (Bool))) 0 i3.2.2.2 () := by
  refine iter_forI_from i3.2.2.2 (fun ix (_ : Unit) => (o3, i3, (ix : Int))) _ _ ?_ ?_ (k := 0) (Nat.zero_le _) (len_lt_big hl) ()
  · rintro F k h _
    simp only [dec_lt h, condT, idx_get h, bindS, wrap_succ h hl]
  · rintro F _
    simp only [dec_end, condF]

noncomputable def lp24_3 (fuel : Nat)  (o2₀ : (Int) × ((Int) × (List ((Int) × ((Int) × ((Int) × ((Int) × ((Int) × ((Int) × (Int)))))))))) (i2₀ : (Int) × ((Int) × ((List ((Int) × ((Int) × ((Int) × ((Int) × ((Int) × ((Int) × (Int)))))))) × (List ((Int) × ((Int) × ((Int) × ((Int) × ((Int) × ((Int) × (Int))))))))))) (k_1₀ : Int) : Option (Bool) :=
  iter (fun F1 ((o2, i2, k_1) : ((Int) × ((Int) × (List ((Int) × ((Int) × ((Int) × ((Int) × ((Int) × ((Int) × (Int)))))))))) × ((Int) × ((Int) × ((List ((Int) × ((Int) × ((Int) × ((Int) × ((Int) × ((Int) × (Int)))))))) × (List ((Int) × ((Int) × ((Int) × ((Int) × ((Int) × ((Int) × (Int))))))))))) × Int) =>
    bif decide (k_1 < (List.length i2.2.2.1 : Int)) then (
      (idx i2.2.2.1 k_1).bind fun e =>
      bif (e.1 != i2.1) then some false
      else (idx i2.2.2.1 k_1).bind fun e1 =>
      bif (e1.2.1 != IntKind.i64.wrap (k_1 + 1)) then some false
      else F1 (o2, i2, IntKind.i64.wrap (k_1 + 1)))
    else lp24_1 fuel o2 i2 0) fuel (o2₀, i2₀, k_1₀)

theorem f24_3  (o2 : (Int) × ((Int) × (List ((Int) × ((Int) × ((Int) × ((Int) × ((Int) × ((Int) × (Int)))))))))) (i2 : (Int) × ((Int) × ((List ((Int) × ((Int) × ((Int) × ((Int) × ((Int) × ((Int) × (Int)))))))) × (List ((Int) × ((Int) × ((Int) × ((Int) × ((Int) × ((Int) × (Int))))))))))) (hl : (i2.2.2.1).length ≤ maxLen) : lp24_3 big o2 i2 0 =
  forI (fun ix el (_ : Unit) K =>
    (bif (el.1 != i2.1) then some false
    else bif (el.2.1 != IntKind.i64.wrap ((ix : Int) + 1)) then some false
    else K () : Option (Bool)))
    (fun (_ : Unit) =>
    (lp24_1 big o2 i2 0 : Option (Bool))) 0 i2.2.2.1 () := by
  refine iter_forI_from i2.2.2.1 (fun ix (_ : Unit) => (o2, i2, (ix : Int))) _ _ ?_ ?_ (k := 0) (Nat.zero_le _) (len_lt_big hl) ()
  · rintro F k h _
    simp only [dec_lt h, condT, idx_get h, bindS, wrap_succ h hl]
  · rintro F _
    simp only [dec_end, condF]

noncomputable def lp24_5 (fuel : Nat)  (o1₀ : (Int) × ((Int) × (List ((Int) × ((Int) × ((Int) × ((Int) × ((Int) × ((Int) × (Int)))))))))) (i1₀ : (Int) × ((Int) × ((List ((Int) × ((Int) × ((Int) × ((Int) × ((Int) × ((Int) × (Int)))))))) × (List ((Int) × ((Int) × ((Int) × ((Int) × ((Int) × ((Int) × (Int))))))))))) (first_₀ : Int) (k_₀ : Int) : Option (Bool) :=
  iter (fun F ((o1, i1, first_, k_) : ((Int) × ((Int) × (List ((Int) × ((Int) × ((Int) × ((Int) × ((Int) × ((Int) × (Int)))))))))) × ((Int) × ((Int) × ((List ((Int) × ((Int) × ((Int) × ((Int) × ((Int) × ((Int) × (Int)))))))) × (List ((Int) × ((Int) × ((Int) × ((Int) × ((Int) × ((Int) × (Int))))))))))) × Int × Int) =>
    bif decide (k_ < (List.length o1.2.2 : Int)) then (
      (idx o1.2.2 k_).bind fun e =>
      bif (e.1 != o1.1) then some false
      else (idx o1.2.2 k_).bind fun e1 =>
      bif (e1.2.1 != IntKind.i64.wrap (first_ + k_)) then some false
      else F (o1, i1, first_, IntKind.i64.wrap (k_ + 1)))
    else bif decide (i1.2.1 < 1) then some false
    else bif decide (i1.2.1 > o1.2.1) then some false
    else bif decide (i1.2.1 < first_) then some false
    else bif ((List.length i1.2.2.1 : Int) != IntKind.i64.wrap (i1.2.1 - 1)) then some false
    else lp24_3 fuel o1 i1 0) fuel (o1₀, i1₀, first_₀, k_₀)

theorem f24_5  (o1 : (Int) × ((Int) × (List ((Int) × ((Int) × ((Int) × ((Int) × ((Int) × ((Int) × (Int)))))))))) (i1 : (Int) × ((Int) × ((List ((Int) × ((Int) × ((Int) × ((Int) × ((Int) × ((Int) × (Int)))))))) × (List ((Int) × ((Int) × ((Int) × ((Int) × ((Int) × ((Int) × (Int))))))))))) (first_ : Int) (hl : (o1.2.2).length ≤ maxLen) : lp24_5 big o1 i1 first_ 0 =
  forI (fun ix el (_ : Unit) K =>
    (bif (el.1 != o1.1) then some false
    else bif (el.2.1 != IntKind.i64.wrap (first_ + (ix : Int))) then some false
    else K () : Option (Bool)))
    (fun (_ : Unit) =>
    (bif decide (i1.2.1 < 1) then some false
    else bif decide (i1.2.1 > o1.2.1) then some false
    else bif decide (i1.2.1 < first_) then some false
    else bif ((List.length i1.2.2.1 : Int) != IntKind.i64.wrap (i1.2.1 - 1)) then some false
    else lp24_3 big o1 i1 0 : Option (Bool))) 0 o1.2.2 () := by
  refine iter_forI_from o1.2.2 (fun ix (_ : Unit) => (o1, i1, first_, (ix : Int))) _ _ ?_ ?_ (k := 0) (Nat.zero_le _) (len_lt_big hl) ()
  · rintro F k h _
    simp only [dec_lt h, condT, idx_get h, bindS, wrap_succ h hl]
  · rintro F _
    simp only [dec_end, condF]

theorem g24 (fuel : Nat) (o : (Int) × ((Int) × (List ((Int) × ((Int) × ((Int) × ((Int) × ((Int) × ((Int) × (Int)))))))))) (i : (Int) × ((Int) × ((List ((Int) × ((Int) × ((Int) × ((Int) × ((Int) × ((Int) × (Int)))))))) × (List ((Int) × ((Int) × ((Int) × ((Int) × ((Int) × ((Int) × (Int))))))))))) : (fnK tab env24 9 ann24 fuel Try.f24 [] ps24 rs24 true (o, i) : Option (Bool)) = (
  bif (o.1 != i.1) then some false
  else bif decide (o.2.1 < 1) then some false
  else bif decide (o.2.1 > 1000000) then some false
  else bif decide ((List.length o.2.2 : Int) > IntKind.i64.wrap (o.2.1 - 1)) then some false
  else lp24_5 fuel o i (IntKind.i64.wrap (o.2.1 - (List.length o.2.2 : Int))) 0 : Option (Bool)) := by kernel_rfl
theorem e24 (o : (Int) × ((Int) × (List ((Int) × ((Int) × ((Int) × ((Int) × ((Int) × ((Int) × (Int)))))))))) (i : (Int) × ((Int) × ((List ((Int) × ((Int) × ((Int) × ((Int) × ((Int) × ((Int) × (Int)))))))) × (List ((Int) × ((Int) × ((Int) × ((Int) × ((Int) × ((Int) × (Int))))))))))) : D24 o i = (
  bif (o.1 != i.1) then some false
  else bif decide (o.2.1 < 1) then some false
  else bif decide (o.2.1 > 1000000) then some false
  else bif decide ((List.length o.2.2 : Int) > IntKind.i64.wrap (o.2.1 - 1)) then some false
  else lp24_5 big o i (IntKind.i64.wrap (o.2.1 - (List.length o.2.2 : Int))) 0 : Option (Bool)) := g24 big o i

/-! skiarea/skiarealaw30.UplinkRights -/
noncomputable def D5 (a0 : (Int) × ((Int) × (List ((Int) × ((Int) × ((Int) × ((Int) × ((Int) × ((Int) × (Int)))))))))) (a1 : (Int) × ((Int) × ((List ((Int) × ((Int) × ((Int) × ((Int) × ((Int) × ((Int) × (Int)))))))) × (List ((Int) × ((Int) × ((Int) × ((Int) × ((Int) × ((Int) × (Int))))))))))) : Option (Bool) := d5 (a0, a1)
theorem e5 (o : (Int) × ((Int) × (List ((Int) × ((Int) × ((Int) × ((Int) × ((Int) × ((Int) × (Int)))))))))) (i : (Int) × ((Int) × ((List ((Int) × ((Int) × ((Int) × ((Int) × ((Int) × ((Int) × (Int)))))))) × (List ((Int) × ((Int) × ((Int) × ((Int) × ((Int) × ((Int) × (Int))))))))))) : D5 o i = (
  (D9).bind fun r =>
  bif (!r) then some false
  else (D10 o.2.2).bind fun r1 =>
  bif (!r1) then some true
  else (D10 i.2.2.1).bind fun r2 =>
  bif (!r2) then some true
  else (D10 i.2.2.2).bind fun r3 =>
  bif (!r3) then some true
  else (D23 o i).bind fun r4 =>
  (D24 o i).bind fun r5 =>
  some (r4 == r5) : Option (Bool)) := by kernel_rfl

/-! skiarea/skiarealaw30.deliver -/
noncomputable def D42 (a0 : ((Int) × ((Int) × (List ((Int) × ((Int) × ((Int) × ((Int) × ((Int) × ((Int) × (Int)))))))))) × (((Int) × ((Int) × ((List ((Int) × ((Int) × ((Int) × ((Int) × ((Int) × ((Int) × (Int)))))))) × (List ((Int) × ((Int) × ((Int) × ((Int) × ((Int) × ((Int) × (Int))))))))))) × ((List ((Int) × ((Int) × ((Int) × ((Int) × ((Int) × ((Int) × (Int)))))))) × (List (Int))))) (a1 : (Int) × ((Int) × ((Int) × ((Int) × ((Int) × ((Int) × (Int))))))) : Option (((Int) × ((Int) × (List ((Int) × ((Int) × ((Int) × ((Int) × ((Int) × ((Int) × (Int)))))))))) × (((Int) × ((Int) × ((List ((Int) × ((Int) × ((Int) × ((Int) × ((Int) × ((Int) × (Int)))))))) × (List ((Int) × ((Int) × ((Int) × ((Int) × ((Int) × ((Int) × (Int))))))))))) × ((List ((Int) × ((Int) × ((Int) × ((Int) × ((Int) × ((Int) × (Int)))))))) × (List (Int))))) := d42 (a0, a1)
theorem e42 (w : ((Int) × ((Int) × (List ((Int) × ((Int) × ((Int) × ((Int) × ((Int) × ((Int) × (Int)))))))))) × (((Int) × ((Int) × ((List ((Int) × ((Int) × ((Int) × ((Int) × ((Int) × ((Int) × (Int)))))))) × (List ((Int) × ((Int) × ((Int) × ((Int) × ((Int) × ((Int) × (Int))))))))))) × ((List ((Int) × ((Int) × ((Int) × ((Int) × ((Int) × ((Int) × (Int)))))))) × (List (Int))))) (r : (Int) × ((Int) × ((Int) × ((Int) × ((Int) × ((Int) × (Int))))))) : D42 w r = (
  (D21 w.2.1 r).bind fun r1 =>
  bif (Nat.ble ((List.length ([] : List (Int)) + List.length w.2.2.2) * 8) appendLimit && Nat.ble (List.length ([] : List (Int)) + List.length w.2.2.2) 9223372036854775807) then (
    bif (Nat.ble ((List.length (([] : List (Int)) ++ w.2.2.2) + List.length [r1.2]) * 8) appendLimit && Nat.ble (List.length (([] : List (Int)) ++ w.2.2.2) + List.length [r1.2]) 9223372036854775807) then some (w.1, r1.1, w.2.2.1, (([] : List (Int)) ++ w.2.2.2) ++ [r1.2])
    else none)
  else none : Option (((Int) × ((Int) × (List ((Int) × ((Int) × ((Int) × ((Int) × ((Int) × ((Int) × (Int)))))))))) × (((Int) × ((Int) × ((List ((Int) × ((Int) × ((Int) × ((Int) × ((Int) × ((Int) × (Int)))))))) × (List ((Int) × ((Int) × ((Int) × ((Int) × ((Int) × ((Int) × (Int))))))))))) × ((List ((Int) × ((Int) × ((Int) × ((Int) × ((Int) × ((Int) × (Int)))))))) × (List (Int)))))) := by kernel_rfl

/-! skiarea/skiarealaw30.act -/
noncomputable def D25 (a0 : ((Int) × ((Int) × (List ((Int) × ((Int) × ((Int) × ((Int) × ((Int) × ((Int) × (Int)))))))))) × (((Int) × ((Int) × ((List ((Int) × ((Int) × ((Int) × ((Int) × ((Int) × ((Int) × (Int)))))))) × (List ((Int) × ((Int) × ((Int) × ((Int) × ((Int) × ((Int) × (Int))))))))))) × ((List ((Int) × ((Int) × ((Int) × ((Int) × ((Int) × ((Int) × (Int)))))))) × (List (Int))))) (a1 : (Int) × (Int)) : Option (((Int) × ((Int) × (List ((Int) × ((Int) × ((Int) × ((Int) × ((Int) × ((Int) × (Int)))))))))) × (((Int) × ((Int) × ((List ((Int) × ((Int) × ((Int) × ((Int) × ((Int) × ((Int) × (Int)))))))) × (List ((Int) × ((Int) × ((Int) × ((Int) × ((Int) × ((Int) × (Int))))))))))) × ((List ((Int) × ((Int) × ((Int) × ((Int) × ((Int) × ((Int) × (Int)))))))) × (List (Int))))) := d25 (a0, a1)
noncomputable def lp25_1 (fuel : Nat)  (w1₀ : ((Int) × ((Int) × (List ((Int) × ((Int) × ((Int) × ((Int) × ((Int) × ((Int) × (Int)))))))))) × (((Int) × ((Int) × ((List ((Int) × ((Int) × ((Int) × ((Int) × ((Int) × ((Int) × (Int)))))))) × (List ((Int) × ((Int) × ((Int) × ((Int) × ((Int) × ((Int) × (Int))))))))))) × ((List ((Int) × ((Int) × ((Int) × ((Int) × ((Int) × ((Int) × (Int)))))))) × (List (Int))))) (v₀ : ((Int) × ((Int) × (List ((Int) × ((Int) × ((Int) × ((Int) × ((Int) × ((Int) × (Int)))))))))) × (((Int) × ((Int) × ((List ((Int) × ((Int) × ((Int) × ((Int) × ((Int) × ((Int) × (Int)))))))) × (List ((Int) × ((Int) × ((Int) × ((Int) × ((Int) × ((Int) × (Int))))))))))) × ((List ((Int) × ((Int) × ((Int) × ((Int) × ((Int) × ((Int) × (Int)))))))) × (List (Int))))) (p₀ : List ((Int) × ((Int) × ((Int) × ((Int) × ((Int) × ((Int) × (Int)))))))) (k_₀ : Int) : Option (((Int) × ((Int) × (List ((Int) × ((Int) × ((Int) × ((Int) × ((Int) × ((Int) × (Int)))))))))) × (((Int) × ((Int) × ((List ((Int) × ((Int) × ((Int) × ((Int) × ((Int) × ((Int) × (Int)))))))) × (List ((Int) × ((Int) × ((Int) × ((Int) × ((Int) × ((Int) × (Int))))))))))) × ((List ((Int) × ((Int) × ((Int) × ((Int) × ((Int) × ((Int) × (Int)))))))) × (List (Int))))) :=
  iter (fun F ((w1, v, p, k_) : (((Int) × ((Int) × (List ((Int) × ((Int) × ((Int) × ((Int) × ((Int) × ((Int) × (Int)))))))))) × (((Int) × ((Int) × ((List ((Int) × ((Int) × ((Int) × ((Int) × ((Int) × ((Int) × (Int)))))))) × (List ((Int) × ((Int) × ((Int) × ((Int) × ((Int) × ((Int) × (Int))))))))))) × ((List ((Int) × ((Int) × ((Int) × ((Int) × ((Int) × ((Int) × (Int)))))))) × (List (Int))))) × (((Int) × ((Int) × (List ((Int) × ((Int) × ((Int) × ((Int) × ((Int) × ((Int) × (Int)))))))))) × (((Int) × ((Int) × ((List ((Int) × ((Int) × ((Int) × ((Int) × ((Int) × ((Int) × (Int)))))))) × (List ((Int) × ((Int) × ((Int) × ((Int) × ((Int) × ((Int) × (Int))))))))))) × ((List ((Int) × ((Int) × ((Int) × ((Int) × ((Int) × ((Int) × (Int)))))))) × (List (Int))))) × (List ((Int) × ((Int) × ((Int) × ((Int) × ((Int) × ((Int) × (Int)))))))) × Int) =>
    bif decide (k_ < (List.length p : Int)) then (
      bif decide (k_ < 100) then (
        (idx p k_).bind fun e =>
        (D42 w1 e).bind fun r1 =>
        F (r1, v, p, IntKind.i64.wrap (k_ + 1)))
      else some w1)
    else some w1) fuel (w1₀, v₀, p₀, k_₀)

theorem f25_1  (w1 : ((Int) × ((Int) × (List ((Int) × ((Int) × ((Int) × ((Int) × ((Int) × ((Int) × (Int)))))))))) × (((Int) × ((Int) × ((List ((Int) × ((Int) × ((Int) × ((Int) × ((Int) × ((Int) × (Int)))))))) × (List ((Int) × ((Int) × ((Int) × ((Int) × ((Int) × ((Int) × (Int))))))))))) × ((List ((Int) × ((Int) × ((Int) × ((Int) × ((Int) × ((Int) × (Int)))))))) × (List (Int))))) (v : ((Int) × ((Int) × (List ((Int) × ((Int) × ((Int) × ((Int) × ((Int) × ((Int) × (Int)))))))))) × (((Int) × ((Int) × ((List ((Int) × ((Int) × ((Int) × ((Int) × ((Int) × ((Int) × (Int)))))))) × (List ((Int) × ((Int) × ((Int) × ((Int) × ((Int) × ((Int) × (Int))))))))))) × ((List ((Int) × ((Int) × ((Int) × ((Int) × ((Int) × ((Int) × (Int)))))))) × (List (Int))))) (p : List ((Int) × ((Int) × ((Int) × ((Int) × ((Int) × ((Int) × (Int)))))))) (hl : (p).length ≤ maxLen) : lp25_1 big w1 v p 0 =
  forI (fun ix el (w1 : (((Int) × ((Int) × (List ((Int) × ((Int) × ((Int) × ((Int) × ((Int) × ((Int) × (Int)))))))))) × (((Int) × ((Int) × ((List ((Int) × ((Int) × ((Int) × ((Int) × ((Int) × ((Int) × (Int)))))))) × (List ((Int) × ((Int) × ((Int) × ((Int) × ((Int) × ((Int) × (Int))))))))))) × ((List ((Int) × ((Int) × ((Int) × ((Int) × ((Int) × ((Int) × (Int)))))))) × (List (Int)))))) K =>
    (bif decide ((ix : Int) < 100) then (
      (D42 w1 el).bind fun r1 =>
      K r1)
    else some w1 : Option (((Int) × ((Int) × (List ((Int) × ((Int) × ((Int) × ((Int) × ((Int) × ((Int) × (Int)))))))))) × (((Int) × ((Int) × ((List ((Int) × ((Int) × ((Int) × ((Int) × ((Int) × ((Int) × (Int)))))))) × (List ((Int) × ((Int) × ((Int) × ((Int) × ((Int) × ((Int) × (Int))))))))))) × ((List ((Int) × ((Int) × ((Int) × ((Int) × ((Int) × ((Int) × (Int)))))))) × (List (Int)))))))
    (fun (w1 : (((Int) × ((Int) × (List ((Int) × ((Int) × ((Int) × ((Int) × ((Int) × ((Int) × (Int)))))))))) × (((Int) × ((Int) × ((List ((Int) × ((Int) × ((Int) × ((Int) × ((Int) × ((Int) × (Int)))))))) × (List ((Int) × ((Int) × ((Int) × ((Int) × ((Int) × ((Int) × (Int))))))))))) × ((List ((Int) × ((Int) × ((Int) × ((Int) × ((Int) × ((Int) × (Int)))))))) × (List (Int)))))) =>
    (some w1 : Option (((Int) × ((Int) × (List ((Int) × ((Int) × ((Int) × ((Int) × ((Int) × ((Int) × (Int)))))))))) × (((Int) × ((Int) × ((List ((Int) × ((Int) × ((Int) × ((Int) × ((Int) × ((Int) × (Int)))))))) × (List ((Int) × ((Int) × ((Int) × ((Int) × ((Int) × ((Int) × (Int))))))))))) × ((List ((Int) × ((Int) × ((Int) × ((Int) × ((Int) × ((Int) × (Int)))))))) × (List (Int))))))) 0 p w1 := by
  refine iter_forI_from p (fun ix (w1 : (((Int) × ((Int) × (List ((Int) × ((Int) × ((Int) × ((Int) × ((Int) × ((Int) × (Int)))))))))) × (((Int) × ((Int) × ((List ((Int) × ((Int) × ((Int) × ((Int) × ((Int) × ((Int) × (Int)))))))) × (List ((Int) × ((Int) × ((Int) × ((Int) × ((Int) × ((Int) × (Int))))))))))) × ((List ((Int) × ((Int) × ((Int) × ((Int) × ((Int) × ((Int) × (Int)))))))) × (List (Int)))))) => (w1, v, p, (ix : Int))) _ _ ?_ ?_ (k := 0) (Nat.zero_le _) (len_lt_big hl) w1
  · rintro F k h w1
    simp only [dec_lt h, condT, idx_get h, bindS, wrap_succ h hl]
  · rintro F w1
    simp only [dec_end, condF]

noncomputable def lp25_3 (fuel : Nat)  (w1₀ : ((Int) × ((Int) × (List ((Int) × ((Int) × ((Int) × ((Int) × ((Int) × ((Int) × (Int)))))))))) × (((Int) × ((Int) × ((List ((Int) × ((Int) × ((Int) × ((Int) × ((Int) × ((Int) × (Int)))))))) × (List ((Int) × ((Int) × ((Int) × ((Int) × ((Int) × ((Int) × (Int))))))))))) × ((List ((Int) × ((Int) × ((Int) × ((Int) × ((Int) × ((Int) × (Int)))))))) × (List (Int))))) (v₀ : ((Int) × ((Int) × (List ((Int) × ((Int) × ((Int) × ((Int) × ((Int) × ((Int) × (Int)))))))))) × (((Int) × ((Int) × ((List ((Int) × ((Int) × ((Int) × ((Int) × ((Int) × ((Int) × (Int)))))))) × (List ((Int) × ((Int) × ((Int) × ((Int) × ((Int) × ((Int) × (Int))))))))))) × ((List ((Int) × ((Int) × ((Int) × ((Int) × ((Int) × ((Int) × (Int)))))))) × (List (Int))))) (p₀ : List ((Int) × ((Int) × ((Int) × ((Int) × ((Int) × ((Int) × (Int)))))))) (k_₀ : Int) : Option (((Int) × ((Int) × (List ((Int) × ((Int) × ((Int) × ((Int) × ((Int) × ((Int) × (Int)))))))))) × (((Int) × ((Int) × ((List ((Int) × ((Int) × ((Int) × ((Int) × ((Int) × ((Int) × (Int)))))))) × (List ((Int) × ((Int) × ((Int) × ((Int) × ((Int) × ((Int) × (Int))))))))))) × ((List ((Int) × ((Int) × ((Int) × ((Int) × ((Int) × ((Int) × (Int)))))))) × (List (Int))))) :=
  iter (fun F ((w1, v, p, k_) : (((Int) × ((Int) × (List ((Int) × ((Int) × ((Int) × ((Int) × ((Int) × ((Int) × (Int)))))))))) × (((Int) × ((Int) × ((List ((Int) × ((Int) × ((Int) × ((Int) × ((Int) × ((Int) × (Int)))))))) × (List ((Int) × ((Int) × ((Int) × ((Int) × ((Int) × ((Int) × (Int))))))))))) × ((List ((Int) × ((Int) × ((Int) × ((Int) × ((Int) × ((Int) × (Int)))))))) × (List (Int))))) × (((Int) × ((Int) × (List ((Int) × ((Int) × ((Int) × ((Int) × ((Int) × ((Int) × (Int)))))))))) × (((Int) × ((Int) × ((List ((Int) × ((Int) × ((Int) × ((Int) × ((Int) × ((Int) × (Int)))))))) × (List ((Int) × ((Int) × ((Int) × ((Int) × ((Int) × ((Int) × (Int))))))))))) × ((List ((Int) × ((Int) × ((Int) × ((Int) × ((Int) × ((Int) × (Int)))))))) × (List (Int))))) × (List ((Int) × ((Int) × ((Int) × ((Int) × ((Int) × ((Int) × (Int)))))))) × Int) =>
    bif decide (k_ < (List.length p : Int)) then (
      bif decide (k_ < 100) then (
        (idx p k_).bind fun e =>
        (D42 w1 e).bind fun r1 =>
        F (r1, v, p, IntKind.i64.wrap (k_ + 1)))
      else some w1)
    else some w1) fuel (w1₀, v₀, p₀, k_₀)

theorem f25_3  (w1 : ((Int) × ((Int) × (List ((Int) × ((Int) × ((Int) × ((Int) × ((Int) × ((Int) × (Int)))))))))) × (((Int) × ((Int) × ((List ((Int) × ((Int) × ((Int) × ((Int) × ((Int) × ((Int) × (Int)))))))) × (List ((Int) × ((Int) × ((Int) × ((Int) × ((Int) × ((Int) × (Int))))))))))) × ((List ((Int) × ((Int) × ((Int) × ((Int) × ((Int) × ((Int) × (Int)))))))) × (List (Int))))) (v : ((Int) × ((Int) × (List ((Int) × ((Int) × ((Int) × ((Int) × ((Int) × ((Int) × (Int)))))))))) × (((Int) × ((Int) × ((List ((Int) × ((Int) × ((Int) × ((Int) × ((Int) × ((Int) × (Int)))))))) × (List ((Int) × ((Int) × ((Int) × ((Int) × ((Int) × ((Int) × (Int))))))))))) × ((List ((Int) × ((Int) × ((Int) × ((Int) × ((Int) × ((Int) × (Int)))))))) × (List (Int))))) (p : List ((Int) × ((Int) × ((Int) × ((Int) × ((Int) × ((Int) × (Int)))))))) (hl : (p).length ≤ maxLen) : lp25_3 big w1 v p 0 =
  forI (fun ix el (w1 : (((Int) × ((Int) × (List ((Int) × ((Int) × ((Int) × ((Int) × ((Int) × ((Int) × (Int)))))))))) × (((Int) × ((Int) × ((List ((Int) × ((Int) × ((Int) × ((Int) × ((Int) × ((Int) × (Int)))))))) × (List ((Int) × ((Int) × ((Int) × ((Int) × ((Int) × ((Int) × (Int))))))))))) × ((List ((Int) × ((Int) × ((Int) × ((Int) × ((Int) × ((Int) × (Int)))))))) × (List (Int)))))) K =>
    (bif decide ((ix : Int) < 100) then (
      (D42 w1 el).bind fun r1 =>
      K r1)
    else some w1 : Option (((Int) × ((Int) × (List ((Int) × ((Int) × ((Int) × ((Int) × ((Int) × ((Int) × (Int)))))))))) × (((Int) × ((Int) × ((List ((Int) × ((Int) × ((Int) × ((Int) × ((Int) × ((Int) × (Int)))))))) × (List ((Int) × ((Int) × ((Int) × ((Int) × ((Int) × ((Int) × (Int))))))))))) × ((List ((Int) × ((Int) × ((Int) × ((Int) × ((Int) × ((Int) × (Int)))))))) × (List (Int)))))))
    (fun (w1 : (((Int) × ((Int) × (List ((Int) × ((Int) × ((Int) × ((Int) × ((Int) × ((Int) × (Int)))))))))) × (((Int) × ((Int) × ((List ((Int) × ((Int) × ((Int) × ((Int) × ((Int) × ((Int) × (Int)))))))) × (List ((Int) × ((Int) × ((Int) × ((Int) × ((Int) × ((Int) × (Int))))))))))) × ((List ((Int) × ((Int) × ((Int) × ((Int) × ((Int) × ((Int) × (Int)))))))) × (List (Int)))))) =>
    (some w1 : Option (((Int) × ((Int) × (List ((Int) × ((Int) × ((Int) × ((Int) × ((Int) × ((Int) × (Int)))))))))) × (((Int) × ((Int) × ((List ((Int) × ((Int) × ((Int) × ((Int) × ((Int) × ((Int) × (Int)))))))) × (List ((Int) × ((Int) × ((Int) × ((Int) × ((Int) × ((Int) × (Int))))))))))) × ((List ((Int) × ((Int) × ((Int) × ((Int) × ((Int) × ((Int) × (Int)))))))) × (List (Int))))))) 0 p w1 := by
  refine iter_forI_from p (fun ix (w1 : (((Int) × ((Int) × (List ((Int) × ((Int) × ((Int) × ((Int) × ((Int) × ((Int) × (Int)))))))))) × (((Int) × ((Int) × ((List ((Int) × ((Int) × ((Int) × ((Int) × ((Int) × ((Int) × (Int)))))))) × (List ((Int) × ((Int) × ((Int) × ((Int) × ((Int) × ((Int) × (Int))))))))))) × ((List ((Int) × ((Int) × ((Int) × ((Int) × ((Int) × ((Int) × (Int)))))))) × (List (Int)))))) => (w1, v, p, (ix : Int))) _ _ ?_ ?_ (k := 0) (Nat.zero_le _) (len_lt_big hl) w1
  · rintro F k h w1
    simp only [dec_lt h, condT, idx_get h, bindS, wrap_succ h hl]
  · rintro F w1
    simp only [dec_end, condF]

noncomputable def lp25_5 (fuel : Nat)  (w1₀ : ((Int) × ((Int) × (List ((Int) × ((Int) × ((Int) × ((Int) × ((Int) × ((Int) × (Int)))))))))) × (((Int) × ((Int) × ((List ((Int) × ((Int) × ((Int) × ((Int) × ((Int) × ((Int) × (Int)))))))) × (List ((Int) × ((Int) × ((Int) × ((Int) × ((Int) × ((Int) × (Int))))))))))) × ((List ((Int) × ((Int) × ((Int) × ((Int) × ((Int) × ((Int) × (Int)))))))) × (List (Int))))) (v₀ : ((Int) × ((Int) × (List ((Int) × ((Int) × ((Int) × ((Int) × ((Int) × ((Int) × (Int)))))))))) × (((Int) × ((Int) × ((List ((Int) × ((Int) × ((Int) × ((Int) × ((Int) × ((Int) × (Int)))))))) × (List ((Int) × ((Int) × ((Int) × ((Int) × ((Int) × ((Int) × (Int))))))))))) × ((List ((Int) × ((Int) × ((Int) × ((Int) × ((Int) × ((Int) × (Int)))))))) × (List (Int))))) (p₀ : List ((Int) × ((Int) × ((Int) × ((Int) × ((Int) × ((Int) × (Int)))))))) (k_₀ : Int) : Option (((Int) × ((Int) × (List ((Int) × ((Int) × ((Int) × ((Int) × ((Int) × ((Int) × (Int)))))))))) × (((Int) × ((Int) × ((List ((Int) × ((Int) × ((Int) × ((Int) × ((Int) × ((Int) × (Int)))))))) × (List ((Int) × ((Int) × ((Int) × ((Int) × ((Int) × ((Int) × (Int))))))))))) × ((List ((Int) × ((Int) × ((Int) × ((Int) × ((Int) × ((Int) × (Int)))))))) × (List (Int))))) :=
  iter (fun F ((w1, v, p, k_) : (((Int) × ((Int) × (List ((Int) × ((Int) × ((Int) × ((Int) × ((Int) × ((Int) × (Int)))))))))) × (((Int) × ((Int) × ((List ((Int) × ((Int) × ((Int) × ((Int) × ((Int) × ((Int) × (Int)))))))) × (List ((Int) × ((Int) × ((Int) × ((Int) × ((Int) × ((Int) × (Int))))))))))) × ((List ((Int) × ((Int) × ((Int) × ((Int) × ((Int) × ((Int) × (Int)))))))) × (List (Int))))) × (((Int) × ((Int) × (List ((Int) × ((Int) × ((Int) × ((Int) × ((Int) × ((Int) × (Int)))))))))) × (((Int) × ((Int) × ((List ((Int) × ((Int) × ((Int) × ((Int) × ((Int) × ((Int) × (Int)))))))) × (List ((Int) × ((Int) × ((Int) × ((Int) × ((Int) × ((Int) × (Int))))))))))) × ((List ((Int) × ((Int) × ((Int) × ((Int) × ((Int) × ((Int) × (Int)))))))) × (List (Int))))) × (List ((Int) × ((Int) × ((Int) × ((Int) × ((Int) × ((Int) × (Int)))))))) × Int) =>
    bif decide (k_ < (List.length p : Int)) then (
      bif decide (k_ < 100) then (
        (idx p k_).bind fun e =>
        (D42 w1 e).bind fun r1 =>
        F (r1, v, p, IntKind.i64.wrap (k_ + 1)))
      else some w1)
    else some w1) fuel (w1₀, v₀, p₀, k_₀)

theorem f25_5  (w1 : ((Int) × ((Int) × (List ((Int) × ((Int) × ((Int) × ((Int) × ((Int) × ((Int) × (Int)))))))))) × (((Int) × ((Int) × ((List ((Int) × ((Int) × ((Int) × ((Int) × ((Int) × ((Int) × (Int)))))))) × (List ((Int) × ((Int) × ((Int) × ((Int) × ((Int) × ((Int) × (Int))))))))))) × ((List ((Int) × ((Int) × ((Int) × ((Int) × ((Int) × ((Int) × (Int)))))))) × (List (Int))))) (v : ((Int) × ((Int) × (List ((Int) × ((Int) × ((Int) × ((Int) × ((Int) × ((Int) × (Int)))))))))) × (((Int) × ((Int) × ((List ((Int) × ((Int) × ((Int) × ((Int) × ((Int) × ((Int) × (Int)))))))) × (List ((Int) × ((Int) × ((Int) × ((Int) × ((Int) × ((Int) × (Int))))))))))) × ((List ((Int) × ((Int) × ((Int) × ((Int) × ((Int) × ((Int) × (Int)))))))) × (List (Int))))) (p : List ((Int) × ((Int) × ((Int) × ((Int) × ((Int) × ((Int) × (Int)))))))) (hl : (p).length ≤ maxLen) : lp25_5 big w1 v p 0 =
  forI (fun ix el (w1 : (((Int) × ((Int) × (List ((Int) × ((Int) × ((Int) × ((Int) × ((Int) × ((Int) × (Int)))))))))) × (((Int) × ((Int) × ((List ((Int) × ((Int) × ((Int) × ((Int) × ((Int) × ((Int) × (Int)))))))) × (List ((Int) × ((Int) × ((Int) × ((Int) × ((Int) × ((Int) × (Int))))))))))) × ((List ((Int) × ((Int) × ((Int) × ((Int) × ((Int) × ((Int) × (Int)))))))) × (List (Int)))))) K =>
    (bif decide ((ix : Int) < 100) then (
      (D42 w1 el).bind fun r1 =>
      K r1)
    else some w1 : Option (((Int) × ((Int) × (List ((Int) × ((Int) × ((Int) × ((Int) × ((Int) × ((Int) × (Int)))))))))) × (((Int) × ((Int) × ((List ((Int) × ((Int) × ((Int) × ((Int) × ((Int) × ((Int) × (Int)))))))) × (List ((Int) × ((Int) × ((Int) × ((Int) × ((Int) × ((Int) × (Int))))))))))) × ((List ((Int) × ((Int) × ((Int) × ((Int) × ((Int) × ((Int) × (Int)))))))) × (List (Int)))))))
    (fun (w1 : (((Int) × ((Int) × (List ((Int) × ((Int) × ((Int) × ((Int) × ((Int) × ((Int) × (Int)))))))))) × (((Int) × ((Int) × ((List ((Int) × ((Int) × ((Int) × ((Int) × ((Int) × ((Int) × (Int)))))))) × (List ((Int) × ((Int) × ((Int) × ((Int) × ((Int) × ((Int) × (Int))))))))))) × ((List ((Int) × ((Int) × ((Int) × ((Int) × ((Int) × ((Int) × (Int)))))))) × (List (Int)))))) =>
    (some w1 : Option (((Int) × ((Int) × (List ((Int) × ((Int) × ((Int) × ((Int) × ((Int) × ((Int) × (Int)))))))))) × (((Int) × ((Int) × ((List ((Int) × ((Int) × ((Int) × ((Int) × ((Int) × ((Int) × (Int)))))))) × (List ((Int) × ((Int) × ((Int) × ((Int) × ((Int) × ((Int) × (Int))))))))))) × ((List ((Int) × ((Int) × ((Int) × ((Int) × ((Int) × ((Int) × (Int)))))))) × (List (Int))))))) 0 p w1 := by
  refine iter_forI_from p (fun ix (w1 : (((Int) × ((Int) × (List ((Int) × ((Int) × ((Int) × ((Int) × ((Int) × ((Int) × (Int)))))))))) × (((Int) × ((Int) × ((List ((Int) × ((Int) × ((Int) × ((Int) × ((Int) × ((Int) × (Int)))))))) × (List ((Int) × ((Int) × ((Int) × ((Int) × ((Int) × ((Int) × (Int))))))))))) × ((List ((Int) × ((Int) × ((Int) × ((Int) × ((Int) × ((Int) × (Int)))))))) × (List (Int)))))) => (w1, v, p, (ix : Int))) _ _ ?_ ?_ (k := 0) (Nat.zero_le _) (len_lt_big hl) w1
  · rintro F k h w1
    simp only [dec_lt h, condT, idx_get h, bindS, wrap_succ h hl]
  · rintro F w1
    simp only [dec_end, condF]

noncomputable def lp25_7 (fuel : Nat)  (w1₀ : ((Int) × ((Int) × (List ((Int) × ((Int) × ((Int) × ((Int) × ((Int) × ((Int) × (Int)))))))))) × (((Int) × ((Int) × ((List ((Int) × ((Int) × ((Int) × ((Int) × ((Int) × ((Int) × (Int)))))))) × (List ((Int) × ((Int) × ((Int) × ((Int) × ((Int) × ((Int) × (Int))))))))))) × ((List ((Int) × ((Int) × ((Int) × ((Int) × ((Int) × ((Int) × (Int)))))))) × (List (Int))))) (v₀ : ((Int) × ((Int) × (List ((Int) × ((Int) × ((Int) × ((Int) × ((Int) × ((Int) × (Int)))))))))) × (((Int) × ((Int) × ((List ((Int) × ((Int) × ((Int) × ((Int) × ((Int) × ((Int) × (Int)))))))) × (List ((Int) × ((Int) × ((Int) × ((Int) × ((Int) × ((Int) × (Int))))))))))) × ((List ((Int) × ((Int) × ((Int) × ((Int) × ((Int) × ((Int) × (Int)))))))) × (List (Int))))) (p₀ : List ((Int) × ((Int) × ((Int) × ((Int) × ((Int) × ((Int) × (Int)))))))) (k_₀ : Int) : Option (((Int) × ((Int) × (List ((Int) × ((Int) × ((Int) × ((Int) × ((Int) × ((Int) × (Int)))))))))) × (((Int) × ((Int) × ((List ((Int) × ((Int) × ((Int) × ((Int) × ((Int) × ((Int) × (Int)))))))) × (List ((Int) × ((Int) × ((Int) × ((Int) × ((Int) × ((Int) × (Int))))))))))) × ((List ((Int) × ((Int) × ((Int) × ((Int) × ((Int) × ((Int) × (Int)))))))) × (List (Int))))) :=
  iter (fun F ((w1, v, p, k_) : (((Int) × ((Int) × (List ((Int) × ((Int) × ((Int) × ((Int) × ((Int) × ((Int) × (Int)))))))))) × (((Int) × ((Int) × ((List ((Int) × ((Int) × ((Int) × ((Int) × ((Int) × ((Int) × (Int)))))))) × (List ((Int) × ((Int) × ((Int) × ((Int) × ((Int) × ((Int) × (Int))))))))))) × ((List ((Int) × ((Int) × ((Int) × ((Int) × ((Int) × ((Int) × (Int)))))))) × (List (Int))))) × (((Int) × ((Int) × (List ((Int) × ((Int) × ((Int) × ((Int) × ((Int) × ((Int) × (Int)))))))))) × (((Int) × ((Int) × ((List ((Int) × ((Int) × ((Int) × ((Int) × ((Int) × ((Int) × (Int)))))))) × (List ((Int) × ((Int) × ((Int) × ((Int) × ((Int) × ((Int) × (Int))))))))))) × ((List ((Int) × ((Int) × ((Int) × ((Int) × ((Int) × ((Int) × (Int)))))))) × (List (Int))))) × (List ((Int) × ((Int) × ((Int) × ((Int) × ((Int) × ((Int) × (Int)))))))) × Int) =>
    bif decide (k_ < (List.length p : Int)) then (
      bif decide (k_ < 100) then (
        (idx p k_).bind fun e =>
        (D42 w1 e).bind fun r1 =>
        F (r1, v, p, IntKind.i64.wrap (k_ + 1)))
      else some w1)
    else some w1) fuel (w1₀, v₀, p₀, k_₀)

theorem f25_7  (w1 : ((Int) × ((Int) × (List ((Int) × ((Int) × ((Int) × ((Int) × ((Int) × ((Int) × (Int)))))))))) × (((Int) × ((Int) × ((List ((Int) × ((Int) × ((Int) × ((Int) × ((Int) × ((Int) × (Int)))))))) × (List ((Int) × ((Int) × ((Int) × ((Int) × ((Int) × ((Int) × (Int))))))))))) × ((List ((Int) × ((Int) × ((Int) × ((Int) × ((Int) × ((Int) × (Int)))))))) × (List (Int))))) (v : ((Int) × ((Int) × (List ((Int) × ((Int) × ((Int) × ((Int) × ((Int) × ((Int) × (Int)))))))))) × (((Int) × ((Int) × ((List ((Int) × ((Int) × ((Int) × ((Int) × ((Int) × ((Int) × (Int)))))))) × (List ((Int) × ((Int) × ((Int) × ((Int) × ((Int) × ((Int) × (Int))))))))))) × ((List ((Int) × ((Int) × ((Int) × ((Int) × ((Int) × ((Int) × (Int)))))))) × (List (Int))))) (p : List ((Int) × ((Int) × ((Int) × ((Int) × ((Int) × ((Int) × (Int)))))))) (hl : (p).length ≤ maxLen) : lp25_7 big w1 v p 0 =
  forI (fun ix el (w1 : (((Int) × ((Int) × (List ((Int) × ((Int) × ((Int) × ((Int) × ((Int) × ((Int) × (Int)))))))))) × (((Int) × ((Int) × ((List ((Int) × ((Int) × ((Int) × ((Int) × ((Int) × ((Int) × (Int)))))))) × (List ((Int) × ((Int) × ((Int) × ((Int) × ((Int) × ((Int) × (Int))))))))))) × ((List ((Int) × ((Int) × ((Int) × ((Int) × ((Int) × ((Int) × (Int)))))))) × (List (Int)))))) K =>
    (bif decide ((ix : Int) < 100) then (
      (D42 w1 el).bind fun r1 =>
      K r1)
    else some w1 : Option (((Int) × ((Int) × (List ((Int) × ((Int) × ((Int) × ((Int) × ((Int) × ((Int) × (Int)))))))))) × (((Int) × ((Int) × ((List ((Int) × ((Int) × ((Int) × ((Int) × ((Int) × ((Int) × (Int)))))))) × (List ((Int) × ((Int) × ((Int) × ((Int) × ((Int) × ((Int) × (Int))))))))))) × ((List ((Int) × ((Int) × ((Int) × ((Int) × ((Int) × ((Int) × (Int)))))))) × (List (Int)))))))
    (fun (w1 : (((Int) × ((Int) × (List ((Int) × ((Int) × ((Int) × ((Int) × ((Int) × ((Int) × (Int)))))))))) × (((Int) × ((Int) × ((List ((Int) × ((Int) × ((Int) × ((Int) × ((Int) × ((Int) × (Int)))))))) × (List ((Int) × ((Int) × ((Int) × ((Int) × ((Int) × ((Int) × (Int))))))))))) × ((List ((Int) × ((Int) × ((Int) × ((Int) × ((Int) × ((Int) × (Int)))))))) × (List (Int)))))) =>
    (some w1 : Option (((Int) × ((Int) × (List ((Int) × ((Int) × ((Int) × ((Int) × ((Int) × ((Int) × (Int)))))))))) × (((Int) × ((Int) × ((List ((Int) × ((Int) × ((Int) × ((Int) × ((Int) × ((Int) × (Int)))))))) × (List ((Int) × ((Int) × ((Int) × ((Int) × ((Int) × ((Int) × (Int))))))))))) × ((List ((Int) × ((Int) × ((Int) × ((Int) × ((Int) × ((Int) × (Int)))))))) × (List (Int))))))) 0 p w1 := by
  refine iter_forI_from p (fun ix (w1 : (((Int) × ((Int) × (List ((Int) × ((Int) × ((Int) × ((Int) × ((Int) × ((Int) × (Int)))))))))) × (((Int) × ((Int) × ((List ((Int) × ((Int) × ((Int) × ((Int) × ((Int) × ((Int) × (Int)))))))) × (List ((Int) × ((Int) × ((Int) × ((Int) × ((Int) × ((Int) × (Int))))))))))) × ((List ((Int) × ((Int) × ((Int) × ((Int) × ((Int) × ((Int) × (Int)))))))) × (List (Int)))))) => (w1, v, p, (ix : Int))) _ _ ?_ ?_ (k := 0) (Nat.zero_le _) (len_lt_big hl) w1
  · rintro F k h w1
    simp only [dec_lt h, condT, idx_get h, bindS, wrap_succ h hl]
  · rintro F w1
    simp only [dec_end, condF]

noncomputable def lp25_9 (fuel : Nat)  (w1₀ : ((Int) × ((Int) × (List ((Int) × ((Int) × ((Int) × ((Int) × ((Int) × ((Int) × (Int)))))))))) × (((Int) × ((Int) × ((List ((Int) × ((Int) × ((Int) × ((Int) × ((Int) × ((Int) × (Int)))))))) × (List ((Int) × ((Int) × ((Int) × ((Int) × ((Int) × ((Int) × (Int))))))))))) × ((List ((Int) × ((Int) × ((Int) × ((Int) × ((Int) × ((Int) × (Int)))))))) × (List (Int))))) (v₀ : ((Int) × ((Int) × (List ((Int) × ((Int) × ((Int) × ((Int) × ((Int) × ((Int) × (Int)))))))))) × (((Int) × ((Int) × ((List ((Int) × ((Int) × ((Int) × ((Int) × ((Int) × ((Int) × (Int)))))))) × (List ((Int) × ((Int) × ((Int) × ((Int) × ((Int) × ((Int) × (Int))))))))))) × ((List ((Int) × ((Int) × ((Int) × ((Int) × ((Int) × ((Int) × (Int)))))))) × (List (Int))))) (p₀ : List ((Int) × ((Int) × ((Int) × ((Int) × ((Int) × ((Int) × (Int)))))))) (k_₀ : Int) : Option (((Int) × ((Int) × (List ((Int) × ((Int) × ((Int) × ((Int) × ((Int) × ((Int) × (Int)))))))))) × (((Int) × ((Int) × ((List ((Int) × ((Int) × ((Int) × ((Int) × ((Int) × ((Int) × (Int)))))))) × (List ((Int) × ((Int) × ((Int) × ((Int) × ((Int) × ((Int) × (Int))))))))))) × ((List ((Int) × ((Int) × ((Int) × ((Int) × ((Int) × ((Int) × (Int)))))))) × (List (Int))))) :=
  iter (fun F ((w1, v, p, k_) : (((Int) × ((Int) × (List ((Int) × ((Int) × ((Int) × ((Int) × ((Int) × ((Int) × (Int)))))))))) × (((Int) × ((Int) × ((List ((Int) × ((Int) × ((Int) × ((Int) × ((Int) × ((Int) × (Int)))))))) × (List ((Int) × ((Int) × ((Int) × ((Int) × ((Int) × ((Int) × (Int))))))))))) × ((List ((Int) × ((Int) × ((Int) × ((Int) × ((Int) × ((Int) × (Int)))))))) × (List (Int))))) × (((Int) × ((Int) × (List ((Int) × ((Int) × ((Int) × ((Int) × ((Int) × ((Int) × (Int)))))))))) × (((Int) × ((Int) × ((List ((Int) × ((Int) × ((Int) × ((Int) × ((Int) × ((Int) × (Int)))))))) × (List ((Int) × ((Int) × ((Int) × ((Int) × ((Int) × ((Int) × (Int))))))))))) × ((List ((Int) × ((Int) × ((Int) × ((Int) × ((Int) × ((Int) × (Int)))))))) × (List (Int))))) × (List ((Int) × ((Int) × ((Int) × ((Int) × ((Int) × ((Int) × (Int)))))))) × Int) =>
    bif decide (k_ < (List.length p : Int)) then (
      bif decide (k_ < 100) then (
        (idx p k_).bind fun e =>
        (D42 w1 e).bind fun r1 =>
        F (r1, v, p, IntKind.i64.wrap (k_ + 1)))
      else some w1)
    else some w1) fuel (w1₀, v₀, p₀, k_₀)

theorem f25_9  (w1 : ((Int) × ((Int) × (List ((Int) × ((Int) × ((Int) × ((Int) × ((Int) × ((Int) × (Int)))))))))) × (((Int) × ((Int) × ((List ((Int) × ((Int) × ((Int) × ((Int) × ((Int) × ((Int) × (Int)))))))) × (List ((Int) × ((Int) × ((Int) × ((Int) × ((Int) × ((Int) × (Int))))))))))) × ((List ((Int) × ((Int) × ((Int) × ((Int) × ((Int) × ((Int) × (Int)))))))) × (List (Int))))) (v : ((Int) × ((Int) × (List ((Int) × ((Int) × ((Int) × ((Int) × ((Int) × ((Int) × (Int)))))))))) × (((Int) × ((Int) × ((List ((Int) × ((Int) × ((Int) × ((Int) × ((Int) × ((Int) × (Int)))))))) × (List ((Int) × ((Int) × ((Int) × ((Int) × ((Int) × ((Int) × (Int))))))))))) × ((List ((Int) × ((Int) × ((Int) × ((Int) × ((Int) × ((Int) × (Int)))))))) × (List (Int))))) (p : List ((Int) × ((Int) × ((Int) × ((Int) × ((Int) × ((Int) × (Int)))))))) (hl : (p).length ≤ maxLen) : lp25_9 big w1 v p 0 =
  forI (fun ix el (w1 : (((Int) × ((Int) × (List ((Int) × ((Int) × ((Int) × ((Int) × ((Int) × ((Int) × (Int)))))))))) × (((Int) × ((Int) × ((List ((Int) × ((Int) × ((Int) × ((Int) × ((Int) × ((Int) × (Int)))))))) × (List ((Int) × ((Int) × ((Int) × ((Int) × ((Int) × ((Int) × (Int))))))))))) × ((List ((Int) × ((Int) × ((Int) × ((Int) × ((Int) × ((Int) × (Int)))))))) × (List (Int)))))) K =>
    (bif decide ((ix : Int) < 100) then (
      (D42 w1 el).bind fun r1 =>
      K r1)
    else some w1 : Option (((Int) × ((Int) × (List ((Int) × ((Int) × ((Int) × ((Int) × ((Int) × ((Int) × (Int)))))))))) × (((Int) × ((Int) × ((List ((Int) × ((Int) × ((Int) × ((Int) × ((Int) × ((Int) × (Int)))))))) × (List ((Int) × ((Int) × ((Int) × ((Int) × ((Int) × ((Int) × (Int))))))))))) × ((List ((Int) × ((Int) × ((Int) × ((Int) × ((Int) × ((Int) × (Int)))))))) × (List (Int)))))))
    (fun (w1 : (((Int) × ((Int) × (List ((Int) × ((Int) × ((Int) × ((Int) × ((Int) × ((Int) × (Int)))))))))) × (((Int) × ((Int) × ((List ((Int) × ((Int) × ((Int) × ((Int) × ((Int) × ((Int) × (Int)))))))) × (List ((Int) × ((Int) × ((Int) × ((Int) × ((Int) × ((Int) × (Int))))))))))) × ((List ((Int) × ((Int) × ((Int) × ((Int) × ((Int) × ((Int) × (Int)))))))) × (List (Int)))))) =>
    (some w1 : Option (((Int) × ((Int) × (List ((Int) × ((Int) × ((Int) × ((Int) × ((Int) × ((Int) × (Int)))))))))) × (((Int) × ((Int) × ((List ((Int) × ((Int) × ((Int) × ((Int) × ((Int) × ((Int) × (Int)))))))) × (List ((Int) × ((Int) × ((Int) × ((Int) × ((Int) × ((Int) × (Int))))))))))) × ((List ((Int) × ((Int) × ((Int) × ((Int) × ((Int) × ((Int) × (Int)))))))) × (List (Int))))))) 0 p w1 := by
  refine iter_forI_from p (fun ix (w1 : (((Int) × ((Int) × (List ((Int) × ((Int) × ((Int) × ((Int) × ((Int) × ((Int) × (Int)))))))))) × (((Int) × ((Int) × ((List ((Int) × ((Int) × ((Int) × ((Int) × ((Int) × ((Int) × (Int)))))))) × (List ((Int) × ((Int) × ((Int) × ((Int) × ((Int) × ((Int) × (Int))))))))))) × ((List ((Int) × ((Int) × ((Int) × ((Int) × ((Int) × ((Int) × (Int)))))))) × (List (Int)))))) => (w1, v, p, (ix : Int))) _ _ ?_ ?_ (k := 0) (Nat.zero_le _) (len_lt_big hl) w1
  · rintro F k h w1
    simp only [dec_lt h, condT, idx_get h, bindS, wrap_succ h hl]
  · rintro F w1
    simp only [dec_end, condF]

noncomputable def lp25_11 (fuel : Nat)  (w1₀ : ((Int) × ((Int) × (List ((Int) × ((Int) × ((Int) × ((Int) × ((Int) × ((Int) × (Int)))))))))) × (((Int) × ((Int) × ((List ((Int) × ((Int) × ((Int) × ((Int) × ((Int) × ((Int) × (Int)))))))) × (List ((Int) × ((Int) × ((Int) × ((Int) × ((Int) × ((Int) × (Int))))))))))) × ((List ((Int) × ((Int) × ((Int) × ((Int) × ((Int) × ((Int) × (Int)))))))) × (List (Int))))) (v₀ : ((Int) × ((Int) × (List ((Int) × ((Int) × ((Int) × ((Int) × ((Int) × ((Int) × (Int)))))))))) × (((Int) × ((Int) × ((List ((Int) × ((Int) × ((Int) × ((Int) × ((Int) × ((Int) × (Int)))))))) × (List ((Int) × ((Int) × ((Int) × ((Int) × ((Int) × ((Int) × (Int))))))))))) × ((List ((Int) × ((Int) × ((Int) × ((Int) × ((Int) × ((Int) × (Int)))))))) × (List (Int))))) (p₀ : List ((Int) × ((Int) × ((Int) × ((Int) × ((Int) × ((Int) × (Int)))))))) (k_₀ : Int) : Option (((Int) × ((Int) × (List ((Int) × ((Int) × ((Int) × ((Int) × ((Int) × ((Int) × (Int)))))))))) × (((Int) × ((Int) × ((List ((Int) × ((Int) × ((Int) × ((Int) × ((Int) × ((Int) × (Int)))))))) × (List ((Int) × ((Int) × ((Int) × ((Int) × ((Int) × ((Int) × (Int))))))))))) × ((List ((Int) × ((Int) × ((Int) × ((Int) × ((Int) × ((Int) × (Int)))))))) × (List (Int))))) :=
  iter (fun F ((w1, v, p, k_) : (((Int) × ((Int) × (List ((Int) × ((Int) × ((Int) × ((Int) × ((Int) × ((Int) × (Int)))))))))) × (((Int) × ((Int) × ((List ((Int) × ((Int) × ((Int) × ((Int) × ((Int) × ((Int) × (Int)))))))) × (List ((Int) × ((Int) × ((Int) × ((Int) × ((Int) × ((Int) × (Int))))))))))) × ((List ((Int) × ((Int) × ((Int) × ((Int) × ((Int) × ((Int) × (Int)))))))) × (List (Int))))) × (((Int) × ((Int) × (List ((Int) × ((Int) × ((Int) × ((Int) × ((Int) × ((Int) × (Int)))))))))) × (((Int) × ((Int) × ((List ((Int) × ((Int) × ((Int) × ((Int) × ((Int) × ((Int) × (Int)))))))) × (List ((Int) × ((Int) × ((Int) × ((Int) × ((Int) × ((Int) × (Int))))))))))) × ((List ((Int) × ((Int) × ((Int) × ((Int) × ((Int) × ((Int) × (Int)))))))) × (List (Int))))) × (List ((Int) × ((Int) × ((Int) × ((Int) × ((Int) × ((Int) × (Int)))))))) × Int) =>
    bif decide (k_ < (List.length p : Int)) then (
      bif decide (k_ < 100) then (
        (idx p k_).bind fun e =>
        (D42 w1 e).bind fun r1 =>
        F (r1, v, p, IntKind.i64.wrap (k_ + 1)))
      else some w1)
    else some w1) fuel (w1₀, v₀, p₀, k_₀)

theorem f25_11  (w1 : ((Int) × ((Int) × (List ((Int) × ((Int) × ((Int) × ((Int) × ((Int) × ((Int) × (Int)))))))))) × (((Int) × ((Int) × ((List ((Int) × ((Int) × ((Int) × ((Int) × ((Int) × ((Int) × (Int)))))))) × (List ((Int) × ((Int) × ((Int) × ((Int) × ((Int) × ((Int) × (Int))))))))))) × ((List ((Int) × ((Int) × ((Int) × ((Int) × ((Int) × ((Int) × (Int)))))))) × (List (Int))))) (v : ((Int) × ((Int) × (List ((Int) × ((Int) × ((Int) × ((Int) × ((Int) × ((Int) × (Int)))))))))) × (((Int) × ((Int) × ((List ((Int) × ((Int) × ((Int) × ((Int) × ((Int) × ((Int) × (Int)))))))) × (List ((Int) × ((Int) × ((Int) × ((Int) × ((Int) × ((Int) × (Int))))))))))) × ((List ((Int) × ((Int) × ((Int) × ((Int) × ((Int) × ((Int) × (Int)))))))) × (List (Int))))) (p : List ((Int) × ((Int) × ((Int) × ((Int) × ((Int) × ((Int) × (Int)))))))) (hl : (p).length ≤ maxLen) : lp25_11 big w1 v p 0 =
  forI (fun ix el (w1 : (((Int) × ((Int) × (List ((Int) × ((Int) × ((Int) × ((Int) × ((Int) × ((Int) × (Int)))))))))) × (((Int) × ((Int) × ((List ((Int) × ((Int) × ((Int) × ((Int) × ((Int) × ((Int) × (Int)))))))) × (List ((Int) × ((Int) × ((Int) × ((Int) × ((Int) × ((Int) × (Int))))))))))) × ((List ((Int) × ((Int) × ((Int) × ((Int) × ((Int) × ((Int) × (Int)))))))) × (List (Int)))))) K =>
    (bif decide ((ix : Int) < 100) then (
      (D42 w1 el).bind fun r1 =>
      K r1)
    else some w1 : Option (((Int) × ((Int) × (List ((Int) × ((Int) × ((Int) × ((Int) × ((Int) × ((Int) × (Int)))))))))) × (((Int) × ((Int) × ((List ((Int) × ((Int) × ((Int) × ((Int) × ((Int) × ((Int) × (Int)))))))) × (List ((Int) × ((Int) × ((Int) × ((Int) × ((Int) × ((Int) × (Int))))))))))) × ((List ((Int) × ((Int) × ((Int) × ((Int) × ((Int) × ((Int) × (Int)))))))) × (List (Int)))))))
    (fun (w1 : (((Int) × ((Int) × (List ((Int) × ((Int) × ((Int) × ((Int) × ((Int) × ((Int) × (Int)))))))))) × (((Int) × ((Int) × ((List ((Int) × ((Int) × ((Int) × ((Int) × ((Int) × ((Int) × (Int)))))))) × (List ((Int) × ((Int) × ((Int) × ((Int) × ((Int) × ((Int) × (Int))))))))))) × ((List ((Int) × ((Int) × ((Int) × ((Int) × ((Int) × ((Int) × (Int)))))))) × (List (Int)))))) =>
    (some w1 : Option (((Int) × ((Int) × (List ((Int) × ((Int) × ((Int) × ((Int) × ((Int) × ((Int) × (Int)))))))))) × (((Int) × ((Int) × ((List ((Int) × ((Int) × ((Int) × ((Int) × ((Int) × ((Int) × (Int)))))))) × (List ((Int) × ((Int) × ((Int) × ((Int) × ((Int) × ((Int) × (Int))))))))))) × ((List ((Int) × ((Int) × ((Int) × ((Int) × ((Int) × ((Int) × (Int)))))))) × (List (Int))))))) 0 p w1 := by
  refine iter_forI_from p (fun ix (w1 : (((Int) × ((Int) × (List ((Int) × ((Int) × ((Int) × ((Int) × ((Int) × ((Int) × (Int)))))))))) × (((Int) × ((Int) × ((List ((Int) × ((Int) × ((Int) × ((Int) × ((Int) × ((Int) × (Int)))))))) × (List ((Int) × ((Int) × ((Int) × ((Int) × ((Int) × ((Int) × (Int))))))))))) × ((List ((Int) × ((Int) × ((Int) × ((Int) × ((Int) × ((Int) × (Int)))))))) × (List (Int)))))) => (w1, v, p, (ix : Int))) _ _ ?_ ?_ (k := 0) (Nat.zero_le _) (len_lt_big hl) w1
  · rintro F k h w1
    simp only [dec_lt h, condT, idx_get h, bindS, wrap_succ h hl]
  · rintro F w1
    simp only [dec_end, condF]

noncomputable def lp25_13 (fuel : Nat)  (w1₀ : ((Int) × ((Int) × (List ((Int) × ((Int) × ((Int) × ((Int) × ((Int) × ((Int) × (Int)))))))))) × (((Int) × ((Int) × ((List ((Int) × ((Int) × ((Int) × ((Int) × ((Int) × ((Int) × (Int)))))))) × (List ((Int) × ((Int) × ((Int) × ((Int) × ((Int) × ((Int) × (Int))))))))))) × ((List ((Int) × ((Int) × ((Int) × ((Int) × ((Int) × ((Int) × (Int)))))))) × (List (Int))))) (v₀ : ((Int) × ((Int) × (List ((Int) × ((Int) × ((Int) × ((Int) × ((Int) × ((Int) × (Int)))))))))) × (((Int) × ((Int) × ((List ((Int) × ((Int) × ((Int) × ((Int) × ((Int) × ((Int) × (Int)))))))) × (List ((Int) × ((Int) × ((Int) × ((Int) × ((Int) × ((Int) × (Int))))))))))) × ((List ((Int) × ((Int) × ((Int) × ((Int) × ((Int) × ((Int) × (Int)))))))) × (List (Int))))) (p₀ : List ((Int) × ((Int) × ((Int) × ((Int) × ((Int) × ((Int) × (Int)))))))) (k_₀ : Int) : Option (((Int) × ((Int) × (List ((Int) × ((Int) × ((Int) × ((Int) × ((Int) × ((Int) × (Int)))))))))) × (((Int) × ((Int) × ((List ((Int) × ((Int) × ((Int) × ((Int) × ((Int) × ((Int) × (Int)))))))) × (List ((Int) × ((Int) × ((Int) × ((Int) × ((Int) × ((Int) × (Int))))))))))) × ((List ((Int) × ((Int) × ((Int) × ((Int) × ((Int) × ((Int) × (Int)))))))) × (List (Int))))) :=
  iter (fun F ((w1, v, p, k_) : (((Int) × ((Int) × (List ((Int) × ((Int) × ((Int) × ((Int) × ((Int) × ((Int) × (Int)))))))))) × (((Int) × ((Int) × ((List ((Int) × ((Int) × ((Int) × ((Int) × ((Int) × ((Int) × (Int)))))))) × (List ((Int) × ((Int) × ((Int) × ((Int) × ((Int) × ((Int) × (Int))))))))))) × ((List ((Int) × ((Int) × ((Int) × ((Int) × ((Int) × ((Int) × (Int)))))))) × (List (Int))))) × (((Int) × ((Int) × (List ((Int) × ((Int) × ((Int) × ((Int) × ((Int) × ((Int) × (Int)))))))))) × (((Int) × ((Int) × ((List ((Int) × ((Int) × ((Int) × ((Int) × ((Int) × ((Int) × (Int)))))))) × (List ((Int) × ((Int) × ((Int) × ((Int) × ((Int) × ((Int) × (Int))))))))))) × ((List ((Int) × ((Int) × ((Int) × ((Int) × ((Int) × ((Int) × (Int)))))))) × (List (Int))))) × (List ((Int) × ((Int) × ((Int) × ((Int) × ((Int) × ((Int) × (Int)))))))) × Int) =>
    bif decide (k_ < (List.length p : Int)) then (
      bif decide (k_ < 100) then (
        (idx p k_).bind fun e =>
        (D42 w1 e).bind fun r1 =>
        F (r1, v, p, IntKind.i64.wrap (k_ + 1)))
      else some w1)
    else some w1) fuel (w1₀, v₀, p₀, k_₀)

theorem f25_13  (w1 : ((Int) × ((Int) × (List ((Int) × ((Int) × ((Int) × ((Int) × ((Int) × ((Int) × (Int)))))))))) × (((Int) × ((Int) × ((List ((Int) × ((Int) × ((Int) × ((Int) × ((Int) × ((Int) × (Int)))))))) × (List ((Int) × ((Int) × ((Int) × ((Int) × ((Int) × ((Int) × (Int))))))))))) × ((List ((Int) × ((Int) × ((Int) × ((Int) × ((Int) × ((Int) × (Int)))))))) × (List (Int))))) (v : ((Int) × ((Int) × (List ((Int) × ((Int) × ((Int) × ((Int) × ((Int) × ((Int) × (Int)))))))))) × (((Int) × ((Int) × ((List ((Int) × ((Int) × ((Int) × ((Int) × ((Int) × ((Int) × (Int)))))))) × (List ((Int) × ((Int) × ((Int) × ((Int) × ((Int) × ((Int) × (Int))))))))))) × ((List ((Int) × ((Int) × ((Int) × ((Int) × ((Int) × ((Int) × (Int)))))))) × (List (Int))))) (p : List ((Int) × ((Int) × ((Int) × ((Int) × ((Int) × ((Int) × (Int)))))))) (hl : (p).length ≤ maxLen) : lp25_13 big w1 v p 0 =
  forI (fun ix el (w1 : (((Int) × ((Int) × (List ((Int) × ((Int) × ((Int) × ((Int) × ((Int) × ((Int) × (Int)))))))))) × (((Int) × ((Int) × ((List ((Int) × ((Int) × ((Int) × ((Int) × ((Int) × ((Int) × (Int)))))))) × (List ((Int) × ((Int) × ((Int) × ((Int) × ((Int) × ((Int) × (Int))))))))))) × ((List ((Int) × ((Int) × ((Int) × ((Int) × ((Int) × ((Int) × (Int)))))))) × (List (Int)))))) K =>
    (bif decide ((ix : Int) < 100) then (
      (D42 w1 el).bind fun r1 =>
      K r1)
    else some w1 : Option (((Int) × ((Int) × (List ((Int) × ((Int) × ((Int) × ((Int) × ((Int) × ((Int) × (Int)))))))))) × (((Int) × ((Int) × ((List ((Int) × ((Int) × ((Int) × ((Int) × ((Int) × ((Int) × (Int)))))))) × (List ((Int) × ((Int) × ((Int) × ((Int) × ((Int) × ((Int) × (Int))))))))))) × ((List ((Int) × ((Int) × ((Int) × ((Int) × ((Int) × ((Int) × (Int)))))))) × (List (Int)))))))
    (fun (w1 : (((Int) × ((Int) × (List ((Int) × ((Int) × ((Int) × ((Int) × ((Int) × ((Int) × (Int)))))))))) × (((Int) × ((Int) × ((List ((Int) × ((Int) × ((Int) × ((Int) × ((Int) × ((Int) × (Int)))))))) × (List ((Int) × ((Int) × ((Int) × ((Int) × ((Int) × ((Int) × (Int))))))))))) × ((List ((Int) × ((Int) × ((Int) × ((Int) × ((Int) × ((Int) × (Int)))))))) × (List (Int)))))) =>
    (some w1 : Option (((Int) × ((Int) × (List ((Int) × ((Int) × ((Int) × ((Int) × ((Int) × ((Int) × (Int)))))))))) × (((Int) × ((Int) × ((List ((Int) × ((Int) × ((Int) × ((Int) × ((Int) × ((Int) × (Int)))))))) × (List ((Int) × ((Int) × ((Int) × ((Int) × ((Int) × ((Int) × (Int))))))))))) × ((List ((Int) × ((Int) × ((Int) × ((Int) × ((Int) × ((Int) × (Int)))))))) × (List (Int))))))) 0 p w1 := by
  refine iter_forI_from p (fun ix (w1 : (((Int) × ((Int) × (List ((Int) × ((Int) × ((Int) × ((Int) × ((Int) × ((Int) × (Int)))))))))) × (((Int) × ((Int) × ((List ((Int) × ((Int) × ((Int) × ((Int) × ((Int) × ((Int) × (Int)))))))) × (List ((Int) × ((Int) × ((Int) × ((Int) × ((Int) × ((Int) × (Int))))))))))) × ((List ((Int) × ((Int) × ((Int) × ((Int) × ((Int) × ((Int) × (Int)))))))) × (List (Int)))))) => (w1, v, p, (ix : Int))) _ _ ?_ ?_ (k := 0) (Nat.zero_le _) (len_lt_big hl) w1
  · rintro F k h w1
    simp only [dec_lt h, condT, idx_get h, bindS, wrap_succ h hl]
  · rintro F w1
    simp only [dec_end, condF]

noncomputable def lp25_15 (fuel : Nat)  (w1₀ : ((Int) × ((Int) × (List ((Int) × ((Int) × ((Int) × ((Int) × ((Int) × ((Int) × (Int)))))))))) × (((Int) × ((Int) × ((List ((Int) × ((Int) × ((Int) × ((Int) × ((Int) × ((Int) × (Int)))))))) × (List ((Int) × ((Int) × ((Int) × ((Int) × ((Int) × ((Int) × (Int))))))))))) × ((List ((Int) × ((Int) × ((Int) × ((Int) × ((Int) × ((Int) × (Int)))))))) × (List (Int))))) (v₀ : ((Int) × ((Int) × (List ((Int) × ((Int) × ((Int) × ((Int) × ((Int) × ((Int) × (Int)))))))))) × (((Int) × ((Int) × ((List ((Int) × ((Int) × ((Int) × ((Int) × ((Int) × ((Int) × (Int)))))))) × (List ((Int) × ((Int) × ((Int) × ((Int) × ((Int) × ((Int) × (Int))))))))))) × ((List ((Int) × ((Int) × ((Int) × ((Int) × ((Int) × ((Int) × (Int)))))))) × (List (Int))))) (p₀ : List ((Int) × ((Int) × ((Int) × ((Int) × ((Int) × ((Int) × (Int)))))))) (k_₀ : Int) : Option (((Int) × ((Int) × (List ((Int) × ((Int) × ((Int) × ((Int) × ((Int) × ((Int) × (Int)))))))))) × (((Int) × ((Int) × ((List ((Int) × ((Int) × ((Int) × ((Int) × ((Int) × ((Int) × (Int)))))))) × (List ((Int) × ((Int) × ((Int) × ((Int) × ((Int) × ((Int) × (Int))))))))))) × ((List ((Int) × ((Int) × ((Int) × ((Int) × ((Int) × ((Int) × (Int)))))))) × (List (Int))))) :=
  iter (fun F ((w1, v, p, k_) : (((Int) × ((Int) × (List ((Int) × ((Int) × ((Int) × ((Int) × ((Int) × ((Int) × (Int)))))))))) × (((Int) × ((Int) × ((List ((Int) × ((Int) × ((Int) × ((Int) × ((Int) × ((Int) × (Int)))))))) × (List ((Int) × ((Int) × ((Int) × ((Int) × ((Int) × ((Int) × (Int))))))))))) × ((List ((Int) × ((Int) × ((Int) × ((Int) × ((Int) × ((Int) × (Int)))))))) × (List (Int))))) × (((Int) × ((Int) × (List ((Int) × ((Int) × ((Int) × ((Int) × ((Int) × ((Int) × (Int)))))))))) × (((Int) × ((Int) × ((List ((Int) × ((Int) × ((Int) × ((Int) × ((Int) × ((Int) × (Int)))))))) × (List ((Int) × ((Int) × ((Int) × ((Int) × ((Int) × ((Int) × (Int))))))))))) × ((List ((Int) × ((Int) × ((Int) × ((Int) × ((Int) × ((Int) × (Int)))))))) × (List (Int))))) × (List ((Int) × ((Int) × ((Int) × ((Int) × ((Int) × ((Int) × (Int)))))))) × Int) =>
    bif decide (k_ < (List.length p : Int)) then (
      bif decide (k_ < 100) then (
        (idx p k_).bind fun e =>
        (D42 w1 e).bind fun r1 =>
        F (r1, v, p, IntKind.i64.wrap (k_ + 1)))
      else some w1)
    else some w1) fuel (w1₀, v₀, p₀, k_₀)

theorem f25_15  (w1 : ((Int) × ((Int) × (List ((Int) × ((Int) × ((Int) × ((Int) × ((Int) × ((Int) × (Int)))))))))) × (((Int) × ((Int) × ((List ((Int) × ((Int) × ((Int) × ((Int) × ((Int) × ((Int) × (Int)))))))) × (List ((Int) × ((Int) × ((Int) × ((Int) × ((Int) × ((Int) × (Int))))))))))) × ((List ((Int) × ((Int) × ((Int) × ((Int) × ((Int) × ((Int) × (Int)))))))) × (List (Int))))) (v : ((Int) × ((Int) × (List ((Int) × ((Int) × ((Int) × ((Int) × ((Int) × ((Int) × (Int)))))))))) × (((Int) × ((Int) × ((List ((Int) × ((Int) × ((Int) × ((Int) × ((Int) × ((Int) × (Int)))))))) × (List ((Int) × ((Int) × ((Int) × ((Int) × ((Int) × ((Int) × (Int))))))))))) × ((List ((Int) × ((Int) × ((Int) × ((Int) × ((Int) × ((Int) × (Int)))))))) × (List (Int))))) (p : List ((Int) × ((Int) × ((Int) × ((Int) × ((Int) × ((Int) × (Int)))))))) (hl : (p).length ≤ maxLen) : lp25_15 big w1 v p 0 =
  forI (fun ix el (w1 : (((Int) × ((Int) × (List ((Int) × ((Int) × ((Int) × ((Int) × ((Int) × ((Int) × (Int)))))))))) × (((Int) × ((Int) × ((List ((Int) × ((Int) × ((Int) × ((Int) × ((Int) × ((Int) × (Int)))))))) × (List ((Int) × ((Int) × ((Int) × ((Int) × ((Int) × ((Int) × (Int))))))))))) × ((List ((Int) × ((Int) × ((Int) × ((Int) × ((Int) × ((Int) × (Int)))))))) × (List (Int)))))) K =>
    (bif decide ((ix : Int) < 100) then (
      (D42 w1 el).bind fun r1 =>
      K r1)
    else some w1 : Option (((Int) × ((Int) × (List ((Int) × ((Int) × ((Int) × ((Int) × ((Int) × ((Int) × (Int)))))))))) × (((Int) × ((Int) × ((List ((Int) × ((Int) × ((Int) × ((Int) × ((Int) × ((Int) × (Int)))))))) × (List ((Int) × ((Int) × ((Int) × ((Int) × ((Int) × ((Int) × (Int))))))))))) × ((List ((Int) × ((Int) × ((Int) × ((Int) × ((Int) × ((Int) × (Int)))))))) × (List (Int)))))))
    (fun (w1 : (((Int) × ((Int) × (List ((Int) × ((Int) × ((Int) × ((Int) × ((Int) × ((Int) × (Int)))))))))) × (((Int) × ((Int) × ((List ((Int) × ((Int) × ((Int) × ((Int) × ((Int) × ((Int) × (Int)))))))) × (List ((Int) × ((Int) × ((Int) × ((Int) × ((Int) × ((Int) × (Int))))))))))) × ((List ((Int) × ((Int) × ((Int) × ((Int) × ((Int) × ((Int) × (Int)))))))) × (List (Int)))))) =>
    (some w1 : Option (((Int) × ((Int) × (List ((Int) × ((Int) × ((Int) × ((Int) × ((Int) × ((Int) × (Int)))))))))) × (((Int) × ((Int) × ((List ((Int) × ((Int) × ((Int) × ((Int) × ((Int) × ((Int) × (Int)))))))) × (List ((Int) × ((Int) × ((Int) × ((Int) × ((Int) × ((Int) × (Int))))))))))) × ((List ((Int) × ((Int) × ((Int) × ((Int) × ((Int) × ((Int) × (Int)))))))) × (List (Int))))))) 0 p w1 := by
  refine iter_forI_from p (fun ix (w1 : (((Int) × ((Int) × (List ((Int) × ((Int) × ((Int) × ((Int) × ((Int) × ((Int) × (Int)))))))))) × (((Int) × ((Int) × ((List ((Int) × ((Int) × ((Int) × ((Int) × ((Int) × ((Int) × (Int)))))))) × (List ((Int) × ((Int) × ((Int) × ((Int) × ((Int) × ((Int) × (Int))))))))))) × ((List ((Int) × ((Int) × ((Int) × ((Int) × ((Int) × ((Int) × (Int)))))))) × (List (Int)))))) => (w1, v, p, (ix : Int))) _ _ ?_ ?_ (k := 0) (Nat.zero_le _) (len_lt_big hl) w1
  · rintro F k h w1
    simp only [dec_lt h, condT, idx_get h, bindS, wrap_succ h hl]
  · rintro F w1
    simp only [dec_end, condF]

noncomputable def lp25_17 (fuel : Nat)  (w1₀ : ((Int) × ((Int) × (List ((Int) × ((Int) × ((Int) × ((Int) × ((Int) × ((Int) × (Int)))))))))) × (((Int) × ((Int) × ((List ((Int) × ((Int) × ((Int) × ((Int) × ((Int) × ((Int) × (Int)))))))) × (List ((Int) × ((Int) × ((Int) × ((Int) × ((Int) × ((Int) × (Int))))))))))) × ((List ((Int) × ((Int) × ((Int) × ((Int) × ((Int) × ((Int) × (Int)))))))) × (List (Int))))) (v₀ : ((Int) × ((Int) × (List ((Int) × ((Int) × ((Int) × ((Int) × ((Int) × ((Int) × (Int)))))))))) × (((Int) × ((Int) × ((List ((Int) × ((Int) × ((Int) × ((Int) × ((Int) × ((Int) × (Int)))))))) × (List ((Int) × ((Int) × ((Int) × ((Int) × ((Int) × ((Int) × (Int))))))))))) × ((List ((Int) × ((Int) × ((Int) × ((Int) × ((Int) × ((Int) × (Int)))))))) × (List (Int))))) (p₀ : List ((Int) × ((Int) × ((Int) × ((Int) × ((Int) × ((Int) × (Int)))))))) (k_₀ : Int) : Option (((Int) × ((Int) × (List ((Int) × ((Int) × ((Int) × ((Int) × ((Int) × ((Int) × (Int)))))))))) × (((Int) × ((Int) × ((List ((Int) × ((Int) × ((Int) × ((Int) × ((Int) × ((Int) × (Int)))))))) × (List ((Int) × ((Int) × ((Int) × ((Int) × ((Int) × ((Int) × (Int))))))))))) × ((List ((Int) × ((Int) × ((Int) × ((Int) × ((Int) × ((Int) × (Int)))))))) × (List (Int))))) :=
  iter (fun F ((w1, v, p, k_) : (((Int) × ((Int) × (List ((Int) × ((Int) × ((Int) × ((Int) × ((Int) × ((Int) × (Int)))))))))) × (((Int) × ((Int) × ((List ((Int) × ((Int) × ((Int) × ((Int) × ((Int) × ((Int) × (Int)))))))) × (List ((Int) × ((Int) × ((Int) × ((Int) × ((Int) × ((Int) × (Int))))))))))) × ((List ((Int) × ((Int) × ((Int) × ((Int) × ((Int) × ((Int) × (Int)))))))) × (List (Int))))) × (((Int) × ((Int) × (List ((Int) × ((Int) × ((Int) × ((Int) × ((Int) × ((Int) × (Int)))))))))) × (((Int) × ((Int) × ((List ((Int) × ((Int) × ((Int) × ((Int) × ((Int) × ((Int) × (Int)))))))) × (List ((Int) × ((Int) × ((Int) × ((Int) × ((Int) × ((Int) × (Int))))))))))) × ((List ((Int) × ((Int) × ((Int) × ((Int) × ((Int) × ((Int) × (Int)))))))) × (List (Int))))) × (List ((Int) × ((Int) × ((Int) × ((Int) × ((Int) × ((Int) × (Int)))))))) × Int) =>
    bif decide (k_ < (List.length p : Int)) then (
      bif decide (k_ < 100) then (
        (idx p k_).bind fun e =>
        (D42 w1 e).bind fun r1 =>
        F (r1, v, p, IntKind.i64.wrap (k_ + 1)))
      else some w1)
    else some w1) fuel (w1₀, v₀, p₀, k_₀)

theorem f25_17  (w1 : ((Int) × ((Int) × (List ((Int) × ((Int) × ((Int) × ((Int) × ((Int) × ((Int) × (Int)))))))))) × (((Int) × ((Int) × ((List ((Int) × ((Int) × ((Int) × ((Int) × ((Int) × ((Int) × (Int)))))))) × (List ((Int) × ((Int) × ((Int) × ((Int) × ((Int) × ((Int) × (Int))))))))))) × ((List ((Int) × ((Int) × ((Int) × ((Int) × ((Int) × ((Int) × (Int)))))))) × (List (Int))))) (v : ((Int) × ((Int) × (List ((Int) × ((Int) × ((Int) × ((Int) × ((Int) × ((Int) × (Int)))))))))) × (((Int) × ((Int) × ((List ((Int) × ((Int) × ((Int) × ((Int) × ((Int) × ((Int) × (Int)))))))) × (List ((Int) × ((Int) × ((Int) × ((Int) × ((Int) × ((Int) × (Int))))))))))) × ((List ((Int) × ((Int) × ((Int) × ((Int) × ((Int) × ((Int) × (Int)))))))) × (List (Int))))) (p : List ((Int) × ((Int) × ((Int) × ((Int) × ((Int) × ((Int) × (Int)))))))) (hl : (p).length ≤ maxLen) : lp25_17 big w1 v p 0 =
  forI (fun ix el (w1 : (((Int) × ((Int) × (List ((Int) × ((Int) × ((Int) × ((Int) × ((Int) × ((Int) × (Int)))))))))) × (((Int) × ((Int) × ((List ((Int) × ((Int) × ((Int) × ((Int) × ((Int) × ((Int) × (Int)))))))) × (List ((Int) × ((Int) × ((Int) × ((Int) × ((Int) × ((Int) × (Int))))))))))) × ((List ((Int) × ((Int) × ((Int) × ((Int) × ((Int) × ((Int) × (Int)))))))) × (List (Int)))))) K =>
    (bif decide ((ix : Int) < 100) then (
      (D42 w1 el).bind fun r1 =>
      K r1)
    else some w1 : Option (((Int) × ((Int) × (List ((Int) × ((Int) × ((Int) × ((Int) × ((Int) × ((Int) × (Int)))))))))) × (((Int) × ((Int) × ((List ((Int) × ((Int) × ((Int) × ((Int) × ((Int) × ((Int) × (Int)))))))) × (List ((Int) × ((Int) × ((Int) × ((Int) × ((Int) × ((Int) × (Int))))))))))) × ((List ((Int) × ((Int) × ((Int) × ((Int) × ((Int) × ((Int) × (Int)))))))) × (List (Int)))))))
    (fun (w1 : (((Int) × ((Int) × (List ((Int) × ((Int) × ((Int) × ((Int) × ((Int) × ((Int) × (Int)))))))))) × (((Int) × ((Int) × ((List ((Int) × ((Int) × ((Int) × ((Int) × ((Int) × ((Int) × (Int)))))))) × (List ((Int) × ((Int) × ((Int) × ((Int) × ((Int) × ((Int) × (Int))))))))))) × ((List ((Int) × ((Int) × ((Int) × ((Int) × ((Int) × ((Int) × (Int)))))))) × (List (Int)))))) =>
    (some w1 : Option (((Int) × ((Int) × (List ((Int) × ((Int) × ((Int) × ((Int) × ((Int) × ((Int) × (Int)))))))))) × (((Int) × ((Int) × ((List ((Int) × ((Int) × ((Int) × ((Int) × ((Int) × ((Int) × (Int)))))))) × (List ((Int) × ((Int) × ((Int) × ((Int) × ((Int) × ((Int) × (Int))))))))))) × ((List ((Int) × ((Int) × ((Int) × ((Int) × ((Int) × ((Int) × (Int)))))))) × (List (Int))))))) 0 p w1 := by
  refine iter_forI_from p (fun ix (w1 : (((Int) × ((Int) × (List ((Int) × ((Int) × ((Int) × ((Int) × ((Int) × ((Int) × (Int)))))))))) × (((Int) × ((Int) × ((List ((Int) × ((Int) × ((Int) × ((Int) × ((Int) × ((Int) × (Int)))))))) × (List ((Int) × ((Int) × ((Int) × ((Int) × ((Int) × ((Int) × (Int))))))))))) × ((List ((Int) × ((Int) × ((Int) × ((Int) × ((Int) × ((Int) × (Int)))))))) × (List (Int)))))) => (w1, v, p, (ix : Int))) _ _ ?_ ?_ (k := 0) (Nat.zero_le _) (len_lt_big hl) w1
  · rintro F k h w1
    simp only [dec_lt h, condT, idx_get h, bindS, wrap_succ h hl]
  · rintro F w1
    simp only [dec_end, condF]

theorem g25 (fuel : Nat) (w : ((Int) × ((Int) × (List ((Int) × ((Int) × ((Int) × ((Int) × ((Int) × ((Int) × (Int)))))))))) × (((Int) × ((Int) × ((List ((Int) × ((Int) × ((Int) × ((Int) × ((Int) × ((Int) × (Int)))))))) × (List ((Int) × ((Int) × ((Int) × ((Int) × ((Int) × ((Int) × (Int))))))))))) × ((List ((Int) × ((Int) × ((Int) × ((Int) × ((Int) × ((Int) × (Int)))))))) × (List (Int))))) (o : (Int) × (Int)) : (fnK tab env25 10 ann25 fuel Try.f25 [] ps25 rs25 false (w, o) : Option (((Int) × ((Int) × (List ((Int) × ((Int) × ((Int) × ((Int) × ((Int) × ((Int) × (Int)))))))))) × (((Int) × ((Int) × ((List ((Int) × ((Int) × ((Int) × ((Int) × ((Int) × ((Int) × (Int)))))))) × (List ((Int) × ((Int) × ((Int) × ((Int) × ((Int) × ((Int) × (Int))))))))))) × ((List ((Int) × ((Int) × ((Int) × ((Int) × ((Int) × ((Int) × (Int)))))))) × (List (Int)))))) = (
  bif (o.1 == 0) then (
    (D13 w.1 (w.1.1, IntKind.i64.wrap ((List.length w.2.2.1 : Int) + 1), o.2, 0, 0, 0, 0)).bind fun r =>
    bif (r.2 == 0) then (
      bif (Nat.ble ((List.length ([] : List ((Int) × ((Int) × ((Int) × ((Int) × ((Int) × ((Int) × (Int)))))))) + List.length w.2.2.1) * 56) appendLimit && Nat.ble (List.length ([] : List ((Int) × ((Int) × ((Int) × ((Int) × ((Int) × ((Int) × (Int)))))))) + List.length w.2.2.1) 9223372036854775807) then (
        bif (Nat.ble ((List.length (([] : List ((Int) × ((Int) × ((Int) × ((Int) × ((Int) × ((Int) × (Int)))))))) ++ w.2.2.1) + List.length [(w.1.1, IntKind.i64.wrap ((List.length w.2.2.1 : Int) + 1), o.2, 0, 0, 0, 0)]) * 56) appendLimit && Nat.ble (List.length (([] : List ((Int) × ((Int) × ((Int) × ((Int) × ((Int) × ((Int) × (Int)))))))) ++ w.2.2.1) + List.length [(w.1.1, IntKind.i64.wrap ((List.length w.2.2.1 : Int) + 1), o.2, 0, 0, 0, 0)]) 9223372036854775807) then some (r.1, w.2.1, (([] : List ((Int) × ((Int) × ((Int) × ((Int) × ((Int) × ((Int) × (Int)))))))) ++ w.2.2.1) ++ [(w.1.1, IntKind.i64.wrap ((List.length w.2.2.1 : Int) + 1), o.2, 0, 0, 0, 0)], w.2.2.2)
        else none)
      else none)
    else some w)
  else bif (o.1 == 1) then (
    bif decide (o.2 ≥ 0) then (
      bif decide (o.2 < (List.length w.2.2.1 : Int)) then (
        (idx w.2.2.1 o.2).bind fun e =>
        (D42 w e).bind fun r =>
        some r)
      else bif (o.1 == 2) then (
        bif decide (o.2 ≥ 0) then (
          bif decide (o.2 < (List.length w.2.2.2 : Int)) then (
            (idx w.2.2.2 o.2).bind fun e =>
            (D19 w.1 e).bind fun r =>
            some (r, w.2))
          else bif (o.1 == 3) then (
            (D18 w.1).bind fun r =>
            lp25_1 fuel w ((0, 0, ([] : List ((Int) × ((Int) × ((Int) × ((Int) × ((Int) × ((Int) × (Int))))))))), (0, 0, ([] : List ((Int) × ((Int) × ((Int) × ((Int) × ((Int) × ((Int) × (Int)))))))), ([] : List ((Int) × ((Int) × ((Int) × ((Int) × ((Int) × ((Int) × (Int))))))))), ([] : List ((Int) × ((Int) × ((Int) × ((Int) × ((Int) × ((Int) × (Int)))))))), ([] : List (Int))) r 0)
          else bif (o.1 == 4) then (
            (D42 w (IntKind.i64.wrap (w.1.1 - 1), o.2, 0, 0, 0, 0, 0)).bind fun r =>
            some r)
          else some w)
        else bif (o.1 == 3) then (
          (D18 w.1).bind fun r =>
          lp25_3 fuel w ((0, 0, ([] : List ((Int) × ((Int) × ((Int) × ((Int) × ((Int) × ((Int) × (Int))))))))), (0, 0, ([] : List ((Int) × ((Int) × ((Int) × ((Int) × ((Int) × ((Int) × (Int)))))))), ([] : List ((Int) × ((Int) × ((Int) × ((Int) × ((Int) × ((Int) × (Int))))))))), ([] : List ((Int) × ((Int) × ((Int) × ((Int) × ((Int) × ((Int) × (Int)))))))), ([] : List (Int))) r 0)
        else bif (o.1 == 4) then (
          (D42 w (IntKind.i64.wrap (w.1.1 - 1), o.2, 0, 0, 0, 0, 0)).bind fun r =>
          some r)
        else some w)
      else bif (o.1 == 3) then (
        (D18 w.1).bind fun r =>
        lp25_5 fuel w ((0, 0, ([] : List ((Int) × ((Int) × ((Int) × ((Int) × ((Int) × ((Int) × (Int))))))))), (0, 0, ([] : List ((Int) × ((Int) × ((Int) × ((Int) × ((Int) × ((Int) × (Int)))))))), ([] : List ((Int) × ((Int) × ((Int) × ((Int) × ((Int) × ((Int) × (Int))))))))), ([] : List ((Int) × ((Int) × ((Int) × ((Int) × ((Int) × ((Int) × (Int)))))))), ([] : List (Int))) r 0)
      else bif (o.1 == 4) then (
        (D42 w (IntKind.i64.wrap (w.1.1 - 1), o.2, 0, 0, 0, 0, 0)).bind fun r =>
        some r)
      else some w)
    else bif (o.1 == 2) then (
      bif decide (o.2 ≥ 0) then (
        bif decide (o.2 < (List.length w.2.2.2 : Int)) then (
          (idx w.2.2.2 o.2).bind fun e =>
          (D19 w.1 e).bind fun r =>
          some (r, w.2))
        else bif (o.1 == 3) then (
          (D18 w.1).bind fun r =>
          lp25_7 fuel w ((0, 0, ([] : List ((Int) × ((Int) × ((Int) × ((Int) × ((Int) × ((Int) × (Int))))))))), (0, 0, ([] : List ((Int) × ((Int) × ((Int) × ((Int) × ((Int) × ((Int) × (Int)))))))), ([] : List ((Int) × ((Int) × ((Int) × ((Int) × ((Int) × ((Int) × (Int))))))))), ([] : List ((Int) × ((Int) × ((Int) × ((Int) × ((Int) × ((Int) × (Int)))))))), ([] : List (Int))) r 0)
        else bif (o.1 == 4) then (
          (D42 w (IntKind.i64.wrap (w.1.1 - 1), o.2, 0, 0, 0, 0, 0)).bind fun r =>
          some r)
        else some w)
      else bif (o.1 == 3) then (
        (D18 w.1).bind fun r =>
        lp25_9 fuel w ((0, 0, ([] : List ((Int) × ((Int) × ((Int) × ((Int) × ((Int) × ((Int) × (Int))))))))), (0, 0, ([] : List ((Int) × ((Int) × ((Int) × ((Int) × ((Int) × ((Int) × (Int)))))))), ([] : List ((Int) × ((Int) × ((Int) × ((Int) × ((Int) × ((Int) × (Int))))))))), ([] : List ((Int) × ((Int) × ((Int) × ((Int) × ((Int) × ((Int) × (Int)))))))), ([] : List (Int))) r 0)
      else bif (o.1 == 4) then (
        (D42 w (IntKind.i64.wrap (w.1.1 - 1), o.2, 0, 0, 0, 0, 0)).bind fun r =>
        some r)
      else some w)
    else bif (o.1 == 3) then (
      (D18 w.1).bind fun r =>
      lp25_11 fuel w ((0, 0, ([] : List ((Int) × ((Int) × ((Int) × ((Int) × ((Int) × ((Int) × (Int))))))))), (0, 0, ([] : List ((Int) × ((Int) × ((Int) × ((Int) × ((Int) × ((Int) × (Int)))))))), ([] : List ((Int) × ((Int) × ((Int) × ((Int) × ((Int) × ((Int) × (Int))))))))), ([] : List ((Int) × ((Int) × ((Int) × ((Int) × ((Int) × ((Int) × (Int)))))))), ([] : List (Int))) r 0)
    else bif (o.1 == 4) then (
      (D42 w (IntKind.i64.wrap (w.1.1 - 1), o.2, 0, 0, 0, 0, 0)).bind fun r =>
      some r)
    else some w)
  else bif (o.1 == 2) then (
    bif decide (o.2 ≥ 0) then (
      bif decide (o.2 < (List.length w.2.2.2 : Int)) then (
        (idx w.2.2.2 o.2).bind fun e =>
        (D19 w.1 e).bind fun r =>
        some (r, w.2))
      else bif (o.1 == 3) then (
        (D18 w.1).bind fun r =>
        lp25_13 fuel w ((0, 0, ([] : List ((Int) × ((Int) × ((Int) × ((Int) × ((Int) × ((Int) × (Int))))))))), (0, 0, ([] : List ((Int) × ((Int) × ((Int) × ((Int) × ((Int) × ((Int) × (Int)))))))), ([] : List ((Int) × ((Int) × ((Int) × ((Int) × ((Int) × ((Int) × (Int))))))))), ([] : List ((Int) × ((Int) × ((Int) × ((Int) × ((Int) × ((Int) × (Int)))))))), ([] : List (Int))) r 0)
      else bif (o.1 == 4) then (
        (D42 w (IntKind.i64.wrap (w.1.1 - 1), o.2, 0, 0, 0, 0, 0)).bind fun r =>
        some r)
      else some w)
    else bif (o.1 == 3) then (
      (D18 w.1).bind fun r =>
      lp25_15 fuel w ((0, 0, ([] : List ((Int) × ((Int) × ((Int) × ((Int) × ((Int) × ((Int) × (Int))))))))), (0, 0, ([] : List ((Int) × ((Int) × ((Int) × ((Int) × ((Int) × ((Int) × (Int)))))))), ([] : List ((Int) × ((Int) × ((Int) × ((Int) × ((Int) × ((Int) × (Int))))))))), ([] : List ((Int) × ((Int) × ((Int) × ((Int) × ((Int) × ((Int) × (Int)))))))), ([] : List (Int))) r 0)
    else bif (o.1 == 4) then (
      (D42 w (IntKind.i64.wrap (w.1.1 - 1), o.2, 0, 0, 0, 0, 0)).bind fun r =>
      some r)
    else some w)
  else bif (o.1 == 3) then (
    (D18 w.1).bind fun r =>
    lp25_17 fuel w ((0, 0, ([] : List ((Int) × ((Int) × ((Int) × ((Int) × ((Int) × ((Int) × (Int))))))))), (0, 0, ([] : List ((Int) × ((Int) × ((Int) × ((Int) × ((Int) × ((Int) × (Int)))))))), ([] : List ((Int) × ((Int) × ((Int) × ((Int) × ((Int) × ((Int) × (Int))))))))), ([] : List ((Int) × ((Int) × ((Int) × ((Int) × ((Int) × ((Int) × (Int)))))))), ([] : List (Int))) r 0)
  else bif (o.1 == 4) then (
    (D42 w (IntKind.i64.wrap (w.1.1 - 1), o.2, 0, 0, 0, 0, 0)).bind fun r =>
    some r)
  else some w : Option (((Int) × ((Int) × (List ((Int) × ((Int) × ((Int) × ((Int) × ((Int) × ((Int) × (Int)))))))))) × (((Int) × ((Int) × ((List ((Int) × ((Int) × ((Int) × ((Int) × ((Int) × ((Int) × (Int)))))))) × (List ((Int) × ((Int) × ((Int) × ((Int) × ((Int) × ((Int) × (Int))))))))))) × ((List ((Int) × ((Int) × ((Int) × ((Int) × ((Int) × ((Int) × (Int)))))))) × (List (Int)))))) := by kernel_rfl
theorem e25 (w : ((Int) × ((Int) × (List ((Int) × ((Int) × ((Int) × ((Int) × ((Int) × ((Int) × (Int)))))))))) × (((Int) × ((Int) × ((List ((Int) × ((Int) × ((Int) × ((Int) × ((Int) × ((Int) × (Int)))))))) × (List ((Int) × ((Int) × ((Int) × ((Int) × ((Int) × ((Int) × (Int))))))))))) × ((List ((Int) × ((Int) × ((Int) × ((Int) × ((Int) × ((Int) × (Int)))))))) × (List (Int))))) (o : (Int) × (Int)) : D25 w o = (
  bif (o.1 == 0) then (
    (D13 w.1 (w.1.1, IntKind.i64.wrap ((List.length w.2.2.1 : Int) + 1), o.2, 0, 0, 0, 0)).bind fun r =>
    bif (r.2 == 0) then (
      bif (Nat.ble ((List.length ([] : List ((Int) × ((Int) × ((Int) × ((Int) × ((Int) × ((Int) × (Int)))))))) + List.length w.2.2.1) * 56) appendLimit && Nat.ble (List.length ([] : List ((Int) × ((Int) × ((Int) × ((Int) × ((Int) × ((Int) × (Int)))))))) + List.length w.2.2.1) 9223372036854775807) then (
        bif (Nat.ble ((List.length (([] : List ((Int) × ((Int) × ((Int) × ((Int) × ((Int) × ((Int) × (Int)))))))) ++ w.2.2.1) + List.length [(w.1.1, IntKind.i64.wrap ((List.length w.2.2.1 : Int) + 1), o.2, 0, 0, 0, 0)]) * 56) appendLimit && Nat.ble (List.length (([] : List ((Int) × ((Int) × ((Int) × ((Int) × ((Int) × ((Int) × (Int)))))))) ++ w.2.2.1) + List.length [(w.1.1, IntKind.i64.wrap ((List.length w.2.2.1 : Int) + 1), o.2, 0, 0, 0, 0)]) 9223372036854775807) then some (r.1, w.2.1, (([] : List ((Int) × ((Int) × ((Int) × ((Int) × ((Int) × ((Int) × (Int)))))))) ++ w.2.2.1) ++ [(w.1.1, IntKind.i64.wrap ((List.length w.2.2.1 : Int) + 1), o.2, 0, 0, 0, 0)], w.2.2.2)
        else none)
      else none)
    else some w)
  else bif (o.1 == 1) then (
    bif decide (o.2 ≥ 0) then (
      bif decide (o.2 < (List.length w.2.2.1 : Int)) then (
        (idx w.2.2.1 o.2).bind fun e =>
        (D42 w e).bind fun r =>
        some r)
      else bif (o.1 == 2) then (
        bif decide (o.2 ≥ 0) then (
          bif decide (o.2 < (List.length w.2.2.2 : Int)) then (
            (idx w.2.2.2 o.2).bind fun e =>
            (D19 w.1 e).bind fun r =>
            some (r, w.2))
          else bif (o.1 == 3) then (
            (D18 w.1).bind fun r =>
            lp25_1 big w ((0, 0, ([] : List ((Int) × ((Int) × ((Int) × ((Int) × ((Int) × ((Int) × (Int))))))))), (0, 0, ([] : List ((Int) × ((Int) × ((Int) × ((Int) × ((Int) × ((Int) × (Int)))))))), ([] : List ((Int) × ((Int) × ((Int) × ((Int) × ((Int) × ((Int) × (Int))))))))), ([] : List ((Int) × ((Int) × ((Int) × ((Int) × ((Int) × ((Int) × (Int)))))))), ([] : List (Int))) r 0)
          else bif (o.1 == 4) then (
            (D42 w (IntKind.i64.wrap (w.1.1 - 1), o.2, 0, 0, 0, 0, 0)).bind fun r =>
            some r)
          else some w)
        else bif (o.1 == 3) then (
          (D18 w.1).bind fun r =>
          lp25_3 big w ((0, 0, ([] : List ((Int) × ((Int) × ((Int) × ((Int) × ((Int) × ((Int) × (Int))))))))), (0, 0, ([] : List ((Int) × ((Int) × ((Int) × ((Int) × ((Int) × ((Int) × (Int)))))))), ([] : List ((Int) × ((Int) × ((Int) × ((Int) × ((Int) × ((Int) × (Int))))))))), ([] : List ((Int) × ((Int) × ((Int) × ((Int) × ((Int) × ((Int) × (Int)))))))), ([] : List (Int))) r 0)
        else bif (o.1 == 4) then (
          (D42 w (IntKind.i64.wrap (w.1.1 - 1), o.2, 0, 0, 0, 0, 0)).bind fun r =>
          some r)
        else some w)
      else bif (o.1 == 3) then (
        (D18 w.1).bind fun r =>
        lp25_5 big w ((0, 0, ([] : List ((Int) × ((Int) × ((Int) × ((Int) × ((Int) × ((Int) × (Int))))))))), (0, 0, ([] : List ((Int) × ((Int) × ((Int) × ((Int) × ((Int) × ((Int) × (Int)))))))), ([] : List ((Int) × ((Int) × ((Int) × ((Int) × ((Int) × ((Int) × (Int))))))))), ([] : List ((Int) × ((Int) × ((Int) × ((Int) × ((Int) × ((Int) × (Int)))))))), ([] : List (Int))) r 0)
      else bif (o.1 == 4) then (
        (D42 w (IntKind.i64.wrap (w.1.1 - 1), o.2, 0, 0, 0, 0, 0)).bind fun r =>
        some r)
      else some w)
    else bif (o.1 == 2) then (
      bif decide (o.2 ≥ 0) then (
        bif decide (o.2 < (List.length w.2.2.2 : Int)) then (
          (idx w.2.2.2 o.2).bind fun e =>
          (D19 w.1 e).bind fun r =>
          some (r, w.2))
        else bif (o.1 == 3) then (
          (D18 w.1).bind fun r =>
          lp25_7 big w ((0, 0, ([] : List ((Int) × ((Int) × ((Int) × ((Int) × ((Int) × ((Int) × (Int))))))))), (0, 0, ([] : List ((Int) × ((Int) × ((Int) × ((Int) × ((Int) × ((Int) × (Int)))))))), ([] : List ((Int) × ((Int) × ((Int) × ((Int) × ((Int) × ((Int) × (Int))))))))), ([] : List ((Int) × ((Int) × ((Int) × ((Int) × ((Int) × ((Int) × (Int)))))))), ([] : List (Int))) r 0)
        else bif (o.1 == 4) then (
          (D42 w (IntKind.i64.wrap (w.1.1 - 1), o.2, 0, 0, 0, 0, 0)).bind fun r =>
          some r)
        else some w)
      else bif (o.1 == 3) then (
        (D18 w.1).bind fun r =>
        lp25_9 big w ((0, 0, ([] : List ((Int) × ((Int) × ((Int) × ((Int) × ((Int) × ((Int) × (Int))))))))), (0, 0, ([] : List ((Int) × ((Int) × ((Int) × ((Int) × ((Int) × ((Int) × (Int)))))))), ([] : List ((Int) × ((Int) × ((Int) × ((Int) × ((Int) × ((Int) × (Int))))))))), ([] : List ((Int) × ((Int) × ((Int) × ((Int) × ((Int) × ((Int) × (Int)))))))), ([] : List (Int))) r 0)
      else bif (o.1 == 4) then (
        (D42 w (IntKind.i64.wrap (w.1.1 - 1), o.2, 0, 0, 0, 0, 0)).bind fun r =>
        some r)
      else some w)
    else bif (o.1 == 3) then (
      (D18 w.1).bind fun r =>
      lp25_11 big w ((0, 0, ([] : List ((Int) × ((Int) × ((Int) × ((Int) × ((Int) × ((Int) × (Int))))))))), (0, 0, ([] : List ((Int) × ((Int) × ((Int) × ((Int) × ((Int) × ((Int) × (Int)))))))), ([] : List ((Int) × ((Int) × ((Int) × ((Int) × ((Int) × ((Int) × (Int))))))))), ([] : List ((Int) × ((Int) × ((Int) × ((Int) × ((Int) × ((Int) × (Int)))))))), ([] : List (Int))) r 0)
    else bif (o.1 == 4) then (
      (D42 w (IntKind.i64.wrap (w.1.1 - 1), o.2, 0, 0, 0, 0, 0)).bind fun r =>
      some r)
    else some w)
  else bif (o.1 == 2) then (
    bif decide (o.2 ≥ 0) then (
      bif decide (o.2 < (List.length w.2.2.2 : Int)) then (
        (idx w.2.2.2 o.2).bind fun e =>
        (D19 w.1 e).bind fun r =>
        some (r, w.2))
      else bif (o.1 == 3) then (
        (D18 w.1).bind fun r =>
        lp25_13 big w ((0, 0, ([] : List ((Int) × ((Int) × ((Int) × ((Int) × ((Int) × ((Int) × (Int))))))))), (0, 0, ([] : List ((Int) × ((Int) × ((Int) × ((Int) × ((Int) × ((Int) × (Int)))))))), ([] : List ((Int) × ((Int) × ((Int) × ((Int) × ((Int) × ((Int) × (Int))))))))), ([] : List ((Int) × ((Int) × ((Int) × ((Int) × ((Int) × ((Int) × (Int)))))))), ([] : List (Int))) r 0)
      else bif (o.1 == 4) then (
        (D42 w (IntKind.i64.wrap (w.1.1 - 1), o.2, 0, 0, 0, 0, 0)).bind fun r =>
        some r)
      else some w)
    else bif (o.1 == 3) then (
      (D18 w.1).bind fun r =>
      lp25_15 big w ((0, 0, ([] : List ((Int) × ((Int) × ((Int) × ((Int) × ((Int) × ((Int) × (Int))))))))), (0, 0, ([] : List ((Int) × ((Int) × ((Int) × ((Int) × ((Int) × ((Int) × (Int)))))))), ([] : List ((Int) × ((Int) × ((Int) × ((Int) × ((Int) × ((Int) × (Int))))))))), ([] : List ((Int) × ((Int) × ((Int) × ((Int) × ((Int) × ((Int) × (Int)))))))), ([] : List (Int))) r 0)
    else bif (o.1 == 4) then (
      (D42 w (IntKind.i64.wrap (w.1.1 - 1), o.2, 0, 0, 0, 0, 0)).bind fun r =>
      some r)
    else some w)
  else bif (o.1 == 3) then (
    (D18 w.1).bind fun r =>
    lp25_17 big w ((0, 0, ([] : List ((Int) × ((Int) × ((Int) × ((Int) × ((Int) × ((Int) × (Int))))))))), (0, 0, ([] : List ((Int) × ((Int) × ((Int) × ((Int) × ((Int) × ((Int) × (Int)))))))), ([] : List ((Int) × ((Int) × ((Int) × ((Int) × ((Int) × ((Int) × (Int))))))))), ([] : List ((Int) × ((Int) × ((Int) × ((Int) × ((Int) × ((Int) × (Int)))))))), ([] : List (Int))) r 0)
  else bif (o.1 == 4) then (
    (D42 w (IntKind.i64.wrap (w.1.1 - 1), o.2, 0, 0, 0, 0, 0)).bind fun r =>
    some r)
  else some w : Option (((Int) × ((Int) × (List ((Int) × ((Int) × ((Int) × ((Int) × ((Int) × ((Int) × (Int)))))))))) × (((Int) × ((Int) × ((List ((Int) × ((Int) × ((Int) × ((Int) × ((Int) × ((Int) × (Int)))))))) × (List ((Int) × ((Int) × ((Int) × ((Int) × ((Int) × ((Int) × (Int))))))))))) × ((List ((Int) × ((Int) × ((Int) × ((Int) × ((Int) × ((Int) × (Int)))))))) × (List (Int)))))) := g25 big w o

/-! skiarea/skiarealaw30.UplinkOnce -/
noncomputable def D6 (a0 : Int) (a1 : List ((Int) × (Int))) : Option (Bool) := d6 (a0, a1)
noncomputable def lp6_1 (fuel : Nat)  (ops1₀ : List ((Int) × (Int))) (w₀ : ((Int) × ((Int) × (List ((Int) × ((Int) × ((Int) × ((Int) × ((Int) × ((Int) × (Int)))))))))) × (((Int) × ((Int) × ((List ((Int) × ((Int) × ((Int) × ((Int) × ((Int) × ((Int) × (Int)))))))) × (List ((Int) × ((Int) × ((Int) × ((Int) × ((Int) × ((Int) × (Int))))))))))) × ((List ((Int) × ((Int) × ((Int) × ((Int) × ((Int) × ((Int) × (Int)))))))) × (List (Int))))) (i₀ : Int) : Option (Bool) :=
  iter (fun F ((ops1, w, i) : (List ((Int) × (Int))) × (((Int) × ((Int) × (List ((Int) × ((Int) × ((Int) × ((Int) × ((Int) × ((Int) × (Int)))))))))) × (((Int) × ((Int) × ((List ((Int) × ((Int) × ((Int) × ((Int) × ((Int) × ((Int) × (Int)))))))) × (List ((Int) × ((Int) × ((Int) × ((Int) × ((Int) × ((Int) × (Int))))))))))) × ((List ((Int) × ((Int) × ((Int) × ((Int) × ((Int) × ((Int) × (Int)))))))) × (List (Int))))) × Int) =>
    bif decide (i < (List.length ops1 : Int)) then (
      (idx ops1 i).bind fun e =>
      (D25 w e).bind fun r2 =>
      bif (r2.2.1.2.1 != IntKind.i64.wrap ((List.length r2.2.1.2.2.1 : Int) + 1)) then some false
      else bif decide ((List.length r2.2.1.2.2.1 : Int) > (List.length r2.2.2.1 : Int)) then some false
      else bif (decide (0 ≤ (0 : Int)) && (decide ((0 : Int) ≤ (List.length r2.2.1.2.2.1 : Int)) && decide (((List.length r2.2.1.2.2.1 : Int) : Int) ≤ (List.length r2.2.2.1 : Int)))) then (
        (D17 r2.2.1.2.2.1 (List.drop (Int.toNat 0) (List.take (Int.toNat (List.length r2.2.1.2.2.1 : Int)) r2.2.2.1))).bind fun r3 =>
        bif (!r3) then some false
        else (D23 r2.1 r2.2.1).bind fun r4 =>
        bif (!r4) then some false
        else F (ops1, r2, IntKind.i64.wrap (i + 1)))
      else none)
    else (D25 w (3, 0)).bind fun r2 =>
    (D17 r2.2.1.2.2.1 r2.2.2.1).bind fun r3 =>
    bif r3 then some ((List.length r2.2.1.2.2.2 : Int) == 0)
    else some false) fuel (ops1₀, w₀, i₀)

theorem f6_1  (ops1 : List ((Int) × (Int))) (w : ((Int) × ((Int) × (List ((Int) × ((Int) × ((Int) × ((Int) × ((Int) × ((Int) × (Int)))))))))) × (((Int) × ((Int) × ((List ((Int) × ((Int) × ((Int) × ((Int) × ((Int) × ((Int) × (Int)))))))) × (List ((Int) × ((Int) × ((Int) × ((Int) × ((Int) × ((Int) × (Int))))))))))) × ((List ((Int) × ((Int) × ((Int) × ((Int) × ((Int) × ((Int) × (Int)))))))) × (List (Int))))) (hl : (ops1).length ≤ maxLen) : lp6_1 big ops1 w 0 =
  forE (fun  el (w : (((Int) × ((Int) × (List ((Int) × ((Int) × ((Int) × ((Int) × ((Int) × ((Int) × (Int)))))))))) × (((Int) × ((Int) × ((List ((Int) × ((Int) × ((Int) × ((Int) × ((Int) × ((Int) × (Int)))))))) × (List ((Int) × ((Int) × ((Int) × ((Int) × ((Int) × ((Int) × (Int))))))))))) × ((List ((Int) × ((Int) × ((Int) × ((Int) × ((Int) × ((Int) × (Int)))))))) × (List (Int)))))) K =>
    ((D25 w el).bind fun r2 =>
    bif (r2.2.1.2.1 != IntKind.i64.wrap ((List.length r2.2.1.2.2.1 : Int) + 1)) then some false
    else bif decide ((List.length r2.2.1.2.2.1 : Int) > (List.length r2.2.2.1 : Int)) then some false
    else bif (decide (0 ≤ (0 : Int)) && (decide ((0 : Int) ≤ (List.length r2.2.1.2.2.1 : Int)) && decide (((List.length r2.2.1.2.2.1 : Int) : Int) ≤ (List.length r2.2.2.1 : Int)))) then (
      (D17 r2.2.1.2.2.1 (List.drop (Int.toNat 0) (List.take (Int.toNat (List.length r2.2.1.2.2.1 : Int)) r2.2.2.1))).bind fun r3 =>
      bif (!r3) then some false
      else (D23 r2.1 r2.2.1).bind fun r4 =>
      bif (!r4) then some false
      else K r2)
    else none : Option (Bool)))
    (fun (w : (((Int) × ((Int) × (List ((Int) × ((Int) × ((Int) × ((Int) × ((Int) × ((Int) × (Int)))))))))) × (((Int) × ((Int) × ((List ((Int) × ((Int) × ((Int) × ((Int) × ((Int) × ((Int) × (Int)))))))) × (List ((Int) × ((Int) × ((Int) × ((Int) × ((Int) × ((Int) × (Int))))))))))) × ((List ((Int) × ((Int) × ((Int) × ((Int) × ((Int) × ((Int) × (Int)))))))) × (List (Int)))))) =>
    ((D25 w (3, 0)).bind fun r2 =>
    (D17 r2.2.1.2.2.1 r2.2.2.1).bind fun r3 =>
    bif r3 then some ((List.length r2.2.1.2.2.2 : Int) == 0)
    else some false : Option (Bool))) ops1 w := by
  refine iter_forE ops1 (fun ix (w : (((Int) × ((Int) × (List ((Int) × ((Int) × ((Int) × ((Int) × ((Int) × ((Int) × (Int)))))))))) × (((Int) × ((Int) × ((List ((Int) × ((Int) × ((Int) × ((Int) × ((Int) × ((Int) × (Int)))))))) × (List ((Int) × ((Int) × ((Int) × ((Int) × ((Int) × ((Int) × (Int))))))))))) × ((List ((Int) × ((Int) × ((Int) × ((Int) × ((Int) × ((Int) × (Int)))))))) × (List (Int)))))) => (ops1, w, (ix : Int))) _ _ ?_ ?_ (len_lt_big hl) w
  · rintro F k h w
    simp only [dec_lt h, condT, idx_get h, bindS, wrap_succ h hl]
  · rintro F w
    simp only [dec_end, condF]

theorem g6 (fuel : Nat) (gate : Int) (ops : List ((Int) × (Int))) : (fnK tab env6 7 ann6 fuel Try.f6 [] ps6 rs6 true (gate, ops) : Option (Bool)) = (
  (D9).bind fun r =>
  bif (!r) then some false
  else bif decide ((List.length ops : Int) > 120) then some true
  else (D11 gate).bind fun r1 =>
  lp6_1 fuel ops (r1.1, r1.2, ([] : List ((Int) × ((Int) × ((Int) × ((Int) × ((Int) × ((Int) × (Int)))))))), ([] : List (Int))) 0 : Option (Bool)) := by kernel_rfl
theorem e6 (gate : Int) (ops : List ((Int) × (Int))) : D6 gate ops = (
  (D9).bind fun r =>
  bif (!r) then some false
  else bif decide ((List.length ops : Int) > 120) then some true
  else (D11 gate).bind fun r1 =>
  lp6_1 big ops (r1.1, r1.2, ([] : List ((Int) × ((Int) × ((Int) × ((Int) × ((Int) × ((Int) × (Int)))))))), ([] : List (Int))) 0 : Option (Bool)) := g6 big gate ops

/-! skiarea/skiarealaw30.UplinkOld -/
noncomputable def D7 (a0 : Int) (a1 : List ((Int) × (Int))) (a2 : Int) : Option (Bool) := d7 (a0, a1, a2)
noncomputable def lp7_1 (fuel : Nat)  (gate2₀ : Int) (n2₀ : Int) (w1₀ : ((Int) × ((Int) × (List ((Int) × ((Int) × ((Int) × ((Int) × ((Int) × ((Int) × (Int)))))))))) × (((Int) × ((Int) × ((List ((Int) × ((Int) × ((Int) × ((Int) × ((Int) × ((Int) × (Int)))))))) × (List ((Int) × ((Int) × ((Int) × ((Int) × ((Int) × ((Int) × (Int))))))))))) × ((List ((Int) × ((Int) × ((Int) × ((Int) × ((Int) × ((Int) × (Int)))))))) × (List (Int))))) (k_₀ : Int) : Option (Bool) :=
  iter (fun F1 ((gate2, n2, w1, k_) : Int × Int × (((Int) × ((Int) × (List ((Int) × ((Int) × ((Int) × ((Int) × ((Int) × ((Int) × (Int)))))))))) × (((Int) × ((Int) × ((List ((Int) × ((Int) × ((Int) × ((Int) × ((Int) × ((Int) × (Int)))))))) × (List ((Int) × ((Int) × ((Int) × ((Int) × ((Int) × ((Int) × (Int))))))))))) × ((List ((Int) × ((Int) × ((Int) × ((Int) × ((Int) × ((Int) × (Int)))))))) × (List (Int))))) × Int) =>
    bif decide (k_ < IntKind.i64.wrap ((List.length w1.2.1.2.2.1 : Int) + (List.length w1.2.1.2.2.2 : Int))) then (
      bif decide (k_ < (List.length w1.2.1.2.2.1 : Int)) then (
        (idx w1.2.1.2.2.1 k_).bind fun e =>
        (D21 w1.2.1 e).bind fun r2 =>
        (D16 r2.1 w1.2.1).bind fun r3 =>
        bif (!r3) then some false
        else bif (r2.2 != IntKind.i64.wrap (w1.2.1.2.1 - 1)) then some false
        else F1 (gate2, n2, w1, IntKind.i64.wrap (k_ + 1)))
      else (idx w1.2.1.2.2.2 (IntKind.i64.wrap (k_ - (List.length w1.2.1.2.2.1 : Int)))).bind fun e =>
      (D21 w1.2.1 e).bind fun r2 =>
      (D16 r2.1 w1.2.1).bind fun r3 =>
      bif (!r3) then some false
      else bif (r2.2 != IntKind.i64.wrap (w1.2.1.2.1 - 1)) then some false
      else F1 (gate2, n2, w1, IntKind.i64.wrap (k_ + 1)))
    else (D21 w1.2.1 (IntKind.i64.wrap (gate2 + 1), n2, 0, 0, 0, 0, 0)).bind fun r2 =>
    (D16 r2.1 w1.2.1).bind fun r3 =>
    bif r3 then some (r2.2 == IntKind.i64.wrap (w1.2.1.2.1 - 1))
    else some false) fuel (gate2₀, n2₀, w1₀, k_₀)

noncomputable def lp7_2 (fuel : Nat)  (gate1₀ : Int) (ops1₀ : List ((Int) × (Int))) (n1₀ : Int) (w₀ : ((Int) × ((Int) × (List ((Int) × ((Int) × ((Int) × ((Int) × ((Int) × ((Int) × (Int)))))))))) × (((Int) × ((Int) × ((List ((Int) × ((Int) × ((Int) × ((Int) × ((Int) × ((Int) × (Int)))))))) × (List ((Int) × ((Int) × ((Int) × ((Int) × ((Int) × ((Int) × (Int))))))))))) × ((List ((Int) × ((Int) × ((Int) × ((Int) × ((Int) × ((Int) × (Int)))))))) × (List (Int))))) (i₀ : Int) : Option (Bool) :=
  iter (fun F ((gate1, ops1, n1, w, i) : Int × (List ((Int) × (Int))) × Int × (((Int) × ((Int) × (List ((Int) × ((Int) × ((Int) × ((Int) × ((Int) × ((Int) × (Int)))))))))) × (((Int) × ((Int) × ((List ((Int) × ((Int) × ((Int) × ((Int) × ((Int) × ((Int) × (Int)))))))) × (List ((Int) × ((Int) × ((Int) × ((Int) × ((Int) × ((Int) × (Int))))))))))) × ((List ((Int) × ((Int) × ((Int) × ((Int) × ((Int) × ((Int) × (Int)))))))) × (List (Int))))) × Int) =>
    bif decide (i < (List.length ops1 : Int)) then (
      (idx ops1 i).bind fun e =>
      (D25 w e).bind fun r2 =>
      F (gate1, ops1, n1, r2, IntKind.i64.wrap (i + 1)))
    else lp7_1 fuel gate1 n1 w 0) fuel (gate1₀, ops1₀, n1₀, w₀, i₀)

theorem f7_2  (gate1 : Int) (ops1 : List ((Int) × (Int))) (n1 : Int) (w : ((Int) × ((Int) × (List ((Int) × ((Int) × ((Int) × ((Int) × ((Int) × ((Int) × (Int)))))))))) × (((Int) × ((Int) × ((List ((Int) × ((Int) × ((Int) × ((Int) × ((Int) × ((Int) × (Int)))))))) × (List ((Int) × ((Int) × ((Int) × ((Int) × ((Int) × ((Int) × (Int))))))))))) × ((List ((Int) × ((Int) × ((Int) × ((Int) × ((Int) × ((Int) × (Int)))))))) × (List (Int))))) (hl : (ops1).length ≤ maxLen) : lp7_2 big gate1 ops1 n1 w 0 =
  forE (fun  el (w : (((Int) × ((Int) × (List ((Int) × ((Int) × ((Int) × ((Int) × ((Int) × ((Int) × (Int)))))))))) × (((Int) × ((Int) × ((List ((Int) × ((Int) × ((Int) × ((Int) × ((Int) × ((Int) × (Int)))))))) × (List ((Int) × ((Int) × ((Int) × ((Int) × ((Int) × ((Int) × (Int))))))))))) × ((List ((Int) × ((Int) × ((Int) × ((Int) × ((Int) × ((Int) × (Int)))))))) × (List (Int)))))) K =>
    ((D25 w el).bind fun r2 =>
    K r2 : Option (Bool)))
    (fun (w : (((Int) × ((Int) × (List ((Int) × ((Int) × ((Int) × ((Int) × ((Int) × ((Int) × (Int)))))))))) × (((Int) × ((Int) × ((List ((Int) × ((Int) × ((Int) × ((Int) × ((Int) × ((Int) × (Int)))))))) × (List ((Int) × ((Int) × ((Int) × ((Int) × ((Int) × ((Int) × (Int))))))))))) × ((List ((Int) × ((Int) × ((Int) × ((Int) × ((Int) × ((Int) × (Int)))))))) × (List (Int)))))) =>
    (lp7_1 big gate1 n1 w 0 : Option (Bool))) ops1 w := by
  refine iter_forE ops1 (fun ix (w : (((Int) × ((Int) × (List ((Int) × ((Int) × ((Int) × ((Int) × ((Int) × ((Int) × (Int)))))))))) × (((Int) × ((Int) × ((List ((Int) × ((Int) × ((Int) × ((Int) × ((Int) × ((Int) × (Int)))))))) × (List ((Int) × ((Int) × ((Int) × ((Int) × ((Int) × ((Int) × (Int))))))))))) × ((List ((Int) × ((Int) × ((Int) × ((Int) × ((Int) × ((Int) × (Int)))))))) × (List (Int)))))) => (gate1, ops1, n1, w, (ix : Int))) _ _ ?_ ?_ (len_lt_big hl) w
  · rintro F k h w
    simp only [dec_lt h, condT, idx_get h, bindS, wrap_succ h hl]
  · rintro F w
    simp only [dec_end, condF]

theorem g7 (fuel : Nat) (gate : Int) (ops : List ((Int) × (Int))) (n : Int) : (fnK tab env7 15 ann7 fuel Try.f7 [] ps7 rs7 true (gate, ops, n) : Option (Bool)) = (
  (D9).bind fun r =>
  bif (!r) then some false
  else bif decide ((List.length ops : Int) > 120) then some true
  else (D11 gate).bind fun r1 =>
  lp7_2 fuel gate ops n (r1.1, r1.2, ([] : List ((Int) × ((Int) × ((Int) × ((Int) × ((Int) × ((Int) × (Int)))))))), ([] : List (Int))) 0 : Option (Bool)) := by kernel_rfl
theorem e7 (gate : Int) (ops : List ((Int) × (Int))) (n : Int) : D7 gate ops n = (
  (D9).bind fun r =>
  bif (!r) then some false
  else bif decide ((List.length ops : Int) > 120) then some true
  else (D11 gate).bind fun r1 =>
  lp7_2 big gate ops n (r1.1, r1.2, ([] : List ((Int) × ((Int) × ((Int) × ((Int) × ((Int) × ((Int) × (Int)))))))), ([] : List (Int))) 0 : Option (Bool)) := g7 big gate ops n

/-! skiarea/skiarealaw30.UplinkMail -/
noncomputable def D8 (a0 : Int) (a1 : List ((Int) × (Int))) (a2 : Int) : Option (Bool) := d8 (a0, a1, a2)
noncomputable def lp8_1 (fuel : Nat)  (n2₀ : Int) (w1₀ : ((Int) × ((Int) × (List ((Int) × ((Int) × ((Int) × ((Int) × ((Int) × ((Int) × (Int)))))))))) × (((Int) × ((Int) × ((List ((Int) × ((Int) × ((Int) × ((Int) × ((Int) × ((Int) × (Int)))))))) × (List ((Int) × ((Int) × ((Int) × ((Int) × ((Int) × ((Int) × (Int))))))))))) × ((List ((Int) × ((Int) × ((Int) × ((Int) × ((Int) × ((Int) × (Int)))))))) × (List (Int))))) (x₀ : (Int) × ((Int) × (List ((Int) × ((Int) × ((Int) × ((Int) × ((Int) × ((Int) × (Int)))))))))) (k_₀ : Int) : Option (Bool) :=
  iter (fun F1 ((n2, w1, x, k_) : Int × (((Int) × ((Int) × (List ((Int) × ((Int) × ((Int) × ((Int) × ((Int) × ((Int) × (Int)))))))))) × (((Int) × ((Int) × ((List ((Int) × ((Int) × ((Int) × ((Int) × ((Int) × ((Int) × (Int)))))))) × (List ((Int) × ((Int) × ((Int) × ((Int) × ((Int) × ((Int) × (Int))))))))))) × ((List ((Int) × ((Int) × ((Int) × ((Int) × ((Int) × ((Int) × (Int)))))))) × (List (Int))))) × ((Int) × ((Int) × (List ((Int) × ((Int) × ((Int) × ((Int) × ((Int) × ((Int) × (Int)))))))))) × Int) =>
    bif decide (k_ < (List.length x.2.2 : Int)) then (
      (idx x.2.2 k_).bind fun e =>
      bif decide (e.2.1 ≤ n2) then some false
      else F1 (n2, w1, x, IntKind.i64.wrap (k_ + 1)))
    else (D19 x (bif decide ((w1.1.2.1 : Int) < n2) then w1.1.2.1 else n2)).bind fun r5 =>
    (D15 r5 x).bind fun r6 =>
    bif r6 then (
      (D19 w1.1 0).bind fun r7 =>
      (D15 r7 w1.1).bind fun r8 =>
      bif r8 then some (x.2.1 == w1.1.2.1)
      else some false)
    else some false) fuel (n2₀, w1₀, x₀, k_₀)

theorem f8_1  (n2 : Int) (w1 : ((Int) × ((Int) × (List ((Int) × ((Int) × ((Int) × ((Int) × ((Int) × ((Int) × (Int)))))))))) × (((Int) × ((Int) × ((List ((Int) × ((Int) × ((Int) × ((Int) × ((Int) × ((Int) × (Int)))))))) × (List ((Int) × ((Int) × ((Int) × ((Int) × ((Int) × ((Int) × (Int))))))))))) × ((List ((Int) × ((Int) × ((Int) × ((Int) × ((Int) × ((Int) × (Int)))))))) × (List (Int))))) (x : (Int) × ((Int) × (List ((Int) × ((Int) × ((Int) × ((Int) × ((Int) × ((Int) × (Int)))))))))) (hl : (x.2.2).length ≤ maxLen) : lp8_1 big n2 w1 x 0 =
  forE (fun  el (_ : Unit) K =>
    (bif decide (el.2.1 ≤ n2) then some false
    else K () : Option (Bool)))
    (fun (_ : Unit) =>
    ((D19 x (bif decide ((w1.1.2.1 : Int) < n2) then w1.1.2.1 else n2)).bind fun r5 =>
    (D15 r5 x).bind fun r6 =>
    bif r6 then (
      (D19 w1.1 0).bind fun r7 =>
      (D15 r7 w1.1).bind fun r8 =>
      bif r8 then some (x.2.1 == w1.1.2.1)
      else some false)
    else some false : Option (Bool))) x.2.2 () := by
  refine iter_forE x.2.2 (fun ix (_ : Unit) => (n2, w1, x, (ix : Int))) _ _ ?_ ?_ (len_lt_big hl) ()
  · rintro F k h _
    simp only [dec_lt h, condT, idx_get h, bindS, wrap_succ h hl]
  · rintro F _
    simp only [dec_end, condF]

noncomputable def lp8_3 (fuel : Nat)  (ops1₀ : List ((Int) × (Int))) (n1₀ : Int) (w₀ : ((Int) × ((Int) × (List ((Int) × ((Int) × ((Int) × ((Int) × ((Int) × ((Int) × (Int)))))))))) × (((Int) × ((Int) × ((List ((Int) × ((Int) × ((Int) × ((Int) × ((Int) × ((Int) × (Int)))))))) × (List ((Int) × ((Int) × ((Int) × ((Int) × ((Int) × ((Int) × (Int))))))))))) × ((List ((Int) × ((Int) × ((Int) × ((Int) × ((Int) × ((Int) × (Int)))))))) × (List (Int))))) (i₀ : Int) : Option (Bool) :=
  iter (fun F ((ops1, n1, w, i) : (List ((Int) × (Int))) × Int × (((Int) × ((Int) × (List ((Int) × ((Int) × ((Int) × ((Int) × ((Int) × ((Int) × (Int)))))))))) × (((Int) × ((Int) × ((List ((Int) × ((Int) × ((Int) × ((Int) × ((Int) × ((Int) × (Int)))))))) × (List ((Int) × ((Int) × ((Int) × ((Int) × ((Int) × ((Int) × (Int))))))))))) × ((List ((Int) × ((Int) × ((Int) × ((Int) × ((Int) × ((Int) × (Int)))))))) × (List (Int))))) × Int) =>
    bif decide (i < (List.length ops1 : Int)) then (
      (idx ops1 i).bind fun e =>
      (D25 w e).bind fun r2 =>
      F (ops1, n1, r2, IntKind.i64.wrap (i + 1)))
    else (D18 w.1).bind fun r2 =>
    bif decide ((List.length r2 : Int) > 64) then some false
    else bif decide ((List.length r2 : Int) > (List.length w.2.2.1 : Int)) then some false
    else bif (decide (0 ≤ (IntKind.i64.wrap ((List.length w.2.2.1 : Int) - (List.length r2 : Int)) : Int)) && (decide ((IntKind.i64.wrap ((List.length w.2.2.1 : Int) - (List.length r2 : Int)) : Int) ≤ (List.length w.2.2.1 : Int)) && decide (((List.length w.2.2.1 : Int) : Int) ≤ (List.length w.2.2.1 : Int)))) then (
      (D17 r2 (List.drop (Int.toNat (IntKind.i64.wrap ((List.length w.2.2.1 : Int) - (List.length r2 : Int)))) (List.take (Int.toNat (List.length w.2.2.1 : Int)) w.2.2.1))).bind fun r3 =>
      bif (!r3) then some false
      else bif (w.1.2.1 != IntKind.i64.wrap ((List.length w.2.2.1 : Int) + 1)) then some false
      else (D19 w.1 n1).bind fun r4 =>
      lp8_1 fuel n1 w r4 0)
    else none) fuel (ops1₀, n1₀, w₀, i₀)

theorem f8_3  (ops1 : List ((Int) × (Int))) (n1 : Int) (w : ((Int) × ((Int) × (List ((Int) × ((Int) × ((Int) × ((Int) × ((Int) × ((Int) × (Int)))))))))) × (((Int) × ((Int) × ((List ((Int) × ((Int) × ((Int) × ((Int) × ((Int) × ((Int) × (Int)))))))) × (List ((Int) × ((Int) × ((Int) × ((Int) × ((Int) × ((Int) × (Int))))))))))) × ((List ((Int) × ((Int) × ((Int) × ((Int) × ((Int) × ((Int) × (Int)))))))) × (List (Int))))) (hl : (ops1).length ≤ maxLen) : lp8_3 big ops1 n1 w 0 =
  forE (fun  el (w : (((Int) × ((Int) × (List ((Int) × ((Int) × ((Int) × ((Int) × ((Int) × ((Int) × (Int)))))))))) × (((Int) × ((Int) × ((List ((Int) × ((Int) × ((Int) × ((Int) × ((Int) × ((Int) × (Int)))))))) × (List ((Int) × ((Int) × ((Int) × ((Int) × ((Int) × ((Int) × (Int))))))))))) × ((List ((Int) × ((Int) × ((Int) × ((Int) × ((Int) × ((Int) × (Int)))))))) × (List (Int)))))) K =>
    ((D25 w el).bind fun r2 =>
    K r2 : Option (Bool)))
    (fun (w : (((Int) × ((Int) × (List ((Int) × ((Int) × ((Int) × ((Int) × ((Int) × ((Int) × (Int)))))))))) × (((Int) × ((Int) × ((List ((Int) × ((Int) × ((Int) × ((Int) × ((Int) × ((Int) × (Int)))))))) × (List ((Int) × ((Int) × ((Int) × ((Int) × ((Int) × ((Int) × (Int))))))))))) × ((List ((Int) × ((Int) × ((Int) × ((Int) × ((Int) × ((Int) × (Int)))))))) × (List (Int)))))) =>
    ((D18 w.1).bind fun r2 =>
    bif decide ((List.length r2 : Int) > 64) then some false
    else bif decide ((List.length r2 : Int) > (List.length w.2.2.1 : Int)) then some false
    else bif (decide (0 ≤ (IntKind.i64.wrap ((List.length w.2.2.1 : Int) - (List.length r2 : Int)) : Int)) && (decide ((IntKind.i64.wrap ((List.length w.2.2.1 : Int) - (List.length r2 : Int)) : Int) ≤ (List.length w.2.2.1 : Int)) && decide (((List.length w.2.2.1 : Int) : Int) ≤ (List.length w.2.2.1 : Int)))) then (
      (D17 r2 (List.drop (Int.toNat (IntKind.i64.wrap ((List.length w.2.2.1 : Int) - (List.length r2 : Int)))) (List.take (Int.toNat (List.length w.2.2.1 : Int)) w.2.2.1))).bind fun r3 =>
      bif (!r3) then some false
      else bif (w.1.2.1 != IntKind.i64.wrap ((List.length w.2.2.1 : Int) + 1)) then some false
      else (D19 w.1 n1).bind fun r4 =>
      lp8_1 big n1 w r4 0)
    else none : Option (Bool))) ops1 w := by
  refine iter_forE ops1 (fun ix (w : (((Int) × ((Int) × (List ((Int) × ((Int) × ((Int) × ((Int) × ((Int) × ((Int) × (Int)))))))))) × (((Int) × ((Int) × ((List ((Int) × ((Int) × ((Int) × ((Int) × ((Int) × ((Int) × (Int)))))))) × (List ((Int) × ((Int) × ((Int) × ((Int) × ((Int) × ((Int) × (Int))))))))))) × ((List ((Int) × ((Int) × ((Int) × ((Int) × ((Int) × ((Int) × (Int)))))))) × (List (Int)))))) => (ops1, n1, w, (ix : Int))) _ _ ?_ ?_ (len_lt_big hl) w
  · rintro F k h w
    simp only [dec_lt h, condT, idx_get h, bindS, wrap_succ h hl]
  · rintro F w
    simp only [dec_end, condF]

theorem g8 (fuel : Nat) (gate : Int) (ops : List ((Int) × (Int))) (n : Int) : (fnK tab env8 12 ann8 fuel Try.f8 [] ps8 rs8 true (gate, ops, n) : Option (Bool)) = (
  (D9).bind fun r =>
  bif (!r) then some false
  else bif decide ((List.length ops : Int) > 120) then some true
  else (D11 gate).bind fun r1 =>
  lp8_3 fuel ops n (r1.1, r1.2, ([] : List ((Int) × ((Int) × ((Int) × ((Int) × ((Int) × ((Int) × (Int)))))))), ([] : List (Int))) 0 : Option (Bool)) := by kernel_rfl
theorem e8 (gate : Int) (ops : List ((Int) × (Int))) (n : Int) : D8 gate ops n = (
  (D9).bind fun r =>
  bif (!r) then some false
  else bif decide ((List.length ops : Int) > 120) then some true
  else (D11 gate).bind fun r1 =>
  lp8_3 big ops n (r1.1, r1.2, ([] : List ((Int) × ((Int) × ((Int) × ((Int) × ((Int) × ((Int) × (Int)))))))), ([] : List (Int))) 0 : Option (Bool)) := g8 big gate ops n

end Go.Proofs.Ytcfneiladppfnaa.D
