import Derived.Test.YthjplaicophnnaaT47a
open Go Go.GD Go.Proofs
namespace Go.Proofs.Ythjplaicophnnaa.D
/-! (*skiarea/route.search).earliest -/
noncomputable def D37 (a0 : (List ((Int) × ((Int) × ((Bool) × (List (Int)))))) × ((List (Bool)) × ((List (List (Bool))) × ((List ((Int) × ((Int) × ((Int) × (Int))))) × ((List ((Int) × ((Int) × ((Int) × (Int))))) × (Int)))))) (a1 : Int) (a2 : Int) : Option (((List ((Int) × ((Int) × ((Bool) × (List (Int)))))) × ((List (Bool)) × ((List (List (Bool))) × ((List ((Int) × ((Int) × ((Int) × (Int))))) × ((List ((Int) × ((Int) × ((Int) × (Int))))) × (Int)))))) × Int) := d37 a0 (a1, a2)
noncomputable def lp37_1 (fuel : Nat)  (s1₀ : (List ((Int) × ((Int) × ((Bool) × (List (Int)))))) × ((List (Bool)) × ((List (List (Bool))) × ((List ((Int) × ((Int) × ((Int) × (Int))))) × ((List ((Int) × ((Int) × ((Int) × (Int))))) × (Int)))))) (task1₀ : Int) (groomer1₀ : Int) (t₀ : Int) (v₀ : List ((Int) × ((Int) × ((Int) × (Int))))) (v1₀ : Int) (v2₀ : Int) : Option (((List ((Int) × ((Int) × ((Bool) × (List (Int)))))) × ((List (Bool)) × ((List (List (Bool))) × ((List ((Int) × ((Int) × ((Int) × (Int))))) × ((List ((Int) × ((Int) × ((Int) × (Int))))) × (Int)))))) × Int) :=
  iter (fun F ((s1, task1, groomer1, t, v, v1, v2) : ((List ((Int) × ((Int) × ((Bool) × (List (Int)))))) × ((List (Bool)) × ((List (List (Bool))) × ((List ((Int) × ((Int) × ((Int) × (Int))))) × ((List ((Int) × ((Int) × ((Int) × (Int))))) × (Int)))))) × Int × Int × Int × (List ((Int) × ((Int) × ((Int) × (Int))))) × Int × Int) =>
    bif decide (v2 < v1) then (
      (idx v v2).bind fun e =>
      bif (e.1 != 0) then (
        bif (e.1 == groomer1) then F (s1, task1, groomer1, (bif decide ((e.2.2.2 : Int) > t) then e.2.2.2 else t), v, v1, IntKind.i64.wrap (v2 + 1))
        else (idx s1.2.2.1 task1).bind fun e1 =>
        (idx e1 v2).bind fun e2 =>
        bif e2 then F (s1, task1, groomer1, (bif decide ((e.2.2.2 : Int) > t) then e.2.2.2 else t), v, v1, IntKind.i64.wrap (v2 + 1))
        else F (s1, task1, groomer1, t, v, v1, IntKind.i64.wrap (v2 + 1)))
      else F (s1, task1, groomer1, t, v, v1, IntKind.i64.wrap (v2 + 1)))
    else some (s1, t)) fuel (s1₀, task1₀, groomer1₀, t₀, v₀, v1₀, v2₀)

theorem f37_1  (s1 : (List ((Int) × ((Int) × ((Bool) × (List (Int)))))) × ((List (Bool)) × ((List (List (Bool))) × ((List ((Int) × ((Int) × ((Int) × (Int))))) × ((List ((Int) × ((Int) × ((Int) × (Int))))) × (Int)))))) (task1 : Int) (groomer1 : Int) (t : Int) (v : List ((Int) × ((Int) × ((Int) × (Int))))) (hl : (v).length ≤ maxLen) : lp37_1 big s1 task1 groomer1 t v (List.length v : Int) 0 =
  forI (fun ix el (t : Int) K =>
    (bif (el.1 != 0) then (
      bif (el.1 == groomer1) then K (bif decide ((el.2.2.2 : Int) > t) then el.2.2.2 else t)
      else (idx s1.2.2.1 task1).bind fun e1 =>
      (idx e1 (ix : Int)).bind fun e2 =>
      bif e2 then K (bif decide ((el.2.2.2 : Int) > t) then el.2.2.2 else t)
      else K t)
    else K t : Option (((List ((Int) × ((Int) × ((Bool) × (List (Int)))))) × ((List (Bool)) × ((List (List (Bool))) × ((List ((Int) × ((Int) × ((Int) × (Int))))) × ((List ((Int) × ((Int) × ((Int) × (Int))))) × (Int)))))) × Int)))
    (fun (t : Int) =>
    (some (s1, t) : Option (((List ((Int) × ((Int) × ((Bool) × (List (Int)))))) × ((List (Bool)) × ((List (List (Bool))) × ((List ((Int) × ((Int) × ((Int) × (Int))))) × ((List ((Int) × ((Int) × ((Int) × (Int))))) × (Int)))))) × Int))) 0 v t := by
  refine iter_forI_from v (fun ix (t : Int) => (s1, task1, groomer1, t, v, (List.length v : Int), (ix : Int))) _ _ ?_ ?_ (k := 0) (Nat.zero_le _) (len_lt_big hl) t
  · rintro F k h t
    simp only [dec_lt h, condT, idx_get h, bindS, wrap_succ h hl]
  · rintro F t
    simp only [dec_end, condF]

theorem g37 (fuel : Nat) (s : (List ((Int) × ((Int) × ((Bool) × (List (Int)))))) × ((List (Bool)) × ((List (List (Bool))) × ((List ((Int) × ((Int) × ((Int) × (Int))))) × ((List ((Int) × ((Int) × ((Int) × (Int))))) × (Int)))))) (task : Int) (groomer : Int) : (fnKB tab env37 bx37 10 ann37 fuel Try.f37 tB37 bm37 ps37 rs37 s (task, groomer) : Option (((List ((Int) × ((Int) × ((Bool) × (List (Int)))))) × ((List (Bool)) × ((List (List (Bool))) × ((List ((Int) × ((Int) × ((Int) × (Int))))) × ((List ((Int) × ((Int) × ((Int) × (Int))))) × (Int)))))) × Int)) = (
  lp37_1 fuel s task groomer 0 s.2.2.2.1 (List.length s.2.2.2.1 : Int) 0 : Option (((List ((Int) × ((Int) × ((Bool) × (List (Int)))))) × ((List (Bool)) × ((List (List (Bool))) × ((List ((Int) × ((Int) × ((Int) × (Int))))) × ((List ((Int) × ((Int) × ((Int) × (Int))))) × (Int)))))) × Int)) := by kernel_rfl
theorem e37 (s : (List ((Int) × ((Int) × ((Bool) × (List (Int)))))) × ((List (Bool)) × ((List (List (Bool))) × ((List ((Int) × ((Int) × ((Int) × (Int))))) × ((List ((Int) × ((Int) × ((Int) × (Int))))) × (Int)))))) (task : Int) (groomer : Int) : D37 s task groomer = (
  lp37_1 big s task groomer 0 s.2.2.2.1 (List.length s.2.2.2.1 : Int) 0 : Option (((List ((Int) × ((Int) × ((Bool) × (List (Int)))))) × ((List (Bool)) × ((List (List (Bool))) × ((List ((Int) × ((Int) × ((Int) × (Int))))) × ((List ((Int) × ((Int) × ((Int) × (Int))))) × (Int)))))) × Int)) := g37 big s task groomer

/-! (*skiarea/route.search).place -/
noncomputable def D30 (n : Nat) (a0 : (List ((Int) × ((Int) × ((Bool) × (List (Int)))))) × ((List (Bool)) × ((List (List (Bool))) × ((List ((Int) × ((Int) × ((Int) × (Int))))) × ((List ((Int) × ((Int) × ((Int) × (Int))))) × (Int)))))) (a1 : Int) (a2 : Int) (a3 : Int) : Option (((List ((Int) × ((Int) × ((Bool) × (List (Int)))))) × ((List (Bool)) × ((List (List (Bool))) × ((List ((Int) × ((Int) × ((Int) × (Int))))) × ((List ((Int) × ((Int) × ((Int) × (Int))))) × (Int)))))) × Unit) := d30 n a0 (a1, a2, a3)
noncomputable def lp30_1 (fuel : Nat) (dep : Nat) (F : (((List ((Int) × ((Int) × ((Bool) × (List (Int)))))) × ((List (Bool)) × ((List (List (Bool))) × ((List ((Int) × ((Int) × ((Int) × (Int))))) × ((List ((Int) × ((Int) × ((Int) × (Int))))) × (Int)))))) × Int × Int × Int × (List ((Int) × ((Int) × ((Bool) × (List (Int)))))) × Int × Int) → Option (((List ((Int) × ((Int) × ((Bool) × (List (Int)))))) × ((List (Bool)) × ((List (List (Bool))) × ((List ((Int) × ((Int) × ((Int) × (Int))))) × ((List ((Int) × ((Int) × ((Int) × (Int))))) × (Int)))))) × Unit)) (s2₀ : (List ((Int) × ((Int) × ((Bool) × (List (Int)))))) × ((List (Bool)) × ((List (List (Bool))) × ((List ((Int) × ((Int) × ((Int) × (Int))))) × ((List ((Int) × ((Int) × ((Int) × (Int))))) × (Int)))))) (left2₀ : Int) (from_2₀ : Int) (end_2₀ : Int) (i₀ : Int) (a₀ : (Int) × ((Int) × ((Bool) × (List (Int))))) (v3₀ : List ((Int) × ((Int) × ((Bool) × (List (Int)))))) (v4₀ : Int) (v5₀ : Int) (v6₀ : List (Bool)) (v7₀ : Int) (v8₀ : Int) : Option (((List ((Int) × ((Int) × ((Bool) × (List (Int)))))) × ((List (Bool)) × ((List (List (Bool))) × ((List ((Int) × ((Int) × ((Int) × (Int))))) × ((List ((Int) × ((Int) × ((Int) × (Int))))) × (Int)))))) × Unit) :=
  iter (fun F1 ((s2, left2, from_2, end_2, i, a, v3, v4, v5, v6, v7, v8) : ((List ((Int) × ((Int) × ((Bool) × (List (Int)))))) × ((List (Bool)) × ((List (List (Bool))) × ((List ((Int) × ((Int) × ((Int) × (Int))))) × ((List ((Int) × ((Int) × ((Int) × (Int))))) × (Int)))))) × Int × Int × Int × Int × ((Int) × ((Int) × ((Bool) × (List (Int))))) × (List ((Int) × ((Int) × ((Bool) × (List (Int)))))) × Int × Int × (List (Bool)) × Int × Int) =>
    bif decide (v8 < v7) then (
      (idx v6 v8).bind fun e2 =>
      bif a.2.2.1 then (
        bif (!e2) then F1 (s2, left2, from_2, end_2, i, a, v3, v4, v5, v6, v7, IntKind.i64.wrap (v8 + 1))
        else (D37 s2 i (IntKind.i64.wrap (v8 + 1))).bind fun r =>
        bif decide (r.2 < from_2) then F1 (r.1, left2, from_2, end_2, i, a, v3, v4, v5, v6, v7, IntKind.i64.wrap (v8 + 1))
        else (idx r.1.2.2.2.1 i).bind fun _ =>
        (D30 dep (r.1.1, r.1.2.1, r.1.2.2.1, List.set r.1.2.2.2.1 (Int.toNat i) (IntKind.i64.wrap (v8 + 1), a.1, r.2, IntKind.i64.wrap (r.2 + a.2.1)), r.1.2.2.2.2) (IntKind.i64.wrap (left2 - 1)) r.2 (bif decide ((IntKind.i64.wrap (r.2 + a.2.1) : Int) > end_2) then IntKind.i64.wrap (r.2 + a.2.1) else end_2)).bind fun r1 =>
        (idx r1.1.2.2.2.1 i).bind fun _ =>
        F1 ((r1.1.1, r1.1.2.1, r1.1.2.2.1, List.set r1.1.2.2.2.1 (Int.toNat i) (0, 0, 0, 0), r1.1.2.2.2.2), left2, from_2, end_2, i, a, v3, v4, v5, v6, v7, IntKind.i64.wrap (v8 + 1)))
      else (D37 s2 i (IntKind.i64.wrap (v8 + 1))).bind fun r =>
      bif decide (r.2 < from_2) then F1 (r.1, left2, from_2, end_2, i, a, v3, v4, v5, v6, v7, IntKind.i64.wrap (v8 + 1))
      else (idx r.1.2.2.2.1 i).bind fun _ =>
      (D30 dep (r.1.1, r.1.2.1, r.1.2.2.1, List.set r.1.2.2.2.1 (Int.toNat i) (IntKind.i64.wrap (v8 + 1), a.1, r.2, IntKind.i64.wrap (r.2 + a.2.1)), r.1.2.2.2.2) (IntKind.i64.wrap (left2 - 1)) r.2 (bif decide ((IntKind.i64.wrap (r.2 + a.2.1) : Int) > end_2) then IntKind.i64.wrap (r.2 + a.2.1) else end_2)).bind fun r1 =>
      (idx r1.1.2.2.2.1 i).bind fun _ =>
      F1 ((r1.1.1, r1.1.2.1, r1.1.2.2.1, List.set r1.1.2.2.2.1 (Int.toNat i) (0, 0, 0, 0), r1.1.2.2.2.2), left2, from_2, end_2, i, a, v3, v4, v5, v6, v7, IntKind.i64.wrap (v8 + 1)))
    else F (s2, left2, from_2, end_2, v3, v4, IntKind.i64.wrap (v5 + 1))) fuel (s2₀, left2₀, from_2₀, end_2₀, i₀, a₀, v3₀, v4₀, v5₀, v6₀, v7₀, v8₀)

theorem f30_1 (dep : Nat) (F : (((List ((Int) × ((Int) × ((Bool) × (List (Int)))))) × ((List (Bool)) × ((List (List (Bool))) × ((List ((Int) × ((Int) × ((Int) × (Int))))) × ((List ((Int) × ((Int) × ((Int) × (Int))))) × (Int)))))) × Int × Int × Int × (List ((Int) × ((Int) × ((Bool) × (List (Int)))))) × Int × Int) → Option (((List ((Int) × ((Int) × ((Bool) × (List (Int)))))) × ((List (Bool)) × ((List (List (Bool))) × ((List ((Int) × ((Int) × ((Int) × (Int))))) × ((List ((Int) × ((Int) × ((Int) × (Int))))) × (Int)))))) × Unit)) (s2 : (List ((Int) × ((Int) × ((Bool) × (List (Int)))))) × ((List (Bool)) × ((List (List (Bool))) × ((List ((Int) × ((Int) × ((Int) × (Int))))) × ((List ((Int) × ((Int) × ((Int) × (Int))))) × (Int)))))) (left2 : Int) (from_2 : Int) (end_2 : Int) (i : Int) (a : (Int) × ((Int) × ((Bool) × (List (Int))))) (v3 : List ((Int) × ((Int) × ((Bool) × (List (Int)))))) (v4 : Int) (v5 : Int) (v6 : List (Bool)) (hl : (v6).length ≤ maxLen) : lp30_1 big dep F s2 left2 from_2 end_2 i a v3 v4 v5 v6 (List.length v6 : Int) 0 =
  forI (fun ix el (s2 : ((List ((Int) × ((Int) × ((Bool) × (List (Int)))))) × ((List (Bool)) × ((List (List (Bool))) × ((List ((Int) × ((Int) × ((Int) × (Int))))) × ((List ((Int) × ((Int) × ((Int) × (Int))))) × (Int))))))) K =>
    (bif a.2.2.1 then (
      bif (!el) then K s2
      else (D37 s2 i (IntKind.i64.wrap ((ix : Int) + 1))).bind fun r =>
      bif decide (r.2 < from_2) then K r.1
      else (idx r.1.2.2.2.1 i).bind fun _ =>
      (D30 dep (r.1.1, r.1.2.1, r.1.2.2.1, List.set r.1.2.2.2.1 (Int.toNat i) (IntKind.i64.wrap ((ix : Int) + 1), a.1, r.2, IntKind.i64.wrap (r.2 + a.2.1)), r.1.2.2.2.2) (IntKind.i64.wrap (left2 - 1)) r.2 (bif decide ((IntKind.i64.wrap (r.2 + a.2.1) : Int) > end_2) then IntKind.i64.wrap (r.2 + a.2.1) else end_2)).bind fun r1 =>
      (idx r1.1.2.2.2.1 i).bind fun _ =>
      K (r1.1.1, r1.1.2.1, r1.1.2.2.1, List.set r1.1.2.2.2.1 (Int.toNat i) (0, 0, 0, 0), r1.1.2.2.2.2))
    else (D37 s2 i (IntKind.i64.wrap ((ix : Int) + 1))).bind fun r =>
    bif decide (r.2 < from_2) then K r.1
    else (idx r.1.2.2.2.1 i).bind fun _ =>
    (D30 dep (r.1.1, r.1.2.1, r.1.2.2.1, List.set r.1.2.2.2.1 (Int.toNat i) (IntKind.i64.wrap ((ix : Int) + 1), a.1, r.2, IntKind.i64.wrap (r.2 + a.2.1)), r.1.2.2.2.2) (IntKind.i64.wrap (left2 - 1)) r.2 (bif decide ((IntKind.i64.wrap (r.2 + a.2.1) : Int) > end_2) then IntKind.i64.wrap (r.2 + a.2.1) else end_2)).bind fun r1 =>
    (idx r1.1.2.2.2.1 i).bind fun _ =>
    K (r1.1.1, r1.1.2.1, r1.1.2.2.1, List.set r1.1.2.2.2.1 (Int.toNat i) (0, 0, 0, 0), r1.1.2.2.2.2) : Option (((List ((Int) × ((Int) × ((Bool) × (List (Int)))))) × ((List (Bool)) × ((List (List (Bool))) × ((List ((Int) × ((Int) × ((Int) × (Int))))) × ((List ((Int) × ((Int) × ((Int) × (Int))))) × (Int)))))) × Unit)))
    (fun (s2 : ((List ((Int) × ((Int) × ((Bool) × (List (Int)))))) × ((List (Bool)) × ((List (List (Bool))) × ((List ((Int) × ((Int) × ((Int) × (Int))))) × ((List ((Int) × ((Int) × ((Int) × (Int))))) × (Int))))))) =>
    (F (s2, left2, from_2, end_2, v3, v4, IntKind.i64.wrap (v5 + 1)) : Option (((List ((Int) × ((Int) × ((Bool) × (List (Int)))))) × ((List (Bool)) × ((List (List (Bool))) × ((List ((Int) × ((Int) × ((Int) × (Int))))) × ((List ((Int) × ((Int) × ((Int) × (Int))))) × (Int)))))) × Unit))) 0 v6 s2 := by
  refine iter_forI_from v6 (fun ix (s2 : ((List ((Int) × ((Int) × ((Bool) × (List (Int)))))) × ((List (Bool)) × ((List (List (Bool))) × ((List ((Int) × ((Int) × ((Int) × (Int))))) × ((List ((Int) × ((Int) × ((Int) × (Int))))) × (Int))))))) => (s2, left2, from_2, end_2, i, a, v3, v4, v5, v6, (List.length v6 : Int), (ix : Int))) _ _ ?_ ?_ (k := 0) (Nat.zero_le _) (len_lt_big hl) s2
  · rintro F k h s2
    simp only [dec_lt h, condT, idx_get h, bindS, wrap_succ h hl]
  · rintro F s2
    simp only [dec_end, condF]

noncomputable def lp30_3 (fuel : Nat) (dep : Nat)  (s1₀ : (List ((Int) × ((Int) × ((Bool) × (List (Int)))))) × ((List (Bool)) × ((List (List (Bool))) × ((List ((Int) × ((Int) × ((Int) × (Int))))) × ((List ((Int) × ((Int) × ((Int) × (Int))))) × (Int)))))) (left1₀ : Int) (from_1₀ : Int) (end_1₀ : Int) (v₀ : List ((Int) × ((Int) × ((Bool) × (List (Int)))))) (v1₀ : Int) (v2₀ : Int) : Option (((List ((Int) × ((Int) × ((Bool) × (List (Int)))))) × ((List (Bool)) × ((List (List (Bool))) × ((List ((Int) × ((Int) × ((Int) × (Int))))) × ((List ((Int) × ((Int) × ((Int) × (Int))))) × (Int)))))) × Unit) :=
  iter (fun F ((s1, left1, from_1, end_1, v, v1, v2) : ((List ((Int) × ((Int) × ((Bool) × (List (Int)))))) × ((List (Bool)) × ((List (List (Bool))) × ((List ((Int) × ((Int) × ((Int) × (Int))))) × ((List ((Int) × ((Int) × ((Int) × (Int))))) × (Int)))))) × Int × Int × Int × (List ((Int) × ((Int) × ((Bool) × (List (Int)))))) × Int × Int) =>
    bif decide (v2 < v1) then (
      (idx v v2).bind fun e =>
      (idx s1.2.2.2.1 v2).bind fun e1 =>
      bif (e1.1 != 0) then F (s1, left1, from_1, end_1, v, v1, IntKind.i64.wrap (v2 + 1))
      else lp30_1 fuel dep F s1 left1 from_1 end_1 v2 e v v1 v2 s1.2.1 (List.length s1.2.1 : Int) 0)
    else some (s1, ())) fuel (s1₀, left1₀, from_1₀, end_1₀, v₀, v1₀, v2₀)

theorem g30 (fuel : Nat) (dep : Nat) (s : (List ((Int) × ((Int) × ((Bool) × (List (Int)))))) × ((List (Bool)) × ((List (List (Bool))) × ((List ((Int) × ((Int) × ((Int) × (Int))))) × ((List ((Int) × ((Int) × ((Int) × (Int))))) × (Int)))))) (left : Int) (from_ : Int) (end_ : Int) : (fnKB tab env30 (bx30 (d30 dep)) 13 ann30 fuel Try.f30 tB30 bm30 ps30 rs30 s (left, from_, end_) : Option (((List ((Int) × ((Int) × ((Bool) × (List (Int)))))) × ((List (Bool)) × ((List (List (Bool))) × ((List ((Int) × ((Int) × ((Int) × (Int))))) × ((List ((Int) × ((Int) × ((Int) × (Int))))) × (Int)))))) × Unit)) = (
  bif decide (end_ ≥ s.2.2.2.2.2) then some (s, ())
  else bif (left == 0) then some ((s.1, s.2.1, s.2.2.1, s.2.2.2.1, copyL s.2.2.2.2.1 s.2.2.2.1, end_), ())
  else lp30_3 fuel dep s left from_ end_ s.1 (List.length s.1 : Int) 0 : Option (((List ((Int) × ((Int) × ((Bool) × (List (Int)))))) × ((List (Bool)) × ((List (List (Bool))) × ((List ((Int) × ((Int) × ((Int) × (Int))))) × ((List ((Int) × ((Int) × ((Int) × (Int))))) × (Int)))))) × Unit)) := by kernel_rfl
theorem e30 (dep : Nat) (s : (List ((Int) × ((Int) × ((Bool) × (List (Int)))))) × ((List (Bool)) × ((List (List (Bool))) × ((List ((Int) × ((Int) × ((Int) × (Int))))) × ((List ((Int) × ((Int) × ((Int) × (Int))))) × (Int)))))) (left : Int) (from_ : Int) (end_ : Int) : D30 (dep + 1) s left from_ end_ = (
  bif decide (end_ ≥ s.2.2.2.2.2) then some (s, ())
  else bif (left == 0) then some ((s.1, s.2.1, s.2.2.1, s.2.2.2.1, copyL s.2.2.2.2.1 s.2.2.2.1, end_), ())
  else lp30_3 big dep s left from_ end_ s.1 (List.length s.1 : Int) 0 : Option (((List ((Int) × ((Int) × ((Bool) × (List (Int)))))) × ((List (Bool)) × ((List (List (Bool))) × ((List ((Int) × ((Int) × ((Int) × (Int))))) × ((List ((Int) × ((Int) × ((Int) × (Int))))) × (Int)))))) × Unit)) := g30 big dep s left from_ end_

/-! slices.IndexFunc[[]skiarea/api.Task,skiarea/api.Task] -/
noncomputable def D31 (a0 : List ((Int) × ((Int) × ((Bool) × (List (Int)))))) (a1 : ((Int) × ((Int) × ((Bool) × (List (Int))))) → Option (Bool)) : Option (Int) := d31 (a0, a1)
noncomputable def lp31_1 (fuel : Nat)  (s1₀ : List ((Int) × ((Int) × ((Bool) × (List (Int)))))) (f1₀ : ((Int) × ((Int) × ((Bool) × (List (Int))))) → Option (Bool)) (v₀ : Int) (v1₀ : Int) : Option (Int) :=
  iter (fun F ((s1, f1, v, v1) : (List ((Int) × ((Int) × ((Bool) × (List (Int)))))) × (((Int) × ((Int) × ((Bool) × (List (Int))))) → Option (Bool)) × Int × Int) =>
    bif decide (v1 < v) then (
      (idx s1 v1).bind fun e =>
      (f1 e).bind fun r =>
      bif r then some v1
      else F (s1, f1, v, IntKind.i64.wrap (v1 + 1)))
    else some (-1)) fuel (s1₀, f1₀, v₀, v1₀)

theorem f31_1  (s1 : List ((Int) × ((Int) × ((Bool) × (List (Int)))))) (f1 : ((Int) × ((Int) × ((Bool) × (List (Int))))) → Option (Bool)) (hl : (s1).length ≤ maxLen) : lp31_1 big s1 f1 (List.length s1 : Int) 0 =
  forI (fun ix el (_ : Unit) K =>
    ((f1 el).bind fun r =>
    bif r then some (ix : Int)
    else K () : Option (Int)))
    (fun (_ : Unit) =>
    (some (-1) : Option (Int))) 0 s1 () := by
  refine iter_forI_from s1 (fun ix (_ : Unit) => (s1, f1, (List.length s1 : Int), (ix : Int))) _ _ ?_ ?_ (k := 0) (Nat.zero_le _) (len_lt_big hl) ()
  · rintro F k h _
    simp only [dec_lt h, condT, idx_get h, bindS, wrap_succ h hl]
  · rintro F _
    simp only [dec_end, condF]

theorem g31 (fuel : Nat) (s : List ((Int) × ((Int) × ((Bool) × (List (Int)))))) (f : ((Int) × ((Int) × ((Bool) × (List (Int))))) → Option (Bool)) : (fnK tab env31 6 ann31 fuel Try.f31 [] ps31 rs31 true (s, f) : Option (Int)) = (
  lp31_1 fuel s f (List.length s : Int) 0 : Option (Int)) := by kernel_rfl
theorem e31 (s : List ((Int) × ((Int) × ((Bool) × (List (Int)))))) (f : ((Int) × ((Int) × ((Bool) × (List (Int))))) → Option (Bool)) : D31 s f = (
  lp31_1 big s f (List.length s : Int) 0 : Option (Int)) := g31 big s f

/-! skiarea/route.find$1 -/
noncomputable def D32 (a0 : (Int) × ((Int) × ((Bool) × (List (Int))))) (a1 : Int) : Option (Bool) := d32 (a0, a1)
theorem e32 (a : (Int) × ((Int) × ((Bool) × (List (Int))))) (v : Int) : D32 a v = (
  some (a.1 == v) : Option (Bool)) := by kernel_rfl

/-! skiarea/route.find -/
noncomputable def D22 (a0 : List ((Int) × ((Int) × ((Bool) × (List (Int)))))) (a1 : Int) : Option (Int) := d22 (a0, a1)
theorem e22 (l : List ((Int) × ((Int) × ((Bool) × (List (Int)))))) (run_ : Int) : D22 l run_ = (
  (D31 l (fun y => D32 y run_)).bind fun r =>
  some r : Option (Int)) := by kernel_rfl

/-! slices.Index[[]bool,bool] -/
noncomputable def D33 (a0 : List (Bool)) (a1 : Bool) : Option (Int) := d33 (a0, a1)
noncomputable def lp33_1 (fuel : Nat)  (s1₀ : List (Bool)) (v1₀ : Bool) (v2₀ : Int) (v3₀ : Int) : Option (Int) :=
  iter (fun F ((s1, v1, v2, v3) : (List (Bool)) × Bool × Int × Int) =>
    bif decide (v3 < v2) then (
      (idx s1 v3).bind fun e =>
      bif (v1 == e) then some v3
      else F (s1, v1, v2, IntKind.i64.wrap (v3 + 1)))
    else some (-1)) fuel (s1₀, v1₀, v2₀, v3₀)

theorem f33_1  (s1 : List (Bool)) (v1 : Bool) (hl : (s1).length ≤ maxLen) : lp33_1 big s1 v1 (List.length s1 : Int) 0 =
  forI (fun ix el (_ : Unit) K =>
    (bif (v1 == el) then some (ix : Int)
    else K () : Option (Int)))
    (fun (_ : Unit) =>
    (some (-1) : Option (Int))) 0 s1 () := by
  refine iter_forI_from s1 (fun ix (_ : Unit) => (s1, v1, (List.length s1 : Int), (ix : Int))) _ _ ?_ ?_ (k := 0) (Nat.zero_le _) (len_lt_big hl) ()
  · rintro F k h _
    simp only [dec_lt h, condT, idx_get h, bindS, wrap_succ h hl]
  · rintro F _
    simp only [dec_end, condF]

theorem g33 (fuel : Nat) (s : List (Bool)) (v : Bool) : (fnK tab env33 6 ann33 fuel Try.f33 [] ps33 rs33 true (s, v) : Option (Int)) = (
  lp33_1 fuel s v (List.length s : Int) 0 : Option (Int)) := by kernel_rfl
theorem e33 (s : List (Bool)) (v : Bool) : D33 s v = (
  lp33_1 big s v (List.length s : Int) 0 : Option (Int)) := g33 big s v

/-! slices.Contains[[]bool,bool] -/
noncomputable def D23 (a0 : List (Bool)) (a1 : Bool) : Option (Bool) := d23 (a0, a1)
theorem e23 (s : List (Bool)) (v : Bool) : D23 s v = (
  (D33 s v).bind fun r =>
  some (decide (r ≥ 0)) : Option (Bool)) := by kernel_rfl

/-! skiarea/route.Right -/
noncomputable def D11 (a0 : List ((Int) × ((Int) × ((Bool) × (List (Int)))))) (a1 : List (Bool)) : Option (Int) := d11 (a0, a1)
noncomputable def lp11_1 (fuel : Nat)  (l1₀ : List ((Int) × ((Int) × ((Bool) × (List (Int)))))) (winch1₀ : List (Bool)) (v₀ : List ((Int) × ((Int) × ((Bool) × (List (Int)))))) (v1₀ : Int) (v2₀ : Int) : Option (Int) :=
  iter (fun F ((l1, winch1, v, v1, v2) : (List ((Int) × ((Int) × ((Bool) × (List (Int)))))) × (List (Bool)) × (List ((Int) × ((Int) × ((Bool) × (List (Int)))))) × Int × Int) =>
    bif decide (v2 < v1) then (
      (idx v v2).bind fun e =>
      bif decide (e.1 < 1) then some 2
      else bif decide (e.1 > 9999) then some 2
      else bif decide (e.2.1 < 1) then some 2
      else bif decide (e.2.1 > 86400) then some 2
      else bif decide ((List.length e.2.2.2 : Int) > 6) then some 2
      else bif (decide (0 ≤ (0 : Int)) && (decide ((0 : Int) ≤ v2) && decide ((v2 : Int) ≤ (List.length l1 : Int)))) then (
        (D22 (List.drop (Int.toNat 0) (List.take (Int.toNat v2) l1)) e.1).bind fun r =>
        bif decide (r ≥ 0) then some 7
        else bif e.2.2.1 then (
          (D23 winch1 true).bind fun r1 =>
          bif (!r1) then some 13
          else F (l1, winch1, v, v1, IntKind.i64.wrap (v2 + 1)))
        else F (l1, winch1, v, v1, IntKind.i64.wrap (v2 + 1)))
      else none)
    else some 0) fuel (l1₀, winch1₀, v₀, v1₀, v2₀)

theorem f11_1  (l1 : List ((Int) × ((Int) × ((Bool) × (List (Int)))))) (winch1 : List (Bool)) (v : List ((Int) × ((Int) × ((Bool) × (List (Int)))))) (hl : (v).length ≤ maxLen) : lp11_1 big l1 winch1 v (List.length v : Int) 0 =
  forI (fun ix el (_ : Unit) K =>
    (bif decide (el.1 < 1) then some 2
    else bif decide (el.1 > 9999) then some 2
    else bif decide (el.2.1 < 1) then some 2
    else bif decide (el.2.1 > 86400) then some 2
    else bif decide ((List.length el.2.2.2 : Int) > 6) then some 2
    else bif (decide (0 ≤ (0 : Int)) && (decide ((0 : Int) ≤ (ix : Int)) && decide (((ix : Int) : Int) ≤ (List.length l1 : Int)))) then (
      (D22 (List.drop (Int.toNat 0) (List.take (Int.toNat (ix : Int)) l1)) el.1).bind fun r =>
      bif decide (r ≥ 0) then some 7
      else bif el.2.2.1 then (
        (D23 winch1 true).bind fun r1 =>
        bif (!r1) then some 13
        else K ())
      else K ())
    else none : Option (Int)))
    (fun (_ : Unit) =>
    (some 0 : Option (Int))) 0 v () := by
  refine iter_forI_from v (fun ix (_ : Unit) => (l1, winch1, v, (List.length v : Int), (ix : Int))) _ _ ?_ ?_ (k := 0) (Nat.zero_le _) (len_lt_big hl) ()
  · rintro F k h _
    simp only [dec_lt h, condT, idx_get h, bindS, wrap_succ h hl]
  · rintro F _
    simp only [dec_end, condF]

theorem g11 (fuel : Nat) (l : List ((Int) × ((Int) × ((Bool) × (List (Int)))))) (winch : List (Bool)) : (fnK tab env11 7 ann11 fuel Try.f11 [] ps11 rs11 true (l, winch) : Option (Int)) = (
  bif decide ((List.length l : Int) > 6) then some 4
  else bif decide ((List.length winch : Int) > 3) then some 4
  else bif ((List.length winch : Int) == 0) then some 8
  else lp11_1 fuel l winch l (List.length l : Int) 0 : Option (Int)) := by kernel_rfl
theorem e11 (l : List ((Int) × ((Int) × ((Bool) × (List (Int)))))) (winch : List (Bool)) : D11 l winch = (
  bif decide ((List.length l : Int) > 6) then some 4
  else bif decide ((List.length winch : Int) > 3) then some 4
  else bif ((List.length winch : Int) == 0) then some 8
  else lp11_1 big l winch l (List.length l : Int) 0 : Option (Int)) := g11 big l winch

/-! slices.Index[[]int,int] -/
noncomputable def D38 (a0 : List (Int)) (a1 : Int) : Option (Int) := d38 (a0, a1)
noncomputable def lp38_1 (fuel : Nat)  (s1₀ : List (Int)) (v1₀ : Int) (v2₀ : Int) (v3₀ : Int) : Option (Int) :=
  iter (fun F ((s1, v1, v2, v3) : (List (Int)) × Int × Int × Int) =>
    bif decide (v3 < v2) then (
      (idx s1 v3).bind fun e =>
      bif (v1 == e) then some v3
      else F (s1, v1, v2, IntKind.i64.wrap (v3 + 1)))
    else some (-1)) fuel (s1₀, v1₀, v2₀, v3₀)

theorem f38_1  (s1 : List (Int)) (v1 : Int) (hl : (s1).length ≤ maxLen) : lp38_1 big s1 v1 (List.length s1 : Int) 0 =
  forI (fun ix el (_ : Unit) K =>
    (bif (v1 == el) then some (ix : Int)
    else K () : Option (Int)))
    (fun (_ : Unit) =>
    (some (-1) : Option (Int))) 0 s1 () := by
  refine iter_forI_from s1 (fun ix (_ : Unit) => (s1, v1, (List.length s1 : Int), (ix : Int))) _ _ ?_ ?_ (k := 0) (Nat.zero_le _) (len_lt_big hl) ()
  · rintro F k h _
    simp only [dec_lt h, condT, idx_get h, bindS, wrap_succ h hl]
  · rintro F _
    simp only [dec_end, condF]

theorem g38 (fuel : Nat) (s : List (Int)) (v : Int) : (fnK tab env38 6 ann38 fuel Try.f38 [] ps38 rs38 true (s, v) : Option (Int)) = (
  lp38_1 fuel s v (List.length s : Int) 0 : Option (Int)) := by kernel_rfl
theorem e38 (s : List (Int)) (v : Int) : D38 s v = (
  lp38_1 big s v (List.length s : Int) 0 : Option (Int)) := g38 big s v

/-! slices.Contains[[]int,int] -/
noncomputable def D34 (a0 : List (Int)) (a1 : Int) : Option (Bool) := d34 (a0, a1)
theorem e34 (s : List (Int)) (v : Int) : D34 s v = (
  (D38 s v).bind fun r =>
  some (decide (r ≥ 0)) : Option (Bool)) := by kernel_rfl

/-! skiarea/route.clash -/
noncomputable def D25 (a0 : (Int) × ((Int) × ((Bool) × (List (Int))))) (a1 : (Int) × ((Int) × ((Bool) × (List (Int))))) : Option (Bool) := d25 (a0, a1)
theorem e25 (a : (Int) × ((Int) × ((Bool) × (List (Int))))) (b : (Int) × ((Int) × ((Bool) × (List (Int))))) : D25 a b = (
  (D34 a.2.2.2 b.1).bind fun r =>
  bif r then some true
  else (D34 b.2.2.2 a.1).bind fun r1 =>
  some r1 : Option (Bool)) := by kernel_rfl

end Go.Proofs.Ythjplaicophnnaa.D
