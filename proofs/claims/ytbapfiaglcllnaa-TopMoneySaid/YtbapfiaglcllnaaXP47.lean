import Derived.Test.YtbapfiaglcllnaaEXT24a
open Go Go.GD Go.Proofs
namespace Go.Proofs.Ytbapfiaglcllnaa.D.Rt
abbrev S30 : Type := (List ((Int) × ((Int) × ((Bool) × (List (Int)))))) × ((List (Bool)) × ((List (List (Bool))) × ((List ((Int) × ((Int) × ((Int) × (Int))))) × ((List ((Int) × ((Int) × ((Int) × (Int))))) × (Int)))))
abbrev T30 : Type := S30 → Int → Int → Int → Option (S30 × Unit)
noncomputable def P116 (s : (List ((Int) × ((Int) × ((Bool) × (List (Int)))))) × ((List (Bool)) × ((List (List (Bool))) × ((List ((Int) × ((Int) × ((Int) × (Int))))) × ((List ((Int) × ((Int) × ((Int) × (Int))))) × (Int)))))) (task : Int) (groomer : Int) := (
  lp116_1 big s task groomer 0 s.2.2.2.1 (List.length s.2.2.2.1 : Int) 0 : Option (((List ((Int) × ((Int) × ((Bool) × (List (Int)))))) × ((List (Bool)) × ((List (List (Bool))) × ((List ((Int) × ((Int) × ((Int) × (Int))))) × ((List ((Int) × ((Int) × ((Int) × (Int))))) × (Int)))))) × Int))
theorem fast116 : D116 = P116 := by
  funext s task groomer
  exact e116 s task groomer
noncomputable def lq79_1 (fuel : Nat) (φ : T30) (F : (((List ((Int) × ((Int) × ((Bool) × (List (Int)))))) × ((List (Bool)) × ((List (List (Bool))) × ((List ((Int) × ((Int) × ((Int) × (Int))))) × ((List ((Int) × ((Int) × ((Int) × (Int))))) × (Int)))))) × Int × Int × Int × (List ((Int) × ((Int) × ((Bool) × (List (Int)))))) × Int × Int) → Option (((List ((Int) × ((Int) × ((Bool) × (List (Int)))))) × ((List (Bool)) × ((List (List (Bool))) × ((List ((Int) × ((Int) × ((Int) × (Int))))) × ((List ((Int) × ((Int) × ((Int) × (Int))))) × (Int)))))) × Unit)) (s2₀ : (List ((Int) × ((Int) × ((Bool) × (List (Int)))))) × ((List (Bool)) × ((List (List (Bool))) × ((List ((Int) × ((Int) × ((Int) × (Int))))) × ((List ((Int) × ((Int) × ((Int) × (Int))))) × (Int)))))) (left2₀ : Int) (from_2₀ : Int) (end_2₀ : Int) (i₀ : Int) (a₀ : (Int) × ((Int) × ((Bool) × (List (Int))))) (v3₀ : List ((Int) × ((Int) × ((Bool) × (List (Int)))))) (v4₀ : Int) (v5₀ : Int) (v6₀ : List (Bool)) (v7₀ : Int) (v8₀ : Int) : Option (((List ((Int) × ((Int) × ((Bool) × (List (Int)))))) × ((List (Bool)) × ((List (List (Bool))) × ((List ((Int) × ((Int) × ((Int) × (Int))))) × ((List ((Int) × ((Int) × ((Int) × (Int))))) × (Int)))))) × Unit) :=
  iter (fun F1 ((s2, left2, from_2, end_2, i, a, v3, v4, v5, v6, v7, v8) : ((List ((Int) × ((Int) × ((Bool) × (List (Int)))))) × ((List (Bool)) × ((List (List (Bool))) × ((List ((Int) × ((Int) × ((Int) × (Int))))) × ((List ((Int) × ((Int) × ((Int) × (Int))))) × (Int)))))) × Int × Int × Int × Int × ((Int) × ((Int) × ((Bool) × (List (Int))))) × (List ((Int) × ((Int) × ((Bool) × (List (Int)))))) × Int × Int × (List (Bool)) × Int × Int) =>
    bif decide (v8 < v7) then (
      (idx v6 v8).bind fun e2 =>
      bif a.2.2.1 then (
        bif (!e2) then F1 (s2, left2, from_2, end_2, i, a, v3, v4, v5, v6, v7, IntKind.i64.wrap (v8 + 1))
        else (P116 s2 i (IntKind.i64.wrap (v8 + 1))).bind fun r =>
        bif decide (r.2 < from_2) then F1 (r.1, left2, from_2, end_2, i, a, v3, v4, v5, v6, v7, IntKind.i64.wrap (v8 + 1))
        else (idx r.1.2.2.2.1 i).bind fun _ =>
        (φ (r.1.1, r.1.2.1, r.1.2.2.1, List.set r.1.2.2.2.1 (Int.toNat i) (IntKind.i64.wrap (v8 + 1), a.1, r.2, IntKind.i64.wrap (r.2 + a.2.1)), r.1.2.2.2.2) (IntKind.i64.wrap (left2 - 1)) r.2 (bif decide ((IntKind.i64.wrap (r.2 + a.2.1) : Int) > end_2) then IntKind.i64.wrap (r.2 + a.2.1) else end_2)).bind fun r1 =>
        (idx r1.1.2.2.2.1 i).bind fun _ =>
        F1 ((r1.1.1, r1.1.2.1, r1.1.2.2.1, List.set r1.1.2.2.2.1 (Int.toNat i) (0, 0, 0, 0), r1.1.2.2.2.2), left2, from_2, end_2, i, a, v3, v4, v5, v6, v7, IntKind.i64.wrap (v8 + 1)))
      else (P116 s2 i (IntKind.i64.wrap (v8 + 1))).bind fun r =>
      bif decide (r.2 < from_2) then F1 (r.1, left2, from_2, end_2, i, a, v3, v4, v5, v6, v7, IntKind.i64.wrap (v8 + 1))
      else (idx r.1.2.2.2.1 i).bind fun _ =>
      (φ (r.1.1, r.1.2.1, r.1.2.2.1, List.set r.1.2.2.2.1 (Int.toNat i) (IntKind.i64.wrap (v8 + 1), a.1, r.2, IntKind.i64.wrap (r.2 + a.2.1)), r.1.2.2.2.2) (IntKind.i64.wrap (left2 - 1)) r.2 (bif decide ((IntKind.i64.wrap (r.2 + a.2.1) : Int) > end_2) then IntKind.i64.wrap (r.2 + a.2.1) else end_2)).bind fun r1 =>
      (idx r1.1.2.2.2.1 i).bind fun _ =>
      F1 ((r1.1.1, r1.1.2.1, r1.1.2.2.1, List.set r1.1.2.2.2.1 (Int.toNat i) (0, 0, 0, 0), r1.1.2.2.2.2), left2, from_2, end_2, i, a, v3, v4, v5, v6, v7, IntKind.i64.wrap (v8 + 1)))
    else F (s2, left2, from_2, end_2, v3, v4, IntKind.i64.wrap (v5 + 1))) fuel (s2₀, left2₀, from_2₀, end_2₀, i₀, a₀, v3₀, v4₀, v5₀, v6₀, v7₀, v8₀)
noncomputable def lq79_3 (fuel : Nat) (φ : T30)  (s1₀ : (List ((Int) × ((Int) × ((Bool) × (List (Int)))))) × ((List (Bool)) × ((List (List (Bool))) × ((List ((Int) × ((Int) × ((Int) × (Int))))) × ((List ((Int) × ((Int) × ((Int) × (Int))))) × (Int)))))) (left1₀ : Int) (from_1₀ : Int) (end_1₀ : Int) (v₀ : List ((Int) × ((Int) × ((Bool) × (List (Int)))))) (v1₀ : Int) (v2₀ : Int) : Option (((List ((Int) × ((Int) × ((Bool) × (List (Int)))))) × ((List (Bool)) × ((List (List (Bool))) × ((List ((Int) × ((Int) × ((Int) × (Int))))) × ((List ((Int) × ((Int) × ((Int) × (Int))))) × (Int)))))) × Unit) :=
  iter (fun F ((s1, left1, from_1, end_1, v, v1, v2) : ((List ((Int) × ((Int) × ((Bool) × (List (Int)))))) × ((List (Bool)) × ((List (List (Bool))) × ((List ((Int) × ((Int) × ((Int) × (Int))))) × ((List ((Int) × ((Int) × ((Int) × (Int))))) × (Int)))))) × Int × Int × Int × (List ((Int) × ((Int) × ((Bool) × (List (Int)))))) × Int × Int) =>
    bif decide (v2 < v1) then (
      (idx v v2).bind fun e =>
      (idx s1.2.2.2.1 v2).bind fun e1 =>
      bif (e1.1 != 0) then F (s1, left1, from_1, end_1, v, v1, IntKind.i64.wrap (v2 + 1))
      else lq79_1 fuel φ F s1 left1 from_1 end_1 v2 e v v1 v2 s1.2.1 (List.length s1.2.1 : Int) 0)
    else some (s1, ())) fuel (s1₀, left1₀, from_1₀, end_1₀, v₀, v1₀, v2₀)
noncomputable def step30 (φ : T30) : T30 := fun s left from_ end_ => (
  bif decide (end_ ≥ s.2.2.2.2.2) then some (s, ())
  else bif (left == 0) then some ((s.1, s.2.1, s.2.2.1, s.2.2.2.1, copyL s.2.2.2.2.1 s.2.2.2.1, end_), ())
  else lq79_3 big φ s left from_ end_ s.1 (List.length s.1 : Int) 0 : Option (((List ((Int) × ((Int) × ((Bool) × (List (Int)))))) × ((List (Bool)) × ((List (List (Bool))) × ((List ((Int) × ((Int) × ((Int) × (Int))))) × ((List ((Int) × ((Int) × ((Int) × (Int))))) × (Int)))))) × Unit))
theorem lq1 (fuel dep : Nat) : lp79_1 fuel dep = lq79_1 fuel (D79 dep) := by
  unfold lp79_1 lq79_1
  rw [fast116]
theorem lq3 (fuel dep : Nat) : lp79_3 fuel dep = lq79_3 fuel (D79 dep) := by
  unfold lp79_3 lq79_3
  rw [lq1 fuel dep]
noncomputable def P79 (n : Nat) : T30 := Nat.rec (fun _ _ _ _ => none) (fun _ φ => step30 φ) n
theorem d30_eq : ∀ n, D79 n = P79 n
  | 0 => rfl
  | n + 1 => by
    have ih := d30_eq n
    funext s left from_ end_
    rw [e79, lq3, ih]
    rfl
end Go.Proofs.Ytbapfiaglcllnaa.D.Rt
