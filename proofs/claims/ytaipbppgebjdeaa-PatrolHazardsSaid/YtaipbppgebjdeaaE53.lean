import Derived.Test.YtaipbppgebjdeaaT53
open Go Go.GD Go.Proofs
namespace Go.Proofs.Ytaipbppgebjdeaa.D
/-! slices.Index[[]int,int] -/
noncomputable def D60 (a0 : List (Int)) (a1 : Int) : Option (Int) := d60 (a0, a1)
noncomputable def lp60_1 (fuel : Nat)  (s1₀ : List (Int)) (v1₀ : Int) (v2₀ : Int) (v3₀ : Int) : Option (Int) :=
  iter (fun F ((s1, v1, v2, v3) : (List (Int)) × Int × Int × Int) =>
    bif decide (v3 < v2) then (
      (idx s1 v3).bind fun e =>
      bif (v1 == e) then some v3
      else F (s1, v1, v2, IntKind.i64.wrap (v3 + 1)))
    else some (-1)) fuel (s1₀, v1₀, v2₀, v3₀)

theorem f60_1  (s1 : List (Int)) (v1 : Int) (hl : (s1).length ≤ maxLen) : lp60_1 big s1 v1 (List.length s1 : Int) 0 =
  forI (fun ix el (_ : Unit) K =>
    (bif (v1 == el) then some (ix : Int)
    else K () : Option (Int)))
    (fun (_ : Unit) =>
    (some (-1) : Option (Int))) 0 s1 () := by
  refine iter_forI_from s1 (fun ix (_ : Unit) => (s1, v1, (List.length s1 : Int), (ix : Int))) _ _ ?_ ?_ (k := 0) (Nat.zero_le _) (len_lt_big hl) ()
  · rintro F k h _
    simp only [dec_lt h, condT, idx_get h, bindS, wrap_succ h hl]
  · rintro F _
    simp only [dec_end, condF]

theorem g60 (fuel : Nat) (s : List (Int)) (v : Int) : (fnK tab env60 6 ann60 fuel Try.f60 [] ps60 rs60 true (s, v) : Option (Int)) = (
  lp60_1 fuel s v (List.length s : Int) 0 : Option (Int)) := by kernel_rfl
theorem e60 (s : List (Int)) (v : Int) : D60 s v = (
  lp60_1 big s v (List.length s : Int) 0 : Option (Int)) := g60 big s v

/-! slices.Contains[[]int,int] -/
noncomputable def D47 (a0 : List (Int)) (a1 : Int) : Option (Bool) := d47 (a0, a1)
theorem e47 (s : List (Int)) (v : Int) : D47 s v = (
  (D60 s v).bind fun r =>
  some (decide (r ≥ 0)) : Option (Bool)) := by kernel_rfl

/-! skiarea/inspect.Right -/
noncomputable def D32 (a0 : (List (Int)) × ((Int) × (List ((Int) × ((Int) × (Int)))))) : Option (Int) := d32 a0
noncomputable def lp32_1 (fuel : Nat)  (l2₀ : (List (Int)) × ((Int) × (List ((Int) × ((Int) × (Int)))))) (v3₀ : List ((Int) × ((Int) × (Int)))) (v4₀ : Int) (v5₀ : Int) : Option (Int) :=
  iter (fun F1 ((l2, v3, v4, v5) : ((List (Int)) × ((Int) × (List ((Int) × ((Int) × (Int)))))) × (List ((Int) × ((Int) × (Int)))) × Int × Int) =>
    bif decide (v5 < v4) then (
      (idx v3 v5).bind fun e =>
      (D47 l2.1 e.1).bind fun r =>
      bif (!r) then some 8
      else bif decide (e.2.1 < 1) then some 17
      else bif decide (e.2.1 > 9999) then some 17
      else bif decide (e.2.2 < 0) then some 2
      else bif decide (e.2.2 > 20000000) then some 2
      else bif decide (v5 > 0) then (
        (idx l2.2.2 (IntKind.i64.wrap (v5 - 1))).bind fun e1 =>
        bif decide (e.2.2 < e1.2.2) then some 11
        else F1 (l2, v3, v4, IntKind.i64.wrap (v5 + 1)))
      else F1 (l2, v3, v4, IntKind.i64.wrap (v5 + 1)))
    else some 0) fuel (l2₀, v3₀, v4₀, v5₀)

theorem f32_1  (l2 : (List (Int)) × ((Int) × (List ((Int) × ((Int) × (Int)))))) (v3 : List ((Int) × ((Int) × (Int)))) (hl : (v3).length ≤ maxLen) : lp32_1 big l2 v3 (List.length v3 : Int) 0 =
  forI (fun ix el (_ : Unit) K =>
    ((D47 l2.1 el.1).bind fun r =>
    bif (!r) then some 8
    else bif decide (el.2.1 < 1) then some 17
    else bif decide (el.2.1 > 9999) then some 17
    else bif decide (el.2.2 < 0) then some 2
    else bif decide (el.2.2 > 20000000) then some 2
    else bif decide ((ix : Int) > 0) then (
      (idx l2.2.2 (IntKind.i64.wrap ((ix : Int) - 1))).bind fun e1 =>
      bif decide (el.2.2 < e1.2.2) then some 11
      else K ())
    else K () : Option (Int)))
    (fun (_ : Unit) =>
    (some 0 : Option (Int))) 0 v3 () := by
  refine iter_forI_from v3 (fun ix (_ : Unit) => (l2, v3, (List.length v3 : Int), (ix : Int))) _ _ ?_ ?_ (k := 0) (Nat.zero_le _) (len_lt_big hl) ()
  · rintro F k h _
    simp only [dec_lt h, condT, idx_get h, bindS, wrap_succ h hl]
  · rintro F _
    simp only [dec_end, condF]

noncomputable def lp32_3 (fuel : Nat)  (l1₀ : (List (Int)) × ((Int) × (List ((Int) × ((Int) × (Int)))))) (v₀ : List (Int)) (v1₀ : Int) (v2₀ : Int) : Option (Int) :=
  iter (fun F ((l1, v, v1, v2) : ((List (Int)) × ((Int) × (List ((Int) × ((Int) × (Int)))))) × (List (Int)) × Int × Int) =>
    bif decide (v2 < v1) then (
      (idx v v2).bind fun e =>
      bif decide (e < 1) then some 2
      else bif decide (e > 9999) then some 2
      else bif (decide (0 ≤ (0 : Int)) && (decide ((0 : Int) ≤ v2) && decide ((v2 : Int) ≤ (List.length l1.1 : Int)))) then (
        (D47 (List.drop (Int.toNat 0) (List.take (Int.toNat v2) l1.1)) e).bind fun r =>
        bif r then some 7
        else F (l1, v, v1, IntKind.i64.wrap (v2 + 1)))
      else none)
    else lp32_1 fuel l1 l1.2.2 (List.length l1.2.2 : Int) 0) fuel (l1₀, v₀, v1₀, v2₀)

theorem f32_3  (l1 : (List (Int)) × ((Int) × (List ((Int) × ((Int) × (Int)))))) (v : List (Int)) (hl : (v).length ≤ maxLen) : lp32_3 big l1 v (List.length v : Int) 0 =
  forI (fun ix el (_ : Unit) K =>
    (bif decide (el < 1) then some 2
    else bif decide (el > 9999) then some 2
    else bif (decide (0 ≤ (0 : Int)) && (decide ((0 : Int) ≤ (ix : Int)) && decide (((ix : Int) : Int) ≤ (List.length l1.1 : Int)))) then (
      (D47 (List.drop (Int.toNat 0) (List.take (Int.toNat (ix : Int)) l1.1)) el).bind fun r =>
      bif r then some 7
      else K ())
    else none : Option (Int)))
    (fun (_ : Unit) =>
    (lp32_1 big l1 l1.2.2 (List.length l1.2.2 : Int) 0 : Option (Int))) 0 v () := by
  refine iter_forI_from v (fun ix (_ : Unit) => (l1, v, (List.length v : Int), (ix : Int))) _ _ ?_ ?_ (k := 0) (Nat.zero_le _) (len_lt_big hl) ()
  · rintro F k h _
    simp only [dec_lt h, condT, idx_get h, bindS, wrap_succ h hl]
  · rintro F _
    simp only [dec_end, condF]

theorem g32 (fuel : Nat) (l : (List (Int)) × ((Int) × (List ((Int) × ((Int) × (Int)))))) : (fnK tab env32 7 ann32 fuel Try.f32 [] ps32 rs32 true l : Option (Int)) = (
  bif decide ((List.length l.1 : Int) > 64) then some 4
  else bif decide ((List.length l.2.2 : Int) > 200) then some 4
  else bif decide (l.2.1 < 1) then some 2
  else bif decide (l.2.1 > 604800) then some 2
  else lp32_3 fuel l l.1 (List.length l.1 : Int) 0 : Option (Int)) := by kernel_rfl
theorem e32 (l : (List (Int)) × ((Int) × (List ((Int) × ((Int) × (Int)))))) : D32 l = (
  bif decide ((List.length l.1 : Int) > 64) then some 4
  else bif decide ((List.length l.2.2 : Int) > 200) then some 4
  else bif decide (l.2.1 < 1) then some 2
  else bif decide (l.2.1 > 604800) then some 2
  else lp32_3 big l l.1 (List.length l.1 : Int) 0 : Option (Int)) := g32 big l

/-! slices.IndexFunc[[]skiarea/api.Hazard,skiarea/api.Hazard] -/
noncomputable def D48 (a0 : List ((Int) × ((Int) × (Int)))) (a1 : ((Int) × ((Int) × (Int))) → Option (Bool)) : Option (Int) := d48 (a0, a1)
noncomputable def lp48_1 (fuel : Nat)  (s1₀ : List ((Int) × ((Int) × (Int)))) (f1₀ : ((Int) × ((Int) × (Int))) → Option (Bool)) (v₀ : Int) (v1₀ : Int) : Option (Int) :=
  iter (fun F ((s1, f1, v, v1) : (List ((Int) × ((Int) × (Int)))) × (((Int) × ((Int) × (Int))) → Option (Bool)) × Int × Int) =>
    bif decide (v1 < v) then (
      (idx s1 v1).bind fun e =>
      (f1 e).bind fun r =>
      bif r then some v1
      else F (s1, f1, v, IntKind.i64.wrap (v1 + 1)))
    else some (-1)) fuel (s1₀, f1₀, v₀, v1₀)

theorem f48_1  (s1 : List ((Int) × ((Int) × (Int)))) (f1 : ((Int) × ((Int) × (Int))) → Option (Bool)) (hl : (s1).length ≤ maxLen) : lp48_1 big s1 f1 (List.length s1 : Int) 0 =
  forI (fun ix el (_ : Unit) K =>
    ((f1 el).bind fun r =>
    bif r then some (ix : Int)
    else K () : Option (Int)))
    (fun (_ : Unit) =>
    (some (-1) : Option (Int))) 0 s1 () := by
  refine iter_forI_from s1 (fun ix (_ : Unit) => (s1, f1, (List.length s1 : Int), (ix : Int))) _ _ ?_ ?_ (k := 0) (Nat.zero_le _) (len_lt_big hl) ()
  · rintro F k h _
    simp only [dec_lt h, condT, idx_get h, bindS, wrap_succ h hl]
  · rintro F _
    simp only [dec_end, condF]

theorem g48 (fuel : Nat) (s : List ((Int) × ((Int) × (Int)))) (f : ((Int) × ((Int) × (Int))) → Option (Bool)) : (fnK tab env48 6 ann48 fuel Try.f48 [] ps48 rs48 true (s, f) : Option (Int)) = (
  lp48_1 fuel s f (List.length s : Int) 0 : Option (Int)) := by kernel_rfl
theorem e48 (s : List ((Int) × ((Int) × (Int)))) (f : ((Int) × ((Int) × (Int))) → Option (Bool)) : D48 s f = (
  lp48_1 big s f (List.length s : Int) 0 : Option (Int)) := g48 big s f

/-! skiarea/patrol.hazard$1 -/
noncomputable def D49 (a0 : (Int) × ((Int) × (Int))) (a1 : Int) : Option (Bool) := d49 (a0, a1)
theorem e49 (h : (Int) × ((Int) × (Int))) (v : Int) : D49 h v = (
  some (h.1 == v) : Option (Bool)) := by kernel_rfl

/-! skiarea/patrol.hazard -/
noncomputable def D33 (a0 : List ((Int) × ((Int) × (Int)))) (a1 : Int) : Option (Int) := d33 (a0, a1)
theorem e33 (l : List ((Int) × ((Int) × (Int)))) (id_ : Int) : D33 l id_ = (
  (D48 l (fun y => D49 y id_)).bind fun r =>
  some r : Option (Int)) := by kernel_rfl

/-! slices.IndexFunc[[]skiarea/api.RunList,skiarea/api.RunList] -/
noncomputable def D50 (a0 : List ((Int) × ((List (Int)) × ((Int) × (List ((Int) × ((Int) × (Int)))))))) (a1 : ((Int) × ((List (Int)) × ((Int) × (List ((Int) × ((Int) × (Int))))))) → Option (Bool)) : Option (Int) := d50 (a0, a1)
noncomputable def lp50_1 (fuel : Nat)  (s1₀ : List ((Int) × ((List (Int)) × ((Int) × (List ((Int) × ((Int) × (Int)))))))) (f1₀ : ((Int) × ((List (Int)) × ((Int) × (List ((Int) × ((Int) × (Int))))))) → Option (Bool)) (v₀ : Int) (v1₀ : Int) : Option (Int) :=
  iter (fun F ((s1, f1, v, v1) : (List ((Int) × ((List (Int)) × ((Int) × (List ((Int) × ((Int) × (Int)))))))) × (((Int) × ((List (Int)) × ((Int) × (List ((Int) × ((Int) × (Int))))))) → Option (Bool)) × Int × Int) =>
    bif decide (v1 < v) then (
      (idx s1 v1).bind fun e =>
      (f1 e).bind fun r =>
      bif r then some v1
      else F (s1, f1, v, IntKind.i64.wrap (v1 + 1)))
    else some (-1)) fuel (s1₀, f1₀, v₀, v1₀)

theorem f50_1  (s1 : List ((Int) × ((List (Int)) × ((Int) × (List ((Int) × ((Int) × (Int)))))))) (f1 : ((Int) × ((List (Int)) × ((Int) × (List ((Int) × ((Int) × (Int))))))) → Option (Bool)) (hl : (s1).length ≤ maxLen) : lp50_1 big s1 f1 (List.length s1 : Int) 0 =
  forI (fun ix el (_ : Unit) K =>
    ((f1 el).bind fun r =>
    bif r then some (ix : Int)
    else K () : Option (Int)))
    (fun (_ : Unit) =>
    (some (-1) : Option (Int))) 0 s1 () := by
  refine iter_forI_from s1 (fun ix (_ : Unit) => (s1, f1, (List.length s1 : Int), (ix : Int))) _ _ ?_ ?_ (k := 0) (Nat.zero_le _) (len_lt_big hl) ()
  · rintro F k h _
    simp only [dec_lt h, condT, idx_get h, bindS, wrap_succ h hl]
  · rintro F _
    simp only [dec_end, condF]

theorem g50 (fuel : Nat) (s : List ((Int) × ((List (Int)) × ((Int) × (List ((Int) × ((Int) × (Int)))))))) (f : ((Int) × ((List (Int)) × ((Int) × (List ((Int) × ((Int) × (Int))))))) → Option (Bool)) : (fnK tab env50 6 ann50 fuel Try.f50 [] ps50 rs50 true (s, f) : Option (Int)) = (
  lp50_1 fuel s f (List.length s : Int) 0 : Option (Int)) := by kernel_rfl
theorem e50 (s : List ((Int) × ((List (Int)) × ((Int) × (List ((Int) × ((Int) × (Int)))))))) (f : ((Int) × ((List (Int)) × ((Int) × (List ((Int) × ((Int) × (Int))))))) → Option (Bool)) : D50 s f = (
  lp50_1 big s f (List.length s : Int) 0 : Option (Int)) := g50 big s f

/-! skiarea/patrol.list$1 -/
noncomputable def D51 (a0 : (Int) × ((List (Int)) × ((Int) × (List ((Int) × ((Int) × (Int))))))) (a1 : Int) : Option (Bool) := d51 (a0, a1)
theorem e51 (l : (Int) × ((List (Int)) × ((Int) × (List ((Int) × ((Int) × (Int))))))) (v : Int) : D51 l v = (
  some (l.1 == v) : Option (Bool)) := by kernel_rfl

/-! skiarea/patrol.list -/
noncomputable def D34 (a0 : (List ((Int) × ((List (Int)) × ((Int) × (List ((Int) × ((Int) × (Int)))))))) × (List ((Int) × ((Int) × (Int))))) (a1 : Int) : Option (Int) := d34 (a0, a1)
theorem e34 (p : (List ((Int) × ((List (Int)) × ((Int) × (List ((Int) × ((Int) × (Int)))))))) × (List ((Int) × ((Int) × (Int))))) (run_ : Int) : D34 p run_ = (
  (D50 p.1 (fun y => D51 y run_)).bind fun r =>
  some r : Option (Int)) := by kernel_rfl

/-! skiarea/patrol.Right -/
noncomputable def D12 (a0 : (List ((Int) × ((List (Int)) × ((Int) × (List ((Int) × ((Int) × (Int)))))))) × (List ((Int) × ((Int) × (Int))))) : Option (Int) := d12 a0
noncomputable def lp12_1 (fuel : Nat)  (p2₀ : (List ((Int) × ((List (Int)) × ((Int) × (List ((Int) × ((Int) × (Int)))))))) × (List ((Int) × ((Int) × (Int))))) (v3₀ : List ((Int) × ((Int) × (Int)))) (v4₀ : Int) (v5₀ : Int) : Option (Int) :=
  iter (fun F1 ((p2, v3, v4, v5) : ((List ((Int) × ((List (Int)) × ((Int) × (List ((Int) × ((Int) × (Int)))))))) × (List ((Int) × ((Int) × (Int))))) × (List ((Int) × ((Int) × (Int)))) × Int × Int) =>
    bif decide (v5 < v4) then (
      (idx v3 v5).bind fun e =>
      bif decide (e.1 < 1) then some 2
      else bif decide (e.1 > 9999) then some 2
      else bif decide (e.2.2 < 0) then some 2
      else bif decide (e.2.2 > 20000000) then some 2
      else bif (decide (0 ≤ (0 : Int)) && (decide ((0 : Int) ≤ v5) && decide ((v5 : Int) ≤ (List.length p2.2 : Int)))) then (
        (D33 (List.drop (Int.toNat 0) (List.take (Int.toNat v5) p2.2)) e.1).bind fun r =>
        bif decide (r ≥ 0) then some 7
        else (D34 p2 e.2.1).bind fun r1 =>
        bif decide (r1 < 0) then some 8
        else F1 (p2, v3, v4, IntKind.i64.wrap (v5 + 1)))
      else none)
    else some 0) fuel (p2₀, v3₀, v4₀, v5₀)

theorem f12_1  (p2 : (List ((Int) × ((List (Int)) × ((Int) × (List ((Int) × ((Int) × (Int)))))))) × (List ((Int) × ((Int) × (Int))))) (v3 : List ((Int) × ((Int) × (Int)))) (hl : (v3).length ≤ maxLen) : lp12_1 big p2 v3 (List.length v3 : Int) 0 =
  forI (fun ix el (_ : Unit) K =>
    (bif decide (el.1 < 1) then some 2
    else bif decide (el.1 > 9999) then some 2
    else bif decide (el.2.2 < 0) then some 2
    else bif decide (el.2.2 > 20000000) then some 2
    else bif (decide (0 ≤ (0 : Int)) && (decide ((0 : Int) ≤ (ix : Int)) && decide (((ix : Int) : Int) ≤ (List.length p2.2 : Int)))) then (
      (D33 (List.drop (Int.toNat 0) (List.take (Int.toNat (ix : Int)) p2.2)) el.1).bind fun r =>
      bif decide (r ≥ 0) then some 7
      else (D34 p2 el.2.1).bind fun r1 =>
      bif decide (r1 < 0) then some 8
      else K ())
    else none : Option (Int)))
    (fun (_ : Unit) =>
    (some 0 : Option (Int))) 0 v3 () := by
  refine iter_forI_from v3 (fun ix (_ : Unit) => (p2, v3, (List.length v3 : Int), (ix : Int))) _ _ ?_ ?_ (k := 0) (Nat.zero_le _) (len_lt_big hl) ()
  · rintro F k h _
    simp only [dec_lt h, condT, idx_get h, bindS, wrap_succ h hl]
  · rintro F _
    simp only [dec_end, condF]

noncomputable def lp12_3 (fuel : Nat)  (p1₀ : (List ((Int) × ((List (Int)) × ((Int) × (List ((Int) × ((Int) × (Int)))))))) × (List ((Int) × ((Int) × (Int))))) (v₀ : List ((Int) × ((List (Int)) × ((Int) × (List ((Int) × ((Int) × (Int)))))))) (v1₀ : Int) (v2₀ : Int) : Option (Int) :=
  iter (fun F ((p1, v, v1, v2) : ((List ((Int) × ((List (Int)) × ((Int) × (List ((Int) × ((Int) × (Int)))))))) × (List ((Int) × ((Int) × (Int))))) × (List ((Int) × ((List (Int)) × ((Int) × (List ((Int) × ((Int) × (Int)))))))) × Int × Int) =>
    bif decide (v2 < v1) then (
      (idx v v2).bind fun e =>
      bif decide (e.1 < 1) then some 2
      else bif decide (e.1 > 9999) then some 2
      else bif decide (v2 > 0) then (
        (idx p1.1 (IntKind.i64.wrap (v2 - 1))).bind fun e1 =>
        bif decide (e.1 ≤ e1.1) then some 11
        else (D32 e.2).bind fun r =>
        bif (r != 0) then some r
        else F (p1, v, v1, IntKind.i64.wrap (v2 + 1)))
      else (D32 e.2).bind fun r =>
      bif (r != 0) then some r
      else F (p1, v, v1, IntKind.i64.wrap (v2 + 1)))
    else lp12_1 fuel p1 p1.2 (List.length p1.2 : Int) 0) fuel (p1₀, v₀, v1₀, v2₀)

theorem f12_3  (p1 : (List ((Int) × ((List (Int)) × ((Int) × (List ((Int) × ((Int) × (Int)))))))) × (List ((Int) × ((Int) × (Int))))) (v : List ((Int) × ((List (Int)) × ((Int) × (List ((Int) × ((Int) × (Int)))))))) (hl : (v).length ≤ maxLen) : lp12_3 big p1 v (List.length v : Int) 0 =
  forI (fun ix el (_ : Unit) K =>
    (bif decide (el.1 < 1) then some 2
    else bif decide (el.1 > 9999) then some 2
    else bif decide ((ix : Int) > 0) then (
      (idx p1.1 (IntKind.i64.wrap ((ix : Int) - 1))).bind fun e1 =>
      bif decide (el.1 ≤ e1.1) then some 11
      else (D32 el.2).bind fun r =>
      bif (r != 0) then some r
      else K ())
    else (D32 el.2).bind fun r =>
    bif (r != 0) then some r
    else K () : Option (Int)))
    (fun (_ : Unit) =>
    (lp12_1 big p1 p1.2 (List.length p1.2 : Int) 0 : Option (Int))) 0 v () := by
  refine iter_forI_from v (fun ix (_ : Unit) => (p1, v, (List.length v : Int), (ix : Int))) _ _ ?_ ?_ (k := 0) (Nat.zero_le _) (len_lt_big hl) ()
  · rintro F k h _
    simp only [dec_lt h, condT, idx_get h, bindS, wrap_succ h hl]
  · rintro F _
    simp only [dec_end, condF]

theorem g12 (fuel : Nat) (p : (List ((Int) × ((List (Int)) × ((Int) × (List ((Int) × ((Int) × (Int)))))))) × (List ((Int) × ((Int) × (Int))))) : (fnK tab env12 8 ann12 fuel Try.f12 [] ps12 rs12 true p : Option (Int)) = (
  bif decide ((List.length p.1 : Int) > 64) then some 4
  else bif decide ((List.length p.2 : Int) > 200) then some 4
  else lp12_3 fuel p p.1 (List.length p.1 : Int) 0 : Option (Int)) := by kernel_rfl
theorem e12 (p : (List ((Int) × ((List (Int)) × ((Int) × (List ((Int) × ((Int) × (Int)))))))) × (List ((Int) × ((Int) × (Int))))) : D12 p = (
  bif decide ((List.length p.1 : Int) > 64) then some 4
  else bif decide ((List.length p.2 : Int) > 200) then some 4
  else lp12_3 big p p.1 (List.length p.1 : Int) 0 : Option (Int)) := g12 big p

noncomputable def D54 (a0 : List (Int)) : Option (List (Int)) := d54 a0
theorem e54 (s : List (Int)) : D54 s = (bif (Nat.ble ((List.length ([] : List (Int)) + List.length s) * 8) appendLimit && Nat.ble (List.length ([] : List (Int)) + List.length s) 9223372036854775807) then some (([] : List (Int)) ++ s) else none) := rfl

/-! skiarea/inspect.Sign -/
noncomputable def D37 (a0 : (List (Int)) × ((Int) × (List ((Int) × ((Int) × (Int)))))) (a1 : Int) (a2 : Int) (a3 : Int) : Option (((List (Int)) × ((Int) × (List ((Int) × ((Int) × (Int)))))) × (Int)) := d37 (a0, a1, a2, a3)
noncomputable def lp37_1 (fuel : Nat)  (item1₀ : Int) (by_1₀ : Int) (t1₀ : Int) (v₀ : (List (Int)) × ((Int) × (List ((Int) × ((Int) × (Int)))))) (out₀ : (List (Int)) × ((Int) × (List ((Int) × ((Int) × (Int)))))) (v1₀ : List ((Int) × ((Int) × (Int)))) (v2₀ : Int) (v3₀ : Int) : Option (((List (Int)) × ((Int) × (List ((Int) × ((Int) × (Int)))))) × (Int)) :=
  iter (fun F ((item1, by_1, t1, v, out, v1, v2, v3) : Int × Int × Int × ((List (Int)) × ((Int) × (List ((Int) × ((Int) × (Int)))))) × ((List (Int)) × ((Int) × (List ((Int) × ((Int) × (Int)))))) × (List ((Int) × ((Int) × (Int)))) × Int × Int) =>
    bif decide (v3 < v2) then (
      (idx v1 v3).bind fun e =>
      bif (e.1 != item1) then (
        bif (Nat.ble ((List.length out.2.2 + List.length [e]) * 24) appendLimit && Nat.ble (List.length out.2.2 + List.length [e]) 9223372036854775807) then F (item1, by_1, t1, v, (out.1, out.2.1, out.2.2 ++ [e]), v1, v2, IntKind.i64.wrap (v3 + 1))
        else none)
      else F (item1, by_1, t1, v, out, v1, v2, IntKind.i64.wrap (v3 + 1)))
    else bif (Nat.ble ((List.length out.2.2 + List.length [(item1, by_1, t1)]) * 24) appendLimit && Nat.ble (List.length out.2.2 + List.length [(item1, by_1, t1)]) 9223372036854775807) then (
      (D32 (out.1, out.2.1, out.2.2 ++ [(item1, by_1, t1)])).bind fun r1 =>
      bif (r1 != 0) then some ((([] : List (Int)), 0, ([] : List ((Int) × ((Int) × (Int))))), r1)
      else some ((out.1, out.2.1, out.2.2 ++ [(item1, by_1, t1)]), 0))
    else none) fuel (item1₀, by_1₀, t1₀, v₀, out₀, v1₀, v2₀, v3₀)

theorem f37_1  (item1 : Int) (by_1 : Int) (t1 : Int) (v : (List (Int)) × ((Int) × (List ((Int) × ((Int) × (Int)))))) (out : (List (Int)) × ((Int) × (List ((Int) × ((Int) × (Int)))))) (v1 : List ((Int) × ((Int) × (Int)))) (hl : (v1).length ≤ maxLen) : lp37_1 big item1 by_1 t1 v out v1 (List.length v1 : Int) 0 =
  forE (fun  el (out : ((List (Int)) × ((Int) × (List ((Int) × ((Int) × (Int))))))) K =>
    (bif (el.1 != item1) then (
      bif (Nat.ble ((List.length out.2.2 + List.length [el]) * 24) appendLimit && Nat.ble (List.length out.2.2 + List.length [el]) 9223372036854775807) then K (out.1, out.2.1, out.2.2 ++ [el])
      else none)
    else K out : Option (((List (Int)) × ((Int) × (List ((Int) × ((Int) × (Int)))))) × (Int))))
    (fun (out : ((List (Int)) × ((Int) × (List ((Int) × ((Int) × (Int))))))) =>
    (bif (Nat.ble ((List.length out.2.2 + List.length [(item1, by_1, t1)]) * 24) appendLimit && Nat.ble (List.length out.2.2 + List.length [(item1, by_1, t1)]) 9223372036854775807) then (
      (D32 (out.1, out.2.1, out.2.2 ++ [(item1, by_1, t1)])).bind fun r1 =>
      bif (r1 != 0) then some ((([] : List (Int)), 0, ([] : List ((Int) × ((Int) × (Int))))), r1)
      else some ((out.1, out.2.1, out.2.2 ++ [(item1, by_1, t1)]), 0))
    else none : Option (((List (Int)) × ((Int) × (List ((Int) × ((Int) × (Int)))))) × (Int)))) v1 out := by
  refine iter_forE v1 (fun ix (out : ((List (Int)) × ((Int) × (List ((Int) × ((Int) × (Int))))))) => (item1, by_1, t1, v, out, v1, (List.length v1 : Int), (ix : Int))) _ _ ?_ ?_ (len_lt_big hl) out
  · rintro F k h out
    simp only [dec_lt h, condT, idx_get h, bindS, wrap_succ h hl]
  · rintro F out
    simp only [dec_end, condF]

theorem g37 (fuel : Nat) (l : (List (Int)) × ((Int) × (List ((Int) × ((Int) × (Int)))))) (item : Int) (by_ : Int) (t : Int) : (fnK tab env37 14 ann37 fuel Try.f37 [] ps37 rs37 true (l, item, by_, t) : Option (((List (Int)) × ((Int) × (List ((Int) × ((Int) × (Int)))))) × (Int))) = (
  (D54 l.1).bind fun r =>
  lp37_1 fuel item by_ t (([] : List (Int)), 0, ([] : List ((Int) × ((Int) × (Int))))) (r, l.2.1, ([] : List ((Int) × ((Int) × (Int))))) l.2.2 (List.length l.2.2 : Int) 0 : Option (((List (Int)) × ((Int) × (List ((Int) × ((Int) × (Int)))))) × (Int))) := by kernel_rfl
theorem e37 (l : (List (Int)) × ((Int) × (List ((Int) × ((Int) × (Int)))))) (item : Int) (by_ : Int) (t : Int) : D37 l item by_ t = (
  (D54 l.1).bind fun r =>
  lp37_1 big item by_ t (([] : List (Int)), 0, ([] : List ((Int) × ((Int) × (Int))))) (r, l.2.1, ([] : List ((Int) × ((Int) × (Int))))) l.2.2 (List.length l.2.2 : Int) 0 : Option (((List (Int)) × ((Int) × (List ((Int) × ((Int) × (Int)))))) × (Int))) := g37 big l item by_ t

noncomputable def D55 (a0 : List ((Int) × ((Int) × (Int)))) : Option (List ((Int) × ((Int) × (Int)))) := d55 a0
theorem e55 (s : List ((Int) × ((Int) × (Int)))) : D55 s = (bif (Nat.ble ((List.length ([] : List ((Int) × ((Int) × (Int)))) + List.length s) * 24) appendLimit && Nat.ble (List.length ([] : List ((Int) × ((Int) × (Int)))) + List.length s) 9223372036854775807) then some (([] : List ((Int) × ((Int) × (Int)))) ++ s) else none) := rfl

noncomputable def D56 (a0 : List ((Int) × ((Int) × (Int)))) : Option (List ((Int) × ((Int) × (Int)))) := d56 a0
theorem e56 (s : List ((Int) × ((Int) × (Int)))) : D56 s = (bif (Nat.ble ((List.length ([] : List ((Int) × ((Int) × (Int)))) + List.length s) * 24) appendLimit && Nat.ble (List.length ([] : List ((Int) × ((Int) × (Int)))) + List.length s) 9223372036854775807) then some (([] : List ((Int) × ((Int) × (Int)))) ++ s) else none) := rfl

/-! skiarea/patrol.copied -/
noncomputable def D38 (a0 : (List ((Int) × ((List (Int)) × ((Int) × (List ((Int) × ((Int) × (Int)))))))) × (List ((Int) × ((Int) × (Int))))) : Option ((List ((Int) × ((List (Int)) × ((Int) × (List ((Int) × ((Int) × (Int)))))))) × (List ((Int) × ((Int) × (Int))))) := d38 a0
noncomputable def lp38_1 (fuel : Nat)  (p1₀ : (List ((Int) × ((List (Int)) × ((Int) × (List ((Int) × ((Int) × (Int)))))))) × (List ((Int) × ((Int) × (Int))))) (v₀ : (List ((Int) × ((List (Int)) × ((Int) × (List ((Int) × ((Int) × (Int)))))))) × (List ((Int) × ((Int) × (Int))))) (lists₀ : List ((Int) × ((List (Int)) × ((Int) × (List ((Int) × ((Int) × (Int)))))))) (v1₀ : List ((Int) × ((List (Int)) × ((Int) × (List ((Int) × ((Int) × (Int)))))))) (v2₀ : Int) (v3₀ : Int) : Option ((List ((Int) × ((List (Int)) × ((Int) × (List ((Int) × ((Int) × (Int)))))))) × (List ((Int) × ((Int) × (Int))))) :=
  iter (fun F ((p1, v, lists, v1, v2, v3) : ((List ((Int) × ((List (Int)) × ((Int) × (List ((Int) × ((Int) × (Int)))))))) × (List ((Int) × ((Int) × (Int))))) × ((List ((Int) × ((List (Int)) × ((Int) × (List ((Int) × ((Int) × (Int)))))))) × (List ((Int) × ((Int) × (Int))))) × (List ((Int) × ((List (Int)) × ((Int) × (List ((Int) × ((Int) × (Int)))))))) × (List ((Int) × ((List (Int)) × ((Int) × (List ((Int) × ((Int) × (Int)))))))) × Int × Int) =>
    bif decide (v3 < v2) then (
      (idx v1 v3).bind fun e =>
      (D54 e.2.1).bind fun r =>
      (D55 e.2.2.2).bind fun r1 =>
      bif (Nat.ble ((List.length lists + List.length [(e.1, r, e.2.2.1, r1)]) * 64) appendLimit && Nat.ble (List.length lists + List.length [(e.1, r, e.2.2.1, r1)]) 9223372036854775807) then F (p1, v, lists ++ [(e.1, r, e.2.2.1, r1)], v1, v2, IntKind.i64.wrap (v3 + 1))
      else none)
    else (D56 p1.2).bind fun r =>
    some (lists, r)) fuel (p1₀, v₀, lists₀, v1₀, v2₀, v3₀)

theorem f38_1  (p1 : (List ((Int) × ((List (Int)) × ((Int) × (List ((Int) × ((Int) × (Int)))))))) × (List ((Int) × ((Int) × (Int))))) (v : (List ((Int) × ((List (Int)) × ((Int) × (List ((Int) × ((Int) × (Int)))))))) × (List ((Int) × ((Int) × (Int))))) (lists : List ((Int) × ((List (Int)) × ((Int) × (List ((Int) × ((Int) × (Int)))))))) (v1 : List ((Int) × ((List (Int)) × ((Int) × (List ((Int) × ((Int) × (Int)))))))) (hl : (v1).length ≤ maxLen) : lp38_1 big p1 v lists v1 (List.length v1 : Int) 0 =
  forE (fun  el (lists : (List ((Int) × ((List (Int)) × ((Int) × (List ((Int) × ((Int) × (Int))))))))) K =>
    ((D54 el.2.1).bind fun r =>
    (D55 el.2.2.2).bind fun r1 =>
    bif (Nat.ble ((List.length lists + List.length [(el.1, r, el.2.2.1, r1)]) * 64) appendLimit && Nat.ble (List.length lists + List.length [(el.1, r, el.2.2.1, r1)]) 9223372036854775807) then K (lists ++ [(el.1, r, el.2.2.1, r1)])
    else none : Option ((List ((Int) × ((List (Int)) × ((Int) × (List ((Int) × ((Int) × (Int)))))))) × (List ((Int) × ((Int) × (Int)))))))
    (fun (lists : (List ((Int) × ((List (Int)) × ((Int) × (List ((Int) × ((Int) × (Int))))))))) =>
    ((D56 p1.2).bind fun r =>
    some (lists, r) : Option ((List ((Int) × ((List (Int)) × ((Int) × (List ((Int) × ((Int) × (Int)))))))) × (List ((Int) × ((Int) × (Int))))))) v1 lists := by
  refine iter_forE v1 (fun ix (lists : (List ((Int) × ((List (Int)) × ((Int) × (List ((Int) × ((Int) × (Int))))))))) => (p1, v, lists, v1, (List.length v1 : Int), (ix : Int))) _ _ ?_ ?_ (len_lt_big hl) lists
  · rintro F k h lists
    simp only [dec_lt h, condT, idx_get h, bindS, wrap_succ h hl]
  · rintro F lists
    simp only [dec_end, condF]

theorem g38 (fuel : Nat) (p : (List ((Int) × ((List (Int)) × ((Int) × (List ((Int) × ((Int) × (Int)))))))) × (List ((Int) × ((Int) × (Int))))) : (fnK tab env38 6 ann38 fuel Try.f38 [] ps38 rs38 true p : Option ((List ((Int) × ((List (Int)) × ((Int) × (List ((Int) × ((Int) × (Int)))))))) × (List ((Int) × ((Int) × (Int)))))) = (
  bif (decide (0 ≤ (0 : Int)) && (decide ((0 : Int) ≤ (List.length p.1 : Int)) && (decide (64 * ((List.length p.1 : Int) : Int) ≤ (appendLimit : Int)) && decide (((List.length p.1 : Int) : Int) ≤ 9223372036854775807)))) then lp38_1 fuel p (([] : List ((Int) × ((List (Int)) × ((Int) × (List ((Int) × ((Int) × (Int)))))))), ([] : List ((Int) × ((Int) × (Int))))) (List.replicate (Int.toNat 0) (0, ([] : List (Int)), 0, ([] : List ((Int) × ((Int) × (Int)))))) p.1 (List.length p.1 : Int) 0
  else none : Option ((List ((Int) × ((List (Int)) × ((Int) × (List ((Int) × ((Int) × (Int)))))))) × (List ((Int) × ((Int) × (Int)))))) := by kernel_rfl
theorem e38 (p : (List ((Int) × ((List (Int)) × ((Int) × (List ((Int) × ((Int) × (Int)))))))) × (List ((Int) × ((Int) × (Int))))) : D38 p = (
  bif (decide (0 ≤ (0 : Int)) && (decide ((0 : Int) ≤ (List.length p.1 : Int)) && (decide (64 * ((List.length p.1 : Int) : Int) ≤ (appendLimit : Int)) && decide (((List.length p.1 : Int) : Int) ≤ 9223372036854775807)))) then lp38_1 big p (([] : List ((Int) × ((List (Int)) × ((Int) × (List ((Int) × ((Int) × (Int)))))))), ([] : List ((Int) × ((Int) × (Int))))) (List.replicate (Int.toNat 0) (0, ([] : List (Int)), 0, ([] : List ((Int) × ((Int) × (Int)))))) p.1 (List.length p.1 : Int) 0
  else none : Option ((List ((Int) × ((List (Int)) × ((Int) × (List ((Int) × ((Int) × (Int)))))))) × (List ((Int) × ((Int) × (Int)))))) := g38 big p

/-! skiarea/patrol.Sign -/
noncomputable def D15 (a0 : (List ((Int) × ((List (Int)) × ((Int) × (List ((Int) × ((Int) × (Int)))))))) × (List ((Int) × ((Int) × (Int))))) (a1 : Int) (a2 : Int) (a3 : Int) (a4 : Int) : Option (((List ((Int) × ((List (Int)) × ((Int) × (List ((Int) × ((Int) × (Int)))))))) × (List ((Int) × ((Int) × (Int))))) × (Int)) := d15 (a0, a1, a2, a3, a4)
theorem e15 (p : (List ((Int) × ((List (Int)) × ((Int) × (List ((Int) × ((Int) × (Int)))))))) × (List ((Int) × ((Int) × (Int))))) (run_ : Int) (item : Int) (by_ : Int) (t : Int) : D15 p run_ item by_ t = (
  (D34 p run_).bind fun r =>
  bif decide (r < 0) then some ((([] : List ((Int) × ((List (Int)) × ((Int) × (List ((Int) × ((Int) × (Int)))))))), ([] : List ((Int) × ((Int) × (Int))))), 8)
  else (idx p.1 r).bind fun e =>
  (D37 e.2 item by_ t).bind fun r1 =>
  bif (r1.2 != 0) then some ((([] : List ((Int) × ((List (Int)) × ((Int) × (List ((Int) × ((Int) × (Int)))))))), ([] : List ((Int) × ((Int) × (Int))))), r1.2)
  else (D38 p).bind fun r2 =>
  (idx r2.1 r).bind fun e1 =>
  some ((List.set r2.1 (Int.toNat r) (e1.1, r1.1), r2.2), 0) : Option (((List ((Int) × ((List (Int)) × ((Int) × (List ((Int) × ((Int) × (Int)))))))) × (List ((Int) × ((Int) × (Int))))) × (Int))) := by kernel_rfl

/-! skiarea/patrol.Report -/
noncomputable def D18 (a0 : (List ((Int) × ((List (Int)) × ((Int) × (List ((Int) × ((Int) × (Int)))))))) × (List ((Int) × ((Int) × (Int))))) (a1 : (Int) × ((Int) × (Int))) : Option (((List ((Int) × ((List (Int)) × ((Int) × (List ((Int) × ((Int) × (Int)))))))) × (List ((Int) × ((Int) × (Int))))) × (Int)) := d18 (a0, a1)
theorem e18 (p : (List ((Int) × ((List (Int)) × ((Int) × (List ((Int) × ((Int) × (Int)))))))) × (List ((Int) × ((Int) × (Int))))) (h : (Int) × ((Int) × (Int))) : D18 p h = (
  (D38 p).bind fun r =>
  bif (Nat.ble ((List.length r.2 + List.length [h]) * 24) appendLimit && Nat.ble (List.length r.2 + List.length [h]) 9223372036854775807) then (
    (D12 (r.1, r.2 ++ [h])).bind fun r1 =>
    bif (r1 != 0) then some ((([] : List ((Int) × ((List (Int)) × ((Int) × (List ((Int) × ((Int) × (Int)))))))), ([] : List ((Int) × ((Int) × (Int))))), r1)
    else some ((r.1, r.2 ++ [h]), 0))
  else none : Option (((List ((Int) × ((List (Int)) × ((Int) × (List ((Int) × ((Int) × (Int)))))))) × (List ((Int) × ((Int) × (Int))))) × (Int))) := by kernel_rfl

noncomputable def D41 (a0 : List ((Int) × ((Int) × (Int)))) (a1 : Int) (a2 : Int) : Option (List ((Int) × ((Int) × (Int)))) := d41 (a0, a1, a2)

/-! skiarea/patrol.Remove -/
noncomputable def D20 (a0 : (List ((Int) × ((List (Int)) × ((Int) × (List ((Int) × ((Int) × (Int)))))))) × (List ((Int) × ((Int) × (Int))))) (a1 : Int) : Option (((List ((Int) × ((List (Int)) × ((Int) × (List ((Int) × ((Int) × (Int)))))))) × (List ((Int) × ((Int) × (Int))))) × (Int)) := d20 (a0, a1)
theorem e20 (p : (List ((Int) × ((List (Int)) × ((Int) × (List ((Int) × ((Int) × (Int)))))))) × (List ((Int) × ((Int) × (Int))))) (id_ : Int) : D20 p id_ = (
  (D33 p.2 id_).bind fun r =>
  bif decide (r < 0) then some ((([] : List ((Int) × ((List (Int)) × ((Int) × (List ((Int) × ((Int) × (Int)))))))), ([] : List ((Int) × ((Int) × (Int))))), 8)
  else (D38 p).bind fun r1 =>
  (D41 r1.2 r (IntKind.i64.wrap (r + 1))).bind fun r2 =>
  some ((r1.1, r2), 0) : Option (((List ((Int) × ((List (Int)) × ((Int) × (List ((Int) × ((Int) × (Int)))))))) × (List ((Int) × ((Int) × (Int))))) × (Int))) := by kernel_rfl

/-! skiarea/inspect.Open$1 -/
noncomputable def D58 (a0 : (Int) × ((Int) × (Int))) (a1 : Int) (a2 : Int) (a3 : (List (Int)) × ((Int) × (List ((Int) × ((Int) × (Int)))))) : Option (Bool) := d58 (a0, a1, a2, a3)
theorem e58 (g : (Int) × ((Int) × (Int))) (v : Int) (v1 : Int) (v2 : (List (Int)) × ((Int) × (List ((Int) × ((Int) × (Int)))))) : D58 g v v1 v2 = (
  bif (g.1 == v) then (
    bif decide (g.2.2 ≤ v1) then some (decide (v1 < IntKind.i64.wrap (g.2.2 + v2.2.1)))
    else some false)
  else some false : Option (Bool)) := by kernel_rfl

/-! slices.IndexFunc[[]skiarea/api.Sign,skiarea/api.Sign] -/
noncomputable def D62 (a0 : List ((Int) × ((Int) × (Int)))) (a1 : ((Int) × ((Int) × (Int))) → Option (Bool)) : Option (Int) := d62 (a0, a1)
noncomputable def lp62_1 (fuel : Nat)  (s1₀ : List ((Int) × ((Int) × (Int)))) (f1₀ : ((Int) × ((Int) × (Int))) → Option (Bool)) (v₀ : Int) (v1₀ : Int) : Option (Int) :=
  iter (fun F ((s1, f1, v, v1) : (List ((Int) × ((Int) × (Int)))) × (((Int) × ((Int) × (Int))) → Option (Bool)) × Int × Int) =>
    bif decide (v1 < v) then (
      (idx s1 v1).bind fun e =>
      (f1 e).bind fun r =>
      bif r then some v1
      else F (s1, f1, v, IntKind.i64.wrap (v1 + 1)))
    else some (-1)) fuel (s1₀, f1₀, v₀, v1₀)

theorem f62_1  (s1 : List ((Int) × ((Int) × (Int)))) (f1 : ((Int) × ((Int) × (Int))) → Option (Bool)) (hl : (s1).length ≤ maxLen) : lp62_1 big s1 f1 (List.length s1 : Int) 0 =
  forI (fun ix el (_ : Unit) K =>
    ((f1 el).bind fun r =>
    bif r then some (ix : Int)
    else K () : Option (Int)))
    (fun (_ : Unit) =>
    (some (-1) : Option (Int))) 0 s1 () := by
  refine iter_forI_from s1 (fun ix (_ : Unit) => (s1, f1, (List.length s1 : Int), (ix : Int))) _ _ ?_ ?_ (k := 0) (Nat.zero_le _) (len_lt_big hl) ()
  · rintro F k h _
    simp only [dec_lt h, condT, idx_get h, bindS, wrap_succ h hl]
  · rintro F _
    simp only [dec_end, condF]

theorem g62 (fuel : Nat) (s : List ((Int) × ((Int) × (Int)))) (f : ((Int) × ((Int) × (Int))) → Option (Bool)) : (fnK tab env62 6 ann62 fuel Try.f62 [] ps62 rs62 true (s, f) : Option (Int)) = (
  lp62_1 fuel s f (List.length s : Int) 0 : Option (Int)) := by kernel_rfl
theorem e62 (s : List ((Int) × ((Int) × (Int)))) (f : ((Int) × ((Int) × (Int))) → Option (Bool)) : D62 s f = (
  lp62_1 big s f (List.length s : Int) 0 : Option (Int)) := g62 big s f

/-! slices.ContainsFunc[[]skiarea/api.Sign,skiarea/api.Sign] -/
noncomputable def D59 (a0 : List ((Int) × ((Int) × (Int)))) (a1 : ((Int) × ((Int) × (Int))) → Option (Bool)) : Option (Bool) := d59 (a0, a1)
theorem e59 (s : List ((Int) × ((Int) × (Int)))) (f : ((Int) × ((Int) × (Int))) → Option (Bool)) : D59 s f = (
  (D62 s f).bind fun r =>
  some (decide (r ≥ 0)) : Option (Bool)) := by kernel_rfl

/-! skiarea/inspect.Open -/
noncomputable def D45 (a0 : (List (Int)) × ((Int) × (List ((Int) × ((Int) × (Int)))))) (a1 : Int) : Option (List (Int)) := d45 (a0, a1)
noncomputable def lp45_1 (fuel : Nat)  (l1₀ : (List (Int)) × ((Int) × (List ((Int) × ((Int) × (Int)))))) (t1₀ : Int) (out₀ : List (Int)) (v₀ : List (Int)) (v1₀ : Int) (v2₀ : Int) : Option (List (Int)) :=
  iter (fun F ((l1, t1, out, v, v1, v2) : ((List (Int)) × ((Int) × (List ((Int) × ((Int) × (Int)))))) × Int × (List (Int)) × (List (Int)) × Int × Int) =>
    bif decide (v2 < v1) then (
      (idx v v2).bind fun e =>
      (D59 l1.2.2 (fun y => D58 y e t1 l1)).bind fun r =>
      bif (!r) then (
        bif (Nat.ble ((List.length out + List.length [e]) * 8) appendLimit && Nat.ble (List.length out + List.length [e]) 9223372036854775807) then F (l1, t1, out ++ [e], v, v1, IntKind.i64.wrap (v2 + 1))
        else none)
      else F (l1, t1, out, v, v1, IntKind.i64.wrap (v2 + 1)))
    else some out) fuel (l1₀, t1₀, out₀, v₀, v1₀, v2₀)

theorem f45_1  (l1 : (List (Int)) × ((Int) × (List ((Int) × ((Int) × (Int)))))) (t1 : Int) (out : List (Int)) (v : List (Int)) (hl : (v).length ≤ maxLen) : lp45_1 big l1 t1 out v (List.length v : Int) 0 =
  forE (fun  el (out : (List (Int))) K =>
    ((D59 l1.2.2 (fun y => D58 y el t1 l1)).bind fun r =>
    bif (!r) then (
      bif (Nat.ble ((List.length out + List.length [el]) * 8) appendLimit && Nat.ble (List.length out + List.length [el]) 9223372036854775807) then K (out ++ [el])
      else none)
    else K out : Option (List (Int))))
    (fun (out : (List (Int))) =>
    (some out : Option (List (Int)))) v out := by
  refine iter_forE v (fun ix (out : (List (Int))) => (l1, t1, out, v, (List.length v : Int), (ix : Int))) _ _ ?_ ?_ (len_lt_big hl) out
  · rintro F k h out
    simp only [dec_lt h, condT, idx_get h, bindS, wrap_succ h hl]
  · rintro F out
    simp only [dec_end, condF]

theorem g45 (fuel : Nat) (l : (List (Int)) × ((Int) × (List ((Int) × ((Int) × (Int)))))) (t : Int) : (fnK tab env45 9 ann45 fuel Try.f45 [] ps45 rs45 true (l, t) : Option (List (Int))) = (
  lp45_1 fuel l t ([] : List (Int)) l.1 (List.length l.1 : Int) 0 : Option (List (Int))) := by kernel_rfl
theorem e45 (l : (List (Int)) × ((Int) × (List ((Int) × ((Int) × (Int)))))) (t : Int) : D45 l t = (
  lp45_1 big l t ([] : List (Int)) l.1 (List.length l.1 : Int) 0 : Option (List (Int))) := g45 big l t

/-! skiarea/inspect.Done -/
noncomputable def D27 (a0 : (List (Int)) × ((Int) × (List ((Int) × ((Int) × (Int)))))) (a1 : Int) : Option (Bool) := d27 (a0, a1)
theorem e27 (l : (List (Int)) × ((Int) × (List ((Int) × ((Int) × (Int)))))) (t : Int) : D27 l t = (
  (D45 l t).bind fun r =>
  some ((List.length r : Int) == 0) : Option (Bool)) := by kernel_rfl

/-! slices.ContainsFunc[[]skiarea/api.Hazard,skiarea/api.Hazard] -/
noncomputable def D42 (a0 : List ((Int) × ((Int) × (Int)))) (a1 : ((Int) × ((Int) × (Int))) → Option (Bool)) : Option (Bool) := d42 (a0, a1)
theorem e42 (s : List ((Int) × ((Int) × (Int)))) (f : ((Int) × ((Int) × (Int))) → Option (Bool)) : D42 s f = (
  (D48 s f).bind fun r =>
  some (decide (r ≥ 0)) : Option (Bool)) := by kernel_rfl

/-! skiarea/patrol.Ready$1 -/
noncomputable def D43 (a0 : (Int) × ((Int) × (Int))) (a1 : Int) : Option (Bool) := d43 (a0, a1)
theorem e43 (h : (Int) × ((Int) × (Int))) (v : Int) : D43 h v = (
  some (h.2.1 == v) : Option (Bool)) := by kernel_rfl

/-! skiarea/patrol.Ready -/
noncomputable def D22 (a0 : (List ((Int) × ((List (Int)) × ((Int) × (List ((Int) × ((Int) × (Int)))))))) × (List ((Int) × ((Int) × (Int))))) (a1 : Int) (a2 : Int) : Option (Bool) := d22 (a0, a1, a2)
theorem e22 (p : (List ((Int) × ((List (Int)) × ((Int) × (List ((Int) × ((Int) × (Int)))))))) × (List ((Int) × ((Int) × (Int))))) (run_ : Int) (t : Int) : D22 p run_ t = (
  (D34 p run_).bind fun r =>
  bif decide (r < 0) then some false
  else (idx p.1 r).bind fun e =>
  (D27 e.2 t).bind fun r1 =>
  bif (!r1) then some false
  else (D42 p.2 (fun y => D43 y run_)).bind fun r2 =>
  some (!r2) : Option (Bool)) := by kernel_rfl

/-! skiarea/skiarearef53.SameInts -/
noncomputable def D24 (a0 : List (Int)) (a1 : List (Int)) : Option (Bool) := d24 (a0, a1)
noncomputable def lp24_1 (fuel : Nat)  (a1₀ : List (Int)) (b1₀ : List (Int)) (i₀ : Int) : Option (Bool) :=
  iter (fun F ((a1, b1, i) : (List (Int)) × (List (Int)) × Int) =>
    bif decide (i < (List.length a1 : Int)) then (
      (idx a1 i).bind fun e =>
      (idx b1 i).bind fun e1 =>
      bif (e != e1) then some false
      else F (a1, b1, IntKind.i64.wrap (i + 1)))
    else some true) fuel (a1₀, b1₀, i₀)

theorem f24_1  (a1 : List (Int)) (b1 : List (Int)) (hl : (a1).length ≤ maxLen) : lp24_1 big a1 b1 0 =
  forI (fun ix el (_ : Unit) K =>
    ((idx b1 (ix : Int)).bind fun e1 =>
    bif (el != e1) then some false
    else K () : Option (Bool)))
    (fun (_ : Unit) =>
    (some true : Option (Bool))) 0 a1 () := by
  refine iter_forI_from a1 (fun ix (_ : Unit) => (a1, b1, (ix : Int))) _ _ ?_ ?_ (k := 0) (Nat.zero_le _) (len_lt_big hl) ()
  · rintro F k h _
    simp only [dec_lt h, condT, idx_get h, bindS, wrap_succ h hl]
  · rintro F _
    simp only [dec_end, condF]

theorem g24 (fuel : Nat) (a : List (Int)) (b : List (Int)) : (fnK tab env24 6 ann24 fuel Try.f24 [] ps24 rs24 true (a, b) : Option (Bool)) = (
  bif ((List.length a : Int) != (List.length b : Int)) then some false
  else lp24_1 fuel a b 0 : Option (Bool)) := by kernel_rfl
theorem e24 (a : List (Int)) (b : List (Int)) : D24 a b = (
  bif ((List.length a : Int) != (List.length b : Int)) then some false
  else lp24_1 big a b 0 : Option (Bool)) := g24 big a b

/-! skiarea/patrol.Open -/
noncomputable def D25 (a0 : (List ((Int) × ((List (Int)) × ((Int) × (List ((Int) × ((Int) × (Int)))))))) × (List ((Int) × ((Int) × (Int))))) (a1 : Int) : Option (List (Int)) := d25 (a0, a1)
noncomputable def lp25_1 (fuel : Nat)  (t1₀ : Int) (p1₀ : (List ((Int) × ((List (Int)) × ((Int) × (List ((Int) × ((Int) × (Int)))))))) × (List ((Int) × ((Int) × (Int))))) (out₀ : List (Int)) (v₀ : List ((Int) × ((List (Int)) × ((Int) × (List ((Int) × ((Int) × (Int)))))))) (v1₀ : Int) (v2₀ : Int) : Option (List (Int)) :=
  iter (fun F ((t1, p1, out, v, v1, v2) : Int × ((List ((Int) × ((List (Int)) × ((Int) × (List ((Int) × ((Int) × (Int)))))))) × (List ((Int) × ((Int) × (Int))))) × (List (Int)) × (List ((Int) × ((List (Int)) × ((Int) × (List ((Int) × ((Int) × (Int)))))))) × Int × Int) =>
    bif decide (v2 < v1) then (
      (idx v v2).bind fun e =>
      (D22 p1 e.1 t1).bind fun r =>
      bif (!r) then (
        bif (Nat.ble ((List.length out + List.length [e.1]) * 8) appendLimit && Nat.ble (List.length out + List.length [e.1]) 9223372036854775807) then F (t1, p1, out ++ [e.1], v, v1, IntKind.i64.wrap (v2 + 1))
        else none)
      else F (t1, p1, out, v, v1, IntKind.i64.wrap (v2 + 1)))
    else some out) fuel (t1₀, p1₀, out₀, v₀, v1₀, v2₀)

theorem f25_1  (t1 : Int) (p1 : (List ((Int) × ((List (Int)) × ((Int) × (List ((Int) × ((Int) × (Int)))))))) × (List ((Int) × ((Int) × (Int))))) (out : List (Int)) (v : List ((Int) × ((List (Int)) × ((Int) × (List ((Int) × ((Int) × (Int)))))))) (hl : (v).length ≤ maxLen) : lp25_1 big t1 p1 out v (List.length v : Int) 0 =
  forE (fun  el (out : (List (Int))) K =>
    ((D22 p1 el.1 t1).bind fun r =>
    bif (!r) then (
      bif (Nat.ble ((List.length out + List.length [el.1]) * 8) appendLimit && Nat.ble (List.length out + List.length [el.1]) 9223372036854775807) then K (out ++ [el.1])
      else none)
    else K out : Option (List (Int))))
    (fun (out : (List (Int))) =>
    (some out : Option (List (Int)))) v out := by
  refine iter_forE v (fun ix (out : (List (Int))) => (t1, p1, out, v, (List.length v : Int), (ix : Int))) _ _ ?_ ?_ (len_lt_big hl) out
  · rintro F k h out
    simp only [dec_lt h, condT, idx_get h, bindS, wrap_succ h hl]
  · rintro F out
    simp only [dec_end, condF]

theorem g25 (fuel : Nat) (p : (List ((Int) × ((List (Int)) × ((Int) × (List ((Int) × ((Int) × (Int)))))))) × (List ((Int) × ((Int) × (Int))))) (t : Int) : (fnK tab env25 8 ann25 fuel Try.f25 [] ps25 rs25 true (p, t) : Option (List (Int))) = (
  lp25_1 fuel t p ([] : List (Int)) p.1 (List.length p.1 : Int) 0 : Option (List (Int))) := by kernel_rfl
theorem e25 (p : (List ((Int) × ((List (Int)) × ((Int) × (List ((Int) × ((Int) × (Int)))))))) × (List ((Int) × ((Int) × (Int))))) (t : Int) : D25 p t = (
  lp25_1 big t p ([] : List (Int)) p.1 (List.length p.1 : Int) 0 : Option (List (Int))) := g25 big p t

/-! skiarea/skiarealaw53.known -/
noncomputable def D31  : Option ((List ((Int) × ((List (Int)) × ((Int) × (List ((Int) × ((Int) × (Int)))))))) × (List ((Int) × ((Int) × (Int))))) := d31 ()
theorem e31  : D31 = (
  some ([(3, [1], 100, [(1, 9, 50)]), (8, ([] : List (Int)), 100, ([] : List ((Int) × ((Int) × (Int)))))], [(6, 8, 40)]) : Option ((List ((Int) × ((List (Int)) × ((Int) × (List ((Int) × ((Int) × (Int)))))))) × (List ((Int) × ((Int) × (Int)))))) := by kernel_rfl

noncomputable def D10  : Option (Bool) := d10 ()
theorem aliveD : D10 = some true := alive

/-! skiarea/skiarealaw53.small -/
noncomputable def D11 (a0 : (List ((Int) × ((List (Int)) × ((Int) × (List ((Int) × ((Int) × (Int)))))))) × (List ((Int) × ((Int) × (Int))))) : Option (Bool) := d11 a0
noncomputable def lp11_1 (fuel : Nat)  (p1₀ : (List ((Int) × ((List (Int)) × ((Int) × (List ((Int) × ((Int) × (Int)))))))) × (List ((Int) × ((Int) × (Int))))) (i₀ : Int) : Option (Bool) :=
  iter (fun F ((p1, i) : ((List ((Int) × ((List (Int)) × ((Int) × (List ((Int) × ((Int) × (Int)))))))) × (List ((Int) × ((Int) × (Int))))) × Int) =>
    bif decide (i < (List.length p1.1 : Int)) then (
      bif decide (i < 71) then (
        (idx p1.1 i).bind fun e =>
        bif decide ((List.length e.2.1 : Int) > 70) then some false
        else (idx p1.1 i).bind fun e1 =>
        bif decide ((List.length e1.2.2.2 : Int) > 210) then some false
        else F (p1, IntKind.i64.wrap (i + 1)))
      else bif decide ((List.length p1.1 : Int) ≤ 70) then some (decide ((List.length p1.2 : Int) ≤ 210))
      else some false)
    else bif decide ((List.length p1.1 : Int) ≤ 70) then some (decide ((List.length p1.2 : Int) ≤ 210))
    else some false) fuel (p1₀, i₀)

theorem f11_1  (p1 : (List ((Int) × ((List (Int)) × ((Int) × (List ((Int) × ((Int) × (Int)))))))) × (List ((Int) × ((Int) × (Int))))) (hl : (p1.1).length ≤ maxLen) : lp11_1 big p1 0 =
  forI (fun ix el (_ : Unit) K =>
    (bif decide ((ix : Int) < 71) then (
      bif decide ((List.length el.2.1 : Int) > 70) then some false
      else bif decide ((List.length el.2.2.2 : Int) > 210) then some false
      else K ())
    else bif decide ((List.length p1.1 : Int) ≤ 70) then some (decide ((List.length p1.2 : Int) ≤ 210))
    else some false : Option (Bool)))
    (fun (_ : Unit) =>
    (bif decide ((List.length p1.1 : Int) ≤ 70) then some (decide ((List.length p1.2 : Int) ≤ 210))
    else some false : Option (Bool))) 0 p1.1 () := by
  refine iter_forI_from p1.1 (fun ix (_ : Unit) => (p1, (ix : Int))) _ _ ?_ ?_ (k := 0) (Nat.zero_le _) (len_lt_big hl) ()
  · rintro F k h _
    simp only [dec_lt h, condT, idx_get h, bindS, wrap_succ h hl]
  · rintro F _
    simp only [dec_end, condF]

theorem g11 (fuel : Nat) (p : (List ((Int) × ((List (Int)) × ((Int) × (List ((Int) × ((Int) × (Int)))))))) × (List ((Int) × ((Int) × (Int))))) : (fnK tab env11 4 ann11 fuel Try.f11 [] ps11 rs11 true p : Option (Bool)) = (
  lp11_1 fuel p 0 : Option (Bool)) := by kernel_rfl
theorem e11 (p : (List ((Int) × ((List (Int)) × ((Int) × (List ((Int) × ((Int) × (Int)))))))) × (List ((Int) × ((Int) × (Int))))) : D11 p = (
  lp11_1 big p 0 : Option (Bool)) := g11 big p

/-! skiarea/skiarearef19.in -/
noncomputable def D52 (a0 : Int) (a1 : Int) (a2 : Int) : Option (Bool) := d52 (a0, a1, a2)
theorem e52 (n : Int) (lo : Int) (hi : Int) : D52 n lo hi = (
  bif decide (n ≥ lo) then some (decide (n ≤ hi))
  else some false : Option (Bool)) := by kernel_rfl

/-! skiarea/skiarearef19.Has -/
noncomputable def D53 (a0 : List (Int)) (a1 : Int) : Option (Bool) := d53 (a0, a1)
noncomputable def lp53_1 (fuel : Nat)  (l1₀ : List (Int)) (n1₀ : Int) (i₀ : Int) : Option (Bool) :=
  iter (fun F ((l1, n1, i) : (List (Int)) × Int × Int) =>
    bif decide (i < (List.length l1 : Int)) then (
      (idx l1 i).bind fun e =>
      bif (e == n1) then some true
      else F (l1, n1, IntKind.i64.wrap (i + 1)))
    else some false) fuel (l1₀, n1₀, i₀)

theorem f53_1  (l1 : List (Int)) (n1 : Int) (hl : (l1).length ≤ maxLen) : lp53_1 big l1 n1 0 =
  forE (fun  el (_ : Unit) K =>
    (bif (el == n1) then some true
    else K () : Option (Bool)))
    (fun (_ : Unit) =>
    (some false : Option (Bool))) l1 () := by
  refine iter_forE l1 (fun ix (_ : Unit) => (l1, n1, (ix : Int))) _ _ ?_ ?_ (len_lt_big hl) ()
  · rintro F k h _
    simp only [dec_lt h, condT, idx_get h, bindS, wrap_succ h hl]
  · rintro F _
    simp only [dec_end, condF]

theorem g53 (fuel : Nat) (l : List (Int)) (n : Int) : (fnK tab env53 6 ann53 fuel Try.f53 [] ps53 rs53 true (l, n) : Option (Bool)) = (
  lp53_1 fuel l n 0 : Option (Bool)) := by kernel_rfl
theorem e53 (l : List (Int)) (n : Int) : D53 l n = (
  lp53_1 big l n 0 : Option (Bool)) := g53 big l n

/-! skiarea/skiarearef19.Right -/
noncomputable def D35 (a0 : (List (Int)) × ((Int) × (List ((Int) × ((Int) × (Int)))))) : Option (Int) := d35 a0
noncomputable def lp35_1 (fuel : Nat)  (l2₀ : (List (Int)) × ((Int) × (List ((Int) × ((Int) × (Int)))))) (i1₀ : Int) : Option (Int) :=
  iter (fun F1 ((l2, i1) : ((List (Int)) × ((Int) × (List ((Int) × ((Int) × (Int)))))) × Int) =>
    bif decide (i1 < (List.length l2.2.2 : Int)) then (
      (idx l2.2.2 i1).bind fun e =>
      (D53 l2.1 e.1).bind fun r1 =>
      bif (!r1) then some 8
      else (D52 e.2.1 1 9999).bind fun r2 =>
      bif (!r2) then some 17
      else (D52 e.2.2 0 20000000).bind fun r3 =>
      bif (!r3) then some 2
      else bif decide (i1 > 0) then (
        (idx l2.2.2 (IntKind.i64.wrap (i1 - 1))).bind fun e1 =>
        bif decide (e.2.2 < e1.2.2) then some 11
        else F1 (l2, IntKind.i64.wrap (i1 + 1)))
      else F1 (l2, IntKind.i64.wrap (i1 + 1)))
    else some 0) fuel (l2₀, i1₀)

theorem f35_1  (l2 : (List (Int)) × ((Int) × (List ((Int) × ((Int) × (Int)))))) (hl : (l2.2.2).length ≤ maxLen) : lp35_1 big l2 0 =
  forI (fun ix el (_ : Unit) K =>
    ((D53 l2.1 el.1).bind fun r1 =>
    bif (!r1) then some 8
    else (D52 el.2.1 1 9999).bind fun r2 =>
    bif (!r2) then some 17
    else (D52 el.2.2 0 20000000).bind fun r3 =>
    bif (!r3) then some 2
    else bif decide ((ix : Int) > 0) then (
      (idx l2.2.2 (IntKind.i64.wrap ((ix : Int) - 1))).bind fun e1 =>
      bif decide (el.2.2 < e1.2.2) then some 11
      else K ())
    else K () : Option (Int)))
    (fun (_ : Unit) =>
    (some 0 : Option (Int))) 0 l2.2.2 () := by
  refine iter_forI_from l2.2.2 (fun ix (_ : Unit) => (l2, (ix : Int))) _ _ ?_ ?_ (k := 0) (Nat.zero_le _) (len_lt_big hl) ()
  · rintro F k h _
    simp only [dec_lt h, condT, idx_get h, bindS, wrap_succ h hl]
  · rintro F _
    simp only [dec_end, condF]

noncomputable def lp35_3 (fuel : Nat)  (l1₀ : (List (Int)) × ((Int) × (List ((Int) × ((Int) × (Int)))))) (i₀ : Int) : Option (Int) :=
  iter (fun F ((l1, i) : ((List (Int)) × ((Int) × (List ((Int) × ((Int) × (Int)))))) × Int) =>
    bif decide (i < (List.length l1.1 : Int)) then (
      (idx l1.1 i).bind fun e =>
      (D52 e 1 9999).bind fun r1 =>
      bif (!r1) then some 2
      else bif (decide (0 ≤ (0 : Int)) && (decide ((0 : Int) ≤ i) && decide ((i : Int) ≤ (List.length l1.1 : Int)))) then (
        (idx l1.1 i).bind fun e1 =>
        (D53 (List.drop (Int.toNat 0) (List.take (Int.toNat i) l1.1)) e1).bind fun r2 =>
        bif r2 then some 7
        else F (l1, IntKind.i64.wrap (i + 1)))
      else none)
    else lp35_1 fuel l1 0) fuel (l1₀, i₀)

theorem f35_3  (l1 : (List (Int)) × ((Int) × (List ((Int) × ((Int) × (Int)))))) (hl : (l1.1).length ≤ maxLen) : lp35_3 big l1 0 =
  forI (fun ix el (_ : Unit) K =>
    ((D52 el 1 9999).bind fun r1 =>
    bif (!r1) then some 2
    else bif (decide (0 ≤ (0 : Int)) && (decide ((0 : Int) ≤ (ix : Int)) && decide (((ix : Int) : Int) ≤ (List.length l1.1 : Int)))) then (
      (D53 (List.drop (Int.toNat 0) (List.take (Int.toNat (ix : Int)) l1.1)) el).bind fun r2 =>
      bif r2 then some 7
      else K ())
    else none : Option (Int)))
    (fun (_ : Unit) =>
    (lp35_1 big l1 0 : Option (Int))) 0 l1.1 () := by
  refine iter_forI_from l1.1 (fun ix (_ : Unit) => (l1, (ix : Int))) _ _ ?_ ?_ (k := 0) (Nat.zero_le _) (len_lt_big hl) ()
  · rintro F k h _
    simp only [dec_lt h, condT, idx_get h, bindS, wrap_succ h hl]
  · rintro F _
    simp only [dec_end, condF]

theorem g35 (fuel : Nat) (l : (List (Int)) × ((Int) × (List ((Int) × ((Int) × (Int)))))) : (fnK tab env35 6 ann35 fuel Try.f35 [] ps35 rs35 true l : Option (Int)) = (
  bif decide ((List.length l.1 : Int) > 64) then some 4
  else bif decide ((List.length l.2.2 : Int) > 200) then some 4
  else (D52 l.2.1 1 604800).bind fun r =>
  bif (!r) then some 2
  else lp35_3 fuel l 0 : Option (Int)) := by kernel_rfl
theorem e35 (l : (List (Int)) × ((Int) × (List ((Int) × ((Int) × (Int)))))) : D35 l = (
  bif decide ((List.length l.1 : Int) > 64) then some 4
  else bif decide ((List.length l.2.2 : Int) > 200) then some 4
  else (D52 l.2.1 1 604800).bind fun r =>
  bif (!r) then some 2
  else lp35_3 big l 0 : Option (Int)) := g35 big l

/-! skiarea/skiarearef53.at -/
noncomputable def D36 (a0 : (List ((Int) × ((List (Int)) × ((Int) × (List ((Int) × ((Int) × (Int)))))))) × (List ((Int) × ((Int) × (Int))))) (a1 : Int) : Option (Int) := d36 (a0, a1)
noncomputable def lp36_1 (fuel : Nat)  (run_1₀ : Int) (p1₀ : (List ((Int) × ((List (Int)) × ((Int) × (List ((Int) × ((Int) × (Int)))))))) × (List ((Int) × ((Int) × (Int))))) (i₀ : Int) : Option (Int) :=
  iter (fun F ((run_1, p1, i) : Int × ((List ((Int) × ((List (Int)) × ((Int) × (List ((Int) × ((Int) × (Int)))))))) × (List ((Int) × ((Int) × (Int))))) × Int) =>
    bif decide (i < (List.length p1.1 : Int)) then (
      (idx p1.1 i).bind fun e =>
      bif (e.1 == run_1) then some i
      else F (run_1, p1, IntKind.i64.wrap (i + 1)))
    else some (-1)) fuel (run_1₀, p1₀, i₀)

theorem f36_1  (run_1 : Int) (p1 : (List ((Int) × ((List (Int)) × ((Int) × (List ((Int) × ((Int) × (Int)))))))) × (List ((Int) × ((Int) × (Int))))) (hl : (p1.1).length ≤ maxLen) : lp36_1 big run_1 p1 0 =
  forI (fun ix el (_ : Unit) K =>
    (bif (el.1 == run_1) then some (ix : Int)
    else K () : Option (Int)))
    (fun (_ : Unit) =>
    (some (-1) : Option (Int))) 0 p1.1 () := by
  refine iter_forI_from p1.1 (fun ix (_ : Unit) => (run_1, p1, (ix : Int))) _ _ ?_ ?_ (k := 0) (Nat.zero_le _) (len_lt_big hl) ()
  · rintro F k h _
    simp only [dec_lt h, condT, idx_get h, bindS, wrap_succ h hl]
  · rintro F _
    simp only [dec_end, condF]

theorem g36 (fuel : Nat) (p : (List ((Int) × ((List (Int)) × ((Int) × (List ((Int) × ((Int) × (Int)))))))) × (List ((Int) × ((Int) × (Int))))) (run_ : Int) : (fnK tab env36 6 ann36 fuel Try.f36 [] ps36 rs36 true (p, run_) : Option (Int)) = (
  lp36_1 fuel run_ p 0 : Option (Int)) := by kernel_rfl
theorem e36 (p : (List ((Int) × ((List (Int)) × ((Int) × (List ((Int) × ((Int) × (Int)))))))) × (List ((Int) × ((Int) × (Int))))) (run_ : Int) : D36 p run_ = (
  lp36_1 big run_ p 0 : Option (Int)) := g36 big p run_

/-! skiarea/skiarearef53.Right -/
noncomputable def D13 (a0 : (List ((Int) × ((List (Int)) × ((Int) × (List ((Int) × ((Int) × (Int)))))))) × (List ((Int) × ((Int) × (Int))))) : Option (Int) := d13 a0
noncomputable def lp13_1 (fuel : Nat) (F1 : (((List ((Int) × ((List (Int)) × ((Int) × (List ((Int) × ((Int) × (Int)))))))) × (List ((Int) × ((Int) × (Int))))) × Int) → Option (Int)) (p3₀ : (List ((Int) × ((List (Int)) × ((Int) × (List ((Int) × ((Int) × (Int)))))))) × (List ((Int) × ((Int) × (Int))))) (i2₀ : Int) (h₀ : (Int) × ((Int) × (Int))) (k_₀ : Int) : Option (Int) :=
  iter (fun F2 ((p3, i2, h, k_) : ((List ((Int) × ((List (Int)) × ((Int) × (List ((Int) × ((Int) × (Int)))))))) × (List ((Int) × ((Int) × (Int))))) × Int × ((Int) × ((Int) × (Int))) × Int) =>
    bif decide (k_ < i2) then (
      (idx p3.2 k_).bind fun e1 =>
      bif (e1.1 == h.1) then some 7
      else F2 (p3, i2, h, IntKind.i64.wrap (k_ + 1)))
    else (D36 p3 h.2.1).bind fun r =>
    bif decide (r < 0) then some 8
    else F1 (p3, IntKind.i64.wrap (i2 + 1))) fuel (p3₀, i2₀, h₀, k_₀)

theorem f13_1 (F1 : (((List ((Int) × ((List (Int)) × ((Int) × (List ((Int) × ((Int) × (Int)))))))) × (List ((Int) × ((Int) × (Int))))) × Int) → Option (Int)) (p3 : (List ((Int) × ((List (Int)) × ((Int) × (List ((Int) × ((Int) × (Int)))))))) × (List ((Int) × ((Int) × (Int))))) (i2 : Int) (h : (Int) × ((Int) × (Int))) (hl : i2 ≤ 9223372036854775807) : lp13_1 big F1 p3 i2 h 0 =
  forN (fun ix (_ : Unit) K =>
    ((idx p3.2 (ix : Int)).bind fun e1 =>
    bif (e1.1 == h.1) then some 7
    else K () : Option (Int)))
    (fun (_ : Unit) =>
    ((D36 p3 h.2.1).bind fun r =>
    bif decide (r < 0) then some 8
    else F1 (p3, IntKind.i64.wrap (i2 + 1)) : Option (Int))) 0 (Int.toNat i2) () := by
  refine iter_forN (Int.toNat i2) (fun ix (_ : Unit) => (p3, i2, h, (ix : Int))) _ _ ?_ ?_ (int_lt_big hl) ()
  · rintro F k h _
    simp only [dec_lt_int h, condT, wrap_succ_int h hl]
  · rintro F _
    simp only [dec_end_int, condF]

noncomputable def lp13_3 (fuel : Nat)  (p2₀ : (List ((Int) × ((List (Int)) × ((Int) × (List ((Int) × ((Int) × (Int)))))))) × (List ((Int) × ((Int) × (Int))))) (i1₀ : Int) : Option (Int) :=
  iter (fun F1 ((p2, i1) : ((List ((Int) × ((List (Int)) × ((Int) × (List ((Int) × ((Int) × (Int)))))))) × (List ((Int) × ((Int) × (Int))))) × Int) =>
    bif decide (i1 < (List.length p2.2 : Int)) then (
      (idx p2.2 i1).bind fun e =>
      bif decide (e.1 < 1) then some 2
      else bif decide (e.1 > 9999) then some 2
      else bif decide (e.2.2 < 0) then some 2
      else bif decide (e.2.2 > 20000000) then some 2
      else lp13_1 fuel F1 p2 i1 e 0)
    else some 0) fuel (p2₀, i1₀)

noncomputable def lp13_4 (fuel : Nat)  (p1₀ : (List ((Int) × ((List (Int)) × ((Int) × (List ((Int) × ((Int) × (Int)))))))) × (List ((Int) × ((Int) × (Int))))) (i₀ : Int) : Option (Int) :=
  iter (fun F ((p1, i) : ((List ((Int) × ((List (Int)) × ((Int) × (List ((Int) × ((Int) × (Int)))))))) × (List ((Int) × ((Int) × (Int))))) × Int) =>
    bif decide (i < (List.length p1.1 : Int)) then (
      (idx p1.1 i).bind fun e =>
      bif decide (e.1 < 1) then some 2
      else (idx p1.1 i).bind fun e1 =>
      bif decide (e1.1 > 9999) then some 2
      else bif decide (i > 0) then (
        (idx p1.1 i).bind fun e2 =>
        (idx p1.1 (IntKind.i64.wrap (i - 1))).bind fun e3 =>
        bif decide (e2.1 ≤ e3.1) then some 11
        else (idx p1.1 i).bind fun e4 =>
        (D35 e4.2).bind fun r =>
        bif (r != 0) then some r
        else F (p1, IntKind.i64.wrap (i + 1)))
      else (idx p1.1 i).bind fun e2 =>
      (D35 e2.2).bind fun r =>
      bif (r != 0) then some r
      else F (p1, IntKind.i64.wrap (i + 1)))
    else lp13_3 fuel p1 0) fuel (p1₀, i₀)

theorem f13_4  (p1 : (List ((Int) × ((List (Int)) × ((Int) × (List ((Int) × ((Int) × (Int)))))))) × (List ((Int) × ((Int) × (Int))))) (hl : (p1.1).length ≤ maxLen) : lp13_4 big p1 0 =
  forI (fun ix el (_ : Unit) K =>
    (bif decide (el.1 < 1) then some 2
    else bif decide (el.1 > 9999) then some 2
    else bif decide ((ix : Int) > 0) then (
      (idx p1.1 (IntKind.i64.wrap ((ix : Int) - 1))).bind fun e3 =>
      bif decide (el.1 ≤ e3.1) then some 11
      else (D35 el.2).bind fun r =>
      bif (r != 0) then some r
      else K ())
    else (D35 el.2).bind fun r =>
    bif (r != 0) then some r
    else K () : Option (Int)))
    (fun (_ : Unit) =>
    (lp13_3 big p1 0 : Option (Int))) 0 p1.1 () := by
  refine iter_forI_from p1.1 (fun ix (_ : Unit) => (p1, (ix : Int))) _ _ ?_ ?_ (k := 0) (Nat.zero_le _) (len_lt_big hl) ()
  · rintro F k h _
    simp only [dec_lt h, condT, idx_get h, bindS, wrap_succ h hl]
  · rintro F _
    simp only [dec_end, condF]

theorem g13 (fuel : Nat) (p : (List ((Int) × ((List (Int)) × ((Int) × (List ((Int) × ((Int) × (Int)))))))) × (List ((Int) × ((Int) × (Int))))) : (fnK tab env13 8 ann13 fuel Try.f13 [] ps13 rs13 true p : Option (Int)) = (
  bif decide ((List.length p.1 : Int) > 64) then some 4
  else bif decide ((List.length p.2 : Int) > 200) then some 4
  else lp13_4 fuel p 0 : Option (Int)) := by kernel_rfl
theorem e13 (p : (List ((Int) × ((List (Int)) × ((Int) × (List ((Int) × ((Int) × (Int)))))))) × (List ((Int) × ((Int) × (Int))))) : D13 p = (
  bif decide ((List.length p.1 : Int) > 64) then some 4
  else bif decide ((List.length p.2 : Int) > 200) then some 4
  else lp13_4 big p 0 : Option (Int)) := g13 big p

/-! skiarea/skiarealaw53.PatrolRight -/
noncomputable def D3 (a0 : (List ((Int) × ((List (Int)) × ((Int) × (List ((Int) × ((Int) × (Int)))))))) × (List ((Int) × ((Int) × (Int))))) : Option (Bool) := d3 a0
theorem e3 (p : (List ((Int) × ((List (Int)) × ((Int) × (List ((Int) × ((Int) × (Int)))))))) × (List ((Int) × ((Int) × (Int))))) : D3 p = (
  (D10).bind fun r =>
  bif (!r) then some false
  else (D11 p).bind fun r1 =>
  bif (!r1) then some true
  else (D12 p).bind fun r2 =>
  (D13 p).bind fun r3 =>
  some (r2 == r3) : Option (Bool)) := by kernel_rfl

/-! skiarea/skiarealaw53.accepted -/
noncomputable def D14 (a0 : (List ((Int) × ((List (Int)) × ((Int) × (List ((Int) × ((Int) × (Int)))))))) × (List ((Int) × ((Int) × (Int))))) : Option (Bool) := d14 a0
theorem e14 (p : (List ((Int) × ((List (Int)) × ((Int) × (List ((Int) × ((Int) × (Int)))))))) × (List ((Int) × ((Int) × (Int))))) : D14 p = (
  (D11 p).bind fun r =>
  bif r then (
    (D13 p).bind fun r1 =>
    some (r1 == 0))
  else some false : Option (Bool)) := by kernel_rfl

/-! skiarea/skiarearef19.Sign -/
noncomputable def D39 (a0 : (List (Int)) × ((Int) × (List ((Int) × ((Int) × (Int)))))) (a1 : Int) (a2 : Int) (a3 : Int) : Option (((List (Int)) × ((Int) × (List ((Int) × ((Int) × (Int)))))) × (Int)) := d39 (a0, a1, a2, a3)
noncomputable def lp39_1 (fuel : Nat)  (item2₀ : Int) (by_2₀ : Int) (t2₀ : Int) (l2₀ : (List (Int)) × ((Int) × (List ((Int) × ((Int) × (Int)))))) (v1₀ : (List (Int)) × ((Int) × (List ((Int) × ((Int) × (Int)))))) (out1₀ : (List (Int)) × ((Int) × (List ((Int) × ((Int) × (Int)))))) (i1₀ : Int) : Option (((List (Int)) × ((Int) × (List ((Int) × ((Int) × (Int)))))) × (Int)) :=
  iter (fun F1 ((item2, by_2, t2, l2, v1, out1, i1) : Int × Int × Int × ((List (Int)) × ((Int) × (List ((Int) × ((Int) × (Int)))))) × ((List (Int)) × ((Int) × (List ((Int) × ((Int) × (Int)))))) × ((List (Int)) × ((Int) × (List ((Int) × ((Int) × (Int)))))) × Int) =>
    bif decide (i1 < (List.length l2.2.2 : Int)) then (
      (idx l2.2.2 i1).bind fun e =>
      bif (e.1 != item2) then (
        (idx l2.2.2 i1).bind fun e1 =>
        bif (Nat.ble ((List.length out1.2.2 + List.length [e1]) * 24) appendLimit && Nat.ble (List.length out1.2.2 + List.length [e1]) 9223372036854775807) then F1 (item2, by_2, t2, l2, v1, (out1.1, out1.2.1, out1.2.2 ++ [e1]), IntKind.i64.wrap (i1 + 1))
        else none)
      else F1 (item2, by_2, t2, l2, v1, out1, IntKind.i64.wrap (i1 + 1)))
    else bif (Nat.ble ((List.length out1.2.2 + List.length [(item2, by_2, t2)]) * 24) appendLimit && Nat.ble (List.length out1.2.2 + List.length [(item2, by_2, t2)]) 9223372036854775807) then (
      (D35 (out1.1, out1.2.1, out1.2.2 ++ [(item2, by_2, t2)])).bind fun r =>
      bif (r != 0) then some ((([] : List (Int)), 0, ([] : List ((Int) × ((Int) × (Int))))), r)
      else some ((out1.1, out1.2.1, out1.2.2 ++ [(item2, by_2, t2)]), 0))
    else none) fuel (item2₀, by_2₀, t2₀, l2₀, v1₀, out1₀, i1₀)

theorem f39_1  (item2 : Int) (by_2 : Int) (t2 : Int) (l2 : (List (Int)) × ((Int) × (List ((Int) × ((Int) × (Int)))))) (v1 : (List (Int)) × ((Int) × (List ((Int) × ((Int) × (Int)))))) (out1 : (List (Int)) × ((Int) × (List ((Int) × ((Int) × (Int)))))) (hl : (l2.2.2).length ≤ maxLen) : lp39_1 big item2 by_2 t2 l2 v1 out1 0 =
  forE (fun  el (out1 : ((List (Int)) × ((Int) × (List ((Int) × ((Int) × (Int))))))) K =>
    (bif (el.1 != item2) then (
      bif (Nat.ble ((List.length out1.2.2 + List.length [el]) * 24) appendLimit && Nat.ble (List.length out1.2.2 + List.length [el]) 9223372036854775807) then K (out1.1, out1.2.1, out1.2.2 ++ [el])
      else none)
    else K out1 : Option (((List (Int)) × ((Int) × (List ((Int) × ((Int) × (Int)))))) × (Int))))
    (fun (out1 : ((List (Int)) × ((Int) × (List ((Int) × ((Int) × (Int))))))) =>
    (bif (Nat.ble ((List.length out1.2.2 + List.length [(item2, by_2, t2)]) * 24) appendLimit && Nat.ble (List.length out1.2.2 + List.length [(item2, by_2, t2)]) 9223372036854775807) then (
      (D35 (out1.1, out1.2.1, out1.2.2 ++ [(item2, by_2, t2)])).bind fun r =>
      bif (r != 0) then some ((([] : List (Int)), 0, ([] : List ((Int) × ((Int) × (Int))))), r)
      else some ((out1.1, out1.2.1, out1.2.2 ++ [(item2, by_2, t2)]), 0))
    else none : Option (((List (Int)) × ((Int) × (List ((Int) × ((Int) × (Int)))))) × (Int)))) l2.2.2 out1 := by
  refine iter_forE l2.2.2 (fun ix (out1 : ((List (Int)) × ((Int) × (List ((Int) × ((Int) × (Int))))))) => (item2, by_2, t2, l2, v1, out1, (ix : Int))) _ _ ?_ ?_ (len_lt_big hl) out1
  · rintro F k h out1
    simp only [dec_lt h, condT, idx_get h, bindS, wrap_succ h hl]
  · rintro F out1
    simp only [dec_end, condF]

noncomputable def lp39_3 (fuel : Nat)  (item1₀ : Int) (by_1₀ : Int) (t1₀ : Int) (l1₀ : (List (Int)) × ((Int) × (List ((Int) × ((Int) × (Int)))))) (v₀ : (List (Int)) × ((Int) × (List ((Int) × ((Int) × (Int)))))) (out₀ : (List (Int)) × ((Int) × (List ((Int) × ((Int) × (Int)))))) (i₀ : Int) : Option (((List (Int)) × ((Int) × (List ((Int) × ((Int) × (Int)))))) × (Int)) :=
  iter (fun F ((item1, by_1, t1, l1, v, out, i) : Int × Int × Int × ((List (Int)) × ((Int) × (List ((Int) × ((Int) × (Int)))))) × ((List (Int)) × ((Int) × (List ((Int) × ((Int) × (Int)))))) × ((List (Int)) × ((Int) × (List ((Int) × ((Int) × (Int)))))) × Int) =>
    bif decide (i < (List.length l1.1 : Int)) then (
      (idx l1.1 i).bind fun e =>
      bif (Nat.ble ((List.length out.1 + List.length [e]) * 8) appendLimit && Nat.ble (List.length out.1 + List.length [e]) 9223372036854775807) then F (item1, by_1, t1, l1, v, (out.1 ++ [e], out.2), IntKind.i64.wrap (i + 1))
      else none)
    else lp39_1 fuel item1 by_1 t1 l1 v out 0) fuel (item1₀, by_1₀, t1₀, l1₀, v₀, out₀, i₀)

theorem f39_3  (item1 : Int) (by_1 : Int) (t1 : Int) (l1 : (List (Int)) × ((Int) × (List ((Int) × ((Int) × (Int)))))) (v : (List (Int)) × ((Int) × (List ((Int) × ((Int) × (Int)))))) (out : (List (Int)) × ((Int) × (List ((Int) × ((Int) × (Int)))))) (hl : (l1.1).length ≤ maxLen) : lp39_3 big item1 by_1 t1 l1 v out 0 =
  forE (fun  el (out : ((List (Int)) × ((Int) × (List ((Int) × ((Int) × (Int))))))) K =>
    (bif (Nat.ble ((List.length out.1 + List.length [el]) * 8) appendLimit && Nat.ble (List.length out.1 + List.length [el]) 9223372036854775807) then K (out.1 ++ [el], out.2)
    else none : Option (((List (Int)) × ((Int) × (List ((Int) × ((Int) × (Int)))))) × (Int))))
    (fun (out : ((List (Int)) × ((Int) × (List ((Int) × ((Int) × (Int))))))) =>
    (lp39_1 big item1 by_1 t1 l1 v out 0 : Option (((List (Int)) × ((Int) × (List ((Int) × ((Int) × (Int)))))) × (Int)))) l1.1 out := by
  refine iter_forE l1.1 (fun ix (out : ((List (Int)) × ((Int) × (List ((Int) × ((Int) × (Int))))))) => (item1, by_1, t1, l1, v, out, (ix : Int))) _ _ ?_ ?_ (len_lt_big hl) out
  · rintro F k h out
    simp only [dec_lt h, condT, idx_get h, bindS, wrap_succ h hl]
  · rintro F out
    simp only [dec_end, condF]

theorem g39 (fuel : Nat) (l : (List (Int)) × ((Int) × (List ((Int) × ((Int) × (Int)))))) (item : Int) (by_ : Int) (t : Int) : (fnK tab env39 14 ann39 fuel Try.f39 [] ps39 rs39 true (l, item, by_, t) : Option (((List (Int)) × ((Int) × (List ((Int) × ((Int) × (Int)))))) × (Int))) = (
  lp39_3 fuel item by_ t l (([] : List (Int)), 0, ([] : List ((Int) × ((Int) × (Int))))) (([] : List (Int)), l.2.1, ([] : List ((Int) × ((Int) × (Int))))) 0 : Option (((List (Int)) × ((Int) × (List ((Int) × ((Int) × (Int)))))) × (Int))) := by kernel_rfl
theorem e39 (l : (List (Int)) × ((Int) × (List ((Int) × ((Int) × (Int)))))) (item : Int) (by_ : Int) (t : Int) : D39 l item by_ t = (
  lp39_3 big item by_ t l (([] : List (Int)), 0, ([] : List ((Int) × ((Int) × (Int))))) (([] : List (Int)), l.2.1, ([] : List ((Int) × ((Int) × (Int))))) 0 : Option (((List (Int)) × ((Int) × (List ((Int) × ((Int) × (Int)))))) × (Int))) := g39 big l item by_ t

/-! skiarea/skiarearef53.Own -/
noncomputable def D40 (a0 : (List ((Int) × ((List (Int)) × ((Int) × (List ((Int) × ((Int) × (Int)))))))) × (List ((Int) × ((Int) × (Int))))) : Option ((List ((Int) × ((List (Int)) × ((Int) × (List ((Int) × ((Int) × (Int)))))))) × (List ((Int) × ((Int) × (Int))))) := d40 a0
noncomputable def lp40_1 (fuel : Nat)  (p1₀ : (List ((Int) × ((List (Int)) × ((Int) × (List ((Int) × ((Int) × (Int)))))))) × (List ((Int) × ((Int) × (Int))))) (v₀ : (List ((Int) × ((List (Int)) × ((Int) × (List ((Int) × ((Int) × (Int)))))))) × (List ((Int) × ((Int) × (Int))))) (out₀ : (List ((Int) × ((List (Int)) × ((Int) × (List ((Int) × ((Int) × (Int)))))))) × (List ((Int) × ((Int) × (Int))))) (i₀ : Int) : Option ((List ((Int) × ((List (Int)) × ((Int) × (List ((Int) × ((Int) × (Int)))))))) × (List ((Int) × ((Int) × (Int))))) :=
  iter (fun F ((p1, v, out, i) : ((List ((Int) × ((List (Int)) × ((Int) × (List ((Int) × ((Int) × (Int)))))))) × (List ((Int) × ((Int) × (Int))))) × ((List ((Int) × ((List (Int)) × ((Int) × (List ((Int) × ((Int) × (Int)))))))) × (List ((Int) × ((Int) × (Int))))) × ((List ((Int) × ((List (Int)) × ((Int) × (List ((Int) × ((Int) × (Int)))))))) × (List ((Int) × ((Int) × (Int))))) × Int) =>
    bif decide (i < (List.length p1.1 : Int)) then (
      (idx p1.1 i).bind fun e =>
      bif (Nat.ble ((List.length ([] : List (Int)) + List.length e.2.1) * 8) appendLimit && Nat.ble (List.length ([] : List (Int)) + List.length e.2.1) 9223372036854775807) then (
        bif (Nat.ble ((List.length ([] : List ((Int) × ((Int) × (Int)))) + List.length e.2.2.2) * 24) appendLimit && Nat.ble (List.length ([] : List ((Int) × ((Int) × (Int)))) + List.length e.2.2.2) 9223372036854775807) then (
          bif (Nat.ble ((List.length out.1 + List.length [(e.1, ([] : List (Int)) ++ e.2.1, e.2.2.1, ([] : List ((Int) × ((Int) × (Int)))) ++ e.2.2.2)]) * 64) appendLimit && Nat.ble (List.length out.1 + List.length [(e.1, ([] : List (Int)) ++ e.2.1, e.2.2.1, ([] : List ((Int) × ((Int) × (Int)))) ++ e.2.2.2)]) 9223372036854775807) then F (p1, v, (out.1 ++ [(e.1, ([] : List (Int)) ++ e.2.1, e.2.2.1, ([] : List ((Int) × ((Int) × (Int)))) ++ e.2.2.2)], out.2), IntKind.i64.wrap (i + 1))
          else none)
        else none)
      else none)
    else bif (Nat.ble ((List.length ([] : List ((Int) × ((Int) × (Int)))) + List.length p1.2) * 24) appendLimit && Nat.ble (List.length ([] : List ((Int) × ((Int) × (Int)))) + List.length p1.2) 9223372036854775807) then some (out.1, ([] : List ((Int) × ((Int) × (Int)))) ++ p1.2)
    else none) fuel (p1₀, v₀, out₀, i₀)

theorem f40_1  (p1 : (List ((Int) × ((List (Int)) × ((Int) × (List ((Int) × ((Int) × (Int)))))))) × (List ((Int) × ((Int) × (Int))))) (v : (List ((Int) × ((List (Int)) × ((Int) × (List ((Int) × ((Int) × (Int)))))))) × (List ((Int) × ((Int) × (Int))))) (out : (List ((Int) × ((List (Int)) × ((Int) × (List ((Int) × ((Int) × (Int)))))))) × (List ((Int) × ((Int) × (Int))))) (hl : (p1.1).length ≤ maxLen) : lp40_1 big p1 v out 0 =
  forE (fun  el (out : ((List ((Int) × ((List (Int)) × ((Int) × (List ((Int) × ((Int) × (Int)))))))) × (List ((Int) × ((Int) × (Int)))))) K =>
    (bif (Nat.ble ((List.length ([] : List (Int)) + List.length el.2.1) * 8) appendLimit && Nat.ble (List.length ([] : List (Int)) + List.length el.2.1) 9223372036854775807) then (
      bif (Nat.ble ((List.length ([] : List ((Int) × ((Int) × (Int)))) + List.length el.2.2.2) * 24) appendLimit && Nat.ble (List.length ([] : List ((Int) × ((Int) × (Int)))) + List.length el.2.2.2) 9223372036854775807) then (
        bif (Nat.ble ((List.length out.1 + List.length [(el.1, ([] : List (Int)) ++ el.2.1, el.2.2.1, ([] : List ((Int) × ((Int) × (Int)))) ++ el.2.2.2)]) * 64) appendLimit && Nat.ble (List.length out.1 + List.length [(el.1, ([] : List (Int)) ++ el.2.1, el.2.2.1, ([] : List ((Int) × ((Int) × (Int)))) ++ el.2.2.2)]) 9223372036854775807) then K (out.1 ++ [(el.1, ([] : List (Int)) ++ el.2.1, el.2.2.1, ([] : List ((Int) × ((Int) × (Int)))) ++ el.2.2.2)], out.2)
        else none)
      else none)
    else none : Option ((List ((Int) × ((List (Int)) × ((Int) × (List ((Int) × ((Int) × (Int)))))))) × (List ((Int) × ((Int) × (Int)))))))
    (fun (out : ((List ((Int) × ((List (Int)) × ((Int) × (List ((Int) × ((Int) × (Int)))))))) × (List ((Int) × ((Int) × (Int)))))) =>
    (bif (Nat.ble ((List.length ([] : List ((Int) × ((Int) × (Int)))) + List.length p1.2) * 24) appendLimit && Nat.ble (List.length ([] : List ((Int) × ((Int) × (Int)))) + List.length p1.2) 9223372036854775807) then some (out.1, ([] : List ((Int) × ((Int) × (Int)))) ++ p1.2)
    else none : Option ((List ((Int) × ((List (Int)) × ((Int) × (List ((Int) × ((Int) × (Int)))))))) × (List ((Int) × ((Int) × (Int))))))) p1.1 out := by
  refine iter_forE p1.1 (fun ix (out : ((List ((Int) × ((List (Int)) × ((Int) × (List ((Int) × ((Int) × (Int)))))))) × (List ((Int) × ((Int) × (Int)))))) => (p1, v, out, (ix : Int))) _ _ ?_ ?_ (len_lt_big hl) out
  · rintro F k h out
    simp only [dec_lt h, condT, idx_get h, bindS, wrap_succ h hl]
  · rintro F out
    simp only [dec_end, condF]

theorem g40 (fuel : Nat) (p : (List ((Int) × ((List (Int)) × ((Int) × (List ((Int) × ((Int) × (Int)))))))) × (List ((Int) × ((Int) × (Int))))) : (fnK tab env40 6 ann40 fuel Try.f40 [] ps40 rs40 true p : Option ((List ((Int) × ((List (Int)) × ((Int) × (List ((Int) × ((Int) × (Int)))))))) × (List ((Int) × ((Int) × (Int)))))) = (
  lp40_1 fuel p (([] : List ((Int) × ((List (Int)) × ((Int) × (List ((Int) × ((Int) × (Int)))))))), ([] : List ((Int) × ((Int) × (Int))))) (([] : List ((Int) × ((List (Int)) × ((Int) × (List ((Int) × ((Int) × (Int)))))))), ([] : List ((Int) × ((Int) × (Int))))) 0 : Option ((List ((Int) × ((List (Int)) × ((Int) × (List ((Int) × ((Int) × (Int)))))))) × (List ((Int) × ((Int) × (Int)))))) := by kernel_rfl
theorem e40 (p : (List ((Int) × ((List (Int)) × ((Int) × (List ((Int) × ((Int) × (Int)))))))) × (List ((Int) × ((Int) × (Int))))) : D40 p = (
  lp40_1 big p (([] : List ((Int) × ((List (Int)) × ((Int) × (List ((Int) × ((Int) × (Int)))))))), ([] : List ((Int) × ((Int) × (Int))))) (([] : List ((Int) × ((List (Int)) × ((Int) × (List ((Int) × ((Int) × (Int)))))))), ([] : List ((Int) × ((Int) × (Int))))) 0 : Option ((List ((Int) × ((List (Int)) × ((Int) × (List ((Int) × ((Int) × (Int)))))))) × (List ((Int) × ((Int) × (Int)))))) := g40 big p

/-! skiarea/skiarearef53.Sign -/
noncomputable def D16 (a0 : (List ((Int) × ((List (Int)) × ((Int) × (List ((Int) × ((Int) × (Int)))))))) × (List ((Int) × ((Int) × (Int))))) (a1 : Int) (a2 : Int) (a3 : Int) (a4 : Int) : Option (((List ((Int) × ((List (Int)) × ((Int) × (List ((Int) × ((Int) × (Int)))))))) × (List ((Int) × ((Int) × (Int))))) × (Int)) := d16 (a0, a1, a2, a3, a4)
theorem e16 (p : (List ((Int) × ((List (Int)) × ((Int) × (List ((Int) × ((Int) × (Int)))))))) × (List ((Int) × ((Int) × (Int))))) (run_ : Int) (item : Int) (by_ : Int) (t : Int) : D16 p run_ item by_ t = (
  (D36 p run_).bind fun r =>
  bif decide (r < 0) then some ((([] : List ((Int) × ((List (Int)) × ((Int) × (List ((Int) × ((Int) × (Int)))))))), ([] : List ((Int) × ((Int) × (Int))))), 8)
  else (idx p.1 r).bind fun e =>
  (D39 e.2 item by_ t).bind fun r1 =>
  bif (r1.2 != 0) then some ((([] : List ((Int) × ((List (Int)) × ((Int) × (List ((Int) × ((Int) × (Int)))))))), ([] : List ((Int) × ((Int) × (Int))))), r1.2)
  else (D40 p).bind fun r2 =>
  (idx r2.1 r).bind fun e1 =>
  some ((List.set r2.1 (Int.toNat r) (e1.1, r1.1), r2.2), 0) : Option (((List ((Int) × ((List (Int)) × ((Int) × (List ((Int) × ((Int) × (Int)))))))) × (List ((Int) × ((Int) × (Int))))) × (Int))) := by kernel_rfl

/-! skiarea/skiarearef19.SameInts -/
noncomputable def D46 (a0 : List (Int)) (a1 : List (Int)) : Option (Bool) := d46 (a0, a1)
noncomputable def lp46_1 (fuel : Nat)  (a1₀ : List (Int)) (b1₀ : List (Int)) (i₀ : Int) : Option (Bool) :=
  iter (fun F ((a1, b1, i) : (List (Int)) × (List (Int)) × Int) =>
    bif decide (i < (List.length a1 : Int)) then (
      (idx a1 i).bind fun e =>
      (idx b1 i).bind fun e1 =>
      bif (e != e1) then some false
      else F (a1, b1, IntKind.i64.wrap (i + 1)))
    else some true) fuel (a1₀, b1₀, i₀)

theorem f46_1  (a1 : List (Int)) (b1 : List (Int)) (hl : (a1).length ≤ maxLen) : lp46_1 big a1 b1 0 =
  forI (fun ix el (_ : Unit) K =>
    ((idx b1 (ix : Int)).bind fun e1 =>
    bif (el != e1) then some false
    else K () : Option (Bool)))
    (fun (_ : Unit) =>
    (some true : Option (Bool))) 0 a1 () := by
  refine iter_forI_from a1 (fun ix (_ : Unit) => (a1, b1, (ix : Int))) _ _ ?_ ?_ (k := 0) (Nat.zero_le _) (len_lt_big hl) ()
  · rintro F k h _
    simp only [dec_lt h, condT, idx_get h, bindS, wrap_succ h hl]
  · rintro F _
    simp only [dec_end, condF]

theorem g46 (fuel : Nat) (a : List (Int)) (b : List (Int)) : (fnK tab env46 6 ann46 fuel Try.f46 [] ps46 rs46 true (a, b) : Option (Bool)) = (
  bif ((List.length a : Int) != (List.length b : Int)) then some false
  else lp46_1 fuel a b 0 : Option (Bool)) := by kernel_rfl
theorem e46 (a : List (Int)) (b : List (Int)) : D46 a b = (
  bif ((List.length a : Int) != (List.length b : Int)) then some false
  else lp46_1 big a b 0 : Option (Bool)) := g46 big a b

/-! skiarea/skiarearef19.Same -/
noncomputable def D30 (a0 : (List (Int)) × ((Int) × (List ((Int) × ((Int) × (Int)))))) (a1 : (List (Int)) × ((Int) × (List ((Int) × ((Int) × (Int)))))) : Option (Bool) := d30 (a0, a1)
noncomputable def lp30_1 (fuel : Nat)  (a1₀ : (List (Int)) × ((Int) × (List ((Int) × ((Int) × (Int)))))) (b1₀ : (List (Int)) × ((Int) × (List ((Int) × ((Int) × (Int)))))) (i₀ : Int) : Option (Bool) :=
  iter (fun F ((a1, b1, i) : ((List (Int)) × ((Int) × (List ((Int) × ((Int) × (Int)))))) × ((List (Int)) × ((Int) × (List ((Int) × ((Int) × (Int)))))) × Int) =>
    bif decide (i < (List.length a1.2.2 : Int)) then (
      (idx a1.2.2 i).bind fun e =>
      (idx b1.2.2 i).bind fun e1 =>
      bif (!((e.1 == e1.1) && ((e.2.1 == e1.2.1) && (e.2.2 == e1.2.2)))) then some false
      else F (a1, b1, IntKind.i64.wrap (i + 1)))
    else some true) fuel (a1₀, b1₀, i₀)

theorem f30_1  (a1 : (List (Int)) × ((Int) × (List ((Int) × ((Int) × (Int)))))) (b1 : (List (Int)) × ((Int) × (List ((Int) × ((Int) × (Int)))))) (hl : (a1.2.2).length ≤ maxLen) : lp30_1 big a1 b1 0 =
  forI (fun ix el (_ : Unit) K =>
    ((idx b1.2.2 (ix : Int)).bind fun e1 =>
    bif (!((el.1 == e1.1) && ((el.2.1 == e1.2.1) && (el.2.2 == e1.2.2)))) then some false
    else K () : Option (Bool)))
    (fun (_ : Unit) =>
    (some true : Option (Bool))) 0 a1.2.2 () := by
  refine iter_forI_from a1.2.2 (fun ix (_ : Unit) => (a1, b1, (ix : Int))) _ _ ?_ ?_ (k := 0) (Nat.zero_le _) (len_lt_big hl) ()
  · rintro F k h _
    simp only [dec_lt h, condT, idx_get h, bindS, wrap_succ h hl]
  · rintro F _
    simp only [dec_end, condF]

theorem g30 (fuel : Nat) (a : (List (Int)) × ((Int) × (List ((Int) × ((Int) × (Int)))))) (b : (List (Int)) × ((Int) × (List ((Int) × ((Int) × (Int)))))) : (fnK tab env30 6 ann30 fuel Try.f30 [] ps30 rs30 true (a, b) : Option (Bool)) = (
  bif (a.2.1 != b.2.1) then some false
  else bif ((List.length a.2.2 : Int) != (List.length b.2.2 : Int)) then some false
  else (D46 a.1 b.1).bind fun r =>
  bif (!r) then some false
  else lp30_1 fuel a b 0 : Option (Bool)) := by kernel_rfl
theorem e30 (a : (List (Int)) × ((Int) × (List ((Int) × ((Int) × (Int)))))) (b : (List (Int)) × ((Int) × (List ((Int) × ((Int) × (Int)))))) : D30 a b = (
  bif (a.2.1 != b.2.1) then some false
  else bif ((List.length a.2.2 : Int) != (List.length b.2.2 : Int)) then some false
  else (D46 a.1 b.1).bind fun r =>
  bif (!r) then some false
  else lp30_1 big a b 0 : Option (Bool)) := g30 big a b

/-! skiarea/skiarearef53.Same -/
noncomputable def D17 (a0 : (List ((Int) × ((List (Int)) × ((Int) × (List ((Int) × ((Int) × (Int)))))))) × (List ((Int) × ((Int) × (Int))))) (a1 : (List ((Int) × ((List (Int)) × ((Int) × (List ((Int) × ((Int) × (Int)))))))) × (List ((Int) × ((Int) × (Int))))) : Option (Bool) := d17 (a0, a1)
noncomputable def lp17_1 (fuel : Nat)  (a2₀ : (List ((Int) × ((List (Int)) × ((Int) × (List ((Int) × ((Int) × (Int)))))))) × (List ((Int) × ((Int) × (Int))))) (b2₀ : (List ((Int) × ((List (Int)) × ((Int) × (List ((Int) × ((Int) × (Int)))))))) × (List ((Int) × ((Int) × (Int))))) (i1₀ : Int) : Option (Bool) :=
  iter (fun F1 ((a2, b2, i1) : ((List ((Int) × ((List (Int)) × ((Int) × (List ((Int) × ((Int) × (Int)))))))) × (List ((Int) × ((Int) × (Int))))) × ((List ((Int) × ((List (Int)) × ((Int) × (List ((Int) × ((Int) × (Int)))))))) × (List ((Int) × ((Int) × (Int))))) × Int) =>
    bif decide (i1 < (List.length a2.2 : Int)) then (
      (idx a2.2 i1).bind fun e =>
      (idx b2.2 i1).bind fun e1 =>
      bif (!((e.1 == e1.1) && ((e.2.1 == e1.2.1) && (e.2.2 == e1.2.2)))) then some false
      else F1 (a2, b2, IntKind.i64.wrap (i1 + 1)))
    else some true) fuel (a2₀, b2₀, i1₀)

theorem f17_1  (a2 : (List ((Int) × ((List (Int)) × ((Int) × (List ((Int) × ((Int) × (Int)))))))) × (List ((Int) × ((Int) × (Int))))) (b2 : (List ((Int) × ((List (Int)) × ((Int) × (List ((Int) × ((Int) × (Int)))))))) × (List ((Int) × ((Int) × (Int))))) (hl : (a2.2).length ≤ maxLen) : lp17_1 big a2 b2 0 =
  forI (fun ix el (_ : Unit) K =>
    ((idx b2.2 (ix : Int)).bind fun e1 =>
    bif (!((el.1 == e1.1) && ((el.2.1 == e1.2.1) && (el.2.2 == e1.2.2)))) then some false
    else K () : Option (Bool)))
    (fun (_ : Unit) =>
    (some true : Option (Bool))) 0 a2.2 () := by
  refine iter_forI_from a2.2 (fun ix (_ : Unit) => (a2, b2, (ix : Int))) _ _ ?_ ?_ (k := 0) (Nat.zero_le _) (len_lt_big hl) ()
  · rintro F k h _
    simp only [dec_lt h, condT, idx_get h, bindS, wrap_succ h hl]
  · rintro F _
    simp only [dec_end, condF]

noncomputable def lp17_3 (fuel : Nat)  (a1₀ : (List ((Int) × ((List (Int)) × ((Int) × (List ((Int) × ((Int) × (Int)))))))) × (List ((Int) × ((Int) × (Int))))) (b1₀ : (List ((Int) × ((List (Int)) × ((Int) × (List ((Int) × ((Int) × (Int)))))))) × (List ((Int) × ((Int) × (Int))))) (i₀ : Int) : Option (Bool) :=
  iter (fun F ((a1, b1, i) : ((List ((Int) × ((List (Int)) × ((Int) × (List ((Int) × ((Int) × (Int)))))))) × (List ((Int) × ((Int) × (Int))))) × ((List ((Int) × ((List (Int)) × ((Int) × (List ((Int) × ((Int) × (Int)))))))) × (List ((Int) × ((Int) × (Int))))) × Int) =>
    bif decide (i < (List.length a1.1 : Int)) then (
      (idx a1.1 i).bind fun e =>
      (idx b1.1 i).bind fun e1 =>
      bif (e.1 != e1.1) then some false
      else (idx a1.1 i).bind fun e2 =>
      (idx b1.1 i).bind fun e3 =>
      (D30 e2.2 e3.2).bind fun r =>
      bif (!r) then some false
      else F (a1, b1, IntKind.i64.wrap (i + 1)))
    else lp17_1 fuel a1 b1 0) fuel (a1₀, b1₀, i₀)

theorem f17_3  (a1 : (List ((Int) × ((List (Int)) × ((Int) × (List ((Int) × ((Int) × (Int)))))))) × (List ((Int) × ((Int) × (Int))))) (b1 : (List ((Int) × ((List (Int)) × ((Int) × (List ((Int) × ((Int) × (Int)))))))) × (List ((Int) × ((Int) × (Int))))) (hl : (a1.1).length ≤ maxLen) : lp17_3 big a1 b1 0 =
  forI (fun ix el (_ : Unit) K =>
    ((idx b1.1 (ix : Int)).bind fun e1 =>
    bif (el.1 != e1.1) then some false
    else (idx b1.1 (ix : Int)).bind fun e3 =>
    (D30 el.2 e3.2).bind fun r =>
    bif (!r) then some false
    else K () : Option (Bool)))
    (fun (_ : Unit) =>
    (lp17_1 big a1 b1 0 : Option (Bool))) 0 a1.1 () := by
  refine iter_forI_from a1.1 (fun ix (_ : Unit) => (a1, b1, (ix : Int))) _ _ ?_ ?_ (k := 0) (Nat.zero_le _) (len_lt_big hl) ()
  · rintro F k h _
    simp only [dec_lt h, condT, idx_get h, bindS, wrap_succ h hl]
  · rintro F _
    simp only [dec_end, condF]

theorem g17 (fuel : Nat) (a : (List ((Int) × ((List (Int)) × ((Int) × (List ((Int) × ((Int) × (Int)))))))) × (List ((Int) × ((Int) × (Int))))) (b : (List ((Int) × ((List (Int)) × ((Int) × (List ((Int) × ((Int) × (Int)))))))) × (List ((Int) × ((Int) × (Int))))) : (fnK tab env17 7 ann17 fuel Try.f17 [] ps17 rs17 true (a, b) : Option (Bool)) = (
  bif ((List.length a.1 : Int) != (List.length b.1 : Int)) then some false
  else bif ((List.length a.2 : Int) != (List.length b.2 : Int)) then some false
  else lp17_3 fuel a b 0 : Option (Bool)) := by kernel_rfl
theorem e17 (a : (List ((Int) × ((List (Int)) × ((Int) × (List ((Int) × ((Int) × (Int)))))))) × (List ((Int) × ((Int) × (Int))))) (b : (List ((Int) × ((List (Int)) × ((Int) × (List ((Int) × ((Int) × (Int)))))))) × (List ((Int) × ((Int) × (Int))))) : D17 a b = (
  bif ((List.length a.1 : Int) != (List.length b.1 : Int)) then some false
  else bif ((List.length a.2 : Int) != (List.length b.2 : Int)) then some false
  else lp17_3 big a b 0 : Option (Bool)) := g17 big a b

/-! skiarea/skiarealaw53.PatrolSigns -/
noncomputable def D4 (a0 : (List ((Int) × ((List (Int)) × ((Int) × (List ((Int) × ((Int) × (Int)))))))) × (List ((Int) × ((Int) × (Int))))) (a1 : Int) (a2 : (Int) × ((Int) × (Int))) : Option (Bool) := d4 (a0, a1, a2)
theorem e4 (p : (List ((Int) × ((List (Int)) × ((Int) × (List ((Int) × ((Int) × (Int)))))))) × (List ((Int) × ((Int) × (Int))))) (run_ : Int) (s : (Int) × ((Int) × (Int))) : D4 p run_ s = (
  (D10).bind fun r =>
  bif (!r) then some false
  else (D14 p).bind fun r1 =>
  bif (!r1) then some true
  else (D15 p run_ s.1 s.2.1 s.2.2).bind fun r2 =>
  (D16 p run_ s.1 s.2.1 s.2.2).bind fun r3 =>
  (D17 r2.1 r3.1).bind fun r4 =>
  bif r4 then some (r2.2 == r3.2)
  else some false : Option (Bool)) := by kernel_rfl

/-! skiarea/skiarearef53.Report -/
noncomputable def D19 (a0 : (List ((Int) × ((List (Int)) × ((Int) × (List ((Int) × ((Int) × (Int)))))))) × (List ((Int) × ((Int) × (Int))))) (a1 : (Int) × ((Int) × (Int))) : Option (((List ((Int) × ((List (Int)) × ((Int) × (List ((Int) × ((Int) × (Int)))))))) × (List ((Int) × ((Int) × (Int))))) × (Int)) := d19 (a0, a1)
theorem e19 (p : (List ((Int) × ((List (Int)) × ((Int) × (List ((Int) × ((Int) × (Int)))))))) × (List ((Int) × ((Int) × (Int))))) (h : (Int) × ((Int) × (Int))) : D19 p h = (
  (D40 p).bind fun r =>
  bif (Nat.ble ((List.length r.2 + List.length [h]) * 24) appendLimit && Nat.ble (List.length r.2 + List.length [h]) 9223372036854775807) then (
    (D13 (r.1, r.2 ++ [h])).bind fun r1 =>
    bif (r1 != 0) then some ((([] : List ((Int) × ((List (Int)) × ((Int) × (List ((Int) × ((Int) × (Int)))))))), ([] : List ((Int) × ((Int) × (Int))))), r1)
    else some ((r.1, r.2 ++ [h]), 0))
  else none : Option (((List ((Int) × ((List (Int)) × ((Int) × (List ((Int) × ((Int) × (Int)))))))) × (List ((Int) × ((Int) × (Int))))) × (Int))) := by kernel_rfl

/-! skiarea/skiarearef53.Remove -/
noncomputable def D21 (a0 : (List ((Int) × ((List (Int)) × ((Int) × (List ((Int) × ((Int) × (Int)))))))) × (List ((Int) × ((Int) × (Int))))) (a1 : Int) : Option (((List ((Int) × ((List (Int)) × ((Int) × (List ((Int) × ((Int) × (Int)))))))) × (List ((Int) × ((Int) × (Int))))) × (Int)) := d21 (a0, a1)
noncomputable def lp21_1 (fuel : Nat)  (id_1₀ : Int) (p1₀ : (List ((Int) × ((List (Int)) × ((Int) × (List ((Int) × ((Int) × (Int)))))))) × (List ((Int) × ((Int) × (Int))))) (v₀ : (List ((Int) × ((List (Int)) × ((Int) × (List ((Int) × ((Int) × (Int)))))))) × (List ((Int) × ((Int) × (Int))))) (out₀ : (List ((Int) × ((List (Int)) × ((Int) × (List ((Int) × ((Int) × (Int)))))))) × (List ((Int) × ((Int) × (Int))))) (i₀ : Int) : Option (((List ((Int) × ((List (Int)) × ((Int) × (List ((Int) × ((Int) × (Int)))))))) × (List ((Int) × ((Int) × (Int))))) × (Int)) :=
  iter (fun F ((id_1, p1, v, out, i) : Int × ((List ((Int) × ((List (Int)) × ((Int) × (List ((Int) × ((Int) × (Int)))))))) × (List ((Int) × ((Int) × (Int))))) × ((List ((Int) × ((List (Int)) × ((Int) × (List ((Int) × ((Int) × (Int)))))))) × (List ((Int) × ((Int) × (Int))))) × ((List ((Int) × ((List (Int)) × ((Int) × (List ((Int) × ((Int) × (Int)))))))) × (List ((Int) × ((Int) × (Int))))) × Int) =>
    bif decide (i < (List.length p1.2 : Int)) then (
      (idx p1.2 i).bind fun e =>
      bif (e.1 != id_1) then (
        (idx p1.2 i).bind fun e1 =>
        bif (Nat.ble ((List.length out.2 + List.length [e1]) * 24) appendLimit && Nat.ble (List.length out.2 + List.length [e1]) 9223372036854775807) then F (id_1, p1, v, (out.1, out.2 ++ [e1]), IntKind.i64.wrap (i + 1))
        else none)
      else F (id_1, p1, v, out, IntKind.i64.wrap (i + 1)))
    else bif ((List.length out.2 : Int) == (List.length p1.2 : Int)) then some ((([] : List ((Int) × ((List (Int)) × ((Int) × (List ((Int) × ((Int) × (Int)))))))), ([] : List ((Int) × ((Int) × (Int))))), 8)
    else some (out, 0)) fuel (id_1₀, p1₀, v₀, out₀, i₀)

theorem f21_1  (id_1 : Int) (p1 : (List ((Int) × ((List (Int)) × ((Int) × (List ((Int) × ((Int) × (Int)))))))) × (List ((Int) × ((Int) × (Int))))) (v : (List ((Int) × ((List (Int)) × ((Int) × (List ((Int) × ((Int) × (Int)))))))) × (List ((Int) × ((Int) × (Int))))) (out : (List ((Int) × ((List (Int)) × ((Int) × (List ((Int) × ((Int) × (Int)))))))) × (List ((Int) × ((Int) × (Int))))) (hl : (p1.2).length ≤ maxLen) : lp21_1 big id_1 p1 v out 0 =
  forE (fun  el (out : ((List ((Int) × ((List (Int)) × ((Int) × (List ((Int) × ((Int) × (Int)))))))) × (List ((Int) × ((Int) × (Int)))))) K =>
    (bif (el.1 != id_1) then (
      bif (Nat.ble ((List.length out.2 + List.length [el]) * 24) appendLimit && Nat.ble (List.length out.2 + List.length [el]) 9223372036854775807) then K (out.1, out.2 ++ [el])
      else none)
    else K out : Option (((List ((Int) × ((List (Int)) × ((Int) × (List ((Int) × ((Int) × (Int)))))))) × (List ((Int) × ((Int) × (Int))))) × (Int))))
    (fun (out : ((List ((Int) × ((List (Int)) × ((Int) × (List ((Int) × ((Int) × (Int)))))))) × (List ((Int) × ((Int) × (Int)))))) =>
    (bif ((List.length out.2 : Int) == (List.length p1.2 : Int)) then some ((([] : List ((Int) × ((List (Int)) × ((Int) × (List ((Int) × ((Int) × (Int)))))))), ([] : List ((Int) × ((Int) × (Int))))), 8)
    else some (out, 0) : Option (((List ((Int) × ((List (Int)) × ((Int) × (List ((Int) × ((Int) × (Int)))))))) × (List ((Int) × ((Int) × (Int))))) × (Int)))) p1.2 out := by
  refine iter_forE p1.2 (fun ix (out : ((List ((Int) × ((List (Int)) × ((Int) × (List ((Int) × ((Int) × (Int)))))))) × (List ((Int) × ((Int) × (Int)))))) => (id_1, p1, v, out, (ix : Int))) _ _ ?_ ?_ (len_lt_big hl) out
  · rintro F k h out
    simp only [dec_lt h, condT, idx_get h, bindS, wrap_succ h hl]
  · rintro F out
    simp only [dec_end, condF]

theorem g21 (fuel : Nat) (p : (List ((Int) × ((List (Int)) × ((Int) × (List ((Int) × ((Int) × (Int)))))))) × (List ((Int) × ((Int) × (Int))))) (id_ : Int) : (fnK tab env21 8 ann21 fuel Try.f21 [] ps21 rs21 true (p, id_) : Option (((List ((Int) × ((List (Int)) × ((Int) × (List ((Int) × ((Int) × (Int)))))))) × (List ((Int) × ((Int) × (Int))))) × (Int))) = (
  (D40 p).bind fun r =>
  lp21_1 fuel id_ p (([] : List ((Int) × ((List (Int)) × ((Int) × (List ((Int) × ((Int) × (Int)))))))), ([] : List ((Int) × ((Int) × (Int))))) (r.1, ([] : List ((Int) × ((Int) × (Int))))) 0 : Option (((List ((Int) × ((List (Int)) × ((Int) × (List ((Int) × ((Int) × (Int)))))))) × (List ((Int) × ((Int) × (Int))))) × (Int))) := by kernel_rfl
theorem e21 (p : (List ((Int) × ((List (Int)) × ((Int) × (List ((Int) × ((Int) × (Int)))))))) × (List ((Int) × ((Int) × (Int))))) (id_ : Int) : D21 p id_ = (
  (D40 p).bind fun r =>
  lp21_1 big id_ p (([] : List ((Int) × ((List (Int)) × ((Int) × (List ((Int) × ((Int) × (Int)))))))), ([] : List ((Int) × ((Int) × (Int))))) (r.1, ([] : List ((Int) × ((Int) × (Int))))) 0 : Option (((List ((Int) × ((List (Int)) × ((Int) × (List ((Int) × ((Int) × (Int)))))))) × (List ((Int) × ((Int) × (Int))))) × (Int))) := g21 big p id_

/-! skiarea/skiarealaw53.PatrolReports -/
noncomputable def D5 (a0 : (List ((Int) × ((List (Int)) × ((Int) × (List ((Int) × ((Int) × (Int)))))))) × (List ((Int) × ((Int) × (Int))))) (a1 : (Int) × ((Int) × (Int))) (a2 : Int) : Option (Bool) := d5 (a0, a1, a2)
theorem e5 (p : (List ((Int) × ((List (Int)) × ((Int) × (List ((Int) × ((Int) × (Int)))))))) × (List ((Int) × ((Int) × (Int))))) (h : (Int) × ((Int) × (Int))) (id_ : Int) : D5 p h id_ = (
  (D10).bind fun r =>
  bif (!r) then some false
  else (D14 p).bind fun r1 =>
  bif (!r1) then some true
  else (D18 p h).bind fun r2 =>
  (D19 p h).bind fun r3 =>
  (D20 p id_).bind fun r4 =>
  (D21 p id_).bind fun r5 =>
  (D17 r2.1 r3.1).bind fun r6 =>
  bif r6 then (
    bif (r2.2 == r3.2) then (
      (D17 r4.1 r5.1).bind fun r7 =>
      bif r7 then some (r4.2 == r5.2)
      else some false)
    else some false)
  else some false : Option (Bool)) := by kernel_rfl

/-! skiarea/skiarearef19.end -/
noncomputable def D61 (a0 : (List (Int)) × ((Int) × (List ((Int) × ((Int) × (Int)))))) (a1 : Int) (a2 : Int) : Option (Int) := d61 (a0, a1, a2)
noncomputable def lp61_1 (fuel : Nat)  (item1₀ : Int) (t1₀ : Int) (l1₀ : (List (Int)) × ((Int) × (List ((Int) × ((Int) × (Int)))))) (out₀ : Int) (i₀ : Int) : Option (Int) :=
  iter (fun F ((item1, t1, l1, out, i) : Int × Int × ((List (Int)) × ((Int) × (List ((Int) × ((Int) × (Int)))))) × Int × Int) =>
    bif decide (i < (List.length l1.2.2 : Int)) then (
      (idx l1.2.2 i).bind fun e =>
      bif (e.1 == item1) then (
        bif decide (e.2.2 ≤ t1) then (
          bif decide (t1 < IntKind.i64.wrap (e.2.2 + l1.2.1)) then F (item1, t1, l1, (bif decide ((IntKind.i64.wrap (e.2.2 + l1.2.1) : Int) > out) then IntKind.i64.wrap (e.2.2 + l1.2.1) else out), IntKind.i64.wrap (i + 1))
          else F (item1, t1, l1, out, IntKind.i64.wrap (i + 1)))
        else F (item1, t1, l1, out, IntKind.i64.wrap (i + 1)))
      else F (item1, t1, l1, out, IntKind.i64.wrap (i + 1)))
    else some out) fuel (item1₀, t1₀, l1₀, out₀, i₀)

theorem f61_1  (item1 : Int) (t1 : Int) (l1 : (List (Int)) × ((Int) × (List ((Int) × ((Int) × (Int)))))) (out : Int) (hl : (l1.2.2).length ≤ maxLen) : lp61_1 big item1 t1 l1 out 0 =
  forE (fun  el (out : Int) K =>
    (bif (el.1 == item1) then (
      bif decide (el.2.2 ≤ t1) then (
        bif decide (t1 < IntKind.i64.wrap (el.2.2 + l1.2.1)) then K (bif decide ((IntKind.i64.wrap (el.2.2 + l1.2.1) : Int) > out) then IntKind.i64.wrap (el.2.2 + l1.2.1) else out)
        else K out)
      else K out)
    else K out : Option (Int)))
    (fun (out : Int) =>
    (some out : Option (Int))) l1.2.2 out := by
  refine iter_forE l1.2.2 (fun ix (out : Int) => (item1, t1, l1, out, (ix : Int))) _ _ ?_ ?_ (len_lt_big hl) out
  · rintro F k h out
    simp only [dec_lt h, condT, idx_get h, bindS, wrap_succ h hl]
  · rintro F out
    simp only [dec_end, condF]

theorem g61 (fuel : Nat) (l : (List (Int)) × ((Int) × (List ((Int) × ((Int) × (Int)))))) (item : Int) (t : Int) : (fnK tab env61 10 ann61 fuel Try.f61 [] ps61 rs61 true (l, item, t) : Option (Int)) = (
  lp61_1 fuel item t l t 0 : Option (Int)) := by kernel_rfl
theorem e61 (l : (List (Int)) × ((Int) × (List ((Int) × ((Int) × (Int)))))) (item : Int) (t : Int) : D61 l item t = (
  lp61_1 big item t l t 0 : Option (Int)) := g61 big l item t

/-! skiarea/skiarearef19.Open -/
noncomputable def D57 (a0 : (List (Int)) × ((Int) × (List ((Int) × ((Int) × (Int)))))) (a1 : Int) : Option (List (Int)) := d57 (a0, a1)
noncomputable def lp57_1 (fuel : Nat)  (t1₀ : Int) (l1₀ : (List (Int)) × ((Int) × (List ((Int) × ((Int) × (Int)))))) (out₀ : List (Int)) (i₀ : Int) : Option (List (Int)) :=
  iter (fun F ((t1, l1, out, i) : Int × ((List (Int)) × ((Int) × (List ((Int) × ((Int) × (Int)))))) × (List (Int)) × Int) =>
    bif decide (i < (List.length l1.1 : Int)) then (
      (idx l1.1 i).bind fun e =>
      (D61 l1 e t1).bind fun r =>
      bif (r == t1) then (
        (idx l1.1 i).bind fun e1 =>
        bif (Nat.ble ((List.length out + List.length [e1]) * 8) appendLimit && Nat.ble (List.length out + List.length [e1]) 9223372036854775807) then F (t1, l1, out ++ [e1], IntKind.i64.wrap (i + 1))
        else none)
      else F (t1, l1, out, IntKind.i64.wrap (i + 1)))
    else some out) fuel (t1₀, l1₀, out₀, i₀)

theorem f57_1  (t1 : Int) (l1 : (List (Int)) × ((Int) × (List ((Int) × ((Int) × (Int)))))) (out : List (Int)) (hl : (l1.1).length ≤ maxLen) : lp57_1 big t1 l1 out 0 =
  forE (fun  el (out : (List (Int))) K =>
    ((D61 l1 el t1).bind fun r =>
    bif (r == t1) then (
      bif (Nat.ble ((List.length out + List.length [el]) * 8) appendLimit && Nat.ble (List.length out + List.length [el]) 9223372036854775807) then K (out ++ [el])
      else none)
    else K out : Option (List (Int))))
    (fun (out : (List (Int))) =>
    (some out : Option (List (Int)))) l1.1 out := by
  refine iter_forE l1.1 (fun ix (out : (List (Int))) => (t1, l1, out, (ix : Int))) _ _ ?_ ?_ (len_lt_big hl) out
  · rintro F k h out
    simp only [dec_lt h, condT, idx_get h, bindS, wrap_succ h hl]
  · rintro F out
    simp only [dec_end, condF]

theorem g57 (fuel : Nat) (l : (List (Int)) × ((Int) × (List ((Int) × ((Int) × (Int)))))) (t : Int) : (fnK tab env57 7 ann57 fuel Try.f57 [] ps57 rs57 true (l, t) : Option (List (Int))) = (
  lp57_1 fuel t l ([] : List (Int)) 0 : Option (List (Int))) := by kernel_rfl
theorem e57 (l : (List (Int)) × ((Int) × (List ((Int) × ((Int) × (Int)))))) (t : Int) : D57 l t = (
  lp57_1 big t l ([] : List (Int)) 0 : Option (List (Int))) := g57 big l t

/-! skiarea/skiarearef19.Done -/
noncomputable def D44 (a0 : (List (Int)) × ((Int) × (List ((Int) × ((Int) × (Int)))))) (a1 : Int) : Option (Bool) := d44 (a0, a1)
theorem e44 (l : (List (Int)) × ((Int) × (List ((Int) × ((Int) × (Int)))))) (t : Int) : D44 l t = (
  (D57 l t).bind fun r =>
  some ((List.length r : Int) == 0) : Option (Bool)) := by kernel_rfl

/-! skiarea/skiarearef53.Ready -/
noncomputable def D23 (a0 : (List ((Int) × ((List (Int)) × ((Int) × (List ((Int) × ((Int) × (Int)))))))) × (List ((Int) × ((Int) × (Int))))) (a1 : Int) (a2 : Int) : Option (Bool) := d23 (a0, a1, a2)
noncomputable def lp23_1 (fuel : Nat)  (run_1₀ : Int) (p1₀ : (List ((Int) × ((List (Int)) × ((Int) × (List ((Int) × ((Int) × (Int)))))))) × (List ((Int) × ((Int) × (Int))))) (k_₀ : Int) : Option (Bool) :=
  iter (fun F ((run_1, p1, k_) : Int × ((List ((Int) × ((List (Int)) × ((Int) × (List ((Int) × ((Int) × (Int)))))))) × (List ((Int) × ((Int) × (Int))))) × Int) =>
    bif decide (k_ < (List.length p1.2 : Int)) then (
      (idx p1.2 k_).bind fun e1 =>
      bif (e1.2.1 == run_1) then some false
      else F (run_1, p1, IntKind.i64.wrap (k_ + 1)))
    else some true) fuel (run_1₀, p1₀, k_₀)

theorem f23_1  (run_1 : Int) (p1 : (List ((Int) × ((List (Int)) × ((Int) × (List ((Int) × ((Int) × (Int)))))))) × (List ((Int) × ((Int) × (Int))))) (hl : (p1.2).length ≤ maxLen) : lp23_1 big run_1 p1 0 =
  forE (fun  el (_ : Unit) K =>
    (bif (el.2.1 == run_1) then some false
    else K () : Option (Bool)))
    (fun (_ : Unit) =>
    (some true : Option (Bool))) p1.2 () := by
  refine iter_forE p1.2 (fun ix (_ : Unit) => (run_1, p1, (ix : Int))) _ _ ?_ ?_ (len_lt_big hl) ()
  · rintro F k h _
    simp only [dec_lt h, condT, idx_get h, bindS, wrap_succ h hl]
  · rintro F _
    simp only [dec_end, condF]

theorem g23 (fuel : Nat) (p : (List ((Int) × ((List (Int)) × ((Int) × (List ((Int) × ((Int) × (Int)))))))) × (List ((Int) × ((Int) × (Int))))) (run_ : Int) (t : Int) : (fnK tab env23 9 ann23 fuel Try.f23 [] ps23 rs23 true (p, run_, t) : Option (Bool)) = (
  (D36 p run_).bind fun r =>
  bif decide (r < 0) then some false
  else (idx p.1 r).bind fun e =>
  (D44 e.2 t).bind fun r1 =>
  bif (!r1) then some false
  else lp23_1 fuel run_ p 0 : Option (Bool)) := by kernel_rfl
theorem e23 (p : (List ((Int) × ((List (Int)) × ((Int) × (List ((Int) × ((Int) × (Int)))))))) × (List ((Int) × ((Int) × (Int))))) (run_ : Int) (t : Int) : D23 p run_ t = (
  (D36 p run_).bind fun r =>
  bif decide (r < 0) then some false
  else (idx p.1 r).bind fun e =>
  (D44 e.2 t).bind fun r1 =>
  bif (!r1) then some false
  else lp23_1 big run_ p 0 : Option (Bool)) := g23 big p run_ t

/-! skiarea/skiarearef53.Open -/
noncomputable def D26 (a0 : (List ((Int) × ((List (Int)) × ((Int) × (List ((Int) × ((Int) × (Int)))))))) × (List ((Int) × ((Int) × (Int))))) (a1 : Int) : Option (List (Int)) := d26 (a0, a1)
noncomputable def lp26_1 (fuel : Nat)  (t1₀ : Int) (p1₀ : (List ((Int) × ((List (Int)) × ((Int) × (List ((Int) × ((Int) × (Int)))))))) × (List ((Int) × ((Int) × (Int))))) (out₀ : List (Int)) (i₀ : Int) : Option (List (Int)) :=
  iter (fun F ((t1, p1, out, i) : Int × ((List ((Int) × ((List (Int)) × ((Int) × (List ((Int) × ((Int) × (Int)))))))) × (List ((Int) × ((Int) × (Int))))) × (List (Int)) × Int) =>
    bif decide (i < (List.length p1.1 : Int)) then (
      (idx p1.1 i).bind fun e =>
      (D23 p1 e.1 t1).bind fun r =>
      bif (!r) then (
        (idx p1.1 i).bind fun e1 =>
        bif (Nat.ble ((List.length out + List.length [e1.1]) * 8) appendLimit && Nat.ble (List.length out + List.length [e1.1]) 9223372036854775807) then F (t1, p1, out ++ [e1.1], IntKind.i64.wrap (i + 1))
        else none)
      else F (t1, p1, out, IntKind.i64.wrap (i + 1)))
    else some out) fuel (t1₀, p1₀, out₀, i₀)

theorem f26_1  (t1 : Int) (p1 : (List ((Int) × ((List (Int)) × ((Int) × (List ((Int) × ((Int) × (Int)))))))) × (List ((Int) × ((Int) × (Int))))) (out : List (Int)) (hl : (p1.1).length ≤ maxLen) : lp26_1 big t1 p1 out 0 =
  forE (fun  el (out : (List (Int))) K =>
    ((D23 p1 el.1 t1).bind fun r =>
    bif (!r) then (
      bif (Nat.ble ((List.length out + List.length [el.1]) * 8) appendLimit && Nat.ble (List.length out + List.length [el.1]) 9223372036854775807) then K (out ++ [el.1])
      else none)
    else K out : Option (List (Int))))
    (fun (out : (List (Int))) =>
    (some out : Option (List (Int)))) p1.1 out := by
  refine iter_forE p1.1 (fun ix (out : (List (Int))) => (t1, p1, out, (ix : Int))) _ _ ?_ ?_ (len_lt_big hl) out
  · rintro F k h out
    simp only [dec_lt h, condT, idx_get h, bindS, wrap_succ h hl]
  · rintro F out
    simp only [dec_end, condF]

theorem g26 (fuel : Nat) (p : (List ((Int) × ((List (Int)) × ((Int) × (List ((Int) × ((Int) × (Int)))))))) × (List ((Int) × ((Int) × (Int))))) (t : Int) : (fnK tab env26 7 ann26 fuel Try.f26 [] ps26 rs26 true (p, t) : Option (List (Int))) = (
  lp26_1 fuel t p ([] : List (Int)) 0 : Option (List (Int))) := by kernel_rfl
theorem e26 (p : (List ((Int) × ((List (Int)) × ((Int) × (List ((Int) × ((Int) × (Int)))))))) × (List ((Int) × ((Int) × (Int))))) (t : Int) : D26 p t = (
  lp26_1 big t p ([] : List (Int)) 0 : Option (List (Int))) := g26 big p t

/-! skiarea/skiarealaw53.PatrolFits -/
noncomputable def D6 (a0 : (List ((Int) × ((List (Int)) × ((Int) × (List ((Int) × ((Int) × (Int)))))))) × (List ((Int) × ((Int) × (Int))))) (a1 : Int) (a2 : Int) : Option (Bool) := d6 (a0, a1, a2)
theorem e6 (p : (List ((Int) × ((List (Int)) × ((Int) × (List ((Int) × ((Int) × (Int)))))))) × (List ((Int) × ((Int) × (Int))))) (run_ : Int) (t : Int) : D6 p run_ t = (
  (D10).bind fun r =>
  bif (!r) then some false
  else (D14 p).bind fun r1 =>
  bif (!r1) then some true
  else (D22 p run_ t).bind fun r2 =>
  (D23 p run_ t).bind fun r3 =>
  bif (r2 == r3) then (
    (D25 p t).bind fun r4 =>
    (D26 p t).bind fun r5 =>
    (D24 r4 r5).bind fun r6 =>
    some r6)
  else some false : Option (Bool)) := by kernel_rfl

/-! skiarea/skiarealaw53.hazards -/
noncomputable def D28 (a0 : (List ((Int) × ((List (Int)) × ((Int) × (List ((Int) × ((Int) × (Int)))))))) × (List ((Int) × ((Int) × (Int))))) (a1 : Int) : Option (Int) := d28 (a0, a1)
noncomputable def lp28_1 (fuel : Nat)  (run_1₀ : Int) (p1₀ : (List ((Int) × ((List (Int)) × ((Int) × (List ((Int) × ((Int) × (Int)))))))) × (List ((Int) × ((Int) × (Int))))) (n₀ : Int) (i₀ : Int) : Option (Int) :=
  iter (fun F ((run_1, p1, n, i) : Int × ((List ((Int) × ((List (Int)) × ((Int) × (List ((Int) × ((Int) × (Int)))))))) × (List ((Int) × ((Int) × (Int))))) × Int × Int) =>
    bif decide (i < (List.length p1.2 : Int)) then (
      (idx p1.2 i).bind fun e =>
      bif (e.2.1 == run_1) then F (run_1, p1, IntKind.i64.wrap (n + 1), IntKind.i64.wrap (i + 1))
      else F (run_1, p1, n, IntKind.i64.wrap (i + 1)))
    else some n) fuel (run_1₀, p1₀, n₀, i₀)

theorem f28_1  (run_1 : Int) (p1 : (List ((Int) × ((List (Int)) × ((Int) × (List ((Int) × ((Int) × (Int)))))))) × (List ((Int) × ((Int) × (Int))))) (n : Int) (hl : (p1.2).length ≤ maxLen) : lp28_1 big run_1 p1 n 0 =
  forE (fun  el (n : Int) K =>
    (bif (el.2.1 == run_1) then K (IntKind.i64.wrap (n + 1))
    else K n : Option (Int)))
    (fun (n : Int) =>
    (some n : Option (Int))) p1.2 n := by
  refine iter_forE p1.2 (fun ix (n : Int) => (run_1, p1, n, (ix : Int))) _ _ ?_ ?_ (len_lt_big hl) n
  · rintro F k h n
    simp only [dec_lt h, condT, idx_get h, bindS, wrap_succ h hl]
  · rintro F n
    simp only [dec_end, condF]

theorem g28 (fuel : Nat) (p : (List ((Int) × ((List (Int)) × ((Int) × (List ((Int) × ((Int) × (Int)))))))) × (List ((Int) × ((Int) × (Int))))) (run_ : Int) : (fnK tab env28 7 ann28 fuel Try.f28 [] ps28 rs28 true (p, run_) : Option (Int)) = (
  lp28_1 fuel run_ p 0 0 : Option (Int)) := by kernel_rfl
theorem e28 (p : (List ((Int) × ((List (Int)) × ((Int) × (List ((Int) × ((Int) × (Int)))))))) × (List ((Int) × ((Int) × (Int))))) (run_ : Int) : D28 p run_ = (
  lp28_1 big run_ p 0 0 : Option (Int)) := g28 big p run_

/-! skiarea/skiarealaw53.PatrolReady -/
noncomputable def D7 (a0 : (List ((Int) × ((List (Int)) × ((Int) × (List ((Int) × ((Int) × (Int)))))))) × (List ((Int) × ((Int) × (Int))))) (a1 : Int) (a2 : Int) : Option (Bool) := d7 (a0, a1, a2)
noncomputable def lp7_1 (fuel : Nat)  (run_1₀ : Int) (t1₀ : Int) (p1₀ : (List ((Int) × ((List (Int)) × ((Int) × (List ((Int) × ((Int) × (Int)))))))) × (List ((Int) × ((Int) × (Int))))) (open_₀ : List (Int)) (k_₀ : Int) (found₀ : Bool) (i₀ : Int) : Option (Bool) :=
  iter (fun F ((run_1, t1, p1, open_, k_, found, i) : Int × Int × ((List ((Int) × ((List (Int)) × ((Int) × (List ((Int) × ((Int) × (Int)))))))) × (List ((Int) × ((Int) × (Int))))) × (List (Int)) × Int × Bool × Int) =>
    bif decide (i < (List.length p1.1 : Int)) then (
      (idx p1.1 i).bind fun e =>
      (D27 e.2 t1).bind fun r4 =>
      bif r4 then (
        (D28 p1 e.1).bind fun r5 =>
        bif found then (
          (D22 p1 e.1 t1).bind fun r6 =>
          bif (!(r6 == (r5 == 0))) then some false
          else bif (!(r5 == 0)) then (
            bif decide (k_ ≥ (List.length open_ : Int)) then some false
            else (idx open_ k_).bind fun e1 =>
            bif (e1 != e.1) then some false
            else F (run_1, t1, p1, open_, IntKind.i64.wrap (k_ + 1), true, IntKind.i64.wrap (i + 1)))
          else F (run_1, t1, p1, open_, k_, true, IntKind.i64.wrap (i + 1)))
        else (D22 p1 e.1 t1).bind fun r6 =>
        bif (!(r6 == (r5 == 0))) then some false
        else bif (!(r5 == 0)) then (
          bif decide (k_ ≥ (List.length open_ : Int)) then some false
          else (idx open_ k_).bind fun e1 =>
          bif (e1 != e.1) then some false
          else F (run_1, t1, p1, open_, IntKind.i64.wrap (k_ + 1), (e.1 == run_1), IntKind.i64.wrap (i + 1)))
        else F (run_1, t1, p1, open_, k_, (e.1 == run_1), IntKind.i64.wrap (i + 1)))
      else bif found then (
        (D22 p1 e.1 t1).bind fun r5 =>
        bif (!(r5 == false)) then some false
        else bif decide (k_ ≥ (List.length open_ : Int)) then some false
        else (idx open_ k_).bind fun e1 =>
        bif (e1 != e.1) then some false
        else F (run_1, t1, p1, open_, IntKind.i64.wrap (k_ + 1), true, IntKind.i64.wrap (i + 1)))
      else (D22 p1 e.1 t1).bind fun r5 =>
      bif (!(r5 == false)) then some false
      else bif decide (k_ ≥ (List.length open_ : Int)) then some false
      else (idx open_ k_).bind fun e1 =>
      bif (e1 != e.1) then some false
      else F (run_1, t1, p1, open_, IntKind.i64.wrap (k_ + 1), (e.1 == run_1), IntKind.i64.wrap (i + 1)))
    else bif (k_ == (List.length open_ : Int)) then (
      bif found then some true
      else (D22 p1 run_1 t1).bind fun r4 =>
      some (!r4))
    else some false) fuel (run_1₀, t1₀, p1₀, open_₀, k_₀, found₀, i₀)

theorem f7_1  (run_1 : Int) (t1 : Int) (p1 : (List ((Int) × ((List (Int)) × ((Int) × (List ((Int) × ((Int) × (Int)))))))) × (List ((Int) × ((Int) × (Int))))) (open_ : List (Int)) (k_ : Int) (found : Bool) (hl : (p1.1).length ≤ maxLen) : lp7_1 big run_1 t1 p1 open_ k_ found 0 =
  forE (fun  el ((k_, found) : Int × Bool) K =>
    ((D27 el.2 t1).bind fun r4 =>
    bif r4 then (
      (D28 p1 el.1).bind fun r5 =>
      bif found then (
        (D22 p1 el.1 t1).bind fun r6 =>
        bif (!(r6 == (r5 == 0))) then some false
        else bif (!(r5 == 0)) then (
          bif decide (k_ ≥ (List.length open_ : Int)) then some false
          else (idx open_ k_).bind fun e1 =>
          bif (e1 != el.1) then some false
          else K (IntKind.i64.wrap (k_ + 1), true))
        else K (k_, true))
      else (D22 p1 el.1 t1).bind fun r6 =>
      bif (!(r6 == (r5 == 0))) then some false
      else bif (!(r5 == 0)) then (
        bif decide (k_ ≥ (List.length open_ : Int)) then some false
        else (idx open_ k_).bind fun e1 =>
        bif (e1 != el.1) then some false
        else K (IntKind.i64.wrap (k_ + 1), (el.1 == run_1)))
      else K (k_, (el.1 == run_1)))
    else bif found then (
      (D22 p1 el.1 t1).bind fun r5 =>
      bif (!(r5 == false)) then some false
      else bif decide (k_ ≥ (List.length open_ : Int)) then some false
      else (idx open_ k_).bind fun e1 =>
      bif (e1 != el.1) then some false
      else K (IntKind.i64.wrap (k_ + 1), true))
    else (D22 p1 el.1 t1).bind fun r5 =>
    bif (!(r5 == false)) then some false
    else bif decide (k_ ≥ (List.length open_ : Int)) then some false
    else (idx open_ k_).bind fun e1 =>
    bif (e1 != el.1) then some false
    else K (IntKind.i64.wrap (k_ + 1), (el.1 == run_1)) : Option (Bool)))
    (fun ((k_, found) : Int × Bool) =>
    (bif (k_ == (List.length open_ : Int)) then (
      bif found then some true
      else (D22 p1 run_1 t1).bind fun r4 =>
      some (!r4))
    else some false : Option (Bool))) p1.1 (k_, found) := by
  refine iter_forE p1.1 (fun ix ((k_, found) : Int × Bool) => (run_1, t1, p1, open_, k_, found, (ix : Int))) _ _ ?_ ?_ (len_lt_big hl) (k_, found)
  · rintro F k h ⟨k_, found⟩
    simp only [dec_lt h, condT, idx_get h, bindS, wrap_succ h hl]
  · rintro F ⟨k_, found⟩
    simp only [dec_end, condF]

theorem g7 (fuel : Nat) (p : (List ((Int) × ((List (Int)) × ((Int) × (List ((Int) × ((Int) × (Int)))))))) × (List ((Int) × ((Int) × (Int))))) (run_ : Int) (t : Int) : (fnK tab env7 13 ann7 fuel Try.f7 [] ps7 rs7 true (p, run_, t) : Option (Bool)) = (
  (D10).bind fun r =>
  bif (!r) then some false
  else (D11 p).bind fun r1 =>
  bif (!r1) then some true
  else (D12 p).bind fun r2 =>
  bif (r2 != 0) then some true
  else (D25 p t).bind fun r3 =>
  lp7_1 fuel run_ t p r3 0 false 0 : Option (Bool)) := by kernel_rfl
theorem e7 (p : (List ((Int) × ((List (Int)) × ((Int) × (List ((Int) × ((Int) × (Int)))))))) × (List ((Int) × ((Int) × (Int))))) (run_ : Int) (t : Int) : D7 p run_ t = (
  (D10).bind fun r =>
  bif (!r) then some false
  else (D11 p).bind fun r1 =>
  bif (!r1) then some true
  else (D12 p).bind fun r2 =>
  bif (r2 != 0) then some true
  else (D25 p t).bind fun r3 =>
  lp7_1 big run_ t p r3 0 false 0 : Option (Bool)) := g7 big p run_ t

/-! skiarea/skiarealaw53.PatrolHazards -/
noncomputable def D8 (a0 : (List ((Int) × ((List (Int)) × ((Int) × (List ((Int) × ((Int) × (Int)))))))) × (List ((Int) × ((Int) × (Int))))) (a1 : (Int) × ((Int) × (Int))) (a2 : Int) (a3 : Int) : Option (Bool) := d8 (a0, a1, a2, a3)
theorem e8 (p : (List ((Int) × ((List (Int)) × ((Int) × (List ((Int) × ((Int) × (Int)))))))) × (List ((Int) × ((Int) × (Int))))) (h : (Int) × ((Int) × (Int))) (run_ : Int) (t : Int) : D8 p h run_ t = (
  (D10).bind fun r =>
  bif (!r) then some false
  else (D11 p).bind fun r1 =>
  bif (!r1) then some true
  else (D12 p).bind fun r2 =>
  bif (r2 != 0) then some true
  else (D18 p h).bind fun r3 =>
  bif (r3.2 != 0) then (
    bif ((List.length r3.1.1 : Int) == 0) then some ((List.length r3.1.2 : Int) == 0)
    else some false)
  else (D20 r3.1 h.1).bind fun r4 =>
  (D22 r3.1 h.2.1 t).bind fun r5 =>
  bif (!r5) then (
    bif (run_ == h.2.1) then (
      bif (r4.2 == 0) then (
        (D17 r4.1 p).bind fun r6 =>
        bif r6 then some ((List.length r3.1.2 : Int) == IntKind.i64.wrap ((List.length p.2 : Int) + 1))
        else some false)
      else some false)
    else (D22 r3.1 run_ t).bind fun r6 =>
    (D22 p run_ t).bind fun r7 =>
    bif (r6 == r7) then (
      bif (r4.2 == 0) then (
        (D17 r4.1 p).bind fun r8 =>
        bif r8 then some ((List.length r3.1.2 : Int) == IntKind.i64.wrap ((List.length p.2 : Int) + 1))
        else some false)
      else some false)
    else some false)
  else some false : Option (Bool)) := by kernel_rfl

/-! skiarea/skiarealaw53.latest -/
noncomputable def D29 (a0 : (List ((Int) × ((List (Int)) × ((Int) × (List ((Int) × ((Int) × (Int)))))))) × (List ((Int) × ((Int) × (Int))))) (a1 : Int) (a2 : Int) : Option (Bool) := d29 (a0, a1, a2)
noncomputable def lp29_1 (fuel : Nat) (F : (Int × Int × ((List ((Int) × ((List (Int)) × ((Int) × (List ((Int) × ((Int) × (Int)))))))) × (List ((Int) × ((Int) × (Int))))) × Int) → Option (Bool)) (run_2₀ : Int) (t2₀ : Int) (p2₀ : (List ((Int) × ((List (Int)) × ((Int) × (List ((Int) × ((Int) × (Int)))))))) × (List ((Int) × ((Int) × (Int))))) (i1₀ : Int) (k_₀ : Int) : Option (Bool) :=
  iter (fun F1 ((run_2, t2, p2, i1, k_) : Int × Int × ((List ((Int) × ((List (Int)) × ((Int) × (List ((Int) × ((Int) × (Int)))))))) × (List ((Int) × ((Int) × (Int))))) × Int × Int) =>
    (idx p2.1 i1).bind fun e =>
    bif decide (k_ < (List.length e.2.2.2 : Int)) then (
      (idx p2.1 i1).bind fun e1 =>
      bif (e1.1 == run_2) then (
        (idx p2.1 i1).bind fun e2 =>
        (idx e2.2.2.2 k_).bind fun e3 =>
        bif decide (e3.2.2 > t2) then some false
        else F1 (run_2, t2, p2, i1, IntKind.i64.wrap (k_ + 1)))
      else F (run_2, t2, p2, IntKind.i64.wrap (i1 + 1)))
    else F (run_2, t2, p2, IntKind.i64.wrap (i1 + 1))) fuel (run_2₀, t2₀, p2₀, i1₀, k_₀)

noncomputable def lp29_2 (fuel : Nat)  (run_1₀ : Int) (t1₀ : Int) (p1₀ : (List ((Int) × ((List (Int)) × ((Int) × (List ((Int) × ((Int) × (Int)))))))) × (List ((Int) × ((Int) × (Int))))) (i₀ : Int) : Option (Bool) :=
  iter (fun F ((run_1, t1, p1, i) : Int × Int × ((List ((Int) × ((List (Int)) × ((Int) × (List ((Int) × ((Int) × (Int)))))))) × (List ((Int) × ((Int) × (Int))))) × Int) =>
    bif decide (i < (List.length p1.1 : Int)) then lp29_1 fuel F run_1 t1 p1 i 0
    else some true) fuel (run_1₀, t1₀, p1₀, i₀)

theorem g29 (fuel : Nat) (p : (List ((Int) × ((List (Int)) × ((Int) × (List ((Int) × ((Int) × (Int)))))))) × (List ((Int) × ((Int) × (Int))))) (run_ : Int) (t : Int) : (fnK tab env29 9 ann29 fuel Try.f29 [] ps29 rs29 true (p, run_, t) : Option (Bool)) = (
  lp29_2 fuel run_ t p 0 : Option (Bool)) := by kernel_rfl
theorem e29 (p : (List ((Int) × ((List (Int)) × ((Int) × (List ((Int) × ((Int) × (Int)))))))) × (List ((Int) × ((Int) × (Int))))) (run_ : Int) (t : Int) : D29 p run_ t = (
  lp29_2 big run_ t p 0 : Option (Bool)) := g29 big p run_ t

/-! skiarea/skiarealaw53.PatrolKeeps -/
noncomputable def D9 (a0 : (List ((Int) × ((List (Int)) × ((Int) × (List ((Int) × ((Int) × (Int)))))))) × (List ((Int) × ((Int) × (Int))))) (a1 : Int) (a2 : (Int) × ((Int) × (Int))) (a3 : Int) (a4 : Int) : Option (Bool) := d9 (a0, a1, a2, a3, a4)
noncomputable def lp9_1 (fuel : Nat)  (p2₀ : (List ((Int) × ((List (Int)) × ((Int) × (List ((Int) × ((Int) × (Int)))))))) × (List ((Int) × ((Int) × (Int))))) (x1₀ : (List ((Int) × ((List (Int)) × ((Int) × (List ((Int) × ((Int) × (Int)))))))) × (List ((Int) × ((Int) × (Int))))) (i1₀ : Int) : Option (Bool) :=
  iter (fun F1 ((p2, x1, i1) : ((List ((Int) × ((List (Int)) × ((Int) × (List ((Int) × ((Int) × (Int)))))))) × (List ((Int) × ((Int) × (Int))))) × ((List ((Int) × ((List (Int)) × ((Int) × (List ((Int) × ((Int) × (Int)))))))) × (List ((Int) × ((Int) × (Int))))) × Int) =>
    bif decide (i1 < (List.length x1.2 : Int)) then (
      (idx x1.2 i1).bind fun e =>
      (idx p2.2 i1).bind fun e1 =>
      bif (!((e.1 == e1.1) && ((e.2.1 == e1.2.1) && (e.2.2 == e1.2.2)))) then some false
      else F1 (p2, x1, IntKind.i64.wrap (i1 + 1)))
    else some true) fuel (p2₀, x1₀, i1₀)

theorem f9_1  (p2 : (List ((Int) × ((List (Int)) × ((Int) × (List ((Int) × ((Int) × (Int)))))))) × (List ((Int) × ((Int) × (Int))))) (x1 : (List ((Int) × ((List (Int)) × ((Int) × (List ((Int) × ((Int) × (Int)))))))) × (List ((Int) × ((Int) × (Int))))) (hl : (x1.2).length ≤ maxLen) : lp9_1 big p2 x1 0 =
  forI (fun ix el (_ : Unit) K =>
    ((idx p2.2 (ix : Int)).bind fun e1 =>
    bif (!((el.1 == e1.1) && ((el.2.1 == e1.2.1) && (el.2.2 == e1.2.2)))) then some false
    else K () : Option (Bool)))
    (fun (_ : Unit) =>
    (some true : Option (Bool))) 0 x1.2 () := by
  refine iter_forI_from x1.2 (fun ix (_ : Unit) => (p2, x1, (ix : Int))) _ _ ?_ ?_ (k := 0) (Nat.zero_le _) (len_lt_big hl) ()
  · rintro F k h _
    simp only [dec_lt h, condT, idx_get h, bindS, wrap_succ h hl]
  · rintro F _
    simp only [dec_end, condF]

noncomputable def lp9_3 (fuel : Nat)  (run_1₀ : Int) (p1₀ : (List ((Int) × ((List (Int)) × ((Int) × (List ((Int) × ((Int) × (Int)))))))) × (List ((Int) × ((Int) × (Int))))) (x₀ : (List ((Int) × ((List (Int)) × ((Int) × (List ((Int) × ((Int) × (Int)))))))) × (List ((Int) × ((Int) × (Int))))) (i₀ : Int) : Option (Bool) :=
  iter (fun F ((run_1, p1, x, i) : Int × ((List ((Int) × ((List (Int)) × ((Int) × (List ((Int) × ((Int) × (Int)))))))) × (List ((Int) × ((Int) × (Int))))) × ((List ((Int) × ((List (Int)) × ((Int) × (List ((Int) × ((Int) × (Int)))))))) × (List ((Int) × ((Int) × (Int))))) × Int) =>
    bif decide (i < (List.length x.1 : Int)) then (
      (idx x.1 i).bind fun e =>
      (idx p1.1 i).bind fun e1 =>
      bif (e.1 != e1.1) then some false
      else (idx x.1 i).bind fun e2 =>
      bif (e2.1 != run_1) then (
        (idx x.1 i).bind fun e3 =>
        (idx p1.1 i).bind fun e4 =>
        (D30 e3.2 e4.2).bind fun r8 =>
        bif (!r8) then some false
        else F (run_1, p1, x, IntKind.i64.wrap (i + 1)))
      else F (run_1, p1, x, IntKind.i64.wrap (i + 1)))
    else lp9_1 fuel p1 x 0) fuel (run_1₀, p1₀, x₀, i₀)

theorem f9_3  (run_1 : Int) (p1 : (List ((Int) × ((List (Int)) × ((Int) × (List ((Int) × ((Int) × (Int)))))))) × (List ((Int) × ((Int) × (Int))))) (x : (List ((Int) × ((List (Int)) × ((Int) × (List ((Int) × ((Int) × (Int)))))))) × (List ((Int) × ((Int) × (Int))))) (hl : (x.1).length ≤ maxLen) : lp9_3 big run_1 p1 x 0 =
  forI (fun ix el (_ : Unit) K =>
    ((idx p1.1 (ix : Int)).bind fun e1 =>
    bif (el.1 != e1.1) then some false
    else bif (el.1 != run_1) then (
      (idx p1.1 (ix : Int)).bind fun e4 =>
      (D30 el.2 e4.2).bind fun r8 =>
      bif (!r8) then some false
      else K ())
    else K () : Option (Bool)))
    (fun (_ : Unit) =>
    (lp9_1 big p1 x 0 : Option (Bool))) 0 x.1 () := by
  refine iter_forI_from x.1 (fun ix (_ : Unit) => (run_1, p1, x, (ix : Int))) _ _ ?_ ?_ (k := 0) (Nat.zero_le _) (len_lt_big hl) ()
  · rintro F k h _
    simp only [dec_lt h, condT, idx_get h, bindS, wrap_succ h hl]
  · rintro F _
    simp only [dec_end, condF]

noncomputable def lp9_5 (fuel : Nat)  (p2₀ : (List ((Int) × ((List (Int)) × ((Int) × (List ((Int) × ((Int) × (Int)))))))) × (List ((Int) × ((Int) × (Int))))) (x1₀ : (List ((Int) × ((List (Int)) × ((Int) × (List ((Int) × ((Int) × (Int)))))))) × (List ((Int) × ((Int) × (Int))))) (i1₀ : Int) : Option (Bool) :=
  iter (fun F1 ((p2, x1, i1) : ((List ((Int) × ((List (Int)) × ((Int) × (List ((Int) × ((Int) × (Int)))))))) × (List ((Int) × ((Int) × (Int))))) × ((List ((Int) × ((List (Int)) × ((Int) × (List ((Int) × ((Int) × (Int)))))))) × (List ((Int) × ((Int) × (Int))))) × Int) =>
    bif decide (i1 < (List.length x1.2 : Int)) then (
      (idx x1.2 i1).bind fun e =>
      (idx p2.2 i1).bind fun e1 =>
      bif (!((e.1 == e1.1) && ((e.2.1 == e1.2.1) && (e.2.2 == e1.2.2)))) then some false
      else F1 (p2, x1, IntKind.i64.wrap (i1 + 1)))
    else some true) fuel (p2₀, x1₀, i1₀)

theorem f9_5  (p2 : (List ((Int) × ((List (Int)) × ((Int) × (List ((Int) × ((Int) × (Int)))))))) × (List ((Int) × ((Int) × (Int))))) (x1 : (List ((Int) × ((List (Int)) × ((Int) × (List ((Int) × ((Int) × (Int)))))))) × (List ((Int) × ((Int) × (Int))))) (hl : (x1.2).length ≤ maxLen) : lp9_5 big p2 x1 0 =
  forI (fun ix el (_ : Unit) K =>
    ((idx p2.2 (ix : Int)).bind fun e1 =>
    bif (!((el.1 == e1.1) && ((el.2.1 == e1.2.1) && (el.2.2 == e1.2.2)))) then some false
    else K () : Option (Bool)))
    (fun (_ : Unit) =>
    (some true : Option (Bool))) 0 x1.2 () := by
  refine iter_forI_from x1.2 (fun ix (_ : Unit) => (p2, x1, (ix : Int))) _ _ ?_ ?_ (k := 0) (Nat.zero_le _) (len_lt_big hl) ()
  · rintro F k h _
    simp only [dec_lt h, condT, idx_get h, bindS, wrap_succ h hl]
  · rintro F _
    simp only [dec_end, condF]

noncomputable def lp9_7 (fuel : Nat)  (run_1₀ : Int) (p1₀ : (List ((Int) × ((List (Int)) × ((Int) × (List ((Int) × ((Int) × (Int)))))))) × (List ((Int) × ((Int) × (Int))))) (x₀ : (List ((Int) × ((List (Int)) × ((Int) × (List ((Int) × ((Int) × (Int)))))))) × (List ((Int) × ((Int) × (Int))))) (i₀ : Int) : Option (Bool) :=
  iter (fun F ((run_1, p1, x, i) : Int × ((List ((Int) × ((List (Int)) × ((Int) × (List ((Int) × ((Int) × (Int)))))))) × (List ((Int) × ((Int) × (Int))))) × ((List ((Int) × ((List (Int)) × ((Int) × (List ((Int) × ((Int) × (Int)))))))) × (List ((Int) × ((Int) × (Int))))) × Int) =>
    bif decide (i < (List.length x.1 : Int)) then (
      (idx x.1 i).bind fun e =>
      (idx p1.1 i).bind fun e1 =>
      bif (e.1 != e1.1) then some false
      else (idx x.1 i).bind fun e2 =>
      bif (e2.1 != run_1) then (
        (idx x.1 i).bind fun e3 =>
        (idx p1.1 i).bind fun e4 =>
        (D30 e3.2 e4.2).bind fun r7 =>
        bif (!r7) then some false
        else F (run_1, p1, x, IntKind.i64.wrap (i + 1)))
      else F (run_1, p1, x, IntKind.i64.wrap (i + 1)))
    else lp9_5 fuel p1 x 0) fuel (run_1₀, p1₀, x₀, i₀)

theorem f9_7  (run_1 : Int) (p1 : (List ((Int) × ((List (Int)) × ((Int) × (List ((Int) × ((Int) × (Int)))))))) × (List ((Int) × ((Int) × (Int))))) (x : (List ((Int) × ((List (Int)) × ((Int) × (List ((Int) × ((Int) × (Int)))))))) × (List ((Int) × ((Int) × (Int))))) (hl : (x.1).length ≤ maxLen) : lp9_7 big run_1 p1 x 0 =
  forI (fun ix el (_ : Unit) K =>
    ((idx p1.1 (ix : Int)).bind fun e1 =>
    bif (el.1 != e1.1) then some false
    else bif (el.1 != run_1) then (
      (idx p1.1 (ix : Int)).bind fun e4 =>
      (D30 el.2 e4.2).bind fun r7 =>
      bif (!r7) then some false
      else K ())
    else K () : Option (Bool)))
    (fun (_ : Unit) =>
    (lp9_5 big p1 x 0 : Option (Bool))) 0 x.1 () := by
  refine iter_forI_from x.1 (fun ix (_ : Unit) => (run_1, p1, x, (ix : Int))) _ _ ?_ ?_ (k := 0) (Nat.zero_le _) (len_lt_big hl) ()
  · rintro F k h _
    simp only [dec_lt h, condT, idx_get h, bindS, wrap_succ h hl]
  · rintro F _
    simp only [dec_end, condF]

noncomputable def lp9_9 (fuel : Nat)  (p2₀ : (List ((Int) × ((List (Int)) × ((Int) × (List ((Int) × ((Int) × (Int)))))))) × (List ((Int) × ((Int) × (Int))))) (x1₀ : (List ((Int) × ((List (Int)) × ((Int) × (List ((Int) × ((Int) × (Int)))))))) × (List ((Int) × ((Int) × (Int))))) (i1₀ : Int) : Option (Bool) :=
  iter (fun F1 ((p2, x1, i1) : ((List ((Int) × ((List (Int)) × ((Int) × (List ((Int) × ((Int) × (Int)))))))) × (List ((Int) × ((Int) × (Int))))) × ((List ((Int) × ((List (Int)) × ((Int) × (List ((Int) × ((Int) × (Int)))))))) × (List ((Int) × ((Int) × (Int))))) × Int) =>
    bif decide (i1 < (List.length x1.2 : Int)) then (
      (idx x1.2 i1).bind fun e =>
      (idx p2.2 i1).bind fun e1 =>
      bif (!((e.1 == e1.1) && ((e.2.1 == e1.2.1) && (e.2.2 == e1.2.2)))) then some false
      else F1 (p2, x1, IntKind.i64.wrap (i1 + 1)))
    else some true) fuel (p2₀, x1₀, i1₀)

theorem f9_9  (p2 : (List ((Int) × ((List (Int)) × ((Int) × (List ((Int) × ((Int) × (Int)))))))) × (List ((Int) × ((Int) × (Int))))) (x1 : (List ((Int) × ((List (Int)) × ((Int) × (List ((Int) × ((Int) × (Int)))))))) × (List ((Int) × ((Int) × (Int))))) (hl : (x1.2).length ≤ maxLen) : lp9_9 big p2 x1 0 =
  forI (fun ix el (_ : Unit) K =>
    ((idx p2.2 (ix : Int)).bind fun e1 =>
    bif (!((el.1 == e1.1) && ((el.2.1 == e1.2.1) && (el.2.2 == e1.2.2)))) then some false
    else K () : Option (Bool)))
    (fun (_ : Unit) =>
    (some true : Option (Bool))) 0 x1.2 () := by
  refine iter_forI_from x1.2 (fun ix (_ : Unit) => (p2, x1, (ix : Int))) _ _ ?_ ?_ (k := 0) (Nat.zero_le _) (len_lt_big hl) ()
  · rintro F k h _
    simp only [dec_lt h, condT, idx_get h, bindS, wrap_succ h hl]
  · rintro F _
    simp only [dec_end, condF]

noncomputable def lp9_11 (fuel : Nat)  (run_1₀ : Int) (p1₀ : (List ((Int) × ((List (Int)) × ((Int) × (List ((Int) × ((Int) × (Int)))))))) × (List ((Int) × ((Int) × (Int))))) (x₀ : (List ((Int) × ((List (Int)) × ((Int) × (List ((Int) × ((Int) × (Int)))))))) × (List ((Int) × ((Int) × (Int))))) (i₀ : Int) : Option (Bool) :=
  iter (fun F ((run_1, p1, x, i) : Int × ((List ((Int) × ((List (Int)) × ((Int) × (List ((Int) × ((Int) × (Int)))))))) × (List ((Int) × ((Int) × (Int))))) × ((List ((Int) × ((List (Int)) × ((Int) × (List ((Int) × ((Int) × (Int)))))))) × (List ((Int) × ((Int) × (Int))))) × Int) =>
    bif decide (i < (List.length x.1 : Int)) then (
      (idx x.1 i).bind fun e =>
      (idx p1.1 i).bind fun e1 =>
      bif (e.1 != e1.1) then some false
      else (idx x.1 i).bind fun e2 =>
      bif (e2.1 != run_1) then (
        (idx x.1 i).bind fun e3 =>
        (idx p1.1 i).bind fun e4 =>
        (D30 e3.2 e4.2).bind fun r6 =>
        bif (!r6) then some false
        else F (run_1, p1, x, IntKind.i64.wrap (i + 1)))
      else F (run_1, p1, x, IntKind.i64.wrap (i + 1)))
    else lp9_9 fuel p1 x 0) fuel (run_1₀, p1₀, x₀, i₀)

theorem f9_11  (run_1 : Int) (p1 : (List ((Int) × ((List (Int)) × ((Int) × (List ((Int) × ((Int) × (Int)))))))) × (List ((Int) × ((Int) × (Int))))) (x : (List ((Int) × ((List (Int)) × ((Int) × (List ((Int) × ((Int) × (Int)))))))) × (List ((Int) × ((Int) × (Int))))) (hl : (x.1).length ≤ maxLen) : lp9_11 big run_1 p1 x 0 =
  forI (fun ix el (_ : Unit) K =>
    ((idx p1.1 (ix : Int)).bind fun e1 =>
    bif (el.1 != e1.1) then some false
    else bif (el.1 != run_1) then (
      (idx p1.1 (ix : Int)).bind fun e4 =>
      (D30 el.2 e4.2).bind fun r6 =>
      bif (!r6) then some false
      else K ())
    else K () : Option (Bool)))
    (fun (_ : Unit) =>
    (lp9_9 big p1 x 0 : Option (Bool))) 0 x.1 () := by
  refine iter_forI_from x.1 (fun ix (_ : Unit) => (run_1, p1, x, (ix : Int))) _ _ ?_ ?_ (k := 0) (Nat.zero_le _) (len_lt_big hl) ()
  · rintro F k h _
    simp only [dec_lt h, condT, idx_get h, bindS, wrap_succ h hl]
  · rintro F _
    simp only [dec_end, condF]

noncomputable def lp9_13 (fuel : Nat)  (p2₀ : (List ((Int) × ((List (Int)) × ((Int) × (List ((Int) × ((Int) × (Int)))))))) × (List ((Int) × ((Int) × (Int))))) (x1₀ : (List ((Int) × ((List (Int)) × ((Int) × (List ((Int) × ((Int) × (Int)))))))) × (List ((Int) × ((Int) × (Int))))) (i1₀ : Int) : Option (Bool) :=
  iter (fun F1 ((p2, x1, i1) : ((List ((Int) × ((List (Int)) × ((Int) × (List ((Int) × ((Int) × (Int)))))))) × (List ((Int) × ((Int) × (Int))))) × ((List ((Int) × ((List (Int)) × ((Int) × (List ((Int) × ((Int) × (Int)))))))) × (List ((Int) × ((Int) × (Int))))) × Int) =>
    bif decide (i1 < (List.length x1.2 : Int)) then (
      (idx x1.2 i1).bind fun e =>
      (idx p2.2 i1).bind fun e1 =>
      bif (!((e.1 == e1.1) && ((e.2.1 == e1.2.1) && (e.2.2 == e1.2.2)))) then some false
      else F1 (p2, x1, IntKind.i64.wrap (i1 + 1)))
    else some true) fuel (p2₀, x1₀, i1₀)

theorem f9_13  (p2 : (List ((Int) × ((List (Int)) × ((Int) × (List ((Int) × ((Int) × (Int)))))))) × (List ((Int) × ((Int) × (Int))))) (x1 : (List ((Int) × ((List (Int)) × ((Int) × (List ((Int) × ((Int) × (Int)))))))) × (List ((Int) × ((Int) × (Int))))) (hl : (x1.2).length ≤ maxLen) : lp9_13 big p2 x1 0 =
  forI (fun ix el (_ : Unit) K =>
    ((idx p2.2 (ix : Int)).bind fun e1 =>
    bif (!((el.1 == e1.1) && ((el.2.1 == e1.2.1) && (el.2.2 == e1.2.2)))) then some false
    else K () : Option (Bool)))
    (fun (_ : Unit) =>
    (some true : Option (Bool))) 0 x1.2 () := by
  refine iter_forI_from x1.2 (fun ix (_ : Unit) => (p2, x1, (ix : Int))) _ _ ?_ ?_ (k := 0) (Nat.zero_le _) (len_lt_big hl) ()
  · rintro F k h _
    simp only [dec_lt h, condT, idx_get h, bindS, wrap_succ h hl]
  · rintro F _
    simp only [dec_end, condF]

noncomputable def lp9_15 (fuel : Nat)  (run_1₀ : Int) (p1₀ : (List ((Int) × ((List (Int)) × ((Int) × (List ((Int) × ((Int) × (Int)))))))) × (List ((Int) × ((Int) × (Int))))) (x₀ : (List ((Int) × ((List (Int)) × ((Int) × (List ((Int) × ((Int) × (Int)))))))) × (List ((Int) × ((Int) × (Int))))) (i₀ : Int) : Option (Bool) :=
  iter (fun F ((run_1, p1, x, i) : Int × ((List ((Int) × ((List (Int)) × ((Int) × (List ((Int) × ((Int) × (Int)))))))) × (List ((Int) × ((Int) × (Int))))) × ((List ((Int) × ((List (Int)) × ((Int) × (List ((Int) × ((Int) × (Int)))))))) × (List ((Int) × ((Int) × (Int))))) × Int) =>
    bif decide (i < (List.length x.1 : Int)) then (
      (idx x.1 i).bind fun e =>
      (idx p1.1 i).bind fun e1 =>
      bif (e.1 != e1.1) then some false
      else (idx x.1 i).bind fun e2 =>
      bif (e2.1 != run_1) then (
        (idx x.1 i).bind fun e3 =>
        (idx p1.1 i).bind fun e4 =>
        (D30 e3.2 e4.2).bind fun r5 =>
        bif (!r5) then some false
        else F (run_1, p1, x, IntKind.i64.wrap (i + 1)))
      else F (run_1, p1, x, IntKind.i64.wrap (i + 1)))
    else lp9_13 fuel p1 x 0) fuel (run_1₀, p1₀, x₀, i₀)

theorem f9_15  (run_1 : Int) (p1 : (List ((Int) × ((List (Int)) × ((Int) × (List ((Int) × ((Int) × (Int)))))))) × (List ((Int) × ((Int) × (Int))))) (x : (List ((Int) × ((List (Int)) × ((Int) × (List ((Int) × ((Int) × (Int)))))))) × (List ((Int) × ((Int) × (Int))))) (hl : (x.1).length ≤ maxLen) : lp9_15 big run_1 p1 x 0 =
  forI (fun ix el (_ : Unit) K =>
    ((idx p1.1 (ix : Int)).bind fun e1 =>
    bif (el.1 != e1.1) then some false
    else bif (el.1 != run_1) then (
      (idx p1.1 (ix : Int)).bind fun e4 =>
      (D30 el.2 e4.2).bind fun r5 =>
      bif (!r5) then some false
      else K ())
    else K () : Option (Bool)))
    (fun (_ : Unit) =>
    (lp9_13 big p1 x 0 : Option (Bool))) 0 x.1 () := by
  refine iter_forI_from x.1 (fun ix (_ : Unit) => (run_1, p1, x, (ix : Int))) _ _ ?_ ?_ (k := 0) (Nat.zero_le _) (len_lt_big hl) ()
  · rintro F k h _
    simp only [dec_lt h, condT, idx_get h, bindS, wrap_succ h hl]
  · rintro F _
    simp only [dec_end, condF]

theorem g9 (fuel : Nat) (p : (List ((Int) × ((List (Int)) × ((Int) × (List ((Int) × ((Int) × (Int)))))))) × (List ((Int) × ((Int) × (Int))))) (run_ : Int) (s : (Int) × ((Int) × (Int))) (other : Int) (t : Int) : (fnK tab env9 15 ann9 fuel Try.f9 [] ps9 rs9 true (p, run_, s, other, t) : Option (Bool)) = (
  (D10).bind fun r =>
  bif (!r) then some false
  else (D11 p).bind fun r1 =>
  bif (!r1) then some true
  else (D12 p).bind fun r2 =>
  bif (r2 != 0) then some true
  else (D15 p run_ s.1 s.2.1 s.2.2).bind fun r3 =>
  bif (r3.2 != 0) then (
    bif ((List.length r3.1.1 : Int) == 0) then some ((List.length r3.1.2 : Int) == 0)
    else some false)
  else (D12 r3.1).bind fun r4 =>
  bif (r4 != 0) then some false
  else bif ((List.length r3.1.1 : Int) != (List.length p.1 : Int)) then some false
  else bif ((List.length r3.1.2 : Int) != (List.length p.2 : Int)) then some false
  else bif decide (s.2.2 ≤ t) then (
    (D29 p run_ s.2.2).bind fun r5 =>
    bif r5 then (
      (D22 p other t).bind fun r6 =>
      bif r6 then (
        (D22 r3.1 other t).bind fun r7 =>
        bif (!r7) then some false
        else lp9_3 fuel run_ p r3.1 0)
      else lp9_7 fuel run_ p r3.1 0)
    else lp9_11 fuel run_ p r3.1 0)
  else lp9_15 fuel run_ p r3.1 0 : Option (Bool)) := by kernel_rfl
theorem e9 (p : (List ((Int) × ((List (Int)) × ((Int) × (List ((Int) × ((Int) × (Int)))))))) × (List ((Int) × ((Int) × (Int))))) (run_ : Int) (s : (Int) × ((Int) × (Int))) (other : Int) (t : Int) : D9 p run_ s other t = (
  (D10).bind fun r =>
  bif (!r) then some false
  else (D11 p).bind fun r1 =>
  bif (!r1) then some true
  else (D12 p).bind fun r2 =>
  bif (r2 != 0) then some true
  else (D15 p run_ s.1 s.2.1 s.2.2).bind fun r3 =>
  bif (r3.2 != 0) then (
    bif ((List.length r3.1.1 : Int) == 0) then some ((List.length r3.1.2 : Int) == 0)
    else some false)
  else (D12 r3.1).bind fun r4 =>
  bif (r4 != 0) then some false
  else bif ((List.length r3.1.1 : Int) != (List.length p.1 : Int)) then some false
  else bif ((List.length r3.1.2 : Int) != (List.length p.2 : Int)) then some false
  else bif decide (s.2.2 ≤ t) then (
    (D29 p run_ s.2.2).bind fun r5 =>
    bif r5 then (
      (D22 p other t).bind fun r6 =>
      bif r6 then (
        (D22 r3.1 other t).bind fun r7 =>
        bif (!r7) then some false
        else lp9_3 big run_ p r3.1 0)
      else lp9_7 big run_ p r3.1 0)
    else lp9_11 big run_ p r3.1 0)
  else lp9_15 big run_ p r3.1 0 : Option (Bool)) := g9 big p run_ s other t

end Go.Proofs.Ytaipbppgebjdeaa.D
