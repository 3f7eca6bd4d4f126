import Derived.Test.YthjplaicophnnaaE47
import Derived.Test.YthjplaicophnnaaM47
section
open Go Go.GD Go.Proofs
namespace Go.Proofs.Ythjplaicophnnaa.D

theorem forN_any {α ρ : Type} (p : α → Bool) (r : ρ) (xs : List α) (fin : Unit → Option ρ) (m : Nat) (hm : m ≤ xs.length) :
    forN (fun ix (_ : Unit) K => (idx xs (ix : Int)).bind fun e => bif p e then some r else K ()) fin 0 m () = bif (xs.take m).any p then some r else fin () := by
  suffices h : ∀ (j k : Nat), k + j ≤ xs.length → forN (fun ix (_ : Unit) K => (idx xs (ix : Int)).bind fun e => bif p e then some r else K ()) fin k j () = bif ((xs.drop k).take j).any p then some r else fin () from by
    have := h m 0 (by omega)
    rwa [List.drop_zero] at this
  intro j
  induction j with
  | zero => intro k _; rfl
  | succ j ih =>
    intro k hk
    have hkl : k < xs.length := by omega
    rw [List.drop_eq_getElem_cons hkl, List.take_succ_cons, List.any_cons, forN, idx_get hkl, bindS]
    cases p xs[k] with
    | true => rfl
    | false => exact ih (k + 1) (by omega)

/-! the small functions -/
theorem cont34 (s : List Int) (v : Int) (hl : s.length ≤ maxLen) : D34 s v = some (s.any (· == v)) := by
  rw [e34, e38, f38_1 s v hl]
  have : (fun (x : Int) => v == x) = (· == v) := by funext x; exact beq_sym v x
  rw [forI_find (fun x => v == x) s 0 ()]
  simp only [bindS]
  rw [findI_ge, this]
theorem has35 (l : List Int) (n : Int) (hl : l.length ≤ maxLen) : D35 l n = some (l.any (· == n)) := by
  rw [e35, f35_1 l n hl, forE_any]
  cases l.any (· == n) <;> rfl
theorem cont23 (s : List Bool) (v : Bool) (hl : s.length ≤ maxLen) : D23 s v = some (s.any (v == ·)) := by
  rw [e23, e33, f33_1 s v hl]
  rw [forI_find (fun x => v == x) s 0 ()]
  simp only [bindS]
  rw [findI_ge]
/-- whether two tasks clash -/
def clB (a b : Tk) : Bool := a.2.2.2.any (· == b.1) || b.2.2.2.any (· == a.1)
theorem clash25 (a b : Tk) (ha : a.2.2.2.length ≤ maxLen) (hb : b.2.2.2.length ≤ maxLen) : D25 a b = some (clB a b) := by
  rw [e25, cont34 _ _ ha, cont34 _ _ hb]
  unfold clB
  simp only [bindS]
  cases a.2.2.2.any (· == b.1) <;> rfl
theorem clash27 (a b : Tk) (ha : a.2.2.2.length ≤ maxLen) (hb : b.2.2.2.length ≤ maxLen) : D27 a b = some (clB a b) := by
  rw [e27, has35 _ _ ha, has35 _ _ hb]
  unfold clB
  simp only [bindS]
  cases a.2.2.2.any (· == b.1) <;> rfl
def fnd (l : List Tk) (run : Int) : Int := findI (fun a : Tk => a.1 == run) 0 l
theorem find22 (l : List Tk) (run : Int) (hl : l.length ≤ maxLen) : D22 l run = some (fnd l run) := by
  rw [e22, e31, f31_1 l _ hl]
  simp only [e32, bindS]
  rw [forI_find (fun a : Tk => a.1 == run) l 0 (), bindS]; rfl
theorem find28 (l : List Tk) (run : Int) (hl : l.length ≤ maxLen) : D28 l run = some (fnd l run) := by
  rw [e28, f28_1 l run hl, forI_find (fun a : Tk => a.1 == run) l 0 ()]; rfl

/-! Right -/
def chk (any : Bool) (pre : List Tk) (a : Tk) : Int :=
  bif decide (a.1 < 1) then 2 else bif decide (a.1 > 9999) then 2 else bif decide (a.2.1 < 1) then 2 else bif decide (a.2.1 > 86400) then 2 else bif decide ((a.2.2.2.length : Int) > 6) then 2
  else bif pre.any (fun b => b.1 == a.1) then 7 else bif a.2.2.1 && !any then 13 else 0
def rightL (any : Bool) : List Tk → List Tk → Int
  | _, [] => 0
  | pre, a :: l => bif chk any pre a == 0 then rightL any (pre ++ [a]) l else chk any pre a
def rightV (l : List Tk) (w : List Bool) : Int :=
  bif decide ((List.length l : Int) > 6) then 4 else bif decide ((List.length w : Int) > 3) then 4 else bif ((List.length w : Int) == 0) then 8 else rightL (w.any (true == ·)) [] l

theorem right11 (l : List Tk) (w : List Bool) : D11 l w = some (rightV l w) := by
  rw [e11]
  unfold rightV
  cases h1 : decide ((List.length l : Int) > 6) with
  | true => rfl
  | false =>
  cases h2 : decide ((List.length w : Int) > 3) with
  | true => rfl
  | false =>
  cases h3 : ((List.length w : Int) == 0) with
  | true => rfl
  | false =>
  simp only [decide_eq_false_iff_not] at h1 h2
  have hl : l.length ≤ maxLen := by rw [maxLen_val]; omega
  have hw : w.length ≤ maxLen := by rw [maxLen_val]; omega
  rw [condF, condF, condF, condF, condF, condF, f11_1 l w l hl]
  suffices h : ∀ (ys pre : List Tk), l = pre ++ ys → forI (fun ix el (_ : Unit) K =>
      (bif decide (el.1 < 1) then some 2 else bif decide (el.1 > 9999) then some 2 else bif decide (el.2.1 < 1) then some 2 else bif decide (el.2.1 > 86400) then some 2 else bif decide ((List.length el.2.2.2 : Int) > 6) then some 2
      else bif (decide (0 ≤ (0 : Int)) && (decide ((0 : Int) ≤ (ix : Int)) && decide (((ix : Int) : Int) ≤ (List.length l : Int)))) then (
        (D22 (List.drop (Int.toNat 0) (List.take (Int.toNat (ix : Int)) l)) el.1).bind fun r =>
        bif decide (r ≥ 0) then some 7 else bif el.2.2.1 then ((D23 w true).bind fun r1 => bif (!r1) then some 13 else K ()) else K ())
      else none : Option Int)) (fun (_ : Unit) => (some 0 : Option Int)) pre.length ys () = some (rightL (w.any (true == ·)) pre ys) from h l [] rfl
  intro ys
  induction ys with
  | nil => intro pre _; rfl
  | cons a ys ih =>
    intro pre e
    have hpl : pre.length ≤ l.length := by rw [e]; simp
    have ht : List.drop (Int.toNat 0) (List.take (Int.toNat (pre.length : Int)) l) = pre := by
      rw [show Int.toNat 0 = 0 from rfl, List.drop_zero, Int.toNat_natCast, e, List.take_left]
    have hin : (decide (0 ≤ (0 : Int)) && (decide ((0 : Int) ≤ (pre.length : Int)) && decide (((pre.length : Int) : Int) ≤ (List.length l : Int)))) = true := by
      simp; omega
    have ihh := ih (pre ++ [a]) (by rw [e]; simp)
    rw [List.length_append, List.length_singleton] at ihh
    rw [forI, ihh]
    simp only [hin, ht, condT, find22 pre a.1 (by omega), bindS, cont23 w true hw, fnd, findI_ge]
    rw [show rightL (w.any (true == ·)) pre (a :: ys) = (bif chk (w.any (true == ·)) pre a == 0 then rightL (w.any (true == ·)) (pre ++ [a]) ys else chk (w.any (true == ·)) pre a) from rfl]
    unfold chk
    cases decide (a.1 < 1) with
    | true => rfl
    | false =>
    cases decide (a.1 > 9999) with
    | true => rfl
    | false =>
    cases decide (a.2.1 < 1) with
    | true => rfl
    | false =>
    cases decide (a.2.1 > 86400) with
    | true => rfl
    | false =>
    cases decide ((a.2.2.2.length : Int) > 6) with
    | true => rfl
    | false =>
    simp only [condF]
    cases pre.any (fun b => b.1 == a.1) with
    | true => rfl
    | false =>
    cases a.2.2.1 with
    | false => rfl
    | true =>
      cases w.any (true == ·) <;> rfl

theorem any_fold (fin : Bool → Option Int) : ∀ (w : List Bool) (b : Bool), forE (fun el (any_ : Bool) K => (bif any_ then K true else K el : Option Int)) fin w b = fin (b || w.any (true == ·))
  | [], b => by simp [forE]
  | x :: w, b => by
    rw [forE, List.any_cons]
    cases b with
    | true => rw [condT, any_fold fin w true]; simp
    | false => rw [condF, any_fold fin w x]; cases x <;> simp
theorem loop12 (l : List Tk) (any : Bool) (hl : l.length ≤ maxLen) : lp12_3 big l any 0 = some (rightL any [] l) := by
  unfold lp12_3
  have := iter_nat (ρ := Int) (step := fun (F1 : (List Tk × Bool × Int) → Option Int) ((l2, any_1, i1) : (List Tk) × Bool × Int) =>
    bif decide (i1 < (List.length l2 : Int)) then (
      (idx l2 i1).bind fun e =>
      bif decide (e.1 < 1) then some 2
      else (idx l2 i1).bind fun e1 =>
      bif decide (e1.1 > 9999) then some 2
      else (idx l2 i1).bind fun e2 =>
      bif decide (e2.2.1 < 1) then some 2
      else (idx l2 i1).bind fun e3 =>
      bif decide (e3.2.1 > 86400) then some 2
      else (idx l2 i1).bind fun e4 =>
      bif decide ((List.length e4.2.2.2 : Int) > 6) then some 2
      else lp12_1 big F1 l2 any_1 i1 0)
    else some 0) l.length (fun k (_ : Unit) => (l, any, (k : Int))) (fun _ _ => True) (fun k _ => rightL any (l.take k) (l.drop k)) (fun F k hk _ _ hF => ?_) (fun F _ _ => ?_) (n := big) (len_lt_big hl) () trivial
  · exact this
  · have hF := hF () trivial
    have hkm : (k : Int) ≤ 9223372036854775807 := by rw [maxLen_val] at hl; omega
    have ht : (List.take (Int.toNat (k : Int)) l) = l.take k := by rw [Int.toNat_natCast]
    simp only [dec_lt hk, condT, idx_get hk, bindS, f12_1 F l any k hkm, wrap_succ hk hl]
    rw [forN_any (fun e : Tk => e.1 == l[k].1) 7 l _ (Int.toNat (k : Int)) (by rw [Int.toNat_natCast]; omega), ht]
    rw [List.drop_eq_getElem_cons hk, show rightL any (l.take k) (l[k] :: l.drop (k + 1)) = (bif chk any (l.take k) l[k] == 0 then rightL any (l.take k ++ [l[k]]) (l.drop (k + 1)) else chk any (l.take k) l[k]) from rfl,
      ← List.take_succ_eq_append_getElem hk, hF]
    unfold chk
    cases decide (l[k].1 < 1) with
    | true => rfl
    | false =>
    cases decide (l[k].1 > 9999) with
    | true => rfl
    | false =>
    cases decide (l[k].2.1 < 1) with
    | true => rfl
    | false =>
    cases decide (l[k].2.1 > 86400) with
    | true => rfl
    | false =>
    cases decide ((l[k].2.2.2.length : Int) > 6) with
    | true => rfl
    | false =>
    simp only [condF]
    cases (l.take k).any (fun b => b.1 == l[k].1) with
    | true => rfl
    | false =>
    cases l[k].2.2.1 with
    | false => rfl
    | true =>
      cases any <;> rfl
  · simp only [dec_end, condF, List.drop_length]
    rfl
theorem right12 (l : List Tk) (w : List Bool) : D12 l w = some (rightV l w) := by
  rw [e12]
  unfold rightV
  cases h1 : decide ((List.length l : Int) > 6) with
  | true => rfl
  | false =>
  cases h2 : decide ((List.length w : Int) > 3) with
  | true => rfl
  | false =>
  cases h3 : ((List.length w : Int) == 0) with
  | true => rfl
  | false =>
  simp only [decide_eq_false_iff_not] at h1 h2
  have hl : l.length ≤ maxLen := by rw [maxLen_val]; omega
  have hw : w.length ≤ maxLen := by rw [maxLen_val]; omega
  rw [condF, condF, condF, condF, condF, condF, f12_4 l w false hw, any_fold, loop12 l _ hl, Bool.false_or]

theorem law3 (x : (pk ps3).den) (_ : Valid (pk ps3) x) : d3 x = some true := by
  obtain ⟨l, w⟩ := x
  show D3 l w = some true
  rw [e3, aliveD, bindS, right11, right12, bindS, bindS, beq_self_eq_true]
  cases decide ((List.length l : Int) > 50) <;> cases decide ((List.length w : Int) > 50) <;> rfl
end Go.Proofs.Ythjplaicophnnaa.D
end
