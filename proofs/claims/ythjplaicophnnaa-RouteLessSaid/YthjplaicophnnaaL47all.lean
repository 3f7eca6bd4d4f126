import Derived.Test.YthjplaicophnnaaE47
import Derived.Test.YthjplaicophnnaaM47
section
open Go Go.GD Go.Proofs
namespace Go.Proofs.Ythjplaicophnnaa.D

theorem forN_any {α ρ : Type} (p : α → Bool) (r : ρ) (xs : List α) (fin : Unit → Option ρ) (m : Nat) (hm : m ≤ xs.length) :
    forN (fun ix (_ : Unit) K => (idx xs (ix : Int)).bind fun e => bif p e then some r else K ()) fin 0 m () = bif (xs.take m).any p then some r else fin () := by
  suffices h : ∀ (j k : Nat), k + j ≤ xs.length → forN (fun ix (_ : Unit) K => (idx xs (ix : Int)).bind fun e => bif p e then some r else K ()) fin k j () = bif ((xs.drop k).take j).any p then some r else fin () from by
    have := h m 0 (by omega)
    rwa [List.drop_zero] at this
  intro j
  induction j with
  | zero => intro k _; rfl
  | succ j ih =>
    intro k hk
    have hkl : k < xs.length := by omega
    rw [List.drop_eq_getElem_cons hkl, List.take_succ_cons, List.any_cons, forN, idx_get hkl, bindS]
    cases p xs[k] with
    | true => rfl
    | false => exact ih (k + 1) (by omega)

/-! the small functions -/
theorem cont34 (s : List Int) (v : Int) (hl : s.length ≤ maxLen) : D34 s v = some (s.any (· == v)) := by
  rw [e34, e38, f38_1 s v hl]
  have : (fun (x : Int) => v == x) = (· == v) := by funext x; exact beq_sym v x
  rw [forI_find (fun x => v == x) s 0 ()]
  simp only [bindS]
  rw [findI_ge, this]
theorem has35 (l : List Int) (n : Int) (hl : l.length ≤ maxLen) : D35 l n = some (l.any (· == n)) := by
  rw [e35, f35_1 l n hl, forE_any]
  cases l.any (· == n) <;> rfl
theorem cont23 (s : List Bool) (v : Bool) (hl : s.length ≤ maxLen) : D23 s v = some (s.any (v == ·)) := by
  rw [e23, e33, f33_1 s v hl]
  rw [forI_find (fun x => v == x) s 0 ()]
  simp only [bindS]
  rw [findI_ge]
/-- whether two tasks clash -/
def clB (a b : Tk) : Bool := a.2.2.2.any (· == b.1) || b.2.2.2.any (· == a.1)
theorem clash25 (a b : Tk) (ha : a.2.2.2.length ≤ maxLen) (hb : b.2.2.2.length ≤ maxLen) : D25 a b = some (clB a b) := by
  rw [e25, cont34 _ _ ha, cont34 _ _ hb]
  unfold clB
  simp only [bindS]
  cases a.2.2.2.any (· == b.1) <;> rfl
theorem clash27 (a b : Tk) (ha : a.2.2.2.length ≤ maxLen) (hb : b.2.2.2.length ≤ maxLen) : D27 a b = some (clB a b) := by
  rw [e27, has35 _ _ ha, has35 _ _ hb]
  unfold clB
  simp only [bindS]
  cases a.2.2.2.any (· == b.1) <;> rfl
def fnd (l : List Tk) (run : Int) : Int := findI (fun a : Tk => a.1 == run) 0 l
theorem find22 (l : List Tk) (run : Int) (hl : l.length ≤ maxLen) : D22 l run = some (fnd l run) := by
  rw [e22, e31, f31_1 l _ hl]
  simp only [e32, bindS]
  rw [forI_find (fun a : Tk => a.1 == run) l 0 (), bindS]; rfl
theorem find28 (l : List Tk) (run : Int) (hl : l.length ≤ maxLen) : D28 l run = some (fnd l run) := by
  rw [e28, f28_1 l run hl, forI_find (fun a : Tk => a.1 == run) l 0 ()]; rfl

/-! Right -/
def chk (any : Bool) (pre : List Tk) (a : Tk) : Int :=
  bif decide (a.1 < 1) then 2 else bif decide (a.1 > 9999) then 2 else bif decide (a.2.1 < 1) then 2 else bif decide (a.2.1 > 86400) then 2 else bif decide ((a.2.2.2.length : Int) > 6) then 2
  else bif pre.any (fun b => b.1 == a.1) then 7 else bif a.2.2.1 && !any then 13 else 0
def rightL (any : Bool) : List Tk → List Tk → Int
  | _, [] => 0
  | pre, a :: l => bif chk any pre a == 0 then rightL any (pre ++ [a]) l else chk any pre a
def rightV (l : List Tk) (w : List Bool) : Int :=
  bif decide ((List.length l : Int) > 6) then 4 else bif decide ((List.length w : Int) > 3) then 4 else bif ((List.length w : Int) == 0) then 8 else rightL (w.any (true == ·)) [] l

theorem right11 (l : List Tk) (w : List Bool) : D11 l w = some (rightV l w) := by
  rw [e11]
  unfold rightV
  cases h1 : decide ((List.length l : Int) > 6) with
  | true => rfl
  | false =>
  cases h2 : decide ((List.length w : Int) > 3) with
  | true => rfl
  | false =>
  cases h3 : ((List.length w : Int) == 0) with
  | true => rfl
  | false =>
  simp only [decide_eq_false_iff_not] at h1 h2
  have hl : l.length ≤ maxLen := by rw [maxLen_val]; omega
  have hw : w.length ≤ maxLen := by rw [maxLen_val]; omega
  rw [condF, condF, condF, condF, condF, condF, f11_1 l w l hl]
  suffices h : ∀ (ys pre : List Tk), l = pre ++ ys → forI (fun ix el (_ : Unit) K =>
      (bif decide (el.1 < 1) then some 2 else bif decide (el.1 > 9999) then some 2 else bif decide (el.2.1 < 1) then some 2 else bif decide (el.2.1 > 86400) then some 2 else bif decide ((List.length el.2.2.2 : Int) > 6) then some 2
      else bif (decide (0 ≤ (0 : Int)) && (decide ((0 : Int) ≤ (ix : Int)) && decide (((ix : Int) : Int) ≤ (List.length l : Int)))) then (
        (D22 (List.drop (Int.toNat 0) (List.take (Int.toNat (ix : Int)) l)) el.1).bind fun r =>
        bif decide (r ≥ 0) then some 7 else bif el.2.2.1 then ((D23 w true).bind fun r1 => bif (!r1) then some 13 else K ()) else K ())
      else none : Option Int)) (fun (_ : Unit) => (some 0 : Option Int)) pre.length ys () = some (rightL (w.any (true == ·)) pre ys) from h l [] rfl
  intro ys
  induction ys with
  | nil => intro pre _; rfl
  | cons a ys ih =>
    intro pre e
    have hpl : pre.length ≤ l.length := by rw [e]; simp
    have ht : List.drop (Int.toNat 0) (List.take (Int.toNat (pre.length : Int)) l) = pre := by
      rw [show Int.toNat 0 = 0 from rfl, List.drop_zero, Int.toNat_natCast, e, List.take_left]
    have hin : (decide (0 ≤ (0 : Int)) && (decide ((0 : Int) ≤ (pre.length : Int)) && decide (((pre.length : Int) : Int) ≤ (List.length l : Int)))) = true := by
      simp; omega
    have ihh := ih (pre ++ [a]) (by rw [e]; simp)
    rw [List.length_append, List.length_singleton] at ihh
    rw [forI, ihh]
    simp only [hin, ht, condT, find22 pre a.1 (by omega), bindS, cont23 w true hw, fnd, findI_ge]
    rw [show rightL (w.any (true == ·)) pre (a :: ys) = (bif chk (w.any (true == ·)) pre a == 0 then rightL (w.any (true == ·)) (pre ++ [a]) ys else chk (w.any (true == ·)) pre a) from rfl]
    unfold chk
    cases decide (a.1 < 1) with
    | true => rfl
    | false =>
    cases decide (a.1 > 9999) with
    | true => rfl
    | false =>
    cases decide (a.2.1 < 1) with
    | true => rfl
    | false =>
    cases decide (a.2.1 > 86400) with
    | true => rfl
    | false =>
    cases decide ((a.2.2.2.length : Int) > 6) with
    | true => rfl
    | false =>
    simp only [condF]
    cases pre.any (fun b => b.1 == a.1) with
    | true => rfl
    | false =>
    cases a.2.2.1 with
    | false => rfl
    | true =>
      cases w.any (true == ·) <;> rfl

theorem any_fold (fin : Bool → Option Int) : ∀ (w : List Bool) (b : Bool), forE (fun el (any_ : Bool) K => (bif any_ then K true else K el : Option Int)) fin w b = fin (b || w.any (true == ·))
  | [], b => by simp [forE]
  | x :: w, b => by
    rw [forE, List.any_cons]
    cases b with
    | true => rw [condT, any_fold fin w true]; simp
    | false => rw [condF, any_fold fin w x]; cases x <;> simp
theorem loop12 (l : List Tk) (any : Bool) (hl : l.length ≤ maxLen) : lp12_3 big l any 0 = some (rightL any [] l) := by
  unfold lp12_3
  have := iter_nat (ρ := Int) (step := fun (F1 : (List Tk × Bool × Int) → Option Int) ((l2, any_1, i1) : (List Tk) × Bool × Int) =>
    bif decide (i1 < (List.length l2 : Int)) then (
      (idx l2 i1).bind fun e =>
      bif decide (e.1 < 1) then some 2
      else (idx l2 i1).bind fun e1 =>
      bif decide (e1.1 > 9999) then some 2
      else (idx l2 i1).bind fun e2 =>
      bif decide (e2.2.1 < 1) then some 2
      else (idx l2 i1).bind fun e3 =>
      bif decide (e3.2.1 > 86400) then some 2
      else (idx l2 i1).bind fun e4 =>
      bif decide ((List.length e4.2.2.2 : Int) > 6) then some 2
      else lp12_1 big F1 l2 any_1 i1 0)
    else some 0) l.length (fun k (_ : Unit) => (l, any, (k : Int))) (fun _ _ => True) (fun k _ => rightL any (l.take k) (l.drop k)) (fun F k hk _ _ hF => ?_) (fun F _ _ => ?_) (n := big) (len_lt_big hl) () trivial
  · exact this
  · have hF := hF () trivial
    have hkm : (k : Int) ≤ 9223372036854775807 := by rw [maxLen_val] at hl; omega
    have ht : (List.take (Int.toNat (k : Int)) l) = l.take k := by rw [Int.toNat_natCast]
    simp only [dec_lt hk, condT, idx_get hk, bindS, f12_1 F l any k hkm, wrap_succ hk hl]
    rw [forN_any (fun e : Tk => e.1 == l[k].1) 7 l _ (Int.toNat (k : Int)) (by rw [Int.toNat_natCast]; omega), ht]
    rw [List.drop_eq_getElem_cons hk, show rightL any (l.take k) (l[k] :: l.drop (k + 1)) = (bif chk any (l.take k) l[k] == 0 then rightL any (l.take k ++ [l[k]]) (l.drop (k + 1)) else chk any (l.take k) l[k]) from rfl,
      ← List.take_succ_eq_append_getElem hk, hF]
    unfold chk
    cases decide (l[k].1 < 1) with
    | true => rfl
    | false =>
    cases decide (l[k].1 > 9999) with
    | true => rfl
    | false =>
    cases decide (l[k].2.1 < 1) with
    | true => rfl
    | false =>
    cases decide (l[k].2.1 > 86400) with
    | true => rfl
    | false =>
    cases decide ((l[k].2.2.2.length : Int) > 6) with
    | true => rfl
    | false =>
    simp only [condF]
    cases (l.take k).any (fun b => b.1 == l[k].1) with
    | true => rfl
    | false =>
    cases l[k].2.2.1 with
    | false => rfl
    | true =>
      cases any <;> rfl
  · simp only [dec_end, condF, List.drop_length]
    rfl
theorem right12 (l : List Tk) (w : List Bool) : D12 l w = some (rightV l w) := by
  rw [e12]
  unfold rightV
  cases h1 : decide ((List.length l : Int) > 6) with
  | true => rfl
  | false =>
  cases h2 : decide ((List.length w : Int) > 3) with
  | true => rfl
  | false =>
  cases h3 : ((List.length w : Int) == 0) with
  | true => rfl
  | false =>
  simp only [decide_eq_false_iff_not] at h1 h2
  have hl : l.length ≤ maxLen := by rw [maxLen_val]; omega
  have hw : w.length ≤ maxLen := by rw [maxLen_val]; omega
  rw [condF, condF, condF, condF, condF, condF, f12_4 l w false hw, any_fold, loop12 l _ hl, Bool.false_or]

theorem law3 (x : (pk ps3).den) (_ : Valid (pk ps3) x) : d3 x = some true := by
  obtain ⟨l, w⟩ := x
  show D3 l w = some true
  rw [e3, aliveD, bindS, right11, right12, bindS, bindS, beq_self_eq_true]
  cases decide ((List.length l : Int) > 50) <;> cases decide ((List.length w : Int) > 50) <;> rfl
end Go.Proofs.Ythjplaicophnnaa.D
end

section
open Go Go.GD Go.Proofs
namespace Go.Proofs.Ythjplaicophnnaa.D

/-! ### what Right asks -/
structure Acc (l : List Tk) (w : List Bool) : Prop where
  len : l.length ≤ 6
  wlen : 1 ≤ w.length ∧ w.length ≤ 3
  task : ∀ i (h : i < l.length), 1 ≤ l[i].1 ∧ l[i].1 ≤ 9999 ∧ 1 ≤ l[i].2.1 ∧ l[i].2.1 ≤ 86400 ∧ l[i].2.2.2.length ≤ 6 ∧ (l[i].2.2.1 = true → w.any (true == ·) = true)
  inj : ∀ i j (hi : i < l.length) (hj : j < l.length), l[i].1 = l[j].1 → i = j

theorem chk_zero (any : Bool) (pre : List Tk) (a : Tk) : chk any pre a = 0 ↔ 1 ≤ a.1 ∧ a.1 ≤ 9999 ∧ 1 ≤ a.2.1 ∧ a.2.1 ≤ 86400 ∧ a.2.2.2.length ≤ 6 ∧ pre.any (fun b => b.1 == a.1) = false ∧ (a.2.2.1 = true → any = true) := by
  unfold chk
  by_cases h1 : a.1 < 1
  · rw [decide_eq_true h1]
    exact ⟨(fun h => by cases h), fun h => by omega⟩
  rw [decide_eq_false h1, cond_false]
  by_cases h2 : a.1 > 9999
  · rw [decide_eq_true h2]
    exact ⟨(fun h => by cases h), fun h => by omega⟩
  rw [decide_eq_false h2, cond_false]
  by_cases h3 : a.2.1 < 1
  · rw [decide_eq_true h3]
    exact ⟨(fun h => by cases h), fun h => by omega⟩
  rw [decide_eq_false h3, cond_false]
  by_cases h4 : a.2.1 > 86400
  · rw [decide_eq_true h4]
    exact ⟨(fun h => by cases h), fun h => by omega⟩
  rw [decide_eq_false h4, cond_false]
  by_cases h5 : (a.2.2.2.length : Int) > 6
  · rw [decide_eq_true h5]
    exact ⟨(fun h => by cases h), fun h => by omega⟩
  rw [decide_eq_false h5, cond_false]
  cases h6 : pre.any (fun b => b.1 == a.1) with
  | true => exact ⟨(fun h => by cases h), fun h => by simp at h⟩
  | false =>
    rw [cond_false]
    cases h7 : a.2.2.1 with
    | false => exact ⟨fun _ => ⟨by omega, by omega, by omega, by omega, by omega, rfl, fun h => by cases h⟩, fun _ => rfl⟩
    | true => cases any with
      | false => exact ⟨(fun h => by cases h), fun h => by simp at h⟩
      | true => exact ⟨fun _ => ⟨by omega, by omega, by omega, by omega, by omega, rfl, fun _ => rfl⟩, fun _ => rfl⟩

theorem rightL_zero (any : Bool) : ∀ (l pre : List Tk), rightL any pre l = 0 ↔ ∀ i (h : i < l.length), chk any (pre ++ l.take i) l[i] = 0
  | [], _ => ⟨(fun _ i h => by cases h), fun _ => rfl⟩
  | a :: l, pre => by
    rw [show rightL any pre (a :: l) = (bif chk any pre a == 0 then rightL any (pre ++ [a]) l else chk any pre a) from rfl]
    have ih := rightL_zero any l (pre ++ [a])
    cases h : chk any pre a == 0 with
    | false =>
      rw [cond_false]
      refine ⟨(fun e => by rw [e] at h; cases h), fun hall => ?_⟩
      have := hall 0 (by simp)
      simpa using this
    | true =>
      rw [cond_true, ih]
      constructor
      · intro hall i hi
        cases i with
        | zero => simpa using h
        | succ i =>
          have := hall i (by simpa using hi)
          simpa using this
      · intro hall i hi
        have := hall (i + 1) (by simpa using hi)
        simpa using this

theorem acc_iff (l : List Tk) (w : List Bool) : rightV l w = 0 ↔ Acc l w := by
  unfold rightV
  by_cases h1 : (List.length l : Int) > 6
  · rw [decide_eq_true h1]
    exact ⟨(fun h => by cases h), fun h => by have := h.len; omega⟩
  rw [decide_eq_false h1, cond_false]
  by_cases h2 : (List.length w : Int) > 3
  · rw [decide_eq_true h2]
    exact ⟨(fun h => by cases h), fun h => by have := h.wlen; omega⟩
  rw [decide_eq_false h2, cond_false]
  by_cases h3 : (List.length w : Int) = 0
  · rw [h3]
    exact ⟨(fun h => by cases h), fun h => by have := h.wlen; omega⟩
  rw [show ((List.length w : Int) == 0) = false by simpa using h3, cond_false, rightL_zero]
  constructor
  · intro h
    have h' := fun i hi => (chk_zero _ _ _).1 (h i hi)
    have hlt : ∀ i j (hi : i < l.length) (hj : j < l.length), i < j → l[i].1 ≠ l[j].1 := by
      intro i j hi hj hij e
      have := (h' j hj).2.2.2.2.2.1
      rw [List.nil_append, List.any_eq_false] at this
      have hm : l[i] ∈ l.take j := by
        rw [List.mem_take_iff_getElem]
        exact ⟨i, by omega, rfl⟩
      exact this _ hm (by simpa using e)
    refine ⟨by omega, by omega, fun i hi => ?_, fun i j hi hj e => ?_⟩
    · obtain ⟨a1, a2, a3, a4, a5, _, a7⟩ := h' i hi
      exact ⟨a1, a2, a3, a4, a5, a7⟩
    · rcases Nat.lt_trichotomy i j with h | h | h
      · exact absurd e (hlt i j hi hj h)
      · exact h
      · exact absurd e.symm (hlt j i hj hi h)
  · intro h i hi
    obtain ⟨a1, a2, a3, a4, a5, a6⟩ := h.task i hi
    refine (chk_zero _ _ _).2 ⟨a1, a2, a3, a4, a5, ?_, a6⟩
    rw [List.nil_append, List.any_eq_false]
    intro x hx hxe
    obtain ⟨j, hj, rfl⟩ := List.mem_take_iff_getElem.1 hx
    have := h.inj j i (by omega) hi (by simpa using hxe)
    omega

/-! ### finding a task -/
theorem fnd_some {l : List Tk} {run : Int} (h : 0 ≤ fnd l run) : ∃ i, ∃ hi : i < l.length, fnd l run = (i : Int) ∧ l[i].1 = run := by
  cases ha : l.any (fun a : Tk => a.1 == run) with
  | false => unfold fnd at h; rw [findI_neg _ l 0 ha] at h; omega
  | true =>
    obtain ⟨i, hi, h1, h2, _⟩ := findI_pos _ l 0 ha
    exact ⟨i, hi, by unfold fnd; rw [h1]; simp, by simpa using h2⟩
theorem fnd_at {l : List Tk} {w : List Bool} (hA : Acc l w) {i : Nat} (hi : i < l.length) : fnd l l[i].1 = (i : Int) := by
  have ha : l.any (fun a : Tk => a.1 == l[i].1) = true := List.any_eq_true.2 ⟨l[i], List.getElem_mem hi, by simp⟩
  obtain ⟨j, hj, h1, h2, _⟩ := findI_pos _ l 0 ha
  have := hA.inj j i hj hi (by simpa using h2)
  subst this
  unfold fnd; rw [h1]; simp
theorem fnd_neg {l : List Tk} {run : Int} (h : fnd l run < 0) : fnd l run = -1 ∧ ∀ i (hi : i < l.length), l[i].1 ≠ run := by
  cases ha : l.any (fun a : Tk => a.1 == run) with
  | true =>
    obtain ⟨i, hi, h1, _⟩ := findI_pos _ l 0 ha
    unfold fnd at h; rw [h1] at h; omega
  | false =>
    refine ⟨findI_neg _ l 0 ha, fun i hi e => ?_⟩
    rw [List.any_eq_false] at ha
    exact ha _ (List.getElem_mem hi) (by simpa using e)

def task (l : List Tk) (run : Int) : Tk := (l[(fnd l run).toNat]?).getD (0, 0, false, [])
theorem idx_task {l : List Tk} {run : Int} (h : 0 ≤ fnd l run) : idx l (fnd l run) = some (task l run) ∧ task l run ∈ l ∧ (task l run).1 = run := by
  obtain ⟨i, hi, h1, h2⟩ := fnd_some h
  unfold task
  rw [h1, idx_get hi, Int.toNat_natCast, List.getElem?_eq_getElem hi]
  exact ⟨rfl, List.getElem_mem hi, h2⟩
theorem task_at {l : List Tk} {w : List Bool} (hA : Acc l w) {i : Nat} (hi : i < l.length) : task l l[i].1 = l[i] := by
  unfold task
  rw [fnd_at hA hi, Int.toNat_natCast, List.getElem?_eq_getElem hi]; rfl
theorem clB_sym (a b : Tk) : clB a b = clB b a := Bool.or_comm _ _

/-! ### Valid -/
def fitB (a : Tk) (w : List Bool) (s : Sf) : Bool :=
  decide (1 ≤ s.1) && (decide (s.1 ≤ (w.length : Int)) && (decide (0 ≤ s.2.2.1) && (decide (s.2.2.1 ≤ s.2.2.2) && ((s.2.2.2 - s.2.2.1 == a.2.1) && (!a.2.2.1 || (w[(s.1 - 1).toNat]?).getD false)))))
def ovl (r s : Sf) : Bool := decide (r.2.2.1 < s.2.2.2) && decide (s.2.2.1 < r.2.2.2)
/-- two shifts may be in one plan -/
def apt (l : List Tk) (r s : Sf) : Bool := !(r.2.1 == s.2.1) && !(ovl r s && ((r.1 == s.1) || clB (task l r.2.1) (task l s.2.1)))
def okAt (l : List Tk) (w : List Bool) (pre : List Sf) (s : Sf) : Bool := decide (0 ≤ fnd l s.2.1) && (fitB (task l s.2.1) w s && pre.all (fun r => apt l r s))
def vAll (l : List Tk) (w : List Bool) : List Sf → List Sf → Bool
  | _, [] => true
  | pre, s :: rest => okAt l w pre s && vAll l w (pre ++ [s]) rest
def In64 (s : Sf) : Prop := s.2.2.1 ≤ 9223372036854775807 ∧ s.2.2.2 ≤ 9223372036854775807 ∧ s.1 ≤ 9223372036854775807

theorem fits24 (a : Tk) (w : List Bool) (s : Sf) (hs : In64 s) : D24 a w s = some (fitB a w s) := by
  rw [e24]
  unfold fitB
  by_cases h1 : s.1 < 1
  · rw [decide_eq_true h1, decide_eq_false (show ¬ 1 ≤ s.1 by omega)]; rfl
  rw [decide_eq_false h1, decide_eq_true (show 1 ≤ s.1 by omega), cond_false, Bool.true_and]
  by_cases h2 : s.1 > (w.length : Int)
  · rw [decide_eq_true h2, decide_eq_false (show ¬ s.1 ≤ (w.length : Int) by omega)]; rfl
  rw [decide_eq_false h2, decide_eq_true (show s.1 ≤ (w.length : Int) by omega), cond_false, Bool.true_and]
  have hw : idx w (IntKind.i64.wrap (s.1 - 1)) = some ((w[(s.1 - 1).toNat]?).getD false) := by
    have := hs.2.2
    rw [wrap_i64 (by omega) (by omega)]
    obtain ⟨k, hk⟩ := Int.eq_ofNat_of_zero_le (show 0 ≤ s.1 - 1 by omega)
    rw [hk, idx_get (show k < w.length by omega), Int.toNat_natCast, List.getElem?_eq_getElem (show k < w.length by omega)]; rfl
  have hb : (bif decide (s.2.2.1 ≥ 0) then (bif decide (s.2.2.2 ≥ s.2.2.1) then some (IntKind.i64.wrap (s.2.2.2 - s.2.2.1) == a.2.1) else some false) else some false : Option Bool) =
      some (decide (0 ≤ s.2.2.1) && (decide (s.2.2.1 ≤ s.2.2.2) && (s.2.2.2 - s.2.2.1 == a.2.1))) := by
    by_cases h3 : 0 ≤ s.2.2.1
    · rw [decide_eq_true (show s.2.2.1 ≥ 0 from h3), condT, Bool.true_and]
      by_cases h4 : s.2.2.1 ≤ s.2.2.2
      · have := hs.1
        have := hs.2.1
        rw [decide_eq_true (show s.2.2.2 ≥ s.2.2.1 from h4), condT, Bool.true_and, wrap_i64 (by omega) (by omega)]
      · rw [decide_eq_false (show ¬ s.2.2.2 ≥ s.2.2.1 from h4)]; rfl
    · rw [decide_eq_false (show ¬ s.2.2.1 ≥ 0 from h3)]; rfl
  cases hwn : a.2.2.1 with
  | false =>
    rw [condF, hb]
    cases decide (0 ≤ s.2.2.1) <;> cases decide (s.2.2.1 ≤ s.2.2.2) <;> cases (s.2.2.2 - s.2.2.1 == a.2.1) <;> rfl
  | true =>
    rw [condT, hw, bindS]
    cases (w[(s.1 - 1).toNat]?).getD false with
    | false => cases decide (0 ≤ s.2.2.1) <;> cases decide (s.2.2.1 ≤ s.2.2.2) <;> cases (s.2.2.2 - s.2.2.1 == a.2.1) <;> rfl
    | true =>
      rw [show (!true) = false from rfl, condF, hb]
      cases decide (0 ≤ s.2.2.1) <;> cases decide (s.2.2.1 ≤ s.2.2.2) <;> cases (s.2.2.2 - s.2.2.1 == a.2.1) <;> rfl
theorem fits26 (l : List Tk) (w : List Bool) (s : Sf) (hl : l.length ≤ maxLen) (hs : In64 s) : D26 l w s = some (decide (0 ≤ fnd l s.2.1) && fitB (task l s.2.1) w s) := by
  rw [e26, find28 _ _ hl, bindS]
  by_cases h0 : fnd l s.2.1 < 0
  · rw [decide_eq_true h0, decide_eq_false (show ¬ 0 ≤ fnd l s.2.1 by omega)]; rfl
  rw [decide_eq_false h0, decide_eq_true (show 0 ≤ fnd l s.2.1 by omega), condF, Bool.true_and, (idx_task (by omega)).1]
  simp only [bindS]
  unfold fitB
  by_cases h1 : s.1 < 1
  · rw [decide_eq_true h1, decide_eq_false (show ¬ 1 ≤ s.1 by omega)]; rfl
  rw [decide_eq_false h1, decide_eq_true (show 1 ≤ s.1 by omega), condF, Bool.true_and]
  by_cases h2 : s.1 > (w.length : Int)
  · rw [decide_eq_true h2, decide_eq_false (show ¬ s.1 ≤ (w.length : Int) by omega)]; rfl
  rw [decide_eq_false h2, decide_eq_true (show s.1 ≤ (w.length : Int) by omega), condF, Bool.true_and]
  by_cases h3 : s.2.2.1 < 0
  · rw [decide_eq_true h3, decide_eq_false (show ¬ 0 ≤ s.2.2.1 by omega)]; rfl
  rw [decide_eq_false h3, decide_eq_true (show 0 ≤ s.2.2.1 by omega), condF, Bool.true_and]
  by_cases h4 : s.2.2.2 < s.2.2.1
  · rw [decide_eq_true h4, decide_eq_false (show ¬ s.2.2.1 ≤ s.2.2.2 by omega)]; rfl
  have := hs.1
  have := hs.2.1
  have hw : idx w (IntKind.i64.wrap (s.1 - 1)) = some ((w[(s.1 - 1).toNat]?).getD false) := by
    have := hs.2.2
    rw [wrap_i64 (by omega) (by omega)]
    obtain ⟨k, hk⟩ := Int.eq_ofNat_of_zero_le (show 0 ≤ s.1 - 1 by omega)
    rw [hk, idx_get (show k < w.length by omega), Int.toNat_natCast, List.getElem?_eq_getElem (show k < w.length by omega)]; rfl
  rw [decide_eq_false h4, decide_eq_true (show s.2.2.1 ≤ s.2.2.2 by omega), condF, Bool.true_and, wrap_i64 (by omega) (by omega)]
  cases (s.2.2.2 - s.2.2.1 == (task l s.2.1).2.1) with
  | false => rfl
  | true =>
    rw [condT, hw, bindS]
    cases (w[(s.1 - 1).toNat]?).getD false <;> cases (task l s.2.1).2.2.1 <;> rfl
end Go.Proofs.Ythjplaicophnnaa.D
end

section
open Go Go.GD Go.Proofs
namespace Go.Proofs.Ythjplaicophnnaa.D

theorem task_clash {l : List Tk} {w : List Bool} (hA : Acc l w) {a : Tk} (ha : a ∈ l) : a.2.2.2.length ≤ maxLen := by
  obtain ⟨i, hi, rfl⟩ := List.mem_iff_getElem.1 ha
  have := (hA.task i hi).2.2.2.2.1
  rw [maxLen_val]; omega
theorem clash_task25 {l : List Tk} {w : List Bool} (hA : Acc l w) {r s : Int} (hr : 0 ≤ fnd l r) (hs : 0 ≤ fnd l s) : D25 (task l r) (task l s) = some (clB (task l r) (task l s)) :=
  clash25 _ _ (task_clash hA (idx_task hr).2.1) (task_clash hA (idx_task hs).2.1)
theorem clash_task27 {l : List Tk} {w : List Bool} (hA : Acc l w) {r s : Int} (hr : 0 ≤ fnd l r) (hs : 0 ≤ fnd l s) : D27 (task l r) (task l s) = some (clB (task l r) (task l s)) :=
  clash27 _ _ (task_clash hA (idx_task hr).2.1) (task_clash hA (idx_task hs).2.1)

theorem inner15 {l : List Tk} {w : List Bool} (hA : Acc l w) (plan : List Sf) {k : Nat} (hk : k < plan.length) (hpre : ∀ j (h : j < plan.length), j < k → 0 ≤ fnd l plan[j].2.1) (h0 : 0 ≤ fnd l plan[k].2.1) (fin : Unit → Option Bool) :
    forN (fun ix (_ : Unit) K =>
    ((idx plan (k : Int)).bind fun e1 =>
    (idx plan (ix : Int)).bind fun e2 =>
    bif (e1.2.1 == e2.2.1) then some false
    else bif decide (e1.2.2.1 < e2.2.2.2) then (
      bif decide (e2.2.2.1 < e1.2.2.2) then (
        bif (e1.1 == e2.1) then some false
        else (D28 l e1.2.1).bind fun r1 =>
        (idx l r1).bind fun e3 =>
        (D28 l e2.2.1).bind fun r2 =>
        (idx l r2).bind fun e4 =>
        (D27 e3 e4).bind fun r3 =>
        bif r3 then some false
        else K ())
      else K ())
    else K () : Option (Bool))) fin 0 k () = bif (plan.take k).all (fun r => apt l r plan[k]) then fin () else some false := by
  have hl : l.length ≤ maxLen := by have := hA.len; rw [maxLen_val]; omega
  suffices h : ∀ (j m : Nat), m + j = k → forN (fun ix (_ : Unit) K =>
    ((idx plan (k : Int)).bind fun e1 =>
    (idx plan (ix : Int)).bind fun e2 =>
    bif (e1.2.1 == e2.2.1) then some false
    else bif decide (e1.2.2.1 < e2.2.2.2) then (
      bif decide (e2.2.2.1 < e1.2.2.2) then (
        bif (e1.1 == e2.1) then some false
        else (D28 l e1.2.1).bind fun r1 =>
        (idx l r1).bind fun e3 =>
        (D28 l e2.2.1).bind fun r2 =>
        (idx l r2).bind fun e4 =>
        (D27 e3 e4).bind fun r3 =>
        bif r3 then some false
        else K ())
      else K ())
    else K () : Option (Bool))) fin m j () = bif ((plan.drop m).take j).all (fun r => apt l r plan[k]) then fin () else some false from by
    have := h k 0 (by omega)
    rwa [List.drop_zero] at this
  intro j
  induction j with
  | zero => intro m _; rfl
  | succ j ih =>
    intro m hm
    have hmk : m < k := by omega
    have hml : m < plan.length := by omega
    rw [forN, ih (m + 1) (by omega), List.drop_eq_getElem_cons hml, List.take_succ_cons, List.all_cons, idx_get hk, idx_get hml]
    simp only [bindS, find28 l _ hl]
    rw [(idx_task h0).1, (idx_task (hpre m hml hmk)).1]
    simp only [bindS, clash_task27 hA h0 (hpre m hml hmk)]
    unfold apt ovl
    rw [beq_sym plan[k].2.1, beq_sym plan[k].1, clB_sym (task l plan[k].2.1)]
    cases (plan[m].2.1 == plan[k].2.1) with
    | true => rfl
    | false =>
    cases decide (plan[k].2.2.1 < plan[m].2.2.2) with
    | false => cases decide (plan[m].2.2.1 < plan[k].2.2.2) <;> simp
    | true =>
    cases decide (plan[m].2.2.1 < plan[k].2.2.2) with
    | false => simp
    | true =>
    cases (plan[m].1 == plan[k].1) with
    | true => rfl
    | false =>
    cases clB (task l plan[m].2.1) (task l plan[k].2.1) <;> simp

theorem valid15 {l : List Tk} {w : List Bool} (hA : Acc l w) (plan : List Sf) (hp : ∀ s, s ∈ plan → In64 s) : D15 l w plan = some ((plan.length == l.length) && vAll l w [] plan) := by
  have hl : l.length ≤ maxLen := by have := hA.len; rw [maxLen_val]; omega
  rw [e15]
  by_cases he : plan.length = l.length
  case neg =>
    rw [show ((List.length plan : Int) != (List.length l : Int)) = true by simpa using fun e => he (by omega), show (plan.length == l.length) = false by simpa using he]; rfl
  rw [show ((List.length plan : Int) != (List.length l : Int)) = false by simp [he], show (plan.length == l.length) = true by simpa using he, condF, Bool.true_and]
  have hpl : plan.length ≤ maxLen := by rw [he]; exact hl
  unfold lp15_3
  have := iter_nat (ρ := Bool) (step := fun (F : (List Tk × List Bool × List Sf × Int) → Option Bool) ((l1, winch1, plan1, i) : (List Tk) × (List (Bool)) × (List Sf) × Int) =>
    bif decide (i < (List.length plan1 : Int)) then (
      (idx plan1 i).bind fun e =>
      (D26 l1 winch1 e).bind fun r =>
      bif (!r) then some false
      else lp15_1 big F l1 winch1 plan1 i 0)
    else some true) plan.length (fun k (_ : Unit) => (l, w, plan, (k : Int))) (fun k _ => ∀ j (h : j < plan.length), j < k → 0 ≤ fnd l plan[j].2.1) (fun k _ => vAll l w (plan.take k) (plan.drop k)) (fun F k hk _ hI hF => ?_) (fun F _ _ => ?_) (n := big) (len_lt_big hpl) () (fun _ _ h => by omega)
  · exact this
  · have hkm : (k : Int) ≤ 9223372036854775807 := by rw [maxLen_val] at hpl; omega
    simp only [dec_lt hk, condT, idx_get hk, bindS, fits26 l w plan[k] hl (hp _ (List.getElem_mem hk)), f15_1 F l w plan k hkm, wrap_succ hk hpl, Int.toNat_natCast]
    rw [List.drop_eq_getElem_cons hk, show vAll l w (plan.take k) (plan[k] :: plan.drop (k + 1)) = (okAt l w (plan.take k) plan[k] && vAll l w (plan.take k ++ [plan[k]]) (plan.drop (k + 1))) from rfl, ← List.take_succ_eq_append_getElem hk]
    unfold okAt
    by_cases h0 : 0 ≤ fnd l plan[k].2.1
    case neg => rw [decide_eq_false h0]; rfl
    rw [decide_eq_true h0, Bool.true_and, Bool.true_and]
    cases hfit : fitB (task l plan[k].2.1) w plan[k] with
    | false => rfl
    | true =>
    have := hF () (fun j h hj => by
      by_cases e : j = k
      · subst e; exact h0
      · exact hI j h (by omega))
    have hin := inner15 hA plan hk hI h0 (fun (_ : Unit) => F (l, w, plan, ((k + 1 : Nat) : Int)))
    simp only [idx_get hk, bindS] at hin
    rw [show (!true) = false from rfl, condF, hin, this, Bool.true_and]
    cases (plan.take k).all (fun r => apt l r plan[k]) <;> rfl
  · simp only [dec_end, condF, List.drop_length]
    rfl
end Go.Proofs.Ythjplaicophnnaa.D
end

section
open Go Go.GD Go.Proofs
namespace Go.Proofs.Ythjplaicophnnaa.D

theorem inner14 {l : List Tk} {w : List Bool} (hA : Acc l w) (s : Sf) (h0 : 0 ≤ fnd l s.2.1) (tasks : List Tk) (fin : Unit → Option Bool) (k : Int) (hk : k = fnd l s.2.1) : ∀ (ys pre : List Sf), (∀ r, r ∈ pre ++ ys → 0 ≤ fnd l r.2.1) → (∀ r, r ∈ ys → (r.2.1 == s.2.1) = false) →
    (∀ j (h : j < (pre ++ ys).length), tasks[j]? = some (task l (pre ++ ys)[j].2.1)) →
    forI (fun ix el (_ : Unit) K =>
    (bif decide (el.2.2.1 < s.2.2.2) then (
      bif decide (s.2.2.1 < el.2.2.2) then (
        bif (el.1 == s.1) then some false
        else (idx tasks (ix : Int)).bind fun e4 =>
        (idx l k).bind fun e5 =>
        (D25 e4 e5).bind fun r3 =>
        bif r3 then some false
        else K ())
      else K ())
    else K () : Option (Bool))) fin pre.length ys () = bif ys.all (fun r => apt l r s) then fin () else some false
  | [], _, _, _, _ => rfl
  | r :: ys, pre, hf, hne, ht => by
    have ih := inner14 hA s h0 tasks fin k hk ys (pre ++ [r]) (fun r' hr' => hf r' (by simpa using hr')) (fun r' hr' => hne r' (List.mem_cons_of_mem _ hr')) (fun j h => by
      have := ht j (by simpa using h)
      simpa using this)
    rw [List.length_append, List.length_singleton] at ih
    have hr : 0 ≤ fnd l r.2.1 := hf r (by simp)
    have htr : idx tasks (pre.length : Int) = some (task l r.2.1) := by
      rw [idx_nat, ht pre.length (by simp)]
      simp
    rw [forI, ih, htr, hk, (idx_task h0).1, List.all_cons]
    simp only [bindS, clash_task25 hA hr h0]
    unfold apt ovl
    rw [hne r (List.mem_cons_self ..)]
    cases decide (r.2.2.1 < s.2.2.2) with
    | false => simp
    | true =>
    cases decide (s.2.2.1 < r.2.2.2) with
    | false => simp
    | true =>
    cases (r.1 == s.1) with
    | true => rfl
    | false => cases clB (task l r.2.1) (task l s.2.1) <;> simp

theorem valid14 {l : List Tk} {w : List Bool} (hA : Acc l w) (plan : List Sf) (hp : ∀ s, s ∈ plan → In64 s) : D14 l w plan = some ((plan.length == l.length) && vAll l w [] plan) := by
  have hl : l.length ≤ maxLen := by have := hA.len; rw [maxLen_val]; omega
  rw [e14]
  by_cases he : plan.length = l.length
  case neg =>
    rw [show ((List.length plan : Int) != (List.length l : Int)) = true by simpa using fun e => he (by omega), show (plan.length == l.length) = false by simpa using he]; rfl
  rw [show ((List.length plan : Int) != (List.length l : Int)) = false by simp [he], show (plan.length == l.length) = true by simpa using he, condF, Bool.true_and]
  have hpl : plan.length ≤ maxLen := by rw [he]; exact hl
  unfold lp14_3
  have := iter_nat (ρ := Bool) (step := fun (F : (List Tk × List Bool × List Sf × List Tk × List Sf × Int × Int) → Option Bool) ((l1, winch1, plan1, tasks, v, v1, v2) : (List Tk) × (List (Bool)) × (List Sf) × (List Tk) × (List Sf) × Int × Int) =>
    bif decide (v2 < v1) then (
      (idx v v2).bind fun e =>
      (D22 l1 e.2.1).bind fun r =>
      bif decide (r < 0) then some false
      else (D22 tasks e.2.1).bind fun r1 =>
      bif decide (r1 ≥ 0) then some false
      else (idx l1 r).bind fun e1 =>
      (D24 e1 winch1 e).bind fun r2 =>
      bif (!r2) then some false
      else (idx l1 r).bind fun e2 =>
      bif (Nat.ble ((List.length tasks + List.length [e2]) * 48) appendLimit && Nat.ble (List.length tasks + List.length [e2]) 9223372036854775807) then (
        bif (decide (0 ≤ (0 : Int)) && (decide ((0 : Int) ≤ v2) && decide ((v2 : Int) ≤ (List.length plan1 : Int)))) then lp14_1 big F l1 winch1 plan1 (tasks ++ [e2]) e r v v1 v2 (List.drop (Int.toNat 0) (List.take (Int.toNat v2) plan1)) (List.length (List.drop (Int.toNat 0) (List.take (Int.toNat v2) plan1)) : Int) 0
        else none)
      else none)
    else some true) plan.length (fun k (_ : Unit) => (l, w, plan, (plan.take k).map (fun r => task l r.2.1), plan, (plan.length : Int), (k : Int))) (fun k _ => ∀ j (h : j < plan.length), j < k → 0 ≤ fnd l plan[j].2.1) (fun k _ => vAll l w (plan.take k) (plan.drop k)) (fun F k hk _ hI hF => ?_) (fun F _ _ => ?_) (n := big) (len_lt_big hpl) () (fun _ _ h => by omega)
  · exact this
  · have hl6 := hA.len
    have hkt : (plan.take k).length = k := by rw [List.length_take]; omega
    have hin64 := hp _ (List.getElem_mem hk)
    have htl : ((plan.take k).map (fun r => task l r.2.1)).length ≤ maxLen := by rw [List.length_map, hkt]; omega
    simp only [dec_lt hk, condT, idx_get hk, bindS, find22 l _ hl, find22 _ _ htl]
    rw [List.drop_eq_getElem_cons hk, show vAll l w (plan.take k) (plan[k] :: plan.drop (k + 1)) = (okAt l w (plan.take k) plan[k] && vAll l w (plan.take k ++ [plan[k]]) (plan.drop (k + 1))) from rfl, ← List.take_succ_eq_append_getElem hk]
    unfold okAt
    by_cases h0 : 0 ≤ fnd l plan[k].2.1
    case neg => rw [decide_eq_false h0, decide_eq_true (show fnd l plan[k].2.1 < 0 by omega)]; rfl
    rw [decide_eq_true h0, decide_eq_false (show ¬ fnd l plan[k].2.1 < 0 by omega), Bool.true_and, condF, (idx_task h0).1]
    simp only [bindS, fits24 (task l plan[k].2.1) w plan[k] hin64]
    have hfnds : ∀ r, r ∈ plan.take k → 0 ≤ fnd l r.2.1 := by
      intro r hr
      obtain ⟨j, hj, rfl⟩ := List.mem_take_iff_getElem.1 hr
      exact hI j (by omega) (by omega)
    have hany : decide (fnd ((plan.take k).map (fun r => task l r.2.1)) plan[k].2.1 ≥ 0) = (plan.take k).any (fun r => r.2.1 == plan[k].2.1) := by
      unfold fnd
      rw [findI_ge, List.any_map]
      rw [Bool.eq_iff_iff, List.any_eq_true, List.any_eq_true]
      constructor
      · rintro ⟨r, hr, e⟩
        refine ⟨r, hr, ?_⟩
        simp only [Function.comp_apply] at e
        rw [(idx_task (hfnds r hr)).2.2] at e
        exact e
      · rintro ⟨r, hr, e⟩
        refine ⟨r, hr, ?_⟩
        simp only [Function.comp_apply]
        rw [(idx_task (hfnds r hr)).2.2]
        exact e
    rw [hany]
    cases han : (plan.take k).any (fun r => r.2.1 == plan[k].2.1) with
    | true =>
      rw [condT]
      have : (plan.take k).all (fun r => apt l r plan[k]) = false := by
        rw [List.any_eq_true] at han
        obtain ⟨r, hr, e⟩ := han
        rw [List.all_eq_false]
        refine ⟨r, hr, ?_⟩
        unfold apt
        rw [e]; simp
      rw [this]
      simp
    | false =>
    rw [condF]
    cases hfit : fitB (task l plan[k].2.1) w plan[k] with
    | false => rfl
    | true =>
    have hF := hF () (fun j h hj => by
      by_cases e : j = k
      · subst e; exact h0
      · exact hI j h (by omega))
    have hgrow : (Nat.ble ((List.length ((plan.take k).map (fun r => task l r.2.1)) + List.length [task l plan[k].2.1]) * 48) appendLimit && Nat.ble (List.length ((plan.take k).map (fun r => task l r.2.1)) + List.length [task l plan[k].2.1]) 9223372036854775807) = true :=
      grows (by rw [List.length_map, hkt]; simp only [List.length_singleton]; unfold appendLimit; omega) (by decide)
    have hcut : (decide (0 ≤ (0 : Int)) && (decide ((0 : Int) ≤ (k : Int)) && decide (((k : Int) : Int) ≤ (List.length plan : Int)))) = true := by simp; omega
    have hdt : List.drop (Int.toNat 0) (List.take (Int.toNat (k : Int)) plan) = plan.take k := by rw [show Int.toNat 0 = 0 from rfl, List.drop_zero, Int.toNat_natCast]
    have hmap : (plan.take k).map (fun r => task l r.2.1) ++ [task l plan[k].2.1] = (plan.take (k + 1)).map (fun r => task l r.2.1) := by
      rw [List.take_succ_eq_append_getElem hk, List.map_append]; rfl
    have hin := inner14 hA plan[k] h0 ((plan.take (k + 1)).map (fun r => task l r.2.1)) (fun (_ : Unit) => F (l, w, plan, (plan.take (k + 1)).map (fun r => task l r.2.1), plan, (plan.length : Int), ((k + 1 : Nat) : Int))) _ rfl (plan.take k) [] (fun r hr => hfnds r (by simpa using hr))
      (fun r hr => by
        rw [List.any_eq_false] at han
        simpa using han r hr)
      (fun j h => by
        have h : j < (plan.take k).length := by simpa using h
        simp only [List.nil_append]
        rw [List.getElem?_map, List.getElem?_eq_getElem (by rw [List.length_take]; omega)]
        simp)
    rw [List.length_nil] at hin
    simp only [hgrow, hcut, hdt, condT, condF, Bool.not_true, hmap, f14_1 F l w plan _ plan[k] _ plan (plan.length : Int) (k : Int) (plan.take k) (by rw [hkt]; omega), wrap_succ hk hpl]
    rw [hin, hF, Bool.true_and]
    cases (plan.take k).all (fun r => apt l r plan[k]) <;> rfl
  · simp only [dec_end, condF, List.drop_length]
    rfl

/-! End -/
def endF (t : Int) : Nat → List Sf → Int
  | _, [] => t
  | k, s :: l => bif ((k : Int) == 0) then endF s.2.2.2 (k + 1) l else bif decide (s.2.2.2 > t) then endF s.2.2.2 (k + 1) l else endF t (k + 1) l
theorem end_loop : ∀ (l : List Sf) (k : Nat) (t : Int), forI (fun ix (el : Sf) (t : Int) K => (bif ((ix : Int) == 0) then K el.2.2.2 else bif decide (el.2.2.2 > t) then K el.2.2.2 else K t : Option Int)) (fun (t : Int) => (some t : Option Int)) k l t = some (endF t k l)
  | [], _, _ => rfl
  | s :: l, k, t => by
    rw [forI, end_loop l, end_loop l, show endF t k (s :: l) = (bif ((k : Int) == 0) then endF s.2.2.2 (k + 1) l else bif decide (s.2.2.2 > t) then endF s.2.2.2 (k + 1) l else endF t (k + 1) l) from rfl]
    cases ((k : Int) == 0) <;> cases decide (s.2.2.2 > t) <;> rfl
theorem end16 (plan : List Sf) (hl : plan.length ≤ maxLen) : D16 plan = some (endF 0 0 plan) := by rw [e16, f16_1 0 plan hl, end_loop]
theorem end17 (plan : List Sf) (hl : plan.length ≤ maxLen) : D17 plan = some (endF 0 0 plan) := by rw [e17, f17_1 plan 0 hl, end_loop]

theorem accepted13 (l : List Tk) (w : List Bool) : ∃ b, D13 l w = some b ∧ (b = true → Acc l w) := by
  rw [e13, right12]
  simp only [bindS]
  cases decide ((List.length l : Int) ≤ 6) with
  | false => exact ⟨false, rfl, fun h => by cases h⟩
  | true =>
  cases decide ((List.length w : Int) ≤ 3) with
  | false => exact ⟨false, rfl, fun h => by cases h⟩
  | true => exact ⟨rightV l w == 0, rfl, fun h => (acc_iff l w).1 (by simpa using h)⟩
theorem valid_shifts {plan : List Sf} (h : Valid (.sl shiftTy) plan) : ∀ s, s ∈ plan → In64 s := by
  intro s hs
  have h1 := h.2 s hs
  exact ⟨(valid_i64 h1.2.2.1).2, (valid_i64 h1.2.2.2).2, (valid_i64 h1.1).2⟩
theorem law4 (x : (pk ps4).den) (hx : Valid (pk ps4) x) : d4 x = some true := by
  obtain ⟨l, w, plan⟩ := x
  have hp : Valid (.sl shiftTy) plan := hx.2.2
  show D4 l w plan = some true
  rw [e4, aliveD, bindS]
  obtain ⟨b, hb, hA⟩ := accepted13 l w
  rw [hb, bindS]
  cases b with
  | false => rfl
  | true =>
  have hA := hA rfl
  rw [valid14 hA plan (valid_shifts hp), valid15 hA plan (valid_shifts hp), end16 plan hp.1, end17 plan hp.1]
  simp only [bindS, beq_self_eq_true]
  cases decide ((List.length plan : Int) > 50) <;> rfl
end Go.Proofs.Ythjplaicophnnaa.D
end

section
open Go Go.GD Go.Proofs
namespace Go.Proofs.Ythjplaicophnnaa.D

/-! ### the problem -/
def getT (l : List Tk) (i : Nat) : Tk := (l[i]?).getD (0, 0, false, [])
theorem getT_at {l : List Tk} {i : Nat} (h : i < l.length) : getT l i = l[i] := by unfold getT; rw [List.getElem?_eq_getElem h]; rfl
def prob (l : List Tk) (w : List Bool) : Prob := ⟨l.length, w.length, fun i => (getT l i).2.1, fun i g => !(getT l i).2.2.1 || (w[g - 1]?).getD false, fun i j => clB (getT l i) (getT l j)⟩
theorem prob_good {l : List Tk} {w : List Bool} (hA : Acc l w) : (prob l w).Good := ⟨fun i hi => by
  have hi : i < l.length := hi
  have := hA.task i hi
  show 1 ≤ (getT l i).2.1 ∧ (getT l i).2.1 ≤ 86400
  rw [getT_at hi]; exact ⟨this.2.2.1, this.2.2.2.1⟩, fun i j _ _ => clB_sym _ _⟩

/-- a shift -/
def shOf (l : List Tk) (x : Pl) : Sf := ((x.2.1 : Int), (getT l x.1).1, x.2.2, x.2.2 + (getT l x.1).2.1)
def cellOf (l : List Tk) (p : List Pl) (i : Nat) : Sf := ((p.find? fun x => x.1 == i).map (shOf l)).getD (0, 0, 0, 0)
/-- the shifts in the tasks' order; zero where a task is not placed -/
def arr (l : List Tk) (p : List Pl) : List Sf := (List.range l.length).map (cellOf l p)
theorem arr_len (l : List Tk) (p : List Pl) : (arr l p).length = l.length := by simp [arr]
theorem arr_get {l : List Tk} {p : List Pl} {i : Nat} (h : i < l.length) : (arr l p)[i]'(by rw [arr_len]; exact h) = cellOf l p i := by simp [arr]
theorem arr_idx {l : List Tk} {p : List Pl} {i : Nat} (h : i < l.length) : idx (arr l p) (i : Int) = some (cellOf l p i) := by
  rw [idx_get (by rw [arr_len]; exact h), arr_get h]
theorem cell_in {l : List Tk} {p : List Pl} (hn : (p.map (·.1)).Nodup) {x : Pl} (hx : x ∈ p) : cellOf l p x.1 = shOf l x := by
  unfold cellOf
  cases hf : p.find? (fun y => y.1 == x.1) with
  | none =>
    have := List.find?_eq_none.1 hf x hx
    simp at this
  | some y =>
    have h1 := List.mem_of_find?_eq_some hf
    have h2 : y.1 = x.1 := by simpa using List.find?_some hf
    rw [nodup_inj hn h1 hx h2]; rfl
theorem cell_out {l : List Tk} {p : List Pl} {i : Nat} (h : ∀ x, x ∈ p → x.1 ≠ i) : cellOf l p i = (0, 0, 0, 0) := by
  unfold cellOf
  rw [List.find?_eq_none.2 fun x hx => by simpa using h x hx]; rfl
theorem cell_nz {l : List Tk} {w : List Bool} {p : List Pl} (hI : Inv (prob l w) p) {i : Nat} : ((cellOf l p i).1 != 0) = true ↔ ∃ x, x ∈ p ∧ x.1 = i := by
  constructor
  · intro h
    refine Classical.byContradiction fun hn => ?_
    rw [cell_out fun x hx e => hn ⟨x, hx, e⟩] at h
    simp at h
  · rintro ⟨x, hx, rfl⟩
    rw [cell_in hI.nd hx]
    have := (hI.rng x hx).2.1
    show ((x.2.1 : Int) != 0) = true
    simp; omega
theorem arr_set {l : List Tk} {p : List Pl} {x : Pl} (hn : ((p ++ [x]).map (·.1)).Nodup) : (arr l p).set x.1 (shOf l x) = arr l (p ++ [x]) := by
  apply List.ext_getElem
  · simp [arr_len]
  · intro j h1 h2
    have hj : j < l.length := by rw [arr_len] at h2; exact h2
    rw [List.getElem_set]
    split
    · rename_i e
      subst e
      rw [arr_get hj, cell_in hn (List.mem_append_right _ (List.mem_singleton.2 rfl))]
    · rename_i e
      rw [arr_get hj, arr_get hj]
      unfold cellOf
      rw [List.find?_append]
      cases hf : p.find? (fun y => y.1 == j) with
      | some y => rfl
      | none =>
        rw [show [x].find? (fun y => y.1 == j) = none by simp [e]]
        rfl
theorem arr_unset {l : List Tk} {p : List Pl} {x : Pl} (hn : ∀ y, y ∈ p → y.1 ≠ x.1) : (arr l (p ++ [x])).set x.1 (0, 0, 0, 0) = arr l p := by
  apply List.ext_getElem
  · simp [arr_len]
  · intro j h1 h2
    have hj : j < l.length := by rw [arr_len] at h2; exact h2
    rw [List.getElem_set]
    split
    · rename_i e
      subst e
      rw [arr_get hj, cell_out hn]
    · rename_i e
      rw [arr_get hj, arr_get hj]
      unfold cellOf
      rw [List.find?_append]
      cases hf : p.find? (fun y => y.1 == j) with
      | some y => rfl
      | none =>
        rw [show [x].find? (fun y => y.1 == j) = none by simp [e]]
        rfl
theorem arr_nil (l : List Tk) : arr l [] = zs l.length := by
  apply List.ext_getElem
  · simp [arr_len, zs]
  · intro j h1 h2
    rw [arr_get (by rw [arr_len] at h1; exact h1), cell_out fun _ h => by cases h]
    simp [zs]

/-- the clashes -/
def matM (l : List Tk) : List (List Bool) := l.map fun a => l.map fun b => clB a b
theorem mat_some {l : List Tk} {w : List Bool} (hA : Acc l w) : mat20 l = some (matM l) := by
  have row : ∀ (a : Tk), a ∈ l → ∀ ys : List Tk, (∀ b, b ∈ ys → b ∈ l) → mapO (fun b => d25 (a, b)) ys = some (ys.map fun b => clB a b) := by
    intro a ha ys
    induction ys with
    | nil => intro _; rfl
    | cons b ys ih =>
      intro hy
      have h1 : d25 (a, b) = some (clB a b) := clash25 a b (task_clash hA ha) (task_clash hA (hy b (List.mem_cons_self ..)))
      simp only [mapO, h1, bindS, ih fun c hc => hy c (List.mem_cons_of_mem _ hc), List.map_cons]
  suffices h : ∀ ys : List Tk, (∀ b, b ∈ ys → b ∈ l) → mapO (fun a => mapO (fun b => d25 (a, b)) l) ys = some (ys.map fun a => l.map fun b => clB a b) from h l fun _ h => h
  intro ys
  induction ys with
  | nil => intro _; rfl
  | cons a ys ih =>
    intro hy
    simp only [mapO, row a (hy a (List.mem_cons_self ..)) l fun _ h => h, bindS, ih fun c hc => hy c (List.mem_cons_of_mem _ hc), List.map_cons]
theorem mat_row {l : List Tk} {i : Nat} (hi : i < l.length) : idx (matM l) (i : Int) = some (l.map fun b => clB l[i] b) := by
  rw [idx_get (by simpa [matM] using hi)]; simp [matM]
theorem mat_cell {l : List Tk} {i j : Nat} (hi : i < l.length) (hj : j < l.length) : idx (l.map fun b => clB l[i] b) (j : Int) = some (clB l[i] l[j]) := by
  rw [idx_get (by simpa using hj)]; simp

theorem bif_max (a b : Int) : (bif decide (a > b) then a else b) = max b a := by
  by_cases h : a > b
  · rw [decide_eq_true h, cond_true]; omega
  · rw [decide_eq_false h, cond_false]; omega

/-- earliest -/
theorem earliest {l : List Tk} {w : List Bool} (hA : Acc l w) {p : List Pl} (hI : Inv (prob l w) p) {i g : Nat} (hi : i < l.length) (b : List Sf) (E : Int) :
    D37 (l, w, matM l, arr l p, b, E) (i : Int) (g : Int) = some ((l, w, matM l, arr l p, b, E), early (prob l w) p i g) := by
  have hl : (arr l p).length ≤ maxLen := by rw [arr_len, maxLen_val]; have := hA.len; omega
  rw [e37]
  show lp37_1 big (l, w, matM l, arr l p, b, E) (i : Int) (g : Int) 0 (arr l p) (List.length (arr l p) : Int) 0 = _
  rw [f37_1 _ _ _ _ _ hl]
  refine forI_rule (fun pre t => 0 ≤ t ∧ (∀ x, x ∈ p → x.1 < pre.length → conf (prob l w) i g x = true → toT (prob l w) x ≤ t) ∧ (t = 0 ∨ ∃ x, x ∈ p ∧ x.1 < pre.length ∧ conf (prob l w) i g x = true ∧ toT (prob l w) x = t))
    (fun o => o = some ((l, w, matM l, arr l p, b, E), early (prob l w) p i g)) (arr l p) (fun pre el post hpe t hIt K hK => ?_) (fun t hIt => ?_) ⟨Int.le_refl _, (fun _ _ h => by cases h), .inl rfl⟩
  · have hpl : pre.length < l.length := by
      have := congrArg List.length hpe
      rw [arr_len] at this; simp at this; omega
    have hel : el = cellOf l p pre.length := by
      rw [← arr_get hpl]
      simp [hpe]
    simp only [bif_max]
    have step : ∀ t', (∀ x, x ∈ p → x.1 = pre.length → conf (prob l w) i g x = true → toT (prob l w) x ≤ t') → t ≤ t' → (t' = t ∨ ∃ x, x ∈ p ∧ x.1 = pre.length ∧ conf (prob l w) i g x = true ∧ toT (prob l w) x = t') →
        K t' = some ((l, w, matM l, arr l p, b, E), early (prob l w) p i g) := by
      intro t' h1 h2 h3
      refine hK t' ⟨by omega, fun x hx hlt hc => ?_, ?_⟩
      · rw [List.length_append, List.length_singleton] at hlt
        by_cases e : x.1 = pre.length
        · exact h1 x hx e hc
        · exact Int.le_trans (hIt.2.1 x hx (by omega) hc) h2
      · rw [List.length_append, List.length_singleton]
        rcases h3 with h3 | ⟨x, a1, a2, a3, a4⟩
        · rw [h3]
          rcases hIt.2.2 with h | ⟨x, a1, a2, a3, a4⟩
          · exact .inl h
          · exact .inr ⟨x, a1, by omega, a3, a4⟩
        · exact .inr ⟨x, a1, by omega, a3, a4⟩
    cases hz : (el.1 != 0) with
    | false =>
      rw [condF]
      refine step t (fun x hx e hc => ?_) (Int.le_refl _) (.inl rfl)
      have := (cell_nz hI (i := pre.length)).2 ⟨x, hx, e⟩
      rw [← hel, hz] at this; cases this
    | true =>
      obtain ⟨x, hx, e⟩ := (cell_nz hI (i := pre.length)).1 (by rw [← hel]; exact hz)
      have hel' : el = shOf l x := by rw [hel, ← e, cell_in hI.nd hx]
      have hto : el.2.2.2 = toT (prob l w) x := by rw [hel']; rfl
      have hone : ∀ y, y ∈ p → y.1 = pre.length → y = x := fun y hy ey => hI.inj hy hx (ey.trans e.symm)
      rw [condT, mat_row hi, bindS, mat_cell hi hpl, bindS, hto]
      have hg : (el.1 == (g : Int)) = (x.2.1 == g) := by
        rw [hel']
        show ((x.2.1 : Int) == (g : Int)) = _
        rw [Bool.eq_iff_iff, beq_iff_eq, beq_iff_eq]; omega
      have hcl : clB l[i] l[pre.length] = (prob l w).cl i x.1 := by
        show _ = clB (getT l i) (getT l x.1)
        rw [getT_at hi, e, getT_at hpl]
      rw [hg, hcl]
      have hyes : conf (prob l w) i g x = true → K (max t (toT (prob l w) x)) = some ((l, w, matM l, arr l p, b, E), early (prob l w) p i g) := fun hc =>
        step _ (fun y hy ey _ => by rw [hone y hy ey]; omega) (by omega) (by
          by_cases h : toT (prob l w) x ≤ t
          · exact .inl (by omega)
          · exact .inr ⟨x, hx, e, hc, by omega⟩)
      unfold conf at hyes
      cases h1 : (x.2.1 == g) with
      | true =>
        rw [condT]
        exact hyes (by rw [h1]; rfl)
      | false =>
        rw [condF]
        cases h2 : (prob l w).cl i x.1 with
        | true =>
          rw [condT]
          exact hyes (by rw [h1, h2]; rfl)
        | false =>
          rw [condF]
          refine step t (fun y hy ey hc => ?_) (Int.le_refl _) (.inl rfl)
          rw [hone y hy ey] at hc
          unfold conf at hc
          rw [h1, h2] at hc
          cases hc
  · congr 2
    rw [arr_len] at hIt
    refine maxT_uniq hIt.1 (fun y hy => ?_) ?_
    · obtain ⟨x, hx, rfl⟩ := List.mem_map.1 hy
      have hxm := List.mem_filter.1 hx
      exact hIt.2.1 x hxm.1 (hI.rng x hxm.1).1 hxm.2
    · rcases hIt.2.2 with h | ⟨x, a1, a2, a3, a4⟩
      · exact .inl h
      · exact .inr (List.mem_map.2 ⟨x, List.mem_filter.2 ⟨a1, a3⟩, a4⟩)
end Go.Proofs.Ythjplaicophnnaa.D
end

section
open Go Go.GD Go.Proofs
namespace Go.Proofs.Ythjplaicophnnaa.D

theorem step30_1 (dep : Nat) (F : ((S30) × Int × Int × Int × (List Tk) × Int × Int) → Option (S30 × Unit)) (s2 : S30) (left2 from_2 end_2 i : Int) (a : Tk) (v3 : List Tk) (v4 v5 : Int) (w : List Bool) (hl : w.length ≤ maxLen) :
    lp30_1 big dep F s2 left2 from_2 end_2 i a v3 v4 v5 w (List.length w : Int) 0 =
    forI (fun ix el (s2 : S30) K =>
      bif a.2.2.1 && !el then K s2
      else (D37 s2 i (IntKind.i64.wrap ((ix : Int) + 1))).bind fun r =>
        bif decide (r.2 < from_2) then K r.1
        else (idx r.1.2.2.2.1 i).bind fun _ =>
        (D30 dep (r.1.1, r.1.2.1, r.1.2.2.1, List.set r.1.2.2.2.1 (Int.toNat i) (IntKind.i64.wrap ((ix : Int) + 1), a.1, r.2, IntKind.i64.wrap (r.2 + a.2.1)), r.1.2.2.2.2) (IntKind.i64.wrap (left2 - 1)) r.2 (bif decide ((IntKind.i64.wrap (r.2 + a.2.1) : Int) > end_2) then IntKind.i64.wrap (r.2 + a.2.1) else end_2)).bind fun r1 =>
        (idx r1.1.2.2.2.1 i).bind fun _ =>
        K (r1.1.1, r1.1.2.1, r1.1.2.2.1, List.set r1.1.2.2.2.1 (Int.toNat i) (0, 0, 0, 0), r1.1.2.2.2.2))
      (fun s2 => F (s2, left2, from_2, end_2, v3, v4, IntKind.i64.wrap (v5 + 1))) 0 w s2 := by
  rw [f30_1 dep F s2 left2 from_2 end_2 i a v3 v4 v5 w hl]
  refine forI_congr w 0 (fun j h s K => ?_) (fun _ => rfl) s2
  cases a.2.2.1 with
  | false => rw [condF, Bool.false_and, condF]
  | true => cases w[j] with
    | true => rw [condT, show (!true) = false from rfl, condF, Bool.and_false, condF]
    | false => rw [condT, show (!false) = true from rfl, condT, Bool.and_true, condT]

/-- what the search keeps: the plan in the tasks' order -/
def repA (l : List Tk) (q : List Pl) (b : List Sf) : Prop := b = arr l q

theorem copy_all {α : Type} {xs ys : List α} (h : xs.length = ys.length) : copyL xs ys = ys := by
  unfold copyL
  rw [h, List.take_length, ← h, List.drop_length, List.append_nil]

set_option maxHeartbeats 1000000 in
theorem place_spec {l : List Tk} {w : List Bool} (hA : Acc l w) : ∀ (m : Nat) (p : List Pl) (from_ : Int) (b : List Sf) (E : Int) (dep : Nat), p.length + m = l.length → m < dep → Inv (prob l w) p → (∀ x, x ∈ p → x.2.2 ≤ from_) → (from_ = 0 ∨ ∃ x, x ∈ p ∧ x.2.2 = from_) → b.length = l.length →
    ∃ b' E', D30 dep (l, w, matM l, arr l p, b, E) (m : Int) from_ (endOf (prob l w) p) = some ((l, w, matM l, arr l p, b', E'), ()) ∧ b'.length = l.length ∧ Srch (repA l) (prob l w) (Fin (prob l w) true p) E b E' b' := by
  intro m
  induction m with
  | zero =>
    intro p from_ b E dep hpm hdep hI hfr hfa hb
    obtain ⟨dep, rfl⟩ : ∃ d, dep = d + 1 := ⟨dep - 1, by omega⟩
    rw [e30]
    simp only []
    by_cases hcut : endOf (prob l w) p ≥ E
    · rw [decide_eq_true hcut]
      exact ⟨b, E, rfl, hb, Srch.cut fun q hq => Int.le_trans hcut hq.1.end_le⟩
    · rw [decide_eq_false hcut, condF, show (((0 : Nat) : Int) == 0) = true from rfl, condT]
      have hcp : copyL b (arr l p) = arr l p := copy_all (by rw [hb, arr_len])
      refine ⟨arr l p, endOf (prob l w) p, by rw [hcp], arr_len l p, by omega, .inr ⟨p, ⟨.refl p, by show _ = l.length; omega⟩, rfl, rfl⟩, fun q hq => hq.1.end_le⟩
  | succ m ih =>
    intro p from_ b E dep hpm hdep hI hfr hfa hb
    obtain ⟨dep, rfl⟩ : ∃ d, dep = d + 1 := ⟨dep - 1, by omega⟩
    have hX := prob_good hA
    have hl6 := hA.len
    have hlm : l.length ≤ maxLen := by rw [maxLen_val]; omega
    have hwm : w.length ≤ maxLen := by have := hA.wlen; rw [maxLen_val]; omega
    rw [e30]
    simp only []
    by_cases hcut : endOf (prob l w) p ≥ E
    · rw [decide_eq_true hcut]
      exact ⟨b, E, rfl, hb, Srch.cut fun q hq => Int.le_trans hcut hq.1.end_le⟩
    rw [decide_eq_false hcut, condF, show (((m + 1 : Nat) : Int) == 0) = false by simp; omega, condF]
    let Q : Nat → List Sf × Int → S30 × Unit → Prop := fun k s r => ∃ b' E', r = ((l, w, matM l, arr l p, b', E'), ()) ∧ b'.length = l.length ∧ Srch (repA l) (prob l w) (fun q => ∃ i g, k ≤ i ∧ Via (prob l w) true p i g q) s.2 s.1 E' b'
    have main := iter_natR (ρ := S30 × Unit) (step := fun (F : (S30 × Int × Int × Int × List Tk × Int × Int) → Option (S30 × Unit)) ((s1, left1, from_1, end_1, v, v1, v2) : (S30) × Int × Int × Int × (List Tk) × Int × Int) =>
      bif decide (v2 < v1) then (
        (idx v v2).bind fun e =>
        (idx s1.2.2.2.1 v2).bind fun e1 =>
        bif (e1.1 != 0) then F (s1, left1, from_1, end_1, v, v1, IntKind.i64.wrap (v2 + 1))
        else lp30_1 big dep F s1 left1 from_1 end_1 v2 e v v1 v2 s1.2.1 (List.length s1.2.1 : Int) 0)
      else some (s1, ())) l.length (fun k (s : List Sf × Int) => ((l, w, matM l, arr l p, s.1, s.2), ((m + 1 : Nat) : Int), from_, endOf (prob l w) p, l, (l.length : Int), (k : Int))) (fun _ s => s.1.length = l.length) Q
      (fun F k hk s hI2 hF => ?_) (fun F s hI2 => ?_) (n := big) (len_lt_big hlm) (b, E) hb
    · obtain ⟨r, hr, b', E', rfl, hb', hS⟩ := main
      refine ⟨b', E', ?_, hb', hS.iff fun q => ?_⟩
      · unfold lp30_3
        exact hr
      · rw [fin_iff (by show _ < l.length; omega)]
        constructor
        · rintro ⟨i, g, h⟩; exact ⟨i, g, Nat.zero_le _, h⟩
        · rintro ⟨i, g, _, h⟩; exact ⟨i, g, h⟩
    · obtain ⟨b1, E1⟩ := s
      have hI2 : b1.length = l.length := hI2
      simp only [dec_lt hk, condT, idx_get hk, bindS, arr_idx hk, wrap_succ hk hlm]
      cases hz : ((cellOf l p k).1 != 0) with
      | true =>
        rw [condT]
        obtain ⟨x, hx, hxk⟩ := (cell_nz hI).1 hz
        obtain ⟨r, hr, b', E', e, hb', hS⟩ := hF (b1, E1) hI2
        refine ⟨r, hr, b', E', e, hb', hS.iff fun q => ?_⟩
        constructor
        · rintro ⟨i, g, h1, h2⟩
          refine ⟨i, g, ?_, h2⟩
          have : i ≠ k := fun e => h2.2.1 x hx (by rw [e]; exact hxk)
          omega
        · rintro ⟨i, g, h1, h2⟩; exact ⟨i, g, by omega, h2⟩
      | false =>
        rw [condF]
        have hnp : ∀ x, x ∈ p → x.1 ≠ k := fun x hx e => by
          have := (cell_nz hI).2 ⟨x, hx, e⟩
          rw [hz] at this; cases this
        rw [step30_1 _ _ _ _ _ _ _ _ _ _ _ _ hwm]
        refine forI_rule (fun pre s2 => ∃ b2 E2, s2 = (l, w, matM l, arr l p, b2, E2) ∧ b2.length = l.length ∧ Srch (repA l) (prob l w) (fun q => ∃ g, 1 ≤ g ∧ g ≤ pre.length ∧ Via (prob l w) true p k g q) E1 b1 E2 b2)
          (fun o => ∃ r, o = some r ∧ Q k (b1, E1) r) w (fun pre x post hpe s2 hs2 K hK => ?_) (fun s2 hs2 => ?_) ⟨b1, E1, rfl, hI2, Srch.none (fun q h => by obtain ⟨g, h1, h2, _⟩ := h; simp at h2; omega) _ _⟩
        · obtain ⟨b2, E2, rfl, hb2, hS2⟩ := hs2
          have hgl : pre.length < w.length := by rw [hpe]; simp
          have hgx : w[pre.length] = x := by simp [hpe]
          have hw3 := hA.wlen.2
          have hwr : IntKind.i64.wrap ((pre.length : Int) + 1) = ((pre.length + 1 : Nat) : Int) := by rw [wrap_i64 (by omega) (by omega)]; rfl
          have hok : (prob l w).ok k (pre.length + 1) = !(l[k].2.2.1 && !x) := by
            show (!(getT l k).2.2.1 || (w[pre.length + 1 - 1]?).getD false) = _
            rw [getT_at hk, Nat.add_sub_cancel, List.getElem?_eq_getElem hgl, hgx]
            cases l[k].2.2.1 <;> cases x <;> rfl
          -- the next shift adds nothing
          have skip : (∀ q, ¬ Via (prob l w) true p k (pre.length + 1) q) → ∃ r, K (l, w, matM l, arr l p, b2, E2) = some r ∧ Q k (b1, E1) r := by
            intro hno
            refine hK _ ⟨b2, E2, rfl, hb2, hS2.iff fun q => ?_⟩
            constructor
            · rintro ⟨g, h1, h2, h3⟩
              rw [List.length_append, List.length_singleton] at h2
              have : g ≠ pre.length + 1 := fun e => hno q (e ▸ h3)
              exact ⟨g, h1, by omega, h3⟩
            · rintro ⟨g, h1, h2, h3⟩
              exact ⟨g, h1, by rw [List.length_append]; omega, h3⟩
          cases hw1 : (l[k].2.2.1 && !x) with
          | true =>
            rw [condT]
            exact skip fun q h => by
              have := h.2.2.2.2.1
              rw [hok, hw1] at this; cases this
          | false =>
            rw [condF, hwr, earliest hA hI hk, bindS]
            simp only []
            by_cases hlt : early (prob l w) p k (pre.length + 1) < from_
            · rw [decide_eq_true hlt, condT]
              refine skip fun q h => ?_
              rcases hfa with e | ⟨y, hy, e⟩
              · have := early_nonneg (X := prob l w) p k (pre.length + 1); omega
              · have := h.2.2.2.2.2.1 rfl y hy; omega
            · rw [decide_eq_false hlt, condF, arr_idx hk, bindS]
              have hkn : k < (prob l w).n := hk
              have hokt : (prob l w).ok k (pre.length + 1) = true := by rw [hok, hw1]; rfl
              have hI' := hI.step hX hkn hnp (g := pre.length + 1) (by omega) (by show _ ≤ w.length; omega) hokt
              have hsec := hX.sec k hkn
              have hsk : (prob l w).sec k = (l[k]'hk).2.1 := by
                show (getT l k).2.1 = _
                rw [getT_at hk]
              have hbd : early (prob l w) p k (pre.length + 1) ≤ p.length * 86400 := early_le (by omega) fun x hx _ => hI.bd x hx
              have h0 := early_nonneg (X := prob l w) p k (pre.length + 1)
              have hwt : IntKind.i64.wrap (early (prob l w) p k (pre.length + 1) + (l[k]'hk).2.1) = early (prob l w) p k (pre.length + 1) + (l[k]'hk).2.1 := by
                rw [← hsk, wrap_i64 (by omega) (by omega)]
              have hleft : IntKind.i64.wrap (((m + 1 : Nat) : Int) - 1) = (m : Int) := by rw [wrap_i64 (by omega) (by omega)]; omega
              have hsh : (((pre.length + 1 : Nat) : Int), (l[k]'hk).1, early (prob l w) p k (pre.length + 1), early (prob l w) p k (pre.length + 1) + (l[k]'hk).2.1) = shOf l (k, pre.length + 1, early (prob l w) p k (pre.length + 1)) := by
                unfold shOf
                rw [show getT l (k, pre.length + 1, early (prob l w) p k (pre.length + 1)).1 = (l[k]'hk) from getT_at hk]
              have hset := arr_set (l := l) (p := p) (x := (k, pre.length + 1, early (prob l w) p k (pre.length + 1))) hI'.nd
              have hend : (bif decide (early (prob l w) p k (pre.length + 1) + (l[k]'hk).2.1 > endOf (prob l w) p) then early (prob l w) p k (pre.length + 1) + (l[k]'hk).2.1 else endOf (prob l w) p) = endOf (prob l w) (p ++ [(k, pre.length + 1, early (prob l w) p k (pre.length + 1))]) := by
                rw [bif_max, endOf_append, ← hsk]; rfl
              rw [hwt, hleft, Int.toNat_natCast, hsh, hset, hend]
              obtain ⟨b3, E3, h1, h2, h3⟩ := ih (p ++ [(k, pre.length + 1, early (prob l w) p k (pre.length + 1))]) (early (prob l w) p k (pre.length + 1)) b2 E2 dep (by rw [List.length_append, List.length_singleton]; omega) (by omega) hI'
                (fun x hx => by
                  rcases List.mem_append.1 hx with hx | hx
                  · have := hfr x hx; omega
                  · rw [List.mem_singleton.1 hx]; exact Int.le_refl _)
                (.inr ⟨_, List.mem_append_right _ (List.mem_singleton.2 rfl), rfl⟩) hb2
              rw [h1, bindS]
              simp only []
              rw [arr_idx hk, bindS, arr_unset (x := (k, pre.length + 1, early (prob l w) p k (pre.length + 1))) hnp]
              refine hK _ ⟨b3, E3, rfl, h2, hS2.seq h3 fun q => ?_⟩
              rw [List.length_append, List.length_singleton]
              constructor
              · rintro ⟨g, g1, g2, g3⟩
                by_cases e : g = pre.length + 1
                · subst e
                  exact .inr g3.2.2.2.2.2.2
                · exact .inl ⟨g, g1, by omega, g3⟩
              · rintro (⟨g, g1, g2, g3⟩ | hq)
                · exact ⟨g, g1, by omega, g3⟩
                · exact ⟨pre.length + 1, by omega, Nat.le_refl _, hkn, hnp, by omega, (by show _ ≤ w.length; omega), hokt, (fun _ x hx => by have := hfr x hx; omega), hq⟩
        · obtain ⟨b2, E2, rfl, hb2, hS2⟩ := hs2
          obtain ⟨r, hr, b', E', e, hb', hS⟩ := hF (b2, E2) hb2
          rw [wrap_succ hk hlm]
          refine ⟨r, hr, b', E', e, hb', hS2.seq hS fun q => ?_⟩
          constructor
          · rintro ⟨i, g, h1, h2⟩
            by_cases e : i = k
            · subst e
              exact .inl ⟨g, h2.2.2.1, h2.2.2.2.1, h2⟩
            · exact .inr ⟨i, g, by omega, h2⟩
          · rintro (⟨g, h1, h2, h3⟩ | ⟨i, g, h1, h2⟩)
            · exact ⟨k, g, Nat.le_refl _, h3⟩
            · exact ⟨i, g, by omega, h2⟩
    · obtain ⟨b1, E1⟩ := s
      simp only [dec_end, condF]
      exact ⟨_, rfl, b1, E1, rfl, hI2, Srch.none (fun q h => by obtain ⟨i, g, h1, h2⟩ := h; have : i < l.length := h2.1; omega) _ _⟩
end Go.Proofs.Ythjplaicophnnaa.D
end

section
open Go Go.GD Go.Proofs
namespace Go.Proofs.Ythjplaicophnnaa.D

/-! ### End -/
theorem endF_succ : ∀ (l : List Sf) (k : Nat) (t : Int), endF t (k + 1) l = (l.map (·.2.2.2)).foldl max t
  | [], _, _ => rfl
  | s :: l, k, t => by
    rw [show endF t (k + 1) (s :: l) = (bif (((k + 1 : Nat) : Int) == 0) then endF s.2.2.2 (k + 1 + 1) l else bif decide (s.2.2.2 > t) then endF s.2.2.2 (k + 1 + 1) l else endF t (k + 1 + 1) l) from rfl,
      show (((k + 1 : Nat) : Int) == 0) = false by simp; omega, cond_false, endF_succ l, endF_succ l, List.map_cons, List.foldl_cons]
    by_cases h : s.2.2.2 > t
    · rw [decide_eq_true h, cond_true, Int.max_eq_right (by omega)]
    · rw [decide_eq_false h, cond_false, Int.max_eq_left (by omega)]
theorem endF_max {plan : List Sf} (h : ∀ s, s ∈ plan → 0 ≤ s.2.2.2) : endF 0 0 plan = maxT (plan.map (·.2.2.2)) := by
  cases plan with
  | nil => rfl
  | cons s l =>
    rw [show endF 0 0 (s :: l) = endF s.2.2.2 1 l from rfl, endF_succ]
    unfold maxT
    rw [List.map_cons, List.foldl_cons, Int.max_eq_right (h s (List.mem_cons_self ..))]

/-! ### Valid -/
theorem vAll_iff (l : List Tk) (w : List Bool) : ∀ (ys pre : List Sf), vAll l w pre ys = true ↔ ∀ k (h : k < ys.length), okAt l w (pre ++ ys.take k) ys[k] = true
  | [], _ => ⟨(fun _ _ h => by cases h), fun _ => rfl⟩
  | s :: ys, pre => by
    rw [show vAll l w pre (s :: ys) = (okAt l w pre s && vAll l w (pre ++ [s]) ys) from rfl, Bool.and_eq_true, vAll_iff l w ys (pre ++ [s])]
    constructor
    · rintro ⟨h1, h2⟩ k hk
      cases k with
      | zero => simpa using h1
      | succ k => simpa using h2 k (by simpa using hk)
    · intro h
      refine ⟨?_, fun k hk => ?_⟩
      · have := h 0 (by simp)
        simpa using this
      · have := h (k + 1) (by simpa using hk)
        simpa using this

theorem fitB_iff {a : Tk} {w : List Bool} {s : Sf} : fitB a w s = true ↔ 1 ≤ s.1 ∧ s.1 ≤ w.length ∧ 0 ≤ s.2.2.1 ∧ s.2.2.1 ≤ s.2.2.2 ∧ s.2.2.2 - s.2.2.1 = a.2.1 ∧ (!a.2.2.1 || (w[(s.1 - 1).toNat]?).getD false) = true := by
  unfold fitB
  simp only [Bool.and_eq_true, decide_eq_true_eq, beq_iff_eq]
theorem apt_iff {l : List Tk} {r s : Sf} : apt l r s = true ↔ r.2.1 ≠ s.2.1 ∧ ((r.1 = s.1 ∨ clB (task l r.2.1) (task l s.2.1) = true) → s.2.2.2 ≤ r.2.2.1 ∨ r.2.2.2 ≤ s.2.2.1) := by
  unfold apt ovl
  constructor
  · intro h
    simp only [Bool.and_eq_true, Bool.not_eq_true', beq_eq_false_iff_ne, Bool.and_eq_false_iff, decide_eq_false_iff_not, Bool.or_eq_false_iff] at h
    refine ⟨h.1, fun hc => ?_⟩
    rcases h.2 with (h2 | h2) | h2
    · left; omega
    · right; omega
    · rcases hc with hc | hc
      · exact absurd hc h2.1
      · rw [h2.2] at hc; cases hc
  · rintro ⟨h1, h2⟩
    simp only [Bool.and_eq_true, Bool.not_eq_true', beq_eq_false_iff_ne, Bool.and_eq_false_iff, decide_eq_false_iff_not, Bool.or_eq_false_iff]
    refine ⟨h1, ?_⟩
    by_cases hc : r.1 = s.1 ∨ clB (task l r.2.1) (task l s.2.1) = true
    · left
      rcases h2 hc with h | h
      · left; omega
      · right; omega
    · right
      exact ⟨fun e => hc (.inl e), by
        cases h : clB (task l r.2.1) (task l s.2.1) with
        | false => rfl
        | true => exact absurd (.inr h) hc⟩

section
variable {l : List Tk} {w : List Bool}

/-- a whole plan's shift -/
theorem cell_at {q : List Pl} (hI : Inv (prob l w) q) (hq : q.length = l.length) {i : Nat} (hi : i < l.length) : cellOf l q i = shOf l (atOf q i) ∧ atOf q i ∈ q ∧ (atOf q i).1 = i := by
  have h := atOf_mem (hI.has hq (i := i) hi)
  refine ⟨?_, h⟩
  have := cell_in (l := l) hI.nd h.1
  rw [h.2] at this
  exact this

theorem arr_valid (hA : Acc l w) {q : List Pl} (hI : Inv (prob l w) q) (hq : q.length = l.length) : vAll l w [] (arr l q) = true := by
  have hv := hI.vp (prob_good hA) hq
  refine (vAll_iff l w _ _).2 fun k hk => ?_
  have hk' : k < l.length := by rw [arr_len] at hk; exact hk
  obtain ⟨e1, e2, e3⟩ := cell_at hI hq hk'
  have hrng := hv.rng k hk'
  have hsec := ((prob_good hA).sec k hk').1
  have hgt : getT l (atOf q k).1 = l[k] := by rw [e3]; exact getT_at hk'
  have hs : (arr l q)[k] = (((atOf q k).2.1 : Int), l[k].1, (atOf q k).2.2, (atOf q k).2.2 + l[k].2.1) := by
    rw [arr_get hk', e1, shOf, hgt]
  have hsk : (prob l w).sec k = l[k].2.1 := by
    show (getT l k).2.1 = _
    rw [getT_at hk']
  unfold okAt
  rw [hs]
  simp only [fnd_at hA hk', task_at hA hk']
  rw [Bool.and_eq_true, Bool.and_eq_true]
  refine ⟨decide_eq_true (by omega), fitB_iff.2 ⟨by have := hrng.1; simp only []; omega, ?_, hrng.2.2.2, ?_, ?_, ?_⟩, ?_⟩
  · have : (atOf q k).2.1 ≤ w.length := hrng.2.1
    simp only []; omega
  · simp only []; omega
  · simp only []; omega
  · have h1 : (!(getT l k).2.2.1 || (w[(atOf q k).2.1 - 1]?).getD false) = true := hrng.2.2.1
    rw [getT_at hk'] at h1
    have h2 := hrng.1
    rw [show (((atOf q k).2.1 : Int) - 1).toNat = (atOf q k).2.1 - 1 by omega]
    exact h1
  · rw [List.all_eq_true]
    intro r hr
    rw [List.nil_append] at hr
    obtain ⟨j, hj, rfl⟩ := List.mem_take_iff_getElem.1 hr
    have hjk : j < k := by omega
    have hj' : j < l.length := by omega
    obtain ⟨d1, d2, d3⟩ := cell_at hI hq hj'
    have hjt : getT l (atOf q j).1 = l[j] := by rw [d3]; exact getT_at hj'
    have hjs : (arr l q)[j]'(by rw [arr_len]; exact hj') = (((atOf q j).2.1 : Int), l[j].1, (atOf q j).2.2, (atOf q j).2.2 + l[j].2.1) := by
      rw [arr_get hj', d1, shOf, hjt]
    have hsj : (prob l w).sec j = l[j].2.1 := by
      show (getT l j).2.1 = _
      rw [getT_at hj']
    rw [hjs]
    refine apt_iff.2 ⟨fun e => by have := hA.inj j k hj' hk' e; omega, fun hc => ?_⟩
    simp only [task_at hA hj', task_at hA hk'] at hc ⊢
    have := hv.ap j k hj' hk' (by omega) (hc.imp (fun e => by
      have e : ((atOf q j).2.1 : Int) = ((atOf q k).2.1 : Int) := e
      show (atOf q j).2.1 = (atOf q k).2.1
      omega) fun e => by
      show clB (getT l j) (getT l k) = true
      rw [getT_at hj', getT_at hk']; exact e)
    rw [hsj, hsk] at this
    omega

/-- a valid list of shifts is a plan -/
theorem plan_vp (hA : Acc l w) {plan : List Sf} (hlen : plan.length = l.length) (hv : vAll l w [] plan = true) : ∃ G F, VP (prob l w) G F ∧ 0 ≤ endF 0 0 plan ∧ ∀ i, i < l.length → F i + (prob l w).sec i ≤ endF 0 0 plan := by
  have hall : ∀ k (h : k < plan.length), 0 ≤ fnd l plan[k].2.1 ∧ fitB (task l plan[k].2.1) w plan[k] = true ∧ ∀ j (hj : j < plan.length), j < k → apt l plan[j] plan[k] = true := by
    intro k hk
    have := (vAll_iff l w plan []).1 hv k hk
    unfold okAt at this
    rw [Bool.and_eq_true, Bool.and_eq_true, decide_eq_true_eq, List.all_eq_true] at this
    refine ⟨this.1, this.2.1, fun j hj hjk => this.2.2 _ ?_⟩
    rw [List.nil_append]
    exact List.mem_take_iff_getElem.2 ⟨j, by omega, rfl⟩
  have hfit := fun k hk => fitB_iff.1 (hall k hk).2.1
  have hpos : ∀ s, s ∈ plan → 0 ≤ s.2.2.2 := by
    intro s hs
    obtain ⟨k, hk, rfl⟩ := List.mem_iff_getElem.1 hs
    have := hfit k hk
    omega
  have hruns : ∀ j k (hj : j < plan.length) (hk : k < plan.length), plan[j].2.1 = plan[k].2.1 → j = k := by
    intro j k hj hk e
    rcases Nat.lt_trichotomy j k with h | h | h
    · exact absurd e (apt_iff.1 ((hall k hk).2.2 j hj h)).1
    · exact h
    · exact absurd e.symm (apt_iff.1 ((hall j hj).2.2 k hk h)).1
  have hex : ∀ i, i < l.length → ∃ k, ∃ hk : k < plan.length, fnd l plan[k].2.1 = (i : Int) := by
    intro i hi
    have hnd : (plan.map fun s => (fnd l s.2.1).toNat).Nodup := by
      refine List.pairwise_iff_getElem.2 fun j k hj hk hjk => ?_
      simp only [List.length_map] at hj hk
      simp only [List.getElem_map]
      intro e
      obtain ⟨a, ha, a1, a2⟩ := fnd_some (hall j (by omega)).1
      obtain ⟨b, hb, b1, b2⟩ := fnd_some (hall k hk).1
      rw [a1, b1] at e
      have : a = b := by omega
      subst this
      have := hruns j k (by omega) hk (a2.symm.trans b2)
      omega
    have hm := nd_all hnd (n := l.length) (fun x hx => by
      obtain ⟨s, hs, rfl⟩ := List.mem_map.1 hx
      obtain ⟨k, hk, rfl⟩ := List.mem_iff_getElem.1 hs
      obtain ⟨a, ha, a1, _⟩ := fnd_some (hall k hk).1
      rw [a1]; simpa using ha) (by rw [List.length_map]; exact hlen) hi
    obtain ⟨s, hs, e⟩ := List.mem_map.1 hm
    obtain ⟨k, hk, rfl⟩ := List.mem_iff_getElem.1 hs
    refine ⟨k, hk, ?_⟩
    have := (hall k hk).1
    omega
  -- the shift of a task
  obtain ⟨at_, hat⟩ : ∃ at_ : Nat → Sf, ∀ i (hi : i < l.length), ∃ k, ∃ hk : k < plan.length, at_ i = plan[k] ∧ plan[k].2.1 = l[i].1 := by
    refine ⟨fun i => if h : i < l.length then plan[Classical.choose (hex i h)]'(Classical.choose (Classical.choose_spec (hex i h))) else (0, 0, 0, 0), fun i hi => ?_⟩
    have hs := Classical.choose_spec (Classical.choose_spec (hex i hi))
    refine ⟨Classical.choose (hex i hi), Classical.choose (Classical.choose_spec (hex i hi)), by simp only [dif_pos hi], ?_⟩
    obtain ⟨a, ha, a1, a2⟩ := fnd_some (hall _ (Classical.choose (Classical.choose_spec (hex i hi)))).1
    rw [hs] at a1
    have : a = i := by omega
    subst this
    exact a2.symm
  have hend : ∀ s, s ∈ plan → s.2.2.2 ≤ endF 0 0 plan := fun s hs => by
    rw [endF_max hpos]
    exact maxT_ub (List.mem_map.2 ⟨s, hs, rfl⟩)
  have hsec : ∀ i (hi : i < l.length), (prob l w).sec i = l[i].2.1 := fun i hi => by
    show (getT l i).2.1 = _
    rw [getT_at hi]
  refine ⟨fun i => (at_ i).1.toNat, fun i => (at_ i).2.2.1, ⟨fun i hi => ?_, fun i j hi hj hne hc => ?_⟩, by rw [endF_max hpos]; exact maxT_nonneg _, fun i hi => ?_⟩
  · have hi : i < l.length := hi
    obtain ⟨k, hk, e1, e2⟩ := hat i hi
    have h := hfit k hk
    rw [e2, task_at hA hi] at h
    rw [e1]
    refine ⟨by omega, ?_, ?_, h.2.2.1⟩
    · show _ ≤ w.length
      omega
    · show (!(getT l i).2.2.1 || (w[plan[k].1.toNat - 1]?).getD false) = true
      rw [getT_at hi, show plan[k].1.toNat - 1 = (plan[k].1 - 1).toNat by omega]
      exact h.2.2.2.2.2
  · have hi : i < l.length := hi
    have hj : j < l.length := hj
    obtain ⟨k, hk, e1, e2⟩ := hat i hi
    obtain ⟨m, hm, d1, d2⟩ := hat j hj
    have hkm : k ≠ m := fun e => by subst e; exact hne (hA.inj i j hi hj (e2.symm.trans d2))
    have h1 := hfit k hk
    have h2 := hfit m hm
    have hcc : plan[k].1 = plan[m].1 ∨ clB l[i] l[j] = true := by
      rcases hc with hc | hc
      · left
        rw [e1, d1] at hc
        have hc : plan[k].1.toNat = plan[m].1.toNat := hc
        omega
      · right
        have hc : clB (getT l i) (getT l j) = true := hc
        rw [getT_at hi, getT_at hj] at hc
        exact hc
    rw [e1, d1, hsec i hi, hsec j hj]
    rw [e2, task_at hA hi] at h1
    rw [d2, task_at hA hj] at h2
    rcases Nat.lt_or_gt_of_ne hkm with h | h
    · have := (apt_iff.1 ((hall m hm).2.2 k hk h)).2
      rw [e2, d2, task_at hA hi, task_at hA hj] at this
      have := this hcc
      omega
    · have := (apt_iff.1 ((hall k hk).2.2 m hm h)).2
      rw [e2, d2, task_at hA hi, task_at hA hj, clB_sym] at this
      have := this (hcc.imp (fun h => h.symm) (fun h => h))
      omega
  · obtain ⟨k, hk, e1, e2⟩ := hat i hi
    have h := hfit k hk
    rw [e2, task_at hA hi] at h
    rw [hsec i hi]
    show (at_ i).2.2.1 + _ ≤ _
    rw [e1]
    have := hend _ (List.getElem_mem hk)
    omega
end
end Go.Proofs.Ythjplaicophnnaa.D
end

section
open Go Go.GD Go.Proofs
namespace Go.Proofs.Ythjplaicophnnaa.D

section
variable {l : List Tk} {w : List Bool}

theorem sum_take20 (hA : Acc l w) : ∀ k, k ≤ l.length → (l.take k).foldl (fun t a => IntKind.i64.wrap (t + a.2.1)) 1 = 1 + before (prob l w).sec k ∧ before (prob l w).sec k ≤ k * 86400 ∧ 0 ≤ before (prob l w).sec k
  | 0, _ => ⟨rfl, Int.le_refl _, Int.le_refl _⟩
  | k + 1, hk => by
    obtain ⟨h1, h2, h3⟩ := sum_take20 hA k (by omega)
    have hl6 := hA.len
    have hs := (prob_good hA).sec k (show k < l.length by omega)
    have hsk : (prob l w).sec k = l[k].2.1 := by
      show (getT l k).2.1 = _
      rw [getT_at (by omega)]
    rw [List.take_succ_eq_append_getElem (by omega), List.foldl_append, h1]
    show IntKind.i64.wrap (1 + before (prob l w).sec k + l[k].2.1) = 1 + (before (prob l w).sec k + (prob l w).sec k) ∧ before (prob l w).sec k + (prob l w).sec k ≤ _ ∧ 0 ≤ before (prob l w).sec k + (prob l w).sec k
    rw [← hsk, wrap_i64 (by omega) (by omega)]
    omega
theorem sum20_eq (hA : Acc l w) : sum20 l = 1 + before (prob l w).sec l.length := by
  have := (sum_take20 hA l.length (Nat.le_refl _)).1
  rw [List.take_length] at this
  exact this

theorem groomer (hA : Acc l w) : ∃ G : Nat → Nat, ∀ i, i < (prob l w).n → 1 ≤ G i ∧ G i ≤ (prob l w).k ∧ (prob l w).ok i (G i) = true := by
  have hex : ∀ i, i < l.length → ∃ g, 1 ≤ g ∧ g ≤ w.length ∧ (!(getT l i).2.2.1 || (w[g - 1]?).getD false) = true := by
    intro i hi
    rw [getT_at hi]
    cases hw : l[i].2.2.1 with
    | false => exact ⟨1, Nat.le_refl _, hA.wlen.1, rfl⟩
    | true =>
      have := (hA.task i hi).2.2.2.2.2 hw
      rw [List.any_eq_true] at this
      obtain ⟨b, hb, e⟩ := this
      obtain ⟨k, hk, rfl⟩ := List.mem_iff_getElem.1 hb
      refine ⟨k + 1, by omega, by omega, ?_⟩
      rw [Nat.add_sub_cancel, List.getElem?_eq_getElem hk, Option.getD_some, show w[k] = true by simpa using e]; rfl
  refine ⟨fun i => if h : i < l.length then Classical.choose (hex i h) else 0, fun i hi => ?_⟩
  have hi : i < l.length := hi
  simp only [dif_pos hi]
  exact Classical.choose_spec (hex i hi)

/-- the end of a whole plan in the tasks' order -/
theorem arr_end (hA : Acc l w) {q : List Pl} (hI : Inv (prob l w) q) (hq : q.length = l.length) : endF 0 0 (arr l q) = endOf (prob l w) q := by
  have hcell : ∀ i (hi : i < l.length), ((arr l q)[i]'(by rw [arr_len]; exact hi)).2.2.2 = toT (prob l w) (atOf q i) := fun i hi => by
    rw [arr_get hi, (cell_at hI hq hi).1]; rfl
  have hnn : ∀ x, x ∈ q → 0 ≤ toT (prob l w) x := fun x hx => by
    have h1 := hI.rng x hx
    have h2 := ((prob_good hA).sec x.1 h1.1).1
    unfold toT
    omega
  have hpos : ∀ s, s ∈ arr l q → 0 ≤ s.2.2.2 := fun s hs => by
    obtain ⟨i, hi, rfl⟩ := List.mem_iff_getElem.1 hs
    have hi' : i < l.length := by rw [arr_len] at hi; exact hi
    rw [hcell i hi']
    exact hnn _ (cell_at hI hq hi').2.1
  rw [endF_max hpos]
  refine Int.le_antisymm (maxT_le (endOf_nonneg _) fun y hy => ?_) (endOf_le (maxT_nonneg _) fun x hx => ?_)
  · obtain ⟨s, hs, rfl⟩ := List.mem_map.1 hy
    obtain ⟨i, hi, rfl⟩ := List.mem_iff_getElem.1 hs
    have hi' : i < l.length := by rw [arr_len] at hi; exact hi
    rw [hcell i hi']
    exact endOf_ub (cell_at hI hq hi').2.1
  · have hx1 := (hI.rng x hx).1
    have hx1 : x.1 < l.length := hx1
    have he : atOf q x.1 = x := hI.inj (cell_at hI hq hx1).2.1 hx (cell_at hI hq hx1).2.2
    rw [← he, ← hcell x.1 hx1]
    exact maxT_ub (List.mem_map.2 ⟨_, List.getElem_mem _, rfl⟩)

/-- what Best and Least return -/
structure BestIs (l : List Tk) (w : List Bool) (q : List Pl) (E : Int) : Prop where
  best : D20 l w = some (arr l q)
  least : D18 l w = some E
  inv : Inv (prob l w) q
  len : q.length = l.length
  fin : endF 0 0 (arr l q) = E
  pos : 0 ≤ E
  le : E ≤ before (prob l w).sec l.length
  min : ∀ G F, VP (prob l w) G F → ∀ m, 0 ≤ m → (∀ i, i < l.length → F i + (prob l w).sec i ≤ m) → E ≤ m
theorem best_spec (hA : Acc l w) : ∃ q E, BestIs l w q E := by
  have hl6 := hA.len
  have hX := prob_good hA
  obtain ⟨G, hG⟩ := groomer hA
  obtain ⟨b', E', h1, h2, h3⟩ := place_spec hA l.length [] 0 (zs l.length) (sum20 l) 64 (by simp) (by omega) Inv.nil (fun _ h => by cases h) (.inl rfl) (by simp [zs])
  rw [sum20_eq hA] at h3
  obtain ⟨⟨q, q1, q2, q3, q4⟩, hle, hall⟩ := srch_end hX hG h3
  have hI := q1.inv hX Inv.nil
  have hq4 : b' = arr l q := q4
  have hend := arr_end hA hI q2
  have hD20 : D20 l w = some (arr l q) := by
    show best20 (l, w) = _
    unfold best20
    have h11 : d11 (l, w) = some 0 := by
      have := right11 l w
      rw [(acc_iff l w).2 hA] at this
      exact this
    rw [h11, bindS, show ((0 : Int) != 0) = false from rfl, condF]
    simp only []
    rw [show Nat.ble l.length 1000 = true from Nat.ble_eq_true_of_le (by omega), condT, mat_some hA, bindS, ← d30_eq]
    rw [show endOf (prob l w) [] = 0 from rfl, arr_nil] at h1
    rw [h1, bindS, hq4]
  refine ⟨q, E', hD20, ?_, hI, q2, hend.trans q3, by rw [← q3]; exact endOf_nonneg _, hle, hall⟩
  rw [e18, hD20, bindS, end16 _ (by rw [arr_len, maxLen_val]; omega), bindS, hend, q3]

theorem arr_in64 (hA : Acc l w) {q : List Pl} (hI : Inv (prob l w) q) (hq : q.length = l.length) : ∀ s, s ∈ arr l q → In64 s := by
  intro s hs
  obtain ⟨i, hi, rfl⟩ := List.mem_iff_getElem.1 hs
  have hi' : i < l.length := by rw [arr_len] at hi; exact hi
  obtain ⟨e1, e2, e3⟩ := cell_at hI hq hi'
  have hb := hI.bd _ e2
  have hr := hI.rng _ e2
  have hs := ((prob_good hA).sec _ hr.1).1
  have hl6 := hA.len
  have hw := hA.wlen
  have hk : (atOf q i).2.1 ≤ w.length := hr.2.2.1
  rw [arr_get hi', e1]
  rw [hq] at hb
  unfold toT at hb
  refine ⟨?_, ?_, ?_⟩
  · show (atOf q i).2.2 ≤ _
    omega
  · show (atOf q i).2.2 + (prob l w).sec (atOf q i).1 ≤ _
    omega
  · show ((atOf q i).2.1 : Int) ≤ _
    omega
end

theorem right_tot (l : List Tk) (w : List Bool) : D11 l w = some (rightV l w) := right11 l w

theorem law7 (x : (pk ps7).den) (hx : Valid (pk ps7) x) : d7 x = some true := by
  obtain ⟨l, w, other⟩ := x
  have ho : Valid (.sl shiftTy) other := hx.2.2
  show D7 l w other = some true
  rw [e7, aliveD, bindS, right11, bindS]
  cases h1 : decide ((List.length l : Int) > 6) with
  | true => rfl
  | false =>
  cases h2 : decide ((List.length w : Int) > 3) with
  | true => rfl
  | false =>
  cases h3 : (rightV l w != 0) with
  | true => rfl
  | false =>
  cases h4 : decide ((List.length other : Int) > 50) with
  | true => rfl
  | false =>
  have hA : Acc l w := (acc_iff l w).1 (by simpa using h3)
  obtain ⟨q, E, hB⟩ := best_spec hA
  have hl6 := hA.len
  have hval := valid14 hA (arr l q) (arr_in64 hA hB.inv hB.len)
  rw [arr_len, beq_self_eq_true, arr_valid hA hB.inv hB.len] at hval
  rw [hB.best, hB.least, bindS, bindS, hval, end16 _ (by rw [arr_len, maxLen_val]; omega), hB.fin, valid14 hA other (valid_shifts ho), end16 other ho.1]
  simp only [bindS, beq_self_eq_true, Bool.and_self, condT, condF, Bool.not_true]
  cases hv : ((other.length == l.length) && vAll l w [] other) with
  | false => rfl
  | true =>
    rw [Bool.and_eq_true] at hv
    obtain ⟨G, F, hvp, hp, he⟩ := plan_vp hA (by simpa using hv.1) hv.2
    have := hB.min G F hvp _ hp he
    rw [decide_eq_true (show endF 0 0 other ≥ E from this)]
    rfl
end Go.Proofs.Ythjplaicophnnaa.D
end

section
open Go Go.GD Go.Proofs
namespace Go.Proofs.Ythjplaicophnnaa.D

abbrev X36 : Type := List Tk × List Bool × Int × List Sf
def shl (l : List Tk) (p : List Pl) : List Sf := p.map (shOf l)

section
variable {l : List Tk} {w : List Bool}

theorem from39 (hA : Acc l w) (x1 : X36) (hx : x1.1 = l) {i g : Nat} (hi : i < l.length) : ∀ (p : List Pl), (∀ x, x ∈ p → x.1 < l.length) → ∀ n : Int,
    forE (fun el (n : Int) K =>
    (bif decide (el.2.2.2 > n) then (
      bif (el.1 == (g : Int)) then K el.2.2.2
      else (D28 x1.1 el.2.1).bind fun r =>
      (idx x1.1 r).bind fun e3 =>
      (D27 e3 l[i]).bind fun r1 =>
      bif r1 then K el.2.2.2
      else K n)
    else K n : Option (X36 × Int)))
    (fun (n : Int) => (some (x1, n) : Option (X36 × Int))) (shl l p) n = some (x1, ((p.filter (conf (prob l w) i g)).map (toT (prob l w))).foldl max n)
  | [], _, _ => rfl
  | x :: p, h, n => by
    have hl : l.length ≤ maxLen := by have := hA.len; rw [maxLen_val]; omega
    have hx1 := h x (List.mem_cons_self ..)
    have ih := fun n => from39 hA x1 hx (g := g) hi p (fun y hy => h y (List.mem_cons_of_mem _ hy)) n
    rw [show shl l (x :: p) = shOf l x :: shl l p from rfl, forE, ih, ih]
    have hrun : (shOf l x).2.1 = l[x.1].1 := by show (getT l x.1).1 = _; rw [getT_at hx1]
    have hto : (shOf l x).2.2.2 = toT (prob l w) x := rfl
    have hg : ((shOf l x).1 == (g : Int)) = (x.2.1 == g) := by
      show ((x.2.1 : Int) == (g : Int)) = _
      rw [Bool.eq_iff_iff, beq_iff_eq, beq_iff_eq]; omega
    have hcl : clB l[x.1] l[i] = (prob l w).cl i x.1 := by
      show _ = clB (getT l i) (getT l x.1)
      rw [getT_at hi, getT_at hx1, clB_sym]
    rw [hx, hrun, find28 _ _ hl, bindS, fnd_at hA hx1, idx_get hx1, bindS, clash27 _ _ (task_clash hA (List.getElem_mem _)) (task_clash hA (List.getElem_mem _)), bindS, hto, hg, hcl]
    have hconf : conf (prob l w) i g x = (x.2.1 == g || (prob l w).cl i x.1) := rfl
    by_cases hgt : toT (prob l w) x > n
    · rw [decide_eq_true hgt, condT, List.filter_cons, hconf]
      cases h1 : (x.2.1 == g) with
      | true =>
        rw [condT, Bool.true_or, if_pos rfl, List.map_cons, List.foldl_cons, Int.max_eq_right (by omega)]
      | false =>
        rw [condF, Bool.false_or]
        cases h2 : (prob l w).cl i x.1 with
        | true => rw [condT, if_pos rfl, List.map_cons, List.foldl_cons, Int.max_eq_right (by omega)]
        | false => rw [condF, if_neg (by simp)]
    · rw [decide_eq_false hgt, condF, List.filter_cons]
      split
      · rw [List.map_cons, List.foldl_cons, Int.max_eq_left (by omega)]
      · rfl
theorem ref_early (hA : Acc l w) (E : Int) (b : List Sf) {p : List Pl} (hI : Inv (prob l w) p) {i g : Nat} (hi : i < l.length) : D39 (l, w, E, b) (shl l p) l[i] (g : Int) = some ((l, w, E, b), early (prob l w) p i g) := by
  have hlen : (shl l p).length ≤ maxLen := by
    have := hI.len
    have := hA.len
    have h2 : (prob l w).n = l.length := rfl
    rw [shl, List.length_map, maxLen_val]; omega
  rw [e39, f39_1 _ _ _ _ _ hlen]
  exact from39 hA (l, w, E, b) rfl hi p (fun x hx => (hI.rng x hx).1) 0

/-- is the task done -/
theorem done36 (t : Tk) (fin : Bool → Option (X36 × Unit)) : ∀ (plan : List Sf) (done : Bool), forE (fun (el : Sf) (done : Bool) K => (bif done then K true else K (el.2.1 == t.1) : Option (X36 × Unit))) fin plan done = fin (done || plan.any (fun s => s.2.1 == t.1))
  | [], done => by rw [forE, List.any_nil, Bool.or_false]
  | s :: plan, done => by
    rw [forE, List.any_cons, done36 t fin plan, done36 t fin plan]
    cases done with
    | true => rw [condT, Bool.true_or, Bool.true_or]
    | false => rw [condF, Bool.false_or]

def repB (l : List Tk) (q : List Pl) (b : List Sf) : Prop := b = shl l q

theorem srch_ge {β : Type} {rep : List Pl → β → Prop} {X : Prob} {S : List Pl → Prop} {E : Int} {b : β} {E' : Int} {b' : β} (h : Srch rep X S E b E' b') {e : Int} (h0 : e ≤ E) (hS : ∀ q, S q → e ≤ endOf X q) : e ≤ E' := by
  rcases h.2.1 with ⟨h1, _⟩ | ⟨q, q1, q2, _⟩
  · omega
  · rw [← q2]; exact hS q q1

theorem shl_end (hA : Acc l w) {p : List Pl} (hI : Inv (prob l w) p) : endF 0 0 (shl l p) = endOf (prob l w) p := by
  have hpos : ∀ s, s ∈ shl l p → 0 ≤ s.2.2.2 := by
    intro s hs
    obtain ⟨x, hx, rfl⟩ := List.mem_map.1 hs
    have h1 := hI.rng x hx
    have h2 := ((prob_good hA).sec x.1 h1.1).1
    have h3 : (prob l w).sec x.1 = (getT l x.1).2.1 := rfl
    show 0 ≤ x.2.2 + (getT l x.1).2.1
    omega
  rw [endF_max hpos, shl, List.map_map]; rfl

set_option maxHeartbeats 1000000 in
theorem ref_spec (hA : Acc l w) : ∀ (m : Nat) (p : List Pl) (b : List Sf) (E : Int) (dep : Nat), p.length + m = l.length → m < dep → Inv (prob l w) p → endOf (prob l w) p ≤ E →
    ∃ b' E', D36 dep (l, w, E, b) (shl l p) = some ((l, w, E', b'), ()) ∧ Srch (repB l) (prob l w) (Fin (prob l w) false p) E b E' b' := by
  intro m
  induction m with
  | zero =>
    intro p b E dep hpm hdep hI hE
    obtain ⟨dep, rfl⟩ : ∃ d, dep = d + 1 := ⟨dep - 1, by omega⟩
    have hl6 := hA.len
    have hpl : (shl l p).length = l.length := by rw [shl, List.length_map]; omega
    rw [e36]
    simp only []
    rw [show ((List.length (shl l p) : Int) == (List.length l : Int)) = true by simp [hpl], condT, end17 _ (by rw [hpl, maxLen_val]; omega), bindS, shl_end hA hI,
      grows (n := List.length ([] : List Sf)) (m := (shl l p).length) (b := 32) (by rw [hpl]; simp only [List.length_nil]; unfold appendLimit; omega) (by decide), condT]
    exact ⟨shl l p, endOf (prob l w) p, rfl, hE, .inr ⟨p, ⟨.refl p, by show _ = l.length; omega⟩, rfl, rfl⟩, fun q hq => hq.1.end_le⟩
  | succ m ih =>
    intro p b E dep hpm hdep hI hE
    obtain ⟨dep, rfl⟩ : ∃ d, dep = d + 1 := ⟨dep - 1, by omega⟩
    have hX := prob_good hA
    have hl6 := hA.len
    have hw3 := hA.wlen
    have hlm : l.length ≤ maxLen := by rw [maxLen_val]; omega
    have hwm : w.length ≤ maxLen := by rw [maxLen_val]; omega
    have hpl : (shl l p).length = p.length := by rw [shl, List.length_map]
    rw [e36]
    simp only []
    rw [show ((List.length (shl l p) : Int) == (List.length l : Int)) = false by rw [hpl]; simp; omega, condF]
    let Q : Nat → List Sf × Int → X36 × Unit → Prop := fun k s r => ∃ b' E', r = ((l, w, E', b'), ()) ∧ Srch (repB l) (prob l w) (fun q => ∃ i g, k ≤ i ∧ Via (prob l w) false p i g q) s.2 s.1 E' b'
    have main := iter_natR (ρ := X36 × Unit) (step := fun (F : (X36 × List Sf × Int) → Option (X36 × Unit)) ((x1, plan1, i) : X36 × List Sf × Int) =>
      bif decide (i < (List.length x1.1 : Int)) then (
        (idx x1.1 i).bind fun e =>
        lp36_2 big dep F x1 plan1 i e false 0)
      else some (x1, ())) l.length (fun k (s : List Sf × Int) => ((l, w, s.2, s.1), shl l p, (k : Int))) (fun _ s => endOf (prob l w) p ≤ s.2) Q
      (fun F k hk s hI2 hF => ?_) (fun F s hI2 => ?_) (n := big) (len_lt_big hlm) (b, E) hE
    · obtain ⟨r, hr, b', E', rfl, hS⟩ := main
      refine ⟨b', E', ?_, hS.iff fun q => ?_⟩
      · unfold lp36_4
        exact hr
      · rw [fin_iff (by show _ < l.length; omega)]
        constructor
        · rintro ⟨i, g, h⟩; exact ⟨i, g, Nat.zero_le _, h⟩
        · rintro ⟨i, g, _, h⟩; exact ⟨i, g, h⟩
    · obtain ⟨b1, E1⟩ := s
      have hI2 : endOf (prob l w) p ≤ E1 := hI2
      simp only [dec_lt hk, condT, idx_get hk, bindS]
      rw [f36_2 dep F _ _ _ _ _ (by rw [hpl, maxLen_val]; omega), done36, Bool.false_or]
      have hdone : ((shl l p).any fun s => s.2.1 == (l[k]).1) = true ↔ ∃ x, x ∈ p ∧ x.1 = k := by
        rw [shl, List.any_map, List.any_eq_true]
        constructor
        · rintro ⟨x, hx, e⟩
          have hx1 : x.1 < l.length := (hI.rng x hx).1
          refine ⟨x, hx, hA.inj x.1 k hx1 hk ?_⟩
          have e : ((getT l x.1).1 == l[k].1) = true := e
          rw [getT_at hx1] at e
          simpa using e
        · rintro ⟨x, hx, e⟩
          refine ⟨x, hx, ?_⟩
          show ((getT l x.1).1 == l[k].1) = true
          rw [e, getT_at hk]; simp
      have hnext : IntKind.i64.wrap ((k : Int) + 1) = ((k + 1 : Nat) : Int) := wrap_succ hk hlm
      cases hd : (shl l p).any fun s => s.2.1 == (l[k]).1 with
      | true =>
        obtain ⟨x, hx, hxk⟩ := hdone.1 hd
        have hone : lp36_1 big dep F (l, w, E1, b1) (shl l p) (k : Int) l[k] true 1 = F ((l, w, E1, b1), shl l p, ((k + 1 : Nat) : Int)) := by
          unfold lp36_1
          rw [show big = 18446744073709551615 + 1 from rfl, iter]
          simp only []
          rw [decide_eq_true (show (1 : Int) ≤ (List.length w : Int) by omega), condT, show (!true) = false from rfl, condF, hnext]
        rw [hone]
        obtain ⟨r, hr, b', E', e, hS⟩ := hF (b1, E1) hI2
        refine ⟨r, hr, b', E', e, hS.iff fun q => ?_⟩
        constructor
        · rintro ⟨i, g, h1, h2⟩
          refine ⟨i, g, ?_, h2⟩
          have : i ≠ k := fun e => h2.2.1 x hx (by rw [e]; exact hxk)
          omega
        · rintro ⟨i, g, h1, h2⟩; exact ⟨i, g, by omega, h2⟩
      | false =>
        have hnp : ∀ x, x ∈ p → x.1 ≠ k := fun x hx e => by
          have := hdone.2 ⟨x, hx, e⟩
          rw [hd] at this; cases this
        unfold lp36_1
        have inner := iter_natR (ρ := X36 × Unit) (step := fun (F2 : (X36 × List Sf × Int × Tk × Bool × Int) → Option (X36 × Unit)) ((x3, plan3, i2, t1, done1, g) : X36 × List Sf × Int × Tk × Bool × Int) =>
          bif decide (g ≤ (List.length x3.2.1 : Int)) then (
            bif (!done1) then (
              (D39 x3 plan3 t1 g).bind fun r =>
              bif decide (IntKind.i64.wrap (r.2 + t1.2.1) < r.1.2.2.1) then (
                (idx r.1.2.1 (IntKind.i64.wrap (g - 1))).bind fun e1 =>
                bif e1 then (
                  bif (Nat.ble ((List.length ([] : List Sf) + List.length plan3) * 32) appendLimit && Nat.ble (List.length ([] : List Sf) + List.length plan3) 9223372036854775807) then (
                    bif (Nat.ble ((List.length (([] : List Sf) ++ plan3) + List.length [(g, t1.1, r.2, IntKind.i64.wrap (r.2 + t1.2.1))]) * 32) appendLimit && Nat.ble (List.length (([] : List Sf) ++ plan3) + List.length [(g, t1.1, r.2, IntKind.i64.wrap (r.2 + t1.2.1))]) 9223372036854775807) then (
                      (D36 dep r.1 ((([] : List Sf) ++ plan3) ++ [(g, t1.1, r.2, IntKind.i64.wrap (r.2 + t1.2.1))])).bind fun r1 =>
                      F2 (r1.1, plan3, i2, t1, done1, IntKind.i64.wrap (g + 1)))
                    else none)
                  else none)
                else bif (!t1.2.2.1) then (
                  bif (Nat.ble ((List.length ([] : List Sf) + List.length plan3) * 32) appendLimit && Nat.ble (List.length ([] : List Sf) + List.length plan3) 9223372036854775807) then (
                    bif (Nat.ble ((List.length (([] : List Sf) ++ plan3) + List.length [(g, t1.1, r.2, IntKind.i64.wrap (r.2 + t1.2.1))]) * 32) appendLimit && Nat.ble (List.length (([] : List Sf) ++ plan3) + List.length [(g, t1.1, r.2, IntKind.i64.wrap (r.2 + t1.2.1))]) 9223372036854775807) then (
                      (D36 dep r.1 ((([] : List Sf) ++ plan3) ++ [(g, t1.1, r.2, IntKind.i64.wrap (r.2 + t1.2.1))])).bind fun r1 =>
                      F2 (r1.1, plan3, i2, t1, done1, IntKind.i64.wrap (g + 1)))
                    else none)
                  else none)
                else F2 (r.1, plan3, i2, t1, done1, IntKind.i64.wrap (g + 1)))
              else F2 (r.1, plan3, i2, t1, done1, IntKind.i64.wrap (g + 1)))
            else F (x3, plan3, IntKind.i64.wrap (i2 + 1)))
          else F (x3, plan3, IntKind.i64.wrap (i2 + 1))) w.length (fun j (s : List Sf × Int) => ((l, w, s.2, s.1), shl l p, (k : Int), l[k], false, ((j + 1 : Nat) : Int))) (fun _ s => endOf (prob l w) p ≤ s.2)
          (fun j s r => ∃ b' E', r = ((l, w, E', b'), ()) ∧ Srch (repB l) (prob l w) (fun q => (∃ g, j < g ∧ Via (prob l w) false p k g q) ∨ ∃ i g, k + 1 ≤ i ∧ Via (prob l w) false p i g q) s.2 s.1 E' b')
          (fun F2 j hj s hI3 hF2 => ?_) (fun F2 s hI3 => ?_) (n := big) (len_lt_big hwm) (b1, E1) hI2
        · obtain ⟨r, hr, b', E', e, hS⟩ := inner
          refine ⟨r, hr, b', E', e, hS.iff fun q => ?_⟩
          constructor
          · rintro ⟨i, g, h1, h2⟩
            by_cases e : i = k
            · subst e
              exact .inl ⟨g, by have := h2.2.2.1; omega, h2⟩
            · exact .inr ⟨i, g, by omega, h2⟩
          · rintro (⟨g, h1, h2⟩ | ⟨i, g, h1, h2⟩)
            · exact ⟨k, g, Nat.le_refl _, h2⟩
            · exact ⟨i, g, by omega, h2⟩
        · obtain ⟨b2, E2⟩ := s
          have hI3 : endOf (prob l w) p ≤ E2 := hI3
          have hwr : IntKind.i64.wrap (((j + 1 : Nat) : Int) + 1) = ((j + 1 + 1 : Nat) : Int) := by rw [wrap_i64 (by omega) (by omega)]; rfl
          have hwp : IntKind.i64.wrap (((j + 1 : Nat) : Int) - 1) = (j : Int) := by rw [wrap_i64 (by omega) (by omega)]; omega
          have hkn : k < (prob l w).n := hk
          have hsec := hX.sec k hkn
          have hsk : (prob l w).sec k = (l[k]'hk).2.1 := by
            show (getT l k).2.1 = _
            rw [getT_at hk]
          have hbd : early (prob l w) p k (j + 1) ≤ p.length * 86400 := early_le (by omega) fun x hx _ => hI.bd x hx
          have h0 := early_nonneg (X := prob l w) p k (j + 1)
          have hwt : IntKind.i64.wrap (early (prob l w) p k (j + 1) + (l[k]'hk).2.1) = early (prob l w) p k (j + 1) + (l[k]'hk).2.1 := by
            rw [← hsk, wrap_i64 (by omega) (by omega)]
          have hok : (prob l w).ok k (j + 1) = (!(l[k]'hk).2.2.1 || w[j]) := by
            show (!(getT l k).2.2.1 || (w[j + 1 - 1]?).getD false) = _
            rw [getT_at hk, Nat.add_sub_cancel, List.getElem?_eq_getElem hj]; rfl
          -- the next groomer adds nothing
          have skip : (∀ q, Via (prob l w) false p k (j + 1) q → E2 ≤ endOf (prob l w) q) → ∃ r, F2 ((l, w, E2, b2), shl l p, (k : Int), l[k]'hk, false, ((j + 1 + 1 : Nat) : Int)) = some r ∧
              ∃ b' E', r = ((l, w, E', b'), ()) ∧ Srch (repB l) (prob l w) (fun q => (∃ g, j < g ∧ Via (prob l w) false p k g q) ∨ ∃ i g, k + 1 ≤ i ∧ Via (prob l w) false p i g q) E2 b2 E' b' := by
            intro hno
            obtain ⟨r, hr, b', E', e, hS⟩ := hF2 (b2, E2) hI3
            refine ⟨r, hr, b', E', e, (Srch.cut hno).seq hS fun q => ?_⟩
            constructor
            · rintro (⟨g, h1, h2⟩ | h)
              · by_cases e : g = j + 1
                · subst e; exact .inl h2
                · exact .inr (.inl ⟨g, by omega, h2⟩)
              · exact .inr (.inr h)
            · rintro (h | ⟨g, h1, h2⟩ | h)
              · exact .inl ⟨j + 1, by omega, h⟩
              · exact .inl ⟨g, by omega, h2⟩
              · exact .inr h
          have hge : ∀ q, Via (prob l w) false p k (j + 1) q → early (prob l w) p k (j + 1) + (l[k]'hk).2.1 ≤ endOf (prob l w) q := by
            intro q hq
            have := hq.2.2.2.2.2.2.1.end_le
            rw [endOf_append] at this
            have h2 : toT (prob l w) (k, j + 1, early (prob l w) p k (j + 1)) = early (prob l w) p k (j + 1) + (l[k]'hk).2.1 := by rw [← hsk]; rfl
            rw [h2] at this
            omega
          simp only []
          rw [decide_eq_true (show ((j + 1 : Nat) : Int) ≤ (List.length w : Int) by omega), condT, show (!false) = true from rfl, condT, ref_early hA E2 b2 hI hk, bindS]
          simp only []
          rw [hwt, hwr]
          by_cases hlt : early (prob l w) p k (j + 1) + (l[k]'hk).2.1 < E2
          case neg =>
            rw [decide_eq_false hlt, condF]
            exact skip fun q hq => by have := hge q hq; omega
          rw [decide_eq_true hlt, condT, hwp, idx_get hj, bindS,
            grows (n := List.length ([] : List Sf)) (m := (shl l p).length) (b := 32) (by rw [hpl]; simp only [List.length_nil]; unfold appendLimit; omega) (by decide),
            grows (n := List.length (([] : List Sf) ++ shl l p)) (m := List.length [(((j + 1 : Nat) : Int), (l[k]'hk).1, early (prob l w) p k (j + 1), early (prob l w) p k (j + 1) + (l[k]'hk).2.1)]) (b := 32) (by rw [List.nil_append, hpl]; simp only [List.length_singleton]; unfold appendLimit; omega) (by decide)]
          simp only [condT]
          have hsh : (((j + 1 : Nat) : Int), (l[k]'hk).1, early (prob l w) p k (j + 1), early (prob l w) p k (j + 1) + (l[k]'hk).2.1) = shOf l (k, j + 1, early (prob l w) p k (j + 1)) := by
            unfold shOf
            rw [show getT l (k, j + 1, early (prob l w) p k (j + 1)).1 = l[k]'hk from getT_at hk]
          have hpl' : (([] : List Sf) ++ shl l p) ++ [(((j + 1 : Nat) : Int), (l[k]'hk).1, early (prob l w) p k (j + 1), early (prob l w) p k (j + 1) + (l[k]'hk).2.1)] = shl l (p ++ [(k, j + 1, early (prob l w) p k (j + 1))]) := by
            rw [hsh, List.nil_append, shl, shl, List.map_append]; rfl
          rw [hpl']
          have go : (prob l w).ok k (j + 1) = true → ∃ r, ((D36 dep (l, w, E2, b2) (shl l (p ++ [(k, j + 1, early (prob l w) p k (j + 1))]))).bind fun r1 => F2 (r1.1, shl l p, (k : Int), l[k]'hk, false, ((j + 1 + 1 : Nat) : Int))) = some r ∧
              ∃ b' E', r = ((l, w, E', b'), ()) ∧ Srch (repB l) (prob l w) (fun q => (∃ g, j < g ∧ Via (prob l w) false p k g q) ∨ ∃ i g, k + 1 ≤ i ∧ Via (prob l w) false p i g q) E2 b2 E' b' := by
            intro hokt
            have hI' := hI.step hX hkn hnp (g := j + 1) (by omega) (by show _ ≤ w.length; omega) hokt
            obtain ⟨b3, E3, h1, h3⟩ := ih (p ++ [(k, j + 1, early (prob l w) p k (j + 1))]) b2 E2 dep (by rw [List.length_append, List.length_singleton]; omega) (by omega) hI' (by
              rw [endOf_append]
              have h2 : toT (prob l w) (k, j + 1, early (prob l w) p k (j + 1)) = early (prob l w) p k (j + 1) + (l[k]'hk).2.1 := by rw [← hsk]; rfl
              rw [h2]; omega)
            rw [h1, bindS]
            obtain ⟨r, hr, b', E', e, hS⟩ := hF2 (b3, E3) (srch_ge h3 hI3 fun q hq => by
              have := hq.1.end_le
              rw [endOf_append] at this; omega)
            refine ⟨r, hr, b', E', e, h3.seq hS fun q => ?_⟩
            constructor
            · rintro (⟨g, h1, h2⟩ | h)
              · by_cases e : g = j + 1
                · subst e; exact .inl h2.2.2.2.2.2.2
                · exact .inr (.inl ⟨g, by omega, h2⟩)
              · exact .inr (.inr h)
            · rintro (h | ⟨g, h1, h2⟩ | h)
              · exact .inl ⟨j + 1, by omega, hkn, hnp, by omega, (by show _ ≤ w.length; omega), hokt, (fun e => by cases e), h⟩
              · exact .inl ⟨g, by omega, h2⟩
              · exact .inr h
          cases hwj : w[j] with
          | true =>
            rw [condT]
            exact go (by rw [hok, hwj, Bool.or_true])
          | false =>
            rw [condF]
            cases hwn : (l[k]'hk).2.2.1 with
            | false =>
              rw [show (!false) = true from rfl, condT]
              exact go (by rw [hok, hwn]; rfl)
            | true =>
              rw [show (!true) = false from rfl, condF]
              exact skip fun q hq => by
                have := hq.2.2.2.2.1
                rw [hok, hwn, hwj] at this
                cases this
        · obtain ⟨b2, E2⟩ := s
          have hI3 : endOf (prob l w) p ≤ E2 := hI3
          simp only []
          rw [decide_eq_false (show ¬ ((w.length + 1 : Nat) : Int) ≤ (List.length w : Int) by omega), condF, hnext]
          obtain ⟨r, hr, b', E', e, hS⟩ := hF (b2, E2) hI3
          refine ⟨r, hr, b', E', e, hS.iff fun q => ?_⟩
          constructor
          · rintro (⟨g, h1, h2⟩ | h)
            · have : g ≤ w.length := h2.2.2.2.1
              omega
            · exact h
          · exact fun h => .inr h
    · obtain ⟨b1, E1⟩ := s
      simp only [dec_end, condF]
      exact ⟨_, rfl, b1, E1, rfl, Srch.none (fun q h => by obtain ⟨i, g, h1, h2⟩ := h; have : i < l.length := h2.1; omega) _ _⟩
end
end Go.Proofs.Ythjplaicophnnaa.D
end

section
open Go Go.GD Go.Proofs
namespace Go.Proofs.Ythjplaicophnnaa.D

section
variable {l : List Tk} {w : List Bool}

theorem filter_one {q : List Pl} (hn : (q.map (·.1)).Nodup) {x : Pl} (hx : x ∈ q) : q.filter (fun y => y.1 == x.1) = [x] := by
  induction q with
  | nil => cases hx
  | cons a q ih =>
    rw [List.map_cons, List.nodup_cons] at hn
    rw [List.filter_cons]
    rcases List.mem_cons.1 hx with rfl | hx'
    · rw [if_pos (by simp)]
      congr 1
      rw [List.filter_eq_nil_iff]
      intro y hy e
      exact hn.1 (List.mem_map.2 ⟨y, hy, by simpa using e⟩)
    · have hne : a.1 ≠ x.1 := fun e => hn.1 (List.mem_map.2 ⟨x, hx', e.symm⟩)
      rw [if_neg (by simpa using hne)]
      exact ih hn.2 hx'

theorem pick29 (t : Tk) (fin : List Sf → Option (List Sf)) : ∀ (plan out : List Sf), (out.length + plan.length) * 32 ≤ appendLimit →
    forE (fun el (out1 : (List Sf)) K =>
    (bif (el.2.1 == t.1) then (
      bif (Nat.ble ((List.length out1 + List.length [el]) * 32) appendLimit && Nat.ble (List.length out1 + List.length [el]) 9223372036854775807) then K (out1 ++ [el])
      else none)
    else K out1 : Option (List Sf))) fin plan out = fin (out ++ plan.filter fun s => s.2.1 == t.1)
  | [], out, _ => by rw [forE, List.filter_nil, List.append_nil]
  | s :: plan, out, h => by
    rw [List.length_cons] at h
    rw [forE, List.filter_cons, pick29 t fin plan out (by omega), pick29 t fin plan (out ++ [s]) (by rw [List.length_append, List.length_singleton]; omega)]
    cases hs : (s.2.1 == t.1) with
    | false => rw [condF, if_neg (by simp)]
    | true =>
      rw [condT, grows (by rw [List.length_singleton]; omega) (by decide), condT, if_pos rfl, List.append_assoc]; rfl

theorem sum29 (fin : X36 → Option (List Sf)) : ∀ (ys : List Tk) (E : Int) (b : List Sf), forE (fun (el : Tk) (v : X36) K => (K (v.1, v.2.1, IntKind.i64.wrap (v.2.2.1 + el.2.1), v.2.2.2) : Option (List Sf))) fin ys (l, w, E, b) = fin (l, w, ys.foldl (fun t a => IntKind.i64.wrap (t + a.2.1)) E, b)
  | [], _, _ => rfl
  | a :: ys, E, b => by
    rw [forE]
    exact sum29 fin ys _ b

theorem order29 (hA : Acc l w) {q : List Pl} (hI : Inv (prob l w) q) (hq : q.length = l.length) (E : Int) : lp29_3 big l ([] : List Sf) 0 (l, w, E, shl l q) = some (arr l q) := by
  have hl6 := hA.len
  have hlm : l.length ≤ maxLen := by rw [maxLen_val]; omega
  have hql : (shl l q).length = l.length := by rw [shl, List.length_map, hq]
  unfold lp29_3
  have := iter_nat (ρ := List Sf) (step := fun (F1 : (List Tk × List Sf × Int × X36) → Option (List Sf)) ((l2, out, i1, v1) : List Tk × List Sf × Int × X36) =>
    bif decide (i1 < (List.length l2 : Int)) then lp29_1 big F1 l2 out i1 0 v1
    else some out) l.length (fun k (_ : Unit) => (l, (arr l q).take k, (k : Int), ((l, w, E, shl l q) : X36))) (fun _ _ => True) (fun _ _ => arr l q) (fun F k hk _ _ hF => ?_) (fun F _ _ => ?_) (n := big) (len_lt_big hlm) () trivial
  · exact this
  · have hk' : k < (arr l q).length := by rw [arr_len]; exact hk
    simp only [dec_lt hk, condT]
    rw [f29_1 F l _ _ _ (by rw [hql]; exact hlm)]
    simp only [idx_get hk, bindS, wrap_succ hk hlm]
    rw [pick29 l[k] _ (shl l q) _ (by rw [hql, List.length_take, arr_len]; unfold appendLimit; omega)]
    have hf : (shl l q).filter (fun s => s.2.1 == l[k].1) = [(arr l q)[k]] := by
      obtain ⟨e1, e2, e3⟩ := cell_at hI hq hk
      have hp : ∀ x, x ∈ q → ((shOf l x).2.1 == l[k].1) = (x.1 == (atOf q k).1) := by
        intro x hx
        have hx1 : x.1 < l.length := (hI.rng x hx).1
        show ((getT l x.1).1 == l[k].1) = _
        rw [getT_at hx1, e3, Bool.eq_iff_iff, beq_iff_eq, beq_iff_eq]
        exact ⟨fun h => hA.inj x.1 k hx1 hk h, fun h => by subst h; rfl⟩
      rw [shl, List.filter_map, arr_get hk, e1]
      have : q.filter ((fun s : Sf => s.2.1 == l[k].1) ∘ shOf l) = q.filter (fun x => x.1 == (atOf q k).1) := List.filter_congr fun x hx => hp x hx
      rw [this, filter_one hI.nd e2]; rfl
    rw [hf, ← List.take_succ_eq_append_getElem hk']
    exact hF () trivial
  · simp only [dec_end, condF]
    rw [show l.length = (arr l q).length from (arr_len l q).symm, List.take_length]

theorem vp_of (hA : Acc l w) {q : List Pl} (hI : Inv (prob l w) q) (hq : q.length = l.length) : ∃ G F, VP (prob l w) G F ∧ ∀ i, i < l.length → F i + (prob l w).sec i ≤ endOf (prob l w) q := by
  refine ⟨_, _, hI.vp (prob_good hA) hq, fun i hi => ?_⟩
  obtain ⟨_, e2, e3⟩ := cell_at hI hq hi
  have := endOf_ub (X := prob l w) e2
  unfold toT at this
  rw [e3] at this
  exact this

/-- the reference's plan is as good -/
theorem ref29 (hA : Acc l w) {q : List Pl} {E : Int} (hB : BestIs l w q E) : D19 l w = some E := by
  have hl6 := hA.len
  have hX := prob_good hA
  have hlm : l.length ≤ maxLen := by rw [maxLen_val]; omega
  obtain ⟨G, hG⟩ := groomer hA
  have h0 : (0 : Int) ≤ sum20 l := by
    have := (sum_take20 hA l.length (Nat.le_refl _)).2.2
    rw [sum20_eq hA]; omega
  obtain ⟨b', E', h1, h3⟩ := ref_spec hA l.length [] [] (sum20 l) 64 (by simp) (by omega) Inv.nil h0
  rw [sum20_eq hA] at h3
  obtain ⟨⟨q', q1, q2, q3, q4⟩, hle, hall⟩ := srch_end hX hG h3
  have hI := q1.inv hX Inv.nil
  have hb' : b' = shl l q' := q4
  have hend := arr_end hA hI q2
  have hEE : E' = E := by
    refine Int.le_antisymm ?_ ?_
    · obtain ⟨G1, F1, v1, v2⟩ := vp_of hA hB.inv hB.len
      rw [← arr_end hA hB.inv hB.len, hB.fin] at v2
      exact hall G1 F1 v1 E hB.pos v2
    · obtain ⟨G1, F1, v1, v2⟩ := vp_of hA hI q2
      rw [q3] at v2
      exact hB.min G1 F1 v1 E' (by rw [← q3]; exact endOf_nonneg _) v2
  rw [e19, e29, f29_4 l (l, w, 1, ([] : List Sf)) hlm, sum29]
  rw [show l.foldl (fun t a => IntKind.i64.wrap (t + a.2.1)) 1 = sum20 l from rfl]
  rw [show D36 64 (l, w, sum20 l, ([] : List Sf)) ([] : List Sf) = some ((l, w, E', b'), ()) from h1, bindS]
  simp only []
  rw [hb', order29 hA hI q2, bindS, end17 _ (by rw [arr_len]; exact hlm), bindS, hend, q3, hEE]
end

theorem law5 (x : (pk ps5).den) (_ : Valid (pk ps5) x) : d5 x = some true := by
  obtain ⟨l, w⟩ := x
  show D5 l w = some true
  rw [e5, aliveD, bindS]
  obtain ⟨b, hb, hA⟩ := accepted13 l w
  rw [hb, bindS]
  cases b with
  | false => rfl
  | true =>
  have hA := hA rfl
  obtain ⟨q, E, hB⟩ := best_spec hA
  rw [hB.least, ref29 hA hB, bindS, bindS, beq_self_eq_true]
  rfl

theorem law6 (x : (pk ps6).den) (_ : Valid (pk ps6) x) : d6 x = some true := by
  obtain ⟨l, w⟩ := x
  show D6 l w = some true
  rw [e6, aliveD, bindS]
  obtain ⟨b, hb, hA⟩ := accepted13 l w
  rw [hb, bindS]
  cases b with
  | false => rfl
  | true =>
  have hA := hA rfl
  have hl6 := hA.len
  have hlm : l.length ≤ maxLen := by rw [maxLen_val]; omega
  obtain ⟨q, E, hB⟩ := best_spec hA
  have hval := valid15 hA (arr l q) (arr_in64 hA hB.inv hB.len)
  rw [arr_len, beq_self_eq_true, arr_valid hA hB.inv hB.len] at hval
  have hruns : lp6_1 big l (arr l q) 0 = some true := by
    rw [f6_1 l _ hlm]
    refine forI_rule (fun _ _ => True) (fun o => o = some true) l (fun pre a post hpe _ _ K hK => ?_) (fun _ _ => rfl) trivial
    have hk : pre.length < l.length := by rw [hpe]; simp
    have hka : l[pre.length] = a := by simp [hpe]
    obtain ⟨e1, e2, e3⟩ := cell_at hB.inv hB.len hk
    rw [arr_idx hk, bindS, e1]
    have : (shOf l (atOf q pre.length)).2.1 = a.1 := by
      show (getT l (atOf q pre.length).1).1 = a.1
      rw [e3, getT_at hk, hka]
    rw [this, show (a.1 != a.1) = false by simp, condF]
    exact hK () trivial
  rw [hB.best, bindS, hval, bindS, end17 _ (by rw [arr_len]; exact hlm), bindS, ref29 hA hB, bindS, hB.fin, hruns]
  simp
end Go.Proofs.Ythjplaicophnnaa.D
end

section
open Go Go.GD Go.Proofs
namespace Go.Proofs.Ythjplaicophnnaa.D

/-! ### shifts that do not overlap -/
def sm (sec : Nat → Int) : List Nat → Int
  | [] => 0
  | a :: S => sec a + sm sec S
theorem sm_erase (sec : Nat → Int) : ∀ {S : List Nat} {a : Nat}, a ∈ S → sm sec S = sec a + sm sec (S.erase a)
  | b :: S, a, h => by
    by_cases e : b = a
    · subst e
      rw [List.erase_cons_head]; rfl
    · rw [List.erase_cons_tail (by simpa using e)]
      have := sm_erase sec (S := S) (a := a) ((List.mem_cons.1 h).resolve_left fun h => e h.symm)
      show sec b + sm sec S = sec a + (sec b + sm sec (S.erase a))
      omega
theorem disj_sum (F sec : Nat → Int) : ∀ (m : Nat) (S : List Nat) (E : Int), S.length = m → S.Nodup → 0 ≤ E → (∀ i, i ∈ S → 0 ≤ F i ∧ F i + sec i ≤ E ∧ 1 ≤ sec i) →
    (∀ i j, i ∈ S → j ∈ S → i ≠ j → F i + sec i ≤ F j ∨ F j + sec j ≤ F i) → sm sec S ≤ E := by
  intro m
  induction m with
  | zero =>
    intro S E hl _ h0 _ _
    rw [List.eq_nil_of_length_eq_zero hl]
    exact h0
  | succ m ih =>
    intro S E hl hn h0 hS hd
    -- the one that begins last
    obtain ⟨a, ha, hmax⟩ : ∃ a, a ∈ S ∧ ∀ j, j ∈ S → F j ≤ F a := by
      have key : ∀ (T : List Nat), T ≠ [] → ∃ a, a ∈ T ∧ ∀ j, j ∈ T → F j ≤ F a := by
        intro T
        induction T with
        | nil => intro h; exact absurd rfl h
        | cons b T iht =>
          intro _
          cases T with
          | nil => exact ⟨b, List.mem_cons_self .., fun j hj => by rw [List.mem_singleton.1 hj]; exact Int.le_refl _⟩
          | cons c T =>
            obtain ⟨a, ha, h⟩ := iht (by simp)
            by_cases hba : F a ≤ F b
            · refine ⟨b, List.mem_cons_self .., fun j hj => ?_⟩
              rcases List.mem_cons.1 hj with rfl | hj
              · exact Int.le_refl _
              · exact Int.le_trans (h j hj) hba
            · refine ⟨a, List.mem_cons_of_mem _ ha, fun j hj => ?_⟩
              rcases List.mem_cons.1 hj with rfl | hj
              · omega
              · exact h j hj
      exact key S (fun e => by rw [e] at hl; simp at hl)
    have hsa := hS a ha
    have := ih (S.erase a) (F a) (by rw [List.length_erase_of_mem ha, hl]; rfl) (hn.erase a) hsa.1 (fun i hi => by
      have hi' := List.mem_of_mem_erase hi
      have hia : i ≠ a := fun e => by subst e; exact (List.Nodup.not_mem_erase hn) hi
      have h := hS i hi'
      have h2 := hmax i hi'
      refine ⟨h.1, ?_, h.2.2⟩
      rcases hd i a hi' ha hia with h3 | h3
      · exact h3
      · omega) (fun i j hi hj hij => hd i j (List.mem_of_mem_erase hi) (List.mem_of_mem_erase hj) hij)
    rw [sm_erase sec ha]
    omega
theorem sm_append (sec : Nat → Int) : ∀ (S T : List Nat), sm sec (S ++ T) = sm sec S + sm sec T
  | [], T => by rw [List.nil_append]; show _ = 0 + _; omega
  | a :: S, T => by
    show sec a + sm sec (S ++ T) = sec a + sm sec S + sm sec T
    rw [sm_append sec S T]; omega
theorem sm_range (sec : Nat → Int) : ∀ n, sm sec (List.range n) = before sec n
  | 0 => rfl
  | n + 1 => by
    rw [List.range_succ, sm_append, sm_range sec n]
    show _ + (sec n + 0) = _ + sec n
    omega
theorem sm_split (sec : Nat → Int) (G : Nat → Nat) (k : Nat) : ∀ S : List Nat, sm sec (S.filter fun i => decide (G i ≤ k + 1)) = sm sec (S.filter fun i => decide (G i ≤ k)) + sm sec (S.filter fun i => decide (G i = k + 1))
  | [] => rfl
  | a :: S => by
    have ih := sm_split sec G k S
    simp only [List.filter_cons]
    by_cases h1 : G a ≤ k
    · rw [if_pos (decide_eq_true (show G a ≤ k + 1 by omega)), if_pos (decide_eq_true h1), if_neg (by simp; omega)]
      show sec a + _ = sec a + _ + _
      omega
    · by_cases h2 : G a = k + 1
      · rw [if_pos (decide_eq_true (show G a ≤ k + 1 by omega)), if_neg (by simpa using h1), if_pos (decide_eq_true h2)]
        show sec a + _ = _ + (sec a + _)
        omega
      · rw [if_neg (by simp; omega), if_neg (by simpa using h1), if_neg (by simpa using h2)]
        exact ih

section
variable {X : Prob}
theorem by_groomer (hX : X.Good) {G : Nat → Nat} {F : Nat → Int} (hv : VP X G F) {E : Int} (h0 : 0 ≤ E) (hE : ∀ i, i < X.n → F i + X.sec i ≤ E) : before X.sec X.n ≤ X.k * E := by
  have one : ∀ g, sm X.sec ((List.range X.n).filter fun i => decide (G i = g)) ≤ E := fun g =>
    disj_sum F X.sec _ _ E rfl (List.nodup_range.filter _) h0 (fun i hi => by
      have hi := List.mem_range.1 (List.mem_filter.1 hi).1
      exact ⟨(hv.rng i hi).2.2.2, hE i hi, (hX.sec i hi).1⟩) (fun i j hi hj hij => by
      have h1 := List.mem_filter.1 hi
      have h2 := List.mem_filter.1 hj
      refine hv.ap i j (List.mem_range.1 h1.1) (List.mem_range.1 h2.1) hij (.inl ?_)
      have a1 : G i = g := by simpa using h1.2
      have a2 : G j = g := by simpa using h2.2
      rw [a1, a2])
  have upto : ∀ k : Nat, sm X.sec ((List.range X.n).filter fun i => decide (G i ≤ k)) ≤ k * E := by
    intro k
    induction k with
    | zero =>
      have : (List.range X.n).filter (fun i => decide (G i ≤ 0)) = [] := by
        rw [List.filter_eq_nil_iff]
        intro i hi e
        have := (hv.rng i (List.mem_range.1 hi)).1
        have : G i ≤ 0 := by simpa using e
        omega
      rw [this]
      show (0 : Int) ≤ ((0 : Nat) : Int) * E
      simp
    | succ k ih =>
      rw [sm_split]
      have := one (k + 1)
      have e : ((k + 1 : Nat) : Int) * E = (k : Int) * E + E := by
        rw [show ((k + 1 : Nat) : Int) = (k : Int) + 1 by omega, Int.add_mul, Int.one_mul]
      rw [e]; omega
  have hall : (List.range X.n).filter (fun i => decide (G i ≤ X.k)) = List.range X.n := by
    rw [List.filter_eq_self]
    intro i hi
    exact decide_eq_true (hv.rng i (List.mem_range.1 hi)).2.1
  have := upto X.k
  rw [hall, sm_range] at this
  exact this
theorem all_clash (hX : X.Good) {G : Nat → Nat} {F : Nat → Int} (hv : VP X G F) {E : Int} (h0 : 0 ≤ E) (hE : ∀ i, i < X.n → F i + X.sec i ≤ E) (hc : ∀ i j, i < X.n → j < X.n → X.cl i j = true) : before X.sec X.n ≤ E := by
  have := disj_sum F X.sec _ (List.range X.n) E rfl List.nodup_range h0 (fun i hi => by
      have hi := List.mem_range.1 hi
      exact ⟨(hv.rng i hi).2.2.2, hE i hi, (hX.sec i hi).1⟩) (fun i j hi hj hij => hv.ap i j (List.mem_range.1 hi) (List.mem_range.1 hj) hij (.inr (hc i j (List.mem_range.1 hi) (List.mem_range.1 hj))))
  rw [sm_range] at this
  exact this
end

theorem best_vp {l : List Tk} {w : List Bool} (hA : Acc l w) {q : List Pl} {E : Int} (hB : BestIs l w q E) : ∃ G F, VP (prob l w) G F ∧ ∀ i, i < l.length → F i + (prob l w).sec i ≤ E := by
  obtain ⟨G, F, v1, v2⟩ := vp_of hA hB.inv hB.len
  rw [← arr_end hA hB.inv hB.len, hB.fin] at v2
  exact ⟨G, F, v1, v2⟩

/-- all tasks clash with these runs -/
def allC (runs : List Int) (e : Tk) : Tk := (e.1, e.2.1, e.2.2.1, runs)
theorem allC_acc {l : List Tk} {w : List Bool} (hA : Acc l w) : Acc (l.map (allC (l.map (·.1)))) w := by
  refine ⟨by rw [List.length_map]; exact hA.len, hA.wlen, fun i hi => ?_, fun i j hi hj e => ?_⟩
  · rw [List.length_map] at hi
    rw [List.getElem_map]
    have h := hA.task i hi
    refine ⟨h.1, h.2.1, h.2.2.1, h.2.2.2.1, ?_, h.2.2.2.2.2⟩
    show (l.map (·.1)).length ≤ 6
    rw [List.length_map]; exact hA.len
  · rw [List.length_map] at hi hj
    rw [List.getElem_map, List.getElem_map] at e
    exact hA.inj i j hi hj e
theorem before_congr {f g : Nat → Int} : ∀ n, (∀ i, i < n → f i = g i) → before f n = before g n
  | 0, _ => rfl
  | n + 1, h => by
    show before f n + f n = before g n + g n
    rw [before_congr n fun i hi => h i (by omega), h n (by omega)]

theorem loop8 {l : List Tk} {w : List Bool} (hA : Acc l w) {q : List Pl} {E : Int} (hB : BestIs l w q E) : lp8_1 big w E (before (prob l w).sec l.length) (maxT (l.map (·.2.1))) (l.map (·.1)) l 0 = some true := by
  have hl6 := hA.len
  have hw3 := hA.wlen
  have hX := prob_good hA
  have hlm : l.length ≤ maxLen := by rw [maxLen_val]; omega
  unfold lp8_1
  have := iter_nat (ρ := Bool) (step := fun (F1 : (List Bool × Int × Int × Int × List Int × List Tk × Int) → Option Bool) ((winch2, least1, sum_1, longest1, runs1, all_, i1) : (List (Bool)) × Int × Int × Int × (List (Int)) × (List Tk) × Int) =>
    bif decide (i1 < (List.length all_ : Int)) then (
      (idx all_ i1).bind fun e =>
      F1 (winch2, least1, sum_1, longest1, runs1, List.set all_ (Int.toNat i1) (e.1, e.2.1, e.2.2.1, runs1), IntKind.i64.wrap (i1 + 1)))
    else bif decide (least1 ≥ longest1) then (
      bif decide (least1 ≤ sum_1) then (
        bif decide (IntKind.i64.wrap (least1 * (List.length winch2 : Int)) ≥ sum_1) then (
          (D18 all_ winch2).bind fun r3 =>
          some (r3 == sum_1))
        else some false)
      else some false)
    else some false) l.length (fun k (a : List Tk) => (w, E, before (prob l w).sec l.length, maxT (l.map (·.2.1)), l.map (·.1), a, (k : Int))) (fun k a => a = (l.take k).map (allC (l.map (·.1))) ++ l.drop k) (fun _ _ => true) (fun F k hk a hI hF => ?_) (fun F a hI => ?_) (n := big) (len_lt_big hlm) l (by simp)
  · exact this
  · have hal : a.length = l.length := by rw [hI]; simp; omega
    have hka : k < a.length := by omega
    have hak : a[k] = l[k] := by
      simp only [hI]
      rw [List.getElem_append_right (by simp; omega)]
      simp [List.length_take, Nat.min_eq_left (Nat.le_of_lt hk)]
    simp only []
    rw [hal]
    simp only [dec_lt hk, condT, idx_get hka, bindS, wrap_succ hk hlm, Int.toNat_natCast, hak]
    refine hF _ ?_
    rw [hI, List.set_append_right _ _ (by simp; omega)]
    have : k - ((l.take k).map (allC (l.map (·.1)))).length = 0 := by simp; omega
    rw [this, List.drop_eq_getElem_cons hk, List.set_cons_zero, List.take_succ_eq_append_getElem hk, List.map_append, List.append_assoc]
    rfl
  · rw [List.take_length, List.drop_length, List.append_nil] at hI
    have hal : a.length = l.length := by rw [hI, List.length_map]
    simp only []
    rw [hal]
    simp only [dec_end, condF]
    obtain ⟨G, F', v1, v2⟩ := best_vp hA hB
    have hA2 := allC_acc hA
    obtain ⟨q2, E2, hB2⟩ := best_spec hA2
    have hsec : ∀ i, i < l.length → (prob (l.map (allC (l.map (·.1)))) w).sec i = (prob l w).sec i := by
      intro i hi
      show (getT (l.map (allC (l.map (·.1)))) i).2.1 = (getT l i).2.1
      rw [getT_at (by rw [List.length_map]; exact hi), getT_at hi, List.getElem_map]; rfl
    have hbe : before (prob (l.map (allC (l.map (·.1)))) w).sec (l.map (allC (l.map (·.1)))).length = before (prob l w).sec l.length := by
      rw [List.length_map]; exact before_congr _ hsec
    have hE2 : E2 = before (prob l w).sec l.length := by
      refine Int.le_antisymm (by rw [← hbe]; exact hB2.le) ?_
      obtain ⟨G2, F2, u1, u2⟩ := best_vp hA2 hB2
      have := all_clash (prob_good hA2) u1 hB2.pos u2 (fun i j hi hj => by
        have hi' : i < (l.map (allC (l.map (·.1)))).length := hi
        have hj' : j < (l.map (allC (l.map (·.1)))).length := hj
        show clB (getT _ i) (getT _ j) = true
        rw [getT_at hi', getT_at hj', List.getElem_map, List.getElem_map]
        unfold clB
        rw [Bool.or_eq_true]
        left
        rw [List.any_eq_true]
        rw [List.length_map] at hj'
        exact ⟨l[j].1, List.mem_map.2 ⟨l[j], List.getElem_mem _, rfl⟩, by simp [allC]⟩)
      rw [show (prob (l.map (allC (l.map (·.1)))) w).n = (l.map (allC (l.map (·.1)))).length from rfl, hbe] at this
      exact this
    have hgr := by_groomer hX v1 hB.pos v2
    rw [show (prob l w).n = l.length from rfl, show (prob l w).k = w.length from rfl] at hgr
    have hlong : maxT (l.map (·.2.1)) ≤ E := maxT_le hB.pos fun y hy => by
      obtain ⟨a, ha, rfl⟩ := List.mem_map.1 hy
      obtain ⟨i, hi, rfl⟩ := List.mem_iff_getElem.1 ha
      have h1 := v2 i hi
      have h2 := (v1.rng i hi).2.2.2
      have h3 : (prob l w).sec i = l[i].2.1 := by
        show (getT l i).2.1 = _
        rw [getT_at hi]
      omega
    have hb := (sum_take20 hA l.length (Nat.le_refl _)).2
    have hle := hB.le
    have hpos := hB.pos
    have hmul : E * (w.length : Int) = (w.length : Int) * E := Int.mul_comm _ _
    have hmle : (w.length : Int) * E ≤ 3 * E := Int.mul_le_mul_of_nonneg_right (by omega) hpos
    have hmge : 0 ≤ (w.length : Int) * E := Int.mul_nonneg (by omega) hpos
    rw [decide_eq_true (show E ≥ maxT (l.map (·.2.1)) from hlong), condT, decide_eq_true hle, condT, hmul, wrap_i64 (by omega) (by omega), decide_eq_true (show (w.length : Int) * E ≥ before (prob l w).sec l.length from hgr), condT, hI, hB2.least, bindS, hE2, beq_self_eq_true]

theorem law8 (x : (pk ps8).den) (_ : Valid (pk ps8) x) : d8 x = some true := by
  obtain ⟨l, w⟩ := x
  show D8 l w = some true
  rw [e8, aliveD, bindS, right11, bindS]
  cases h1 : decide ((List.length l : Int) > 6) with
  | true => rfl
  | false =>
  cases h2 : decide ((List.length w : Int) > 3) with
  | true => rfl
  | false =>
  cases h3 : (rightV l w != 0) with
  | true => rfl
  | false =>
  have hA : Acc l w := (acc_iff l w).1 (by simpa using h3)
  have hl6 := hA.len
  have hlm : l.length ≤ maxLen := by rw [maxLen_val]; omega
  obtain ⟨q, E, hB⟩ := best_spec hA
  rw [hB.least, bindS, show (!true) = false from rfl, condF, condF, condF, condF, f8_2 l w E 0 0 [] hlm]
  refine forE_inv (fun pre : List Tk => (before (prob l w).sec pre.length, maxT (pre.map (·.2.1)), pre.map (·.1))) (fun o => o = some true) l (fun pre a post hpe K hK => ?_) ?_ rfl
  · have hk : pre.length < l.length := by rw [hpe]; simp
    have hka : l[pre.length] = a := by simp [hpe]
    have hs := (prob_good hA).sec pre.length hk
    have hsk : (prob l w).sec pre.length = a.2.1 := by
      show (getT l pre.length).2.1 = _
      rw [getT_at hk, hka]
    have hb := (sum_take20 hA pre.length (by omega)).2
    simp only []
    rw [grows (n := List.length (pre.map (·.1))) (m := List.length [a.1]) (b := 8) (by rw [List.length_map, List.length_singleton]; unfold appendLimit; omega) (by decide), condT, wrap_i64 (by rw [← hsk]; omega) (by rw [← hsk]; omega), bif_max]
    rw [List.length_append, List.length_singleton, List.map_append, List.map_append] at hK
    rw [show maxT (pre.map (·.2.1) ++ [a].map (·.2.1)) = max (maxT (pre.map (·.2.1))) a.2.1 from maxT_append _ _, show before (prob l w).sec (pre.length + 1) = before (prob l w).sec pre.length + a.2.1 by rw [← hsk]; rfl] at hK
    exact hK
  · simp only []
    rw [grows (n := List.length ([] : List Tk)) (m := l.length) (b := 48) (by simp only [List.length_nil]; unfold appendLimit; omega) (by decide), condT, List.nil_append]
    exact loop8 hA hB
end Go.Proofs.Ythjplaicophnnaa.D
end

section
open Go Go.GD Go.Proofs
namespace Go.Proofs.Ythjplaicophnnaa.D

theorem valid_u8 {n : Int} (h : Valid (.int .u8) n) : 0 ≤ n ∧ n ≤ 255 := by
  have h : (Lit.int .u8 n).wf = true := h
  have e1 : IntKind.u8.min = 0 := by rfl
  have e2 : IntKind.u8.max = 255 := by rfl
  simp only [Lit.wf, Bool.and_eq_true, decide_eq_true_eq, e1, e2] at h
  exact h

section
variable {l : List Tk} {w : List Bool}
theorem more_acc (hA : Acc l w) (h3 : w.length < 3) (a : Bool) : Acc l (w ++ [a]) :=
  ⟨hA.len, by rw [List.length_append, List.length_singleton]; omega, fun i hi => by
    have h := hA.task i hi
    exact ⟨h.1, h.2.1, h.2.2.1, h.2.2.2.1, h.2.2.2.2.1, fun e => by rw [List.any_append, h.2.2.2.2.2 e, Bool.true_or]⟩, hA.inj⟩
theorem more_le (hA : Acc l w) (a : Bool) {q q' : List Pl} {E E' : Int} (hB : BestIs l w q E) (hB' : BestIs l (w ++ [a]) q' E') : E' ≤ E := by
  obtain ⟨G, F, v1, v2⟩ := best_vp hA hB
  refine hB'.min G F ⟨fun i hi => ?_, fun i j hi hj hne hc => v1.ap i j hi hj hne hc⟩ E hB.pos v2
  have h := v1.rng i hi
  refine ⟨h.1, ?_, ?_, h.2.2.2⟩
  · show G i ≤ (w ++ [a]).length
    have : G i ≤ w.length := h.2.1
    rw [List.length_append]; omega
  · show (!(getT l i).2.2.1 || ((w ++ [a])[G i - 1]?).getD false) = true
    have h1 : (!(getT l i).2.2.1 || (w[G i - 1]?).getD false) = true := h.2.2.1
    have h2 : G i ≤ w.length := h.2.1
    have h3 := h.1
    rw [List.getElem?_append_left (by omega)]
    exact h1

/-- without task i -/
def few (l : List Tk) (i : Nat) : List Tk := l.take i ++ l.drop (i + 1)
def skp (i j : Nat) : Nat := if j < i then j else j + 1
theorem few_len {i : Nat} (hi : i < l.length) : (few l i).length + 1 = l.length := by
  unfold few
  rw [List.length_append, List.length_take, List.length_drop]; omega
theorem few_get {i : Nat} (hi : i < l.length) {j : Nat} (hj : j < (few l i).length) : ∃ h : skp i j < l.length, (few l i)[j] = l[skp i j] := by
  have hl := few_len hi
  have hk : skp i j < l.length := by unfold skp; split <;> omega
  refine ⟨hk, ?_⟩
  have h : (few l i)[j]? = l[skp i j]? := by
    unfold few skp
    by_cases h : j < i
    · rw [if_pos h, List.getElem?_append_left (by rw [List.length_take]; omega), List.getElem?_take_of_lt h]
    · rw [if_neg h, List.getElem?_append_right (by rw [List.length_take]; omega), List.getElem?_drop, List.length_take]
      congr 1
      omega
  rw [List.getElem?_eq_getElem hj, List.getElem?_eq_getElem hk] at h
  exact Option.some.inj h
theorem skp_inj {i j k : Nat} (h : skp i j = skp i k) : j = k := by
  unfold skp at h
  split at h <;> split at h <;> omega
theorem few_acc (hA : Acc l w) {i : Nat} (hi : i < l.length) : Acc (few l i) w := by
  have hl := few_len hi
  refine ⟨by have := hA.len; omega, hA.wlen, fun j hj => ?_, fun j k hj hk e => ?_⟩
  · obtain ⟨h, e⟩ := few_get hi hj
    rw [e]; exact hA.task _ h
  · obtain ⟨h1, e1⟩ := few_get hi hj
    obtain ⟨h2, e2⟩ := few_get hi hk
    rw [e1, e2] at e
    exact skp_inj (hA.inj _ _ h1 h2 e)
theorem few_le (hA : Acc l w) {i : Nat} (hi : i < l.length) {q q' : List Pl} {E E' : Int} (hB : BestIs l w q E) (hB' : BestIs (few l i) w q' E') : E' ≤ E := by
  obtain ⟨G, F, v1, v2⟩ := best_vp hA hB
  have hget : ∀ j, j < (few l i).length → skp i j < l.length ∧ getT (few l i) j = getT l (skp i j) := fun j hj => by
    obtain ⟨h, e⟩ := few_get hi hj
    rw [getT_at hj, getT_at h]
    exact ⟨h, e⟩
  refine hB'.min (fun j => G (skp i j)) (fun j => F (skp i j)) ⟨fun j hj => ?_, fun j k hj hk hne hc => ?_⟩ E hB.pos (fun j hj => ?_)
  · obtain ⟨h1, h2⟩ := hget j hj
    have h := v1.rng _ h1
    refine ⟨h.1, h.2.1, ?_, h.2.2.2⟩
    show (!(getT (few l i) j).2.2.1 || (w[G (skp i j) - 1]?).getD false) = true
    rw [h2]
    exact h.2.2.1
  · obtain ⟨h1, h2⟩ := hget j hj
    obtain ⟨k1, k2⟩ := hget k hk
    have hs1 : (prob (few l i) w).sec j = (prob l w).sec (skp i j) := by
      show (getT (few l i) j).2.1 = (getT l (skp i j)).2.1
      rw [h2]
    have hs2 : (prob (few l i) w).sec k = (prob l w).sec (skp i k) := by
      show (getT (few l i) k).2.1 = (getT l (skp i k)).2.1
      rw [k2]
    rw [hs1, hs2]
    refine v1.ap _ _ h1 k1 (fun e => hne (skp_inj e)) (hc.imp (fun h => h) fun h => ?_)
    have h : clB (getT (few l i) j) (getT (few l i) k) = true := h
    rw [h2, k2] at h
    exact h
  · obtain ⟨h1, h2⟩ := hget j hj
    have hs1 : (prob (few l i) w).sec j = (prob l w).sec (skp i j) := by
      show (getT (few l i) j).2.1 = (getT l (skp i j)).2.1
      rw [h2]
    rw [hs1]
    exact v2 _ h1

/-- the second half of the law -/
theorem half9 (hA : Acc l w) {q : List Pl} {E : Int} (hB : BestIs l w q E) (at_ : Int) (hat : 0 ≤ at_ ∧ at_ ≤ 255) :
    (bif ((List.length l : Int) == 0) then some (E == 0)
    else bif ((List.length l : Int) == 0) then none
    else bif (decide (0 ≤ (0 : Int)) && (decide ((0 : Int) ≤ Int.tmod (IntKind.i64.wrap at_) (List.length l : Int)) && decide ((Int.tmod (IntKind.i64.wrap at_) (List.length l : Int) : Int) ≤ (List.length l : Int)))) then (
      bif (Nat.ble ((List.length ([] : List Tk) + List.length (List.drop (Int.toNat 0) (List.take (Int.toNat (Int.tmod (IntKind.i64.wrap at_) (List.length l : Int))) l))) * 48) appendLimit && Nat.ble (List.length ([] : List Tk) + List.length (List.drop (Int.toNat 0) (List.take (Int.toNat (Int.tmod (IntKind.i64.wrap at_) (List.length l : Int))) l))) 9223372036854775807) then (
        bif (decide (0 ≤ (IntKind.i64.wrap ((Int.tmod (IntKind.i64.wrap at_) (List.length l : Int)) + 1) : Int)) && (decide ((IntKind.i64.wrap ((Int.tmod (IntKind.i64.wrap at_) (List.length l : Int)) + 1) : Int) ≤ (List.length l : Int)) && decide (((List.length l : Int) : Int) ≤ (List.length l : Int)))) then (
          bif (Nat.ble ((List.length (([] : List Tk) ++ (List.drop (Int.toNat 0) (List.take (Int.toNat (Int.tmod (IntKind.i64.wrap at_) (List.length l : Int))) l))) + List.length (List.drop (Int.toNat (IntKind.i64.wrap ((Int.tmod (IntKind.i64.wrap at_) (List.length l : Int)) + 1))) (List.take (Int.toNat (List.length l : Int)) l))) * 48) appendLimit && Nat.ble (List.length (([] : List Tk) ++ (List.drop (Int.toNat 0) (List.take (Int.toNat (Int.tmod (IntKind.i64.wrap at_) (List.length l : Int))) l))) + List.length (List.drop (Int.toNat (IntKind.i64.wrap ((Int.tmod (IntKind.i64.wrap at_) (List.length l : Int)) + 1))) (List.take (Int.toNat (List.length l : Int)) l))) 9223372036854775807) then (
            (D18 ((([] : List Tk) ++ (List.drop (Int.toNat 0) (List.take (Int.toNat (Int.tmod (IntKind.i64.wrap at_) (List.length l : Int))) l))) ++ (List.drop (Int.toNat (IntKind.i64.wrap ((Int.tmod (IntKind.i64.wrap at_) (List.length l : Int)) + 1))) (List.take (Int.toNat (List.length l : Int)) l))) w).bind fun r3 =>
            some (decide (r3 ≤ E)))
          else none)
        else none)
      else none)
    else none : Option Bool) = some true := by
  have hl6 := hA.len
  by_cases hl0 : l.length = 0
  · have hE : E = 0 := by
      have := hB.le
      rw [hl0] at this
      have h2 : before (prob l w).sec 0 = 0 := rfl
      have := hB.pos
      omega
    rw [hl0, hE]; rfl
  have hnz : ((List.length l : Int) == 0) = false := by simpa using hl0
  obtain ⟨n, rfl⟩ := Int.eq_ofNat_of_zero_le hat.1
  have hmod : Int.tmod (IntKind.i64.wrap (n : Int)) (List.length l : Int) = ((n % l.length : Nat) : Int) := by
    rw [wrap_i64 (by omega) (by omega)]; rfl
  have hlt : n % l.length < l.length := Nat.mod_lt _ (by omega)
  generalize hi : n % l.length = i at *
  have hw1 : IntKind.i64.wrap ((i : Int) + 1) = ((i + 1 : Nat) : Int) := by rw [wrap_i64 (by omega) (by omega)]; rfl
  have ht : List.drop (Int.toNat 0) (List.take (Int.toNat (i : Int)) l) = l.take i := by rw [show Int.toNat 0 = 0 from rfl, List.drop_zero, Int.toNat_natCast]
  have hd : List.drop (Int.toNat ((i + 1 : Nat) : Int)) (List.take (Int.toNat (List.length l : Int)) l) = l.drop (i + 1) := by
    rw [Int.toNat_natCast, Int.toNat_natCast, List.take_length]
  rw [hnz, condF, condF, hmod, hw1, ht, hd]
  rw [show (decide (0 ≤ (0 : Int)) && (decide ((0 : Int) ≤ (i : Int)) && decide (((i : Int) : Int) ≤ (List.length l : Int)))) = true by simp; omega,
    show (decide (0 ≤ (((i + 1 : Nat) : Int) : Int)) && (decide ((((i + 1 : Nat) : Int) : Int) ≤ (List.length l : Int)) && decide (((List.length l : Int) : Int) ≤ (List.length l : Int)))) = true by simp; omega,
    grows (n := List.length ([] : List Tk)) (m := (l.take i).length) (b := 48) (by simp only [List.length_nil, List.length_take]; unfold appendLimit; omega) (by decide),
    grows (n := List.length (([] : List Tk) ++ l.take i)) (m := (l.drop (i + 1)).length) (b := 48) (by rw [List.nil_append, List.length_take, List.length_drop]; unfold appendLimit; omega) (by decide)]
  simp only [condT]
  obtain ⟨q', E', hB'⟩ := best_spec (few_acc hA hlt)
  have hle := few_le hA hlt hB hB'
  rw [show ([] : List Tk) ++ l.take i ++ l.drop (i + 1) = few l i from rfl, hB'.least, bindS, decide_eq_true hle]
end

theorem law9 (x : (pk ps9).den) (hx : Valid (pk ps9) x) : d9 x = some true := by
  obtain ⟨l, w, at_, another⟩ := x
  have hat : 0 ≤ at_ ∧ at_ ≤ 255 := valid_u8 hx.2.2.1
  show D9 l w at_ another = some true
  rw [e9, aliveD, bindS, right11, bindS]
  cases h1 : decide ((List.length l : Int) > 6) with
  | true => rfl
  | false =>
  cases h2 : decide ((List.length w : Int) > 3) with
  | true => rfl
  | false =>
  cases h3 : (rightV l w != 0) with
  | true => rfl
  | false =>
  have hA : Acc l w := (acc_iff l w).1 (by simpa using h3)
  have hl6 := hA.len
  obtain ⟨q, E, hB⟩ := best_spec hA
  rw [hB.least, bindS, show (!true) = false from rfl, condF, condF, condF, condF]
  have hhalf := half9 hA hB at_ hat
  by_cases hw : (List.length w : Int) < 3
  · have hw' : w.length < 3 := by omega
    obtain ⟨q', E', hB'⟩ := best_spec (more_acc hA hw' another)
    have hle := more_le hA another hB hB'
    rw [decide_eq_true hw, condT,
      grows (n := List.length ([] : List Bool)) (m := w.length) (b := 1) (by simp only [List.length_nil]; unfold appendLimit; omega) (by decide), condT,
      grows (n := List.length (([] : List Bool) ++ w)) (m := List.length [another]) (b := 1) (by rw [List.nil_append, List.length_singleton]; unfold appendLimit; omega) (by decide), condT,
      List.nil_append, hB'.least, bindS, decide_eq_false (show ¬ E' > E by omega), condF]
    exact hhalf
  · rw [decide_eq_false hw, condF]
    exact hhalf
end Go.Proofs.Ythjplaicophnnaa.D
end
