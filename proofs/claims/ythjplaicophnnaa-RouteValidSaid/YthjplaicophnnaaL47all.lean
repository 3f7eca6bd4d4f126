import Derived.Test.YthjplaicophnnaaE47
import Derived.Test.YthjplaicophnnaaM47
section
open Go Go.GD Go.Proofs
namespace Go.Proofs.Ythjplaicophnnaa.D

theorem forN_any {α ρ : Type} (p : α → Bool) (r : ρ) (xs : List α) (fin : Unit → Option ρ) (m : Nat) (hm : m ≤ xs.length) :
    forN (fun ix (_ : Unit) K => (idx xs (ix : Int)).bind fun e => bif p e then some r else K ()) fin 0 m () = bif (xs.take m).any p then some r else fin () := by
  suffices h : ∀ (j k : Nat), k + j ≤ xs.length → forN (fun ix (_ : Unit) K => (idx xs (ix : Int)).bind fun e => bif p e then some r else K ()) fin k j () = bif ((xs.drop k).take j).any p then some r else fin () from by
    have := h m 0 (by omega)
    rwa [List.drop_zero] at this
  intro j
  induction j with
  | zero => intro k _; rfl
  | succ j ih =>
    intro k hk
    have hkl : k < xs.length := by omega
    rw [List.drop_eq_getElem_cons hkl, List.take_succ_cons, List.any_cons, forN, idx_get hkl, bindS]
    cases p xs[k] with
    | true => rfl
    | false => exact ih (k + 1) (by omega)

/-! the small functions -/
theorem cont34 (s : List Int) (v : Int) (hl : s.length ≤ maxLen) : D34 s v = some (s.any (· == v)) := by
  rw [e34, e38, f38_1 s v hl]
  have : (fun (x : Int) => v == x) = (· == v) := by funext x; exact beq_sym v x
  rw [forI_find (fun x => v == x) s 0 ()]
  simp only [bindS]
  rw [findI_ge, this]
theorem has35 (l : List Int) (n : Int) (hl : l.length ≤ maxLen) : D35 l n = some (l.any (· == n)) := by
  rw [e35, f35_1 l n hl, forE_any]
  cases l.any (· == n) <;> rfl
theorem cont23 (s : List Bool) (v : Bool) (hl : s.length ≤ maxLen) : D23 s v = some (s.any (v == ·)) := by
  rw [e23, e33, f33_1 s v hl]
  rw [forI_find (fun x => v == x) s 0 ()]
  simp only [bindS]
  rw [findI_ge]
/-- whether two tasks clash -/
def clB (a b : Tk) : Bool := a.2.2.2.any (· == b.1) || b.2.2.2.any (· == a.1)
theorem clash25 (a b : Tk) (ha : a.2.2.2.length ≤ maxLen) (hb : b.2.2.2.length ≤ maxLen) : D25 a b = some (clB a b) := by
  rw [e25, cont34 _ _ ha, cont34 _ _ hb]
  unfold clB
  simp only [bindS]
  cases a.2.2.2.any (· == b.1) <;> rfl
theorem clash27 (a b : Tk) (ha : a.2.2.2.length ≤ maxLen) (hb : b.2.2.2.length ≤ maxLen) : D27 a b = some (clB a b) := by
  rw [e27, has35 _ _ ha, has35 _ _ hb]
  unfold clB
  simp only [bindS]
  cases a.2.2.2.any (· == b.1) <;> rfl
def fnd (l : List Tk) (run : Int) : Int := findI (fun a : Tk => a.1 == run) 0 l
theorem find22 (l : List Tk) (run : Int) (hl : l.length ≤ maxLen) : D22 l run = some (fnd l run) := by
  rw [e22, e31, f31_1 l _ hl]
  simp only [e32, bindS]
  rw [forI_find (fun a : Tk => a.1 == run) l 0 (), bindS]; rfl
theorem find28 (l : List Tk) (run : Int) (hl : l.length ≤ maxLen) : D28 l run = some (fnd l run) := by
  rw [e28, f28_1 l run hl, forI_find (fun a : Tk => a.1 == run) l 0 ()]; rfl

/-! Right -/
def chk (any : Bool) (pre : List Tk) (a : Tk) : Int :=
  bif decide (a.1 < 1) then 2 else bif decide (a.1 > 9999) then 2 else bif decide (a.2.1 < 1) then 2 else bif decide (a.2.1 > 86400) then 2 else bif decide ((a.2.2.2.length : Int) > 6) then 2
  else bif pre.any (fun b => b.1 == a.1) then 7 else bif a.2.2.1 && !any then 13 else 0
def rightL (any : Bool) : List Tk → List Tk → Int
  | _, [] => 0
  | pre, a :: l => bif chk any pre a == 0 then rightL any (pre ++ [a]) l else chk any pre a
def rightV (l : List Tk) (w : List Bool) : Int :=
  bif decide ((List.length l : Int) > 6) then 4 else bif decide ((List.length w : Int) > 3) then 4 else bif ((List.length w : Int) == 0) then 8 else rightL (w.any (true == ·)) [] l

theorem right11 (l : List Tk) (w : List Bool) : D11 l w = some (rightV l w) := by
  rw [e11]
  unfold rightV
  cases h1 : decide ((List.length l : Int) > 6) with
  | true => rfl
  | false =>
  cases h2 : decide ((List.length w : Int) > 3) with
  | true => rfl
  | false =>
  cases h3 : ((List.length w : Int) == 0) with
  | true => rfl
  | false =>
  simp only [decide_eq_false_iff_not] at h1 h2
  have hl : l.length ≤ maxLen := by rw [maxLen_val]; omega
  have hw : w.length ≤ maxLen := by rw [maxLen_val]; omega
  rw [condF, condF, condF, condF, condF, condF, f11_1 l w l hl]
  suffices h : ∀ (ys pre : List Tk), l = pre ++ ys → forI (fun ix el (_ : Unit) K =>
      (bif decide (el.1 < 1) then some 2 else bif decide (el.1 > 9999) then some 2 else bif decide (el.2.1 < 1) then some 2 else bif decide (el.2.1 > 86400) then some 2 else bif decide ((List.length el.2.2.2 : Int) > 6) then some 2
      else bif (decide (0 ≤ (0 : Int)) && (decide ((0 : Int) ≤ (ix : Int)) && decide (((ix : Int) : Int) ≤ (List.length l : Int)))) then (
        (D22 (List.drop (Int.toNat 0) (List.take (Int.toNat (ix : Int)) l)) el.1).bind fun r =>
        bif decide (r ≥ 0) then some 7 else bif el.2.2.1 then ((D23 w true).bind fun r1 => bif (!r1) then some 13 else K ()) else K ())
      else none : Option Int)) (fun (_ : Unit) => (some 0 : Option Int)) pre.length ys () = some (rightL (w.any (true == ·)) pre ys) from h l [] rfl
  intro ys
  induction ys with
  | nil => intro pre _; rfl
  | cons a ys ih =>
    intro pre e
    have hpl : pre.length ≤ l.length := by rw [e]; simp
    have ht : List.drop (Int.toNat 0) (List.take (Int.toNat (pre.length : Int)) l) = pre := by
      rw [show Int.toNat 0 = 0 from rfl, List.drop_zero, Int.toNat_natCast, e, List.take_left]
    have hin : (decide (0 ≤ (0 : Int)) && (decide ((0 : Int) ≤ (pre.length : Int)) && decide (((pre.length : Int) : Int) ≤ (List.length l : Int)))) = true := by
      simp; omega
    have ihh := ih (pre ++ [a]) (by rw [e]; simp)
    rw [List.length_append, List.length_singleton] at ihh
    rw [forI, ihh]
    simp only [hin, ht, condT, find22 pre a.1 (by omega), bindS, cont23 w true hw, fnd, findI_ge]
    rw [show rightL (w.any (true == ·)) pre (a :: ys) = (bif chk (w.any (true == ·)) pre a == 0 then rightL (w.any (true == ·)) (pre ++ [a]) ys else chk (w.any (true == ·)) pre a) from rfl]
    unfold chk
    cases decide (a.1 < 1) with
    | true => rfl
    | false =>
    cases decide (a.1 > 9999) with
    | true => rfl
    | false =>
    cases decide (a.2.1 < 1) with
    | true => rfl
    | false =>
    cases decide (a.2.1 > 86400) with
    | true => rfl
    | false =>
    cases decide ((a.2.2.2.length : Int) > 6) with
    | true => rfl
    | false =>
    simp only [condF]
    cases pre.any (fun b => b.1 == a.1) with
    | true => rfl
    | false =>
    cases a.2.2.1 with
    | false => rfl
    | true =>
      cases w.any (true == ·) <;> rfl

theorem any_fold (fin : Bool → Option Int) : ∀ (w : List Bool) (b : Bool), forE (fun el (any_ : Bool) K => (bif any_ then K true else K el : Option Int)) fin w b = fin (b || w.any (true == ·))
  | [], b => by simp [forE]
  | x :: w, b => by
    rw [forE, List.any_cons]
    cases b with
    | true => rw [condT, any_fold fin w true]; simp
    | false => rw [condF, any_fold fin w x]; cases x <;> simp
theorem loop12 (l : List Tk) (any : Bool) (hl : l.length ≤ maxLen) : lp12_3 big l any 0 = some (rightL any [] l) := by
  unfold lp12_3
  have := iter_nat (ρ := Int) (step := fun (F1 : (List Tk × Bool × Int) → Option Int) ((l2, any_1, i1) : (List Tk) × Bool × Int) =>
    bif decide (i1 < (List.length l2 : Int)) then (
      (idx l2 i1).bind fun e =>
      bif decide (e.1 < 1) then some 2
      else (idx l2 i1).bind fun e1 =>
      bif decide (e1.1 > 9999) then some 2
      else (idx l2 i1).bind fun e2 =>
      bif decide (e2.2.1 < 1) then some 2
      else (idx l2 i1).bind fun e3 =>
      bif decide (e3.2.1 > 86400) then some 2
      else (idx l2 i1).bind fun e4 =>
      bif decide ((List.length e4.2.2.2 : Int) > 6) then some 2
      else lp12_1 big F1 l2 any_1 i1 0)
    else some 0) l.length (fun k (_ : Unit) => (l, any, (k : Int))) (fun _ _ => True) (fun k _ => rightL any (l.take k) (l.drop k)) (fun F k hk _ _ hF => ?_) (fun F _ _ => ?_) (n := big) (len_lt_big hl) () trivial
  · exact this
  · have hF := hF () trivial
    have hkm : (k : Int) ≤ 9223372036854775807 := by rw [maxLen_val] at hl; omega
    have ht : (List.take (Int.toNat (k : Int)) l) = l.take k := by rw [Int.toNat_natCast]
    simp only [dec_lt hk, condT, idx_get hk, bindS, f12_1 F l any k hkm, wrap_succ hk hl]
    rw [forN_any (fun e : Tk => e.1 == l[k].1) 7 l _ (Int.toNat (k : Int)) (by rw [Int.toNat_natCast]; omega), ht]
    rw [List.drop_eq_getElem_cons hk, show rightL any (l.take k) (l[k] :: l.drop (k + 1)) = (bif chk any (l.take k) l[k] == 0 then rightL any (l.take k ++ [l[k]]) (l.drop (k + 1)) else chk any (l.take k) l[k]) from rfl,
      ← List.take_succ_eq_append_getElem hk, hF]
    unfold chk
    cases decide (l[k].1 < 1) with
    | true => rfl
    | false =>
    cases decide (l[k].1 > 9999) with
    | true => rfl
    | false =>
    cases decide (l[k].2.1 < 1) with
    | true => rfl
    | false =>
    cases decide (l[k].2.1 > 86400) with
    | true => rfl
    | false =>
    cases decide ((l[k].2.2.2.length : Int) > 6) with
    | true => rfl
    | false =>
    simp only [condF]
    cases (l.take k).any (fun b => b.1 == l[k].1) with
    | true => rfl
    | false =>
    cases l[k].2.2.1 with
    | false => rfl
    | true =>
      cases any <;> rfl
  · simp only [dec_end, condF, List.drop_length]
    rfl
theorem right12 (l : List Tk) (w : List Bool) : D12 l w = some (rightV l w) := by
  rw [e12]
  unfold rightV
  cases h1 : decide ((List.length l : Int) > 6) with
  | true => rfl
  | false =>
  cases h2 : decide ((List.length w : Int) > 3) with
  | true => rfl
  | false =>
  cases h3 : ((List.length w : Int) == 0) with
  | true => rfl
  | false =>
  simp only [decide_eq_false_iff_not] at h1 h2
  have hl : l.length ≤ maxLen := by rw [maxLen_val]; omega
  have hw : w.length ≤ maxLen := by rw [maxLen_val]; omega
  rw [condF, condF, condF, condF, condF, condF, f12_4 l w false hw, any_fold, loop12 l _ hl, Bool.false_or]

theorem law3 (x : (pk ps3).den) (_ : Valid (pk ps3) x) : d3 x = some true := by
  obtain ⟨l, w⟩ := x
  show D3 l w = some true
  rw [e3, aliveD, bindS, right11, right12, bindS, bindS, beq_self_eq_true]
  cases decide ((List.length l : Int) > 50) <;> cases decide ((List.length w : Int) > 50) <;> rfl
end Go.Proofs.Ythjplaicophnnaa.D
end

section
open Go Go.GD Go.Proofs
namespace Go.Proofs.Ythjplaicophnnaa.D

/-! ### what Right asks -/
structure Acc (l : List Tk) (w : List Bool) : Prop where
  len : l.length ≤ 6
  wlen : 1 ≤ w.length ∧ w.length ≤ 3
  task : ∀ i (h : i < l.length), 1 ≤ l[i].1 ∧ l[i].1 ≤ 9999 ∧ 1 ≤ l[i].2.1 ∧ l[i].2.1 ≤ 86400 ∧ l[i].2.2.2.length ≤ 6 ∧ (l[i].2.2.1 = true → w.any (true == ·) = true)
  inj : ∀ i j (hi : i < l.length) (hj : j < l.length), l[i].1 = l[j].1 → i = j

theorem chk_zero (any : Bool) (pre : List Tk) (a : Tk) : chk any pre a = 0 ↔ 1 ≤ a.1 ∧ a.1 ≤ 9999 ∧ 1 ≤ a.2.1 ∧ a.2.1 ≤ 86400 ∧ a.2.2.2.length ≤ 6 ∧ pre.any (fun b => b.1 == a.1) = false ∧ (a.2.2.1 = true → any = true) := by
  unfold chk
  by_cases h1 : a.1 < 1
  · rw [decide_eq_true h1]
    exact ⟨(fun h => by cases h), fun h => by omega⟩
  rw [decide_eq_false h1, cond_false]
  by_cases h2 : a.1 > 9999
  · rw [decide_eq_true h2]
    exact ⟨(fun h => by cases h), fun h => by omega⟩
  rw [decide_eq_false h2, cond_false]
  by_cases h3 : a.2.1 < 1
  · rw [decide_eq_true h3]
    exact ⟨(fun h => by cases h), fun h => by omega⟩
  rw [decide_eq_false h3, cond_false]
  by_cases h4 : a.2.1 > 86400
  · rw [decide_eq_true h4]
    exact ⟨(fun h => by cases h), fun h => by omega⟩
  rw [decide_eq_false h4, cond_false]
  by_cases h5 : (a.2.2.2.length : Int) > 6
  · rw [decide_eq_true h5]
    exact ⟨(fun h => by cases h), fun h => by omega⟩
  rw [decide_eq_false h5, cond_false]
  cases h6 : pre.any (fun b => b.1 == a.1) with
  | true => exact ⟨(fun h => by cases h), fun h => by simp at h⟩
  | false =>
    rw [cond_false]
    cases h7 : a.2.2.1 with
    | false => exact ⟨fun _ => ⟨by omega, by omega, by omega, by omega, by omega, rfl, fun h => by cases h⟩, fun _ => rfl⟩
    | true => cases any with
      | false => exact ⟨(fun h => by cases h), fun h => by simp at h⟩
      | true => exact ⟨fun _ => ⟨by omega, by omega, by omega, by omega, by omega, rfl, fun _ => rfl⟩, fun _ => rfl⟩

theorem rightL_zero (any : Bool) : ∀ (l pre : List Tk), rightL any pre l = 0 ↔ ∀ i (h : i < l.length), chk any (pre ++ l.take i) l[i] = 0
  | [], _ => ⟨(fun _ i h => by cases h), fun _ => rfl⟩
  | a :: l, pre => by
    rw [show rightL any pre (a :: l) = (bif chk any pre a == 0 then rightL any (pre ++ [a]) l else chk any pre a) from rfl]
    have ih := rightL_zero any l (pre ++ [a])
    cases h : chk any pre a == 0 with
    | false =>
      rw [cond_false]
      refine ⟨(fun e => by rw [e] at h; cases h), fun hall => ?_⟩
      have := hall 0 (by simp)
      simpa using this
    | true =>
      rw [cond_true, ih]
      constructor
      · intro hall i hi
        cases i with
        | zero => simpa using h
        | succ i =>
          have := hall i (by simpa using hi)
          simpa using this
      · intro hall i hi
        have := hall (i + 1) (by simpa using hi)
        simpa using this

theorem acc_iff (l : List Tk) (w : List Bool) : rightV l w = 0 ↔ Acc l w := by
  unfold rightV
  by_cases h1 : (List.length l : Int) > 6
  · rw [decide_eq_true h1]
    exact ⟨(fun h => by cases h), fun h => by have := h.len; omega⟩
  rw [decide_eq_false h1, cond_false]
  by_cases h2 : (List.length w : Int) > 3
  · rw [decide_eq_true h2]
    exact ⟨(fun h => by cases h), fun h => by have := h.wlen; omega⟩
  rw [decide_eq_false h2, cond_false]
  by_cases h3 : (List.length w : Int) = 0
  · rw [h3]
    exact ⟨(fun h => by cases h), fun h => by have := h.wlen; omega⟩
  rw [show ((List.length w : Int) == 0) = false by simpa using h3, cond_false, rightL_zero]
  constructor
  · intro h
    have h' := fun i hi => (chk_zero _ _ _).1 (h i hi)
    have hlt : ∀ i j (hi : i < l.length) (hj : j < l.length), i < j → l[i].1 ≠ l[j].1 := by
      intro i j hi hj hij e
      have := (h' j hj).2.2.2.2.2.1
      rw [List.nil_append, List.any_eq_false] at this
      have hm : l[i] ∈ l.take j := by
        rw [List.mem_take_iff_getElem]
        exact ⟨i, by omega, rfl⟩
      exact this _ hm (by simpa using e)
    refine ⟨by omega, by omega, fun i hi => ?_, fun i j hi hj e => ?_⟩
    · obtain ⟨a1, a2, a3, a4, a5, _, a7⟩ := h' i hi
      exact ⟨a1, a2, a3, a4, a5, a7⟩
    · rcases Nat.lt_trichotomy i j with h | h | h
      · exact absurd e (hlt i j hi hj h)
      · exact h
      · exact absurd e.symm (hlt j i hj hi h)
  · intro h i hi
    obtain ⟨a1, a2, a3, a4, a5, a6⟩ := h.task i hi
    refine (chk_zero _ _ _).2 ⟨a1, a2, a3, a4, a5, ?_, a6⟩
    rw [List.nil_append, List.any_eq_false]
    intro x hx hxe
    obtain ⟨j, hj, rfl⟩ := List.mem_take_iff_getElem.1 hx
    have := h.inj j i (by omega) hi (by simpa using hxe)
    omega

/-! ### finding a task -/
theorem fnd_some {l : List Tk} {run : Int} (h : 0 ≤ fnd l run) : ∃ i, ∃ hi : i < l.length, fnd l run = (i : Int) ∧ l[i].1 = run := by
  cases ha : l.any (fun a : Tk => a.1 == run) with
  | false => unfold fnd at h; rw [findI_neg _ l 0 ha] at h; omega
  | true =>
    obtain ⟨i, hi, h1, h2, _⟩ := findI_pos _ l 0 ha
    exact ⟨i, hi, by unfold fnd; rw [h1]; simp, by simpa using h2⟩
theorem fnd_at {l : List Tk} {w : List Bool} (hA : Acc l w) {i : Nat} (hi : i < l.length) : fnd l l[i].1 = (i : Int) := by
  have ha : l.any (fun a : Tk => a.1 == l[i].1) = true := List.any_eq_true.2 ⟨l[i], List.getElem_mem hi, by simp⟩
  obtain ⟨j, hj, h1, h2, _⟩ := findI_pos _ l 0 ha
  have := hA.inj j i hj hi (by simpa using h2)
  subst this
  unfold fnd; rw [h1]; simp
theorem fnd_neg {l : List Tk} {run : Int} (h : fnd l run < 0) : fnd l run = -1 ∧ ∀ i (hi : i < l.length), l[i].1 ≠ run := by
  cases ha : l.any (fun a : Tk => a.1 == run) with
  | true =>
    obtain ⟨i, hi, h1, _⟩ := findI_pos _ l 0 ha
    unfold fnd at h; rw [h1] at h; omega
  | false =>
    refine ⟨findI_neg _ l 0 ha, fun i hi e => ?_⟩
    rw [List.any_eq_false] at ha
    exact ha _ (List.getElem_mem hi) (by simpa using e)

def task (l : List Tk) (run : Int) : Tk := (l[(fnd l run).toNat]?).getD (0, 0, false, [])
theorem idx_task {l : List Tk} {run : Int} (h : 0 ≤ fnd l run) : idx l (fnd l run) = some (task l run) ∧ task l run ∈ l ∧ (task l run).1 = run := by
  obtain ⟨i, hi, h1, h2⟩ := fnd_some h
  unfold task
  rw [h1, idx_get hi, Int.toNat_natCast, List.getElem?_eq_getElem hi]
  exact ⟨rfl, List.getElem_mem hi, h2⟩
theorem task_at {l : List Tk} {w : List Bool} (hA : Acc l w) {i : Nat} (hi : i < l.length) : task l l[i].1 = l[i] := by
  unfold task
  rw [fnd_at hA hi, Int.toNat_natCast, List.getElem?_eq_getElem hi]; rfl
theorem clB_sym (a b : Tk) : clB a b = clB b a := Bool.or_comm _ _

/-! ### Valid -/
def fitB (a : Tk) (w : List Bool) (s : Sf) : Bool :=
  decide (1 ≤ s.1) && (decide (s.1 ≤ (w.length : Int)) && (decide (0 ≤ s.2.2.1) && (decide (s.2.2.1 ≤ s.2.2.2) && ((s.2.2.2 - s.2.2.1 == a.2.1) && (!a.2.2.1 || (w[(s.1 - 1).toNat]?).getD false)))))
def ovl (r s : Sf) : Bool := decide (r.2.2.1 < s.2.2.2) && decide (s.2.2.1 < r.2.2.2)
/-- two shifts may be in one plan -/
def apt (l : List Tk) (r s : Sf) : Bool := !(r.2.1 == s.2.1) && !(ovl r s && ((r.1 == s.1) || clB (task l r.2.1) (task l s.2.1)))
def okAt (l : List Tk) (w : List Bool) (pre : List Sf) (s : Sf) : Bool := decide (0 ≤ fnd l s.2.1) && (fitB (task l s.2.1) w s && pre.all (fun r => apt l r s))
def vAll (l : List Tk) (w : List Bool) : List Sf → List Sf → Bool
  | _, [] => true
  | pre, s :: rest => okAt l w pre s && vAll l w (pre ++ [s]) rest
def In64 (s : Sf) : Prop := s.2.2.1 ≤ 9223372036854775807 ∧ s.2.2.2 ≤ 9223372036854775807 ∧ s.1 ≤ 9223372036854775807

theorem fits24 (a : Tk) (w : List Bool) (s : Sf) (hs : In64 s) : D24 a w s = some (fitB a w s) := by
  rw [e24]
  unfold fitB
  by_cases h1 : s.1 < 1
  · rw [decide_eq_true h1, decide_eq_false (show ¬ 1 ≤ s.1 by omega)]; rfl
  rw [decide_eq_false h1, decide_eq_true (show 1 ≤ s.1 by omega), cond_false, Bool.true_and]
  by_cases h2 : s.1 > (w.length : Int)
  · rw [decide_eq_true h2, decide_eq_false (show ¬ s.1 ≤ (w.length : Int) by omega)]; rfl
  rw [decide_eq_false h2, decide_eq_true (show s.1 ≤ (w.length : Int) by omega), cond_false, Bool.true_and]
  have hw : idx w (IntKind.i64.wrap (s.1 - 1)) = some ((w[(s.1 - 1).toNat]?).getD false) := by
    have := hs.2.2
    rw [wrap_i64 (by omega) (by omega)]
    obtain ⟨k, hk⟩ := Int.eq_ofNat_of_zero_le (show 0 ≤ s.1 - 1 by omega)
    rw [hk, idx_get (show k < w.length by omega), Int.toNat_natCast, List.getElem?_eq_getElem (show k < w.length by omega)]; rfl
  have hb : (bif decide (s.2.2.1 ≥ 0) then (bif decide (s.2.2.2 ≥ s.2.2.1) then some (IntKind.i64.wrap (s.2.2.2 - s.2.2.1) == a.2.1) else some false) else some false : Option Bool) =
      some (decide (0 ≤ s.2.2.1) && (decide (s.2.2.1 ≤ s.2.2.2) && (s.2.2.2 - s.2.2.1 == a.2.1))) := by
    by_cases h3 : 0 ≤ s.2.2.1
    · rw [decide_eq_true (show s.2.2.1 ≥ 0 from h3), condT, Bool.true_and]
      by_cases h4 : s.2.2.1 ≤ s.2.2.2
      · have := hs.1
        have := hs.2.1
        rw [decide_eq_true (show s.2.2.2 ≥ s.2.2.1 from h4), condT, Bool.true_and, wrap_i64 (by omega) (by omega)]
      · rw [decide_eq_false (show ¬ s.2.2.2 ≥ s.2.2.1 from h4)]; rfl
    · rw [decide_eq_false (show ¬ s.2.2.1 ≥ 0 from h3)]; rfl
  cases hwn : a.2.2.1 with
  | false =>
    rw [condF, hb]
    cases decide (0 ≤ s.2.2.1) <;> cases decide (s.2.2.1 ≤ s.2.2.2) <;> cases (s.2.2.2 - s.2.2.1 == a.2.1) <;> rfl
  | true =>
    rw [condT, hw, bindS]
    cases (w[(s.1 - 1).toNat]?).getD false with
    | false => cases decide (0 ≤ s.2.2.1) <;> cases decide (s.2.2.1 ≤ s.2.2.2) <;> cases (s.2.2.2 - s.2.2.1 == a.2.1) <;> rfl
    | true =>
      rw [show (!true) = false from rfl, condF, hb]
      cases decide (0 ≤ s.2.2.1) <;> cases decide (s.2.2.1 ≤ s.2.2.2) <;> cases (s.2.2.2 - s.2.2.1 == a.2.1) <;> rfl
theorem fits26 (l : List Tk) (w : List Bool) (s : Sf) (hl : l.length ≤ maxLen) (hs : In64 s) : D26 l w s = some (decide (0 ≤ fnd l s.2.1) && fitB (task l s.2.1) w s) := by
  rw [e26, find28 _ _ hl, bindS]
  by_cases h0 : fnd l s.2.1 < 0
  · rw [decide_eq_true h0, decide_eq_false (show ¬ 0 ≤ fnd l s.2.1 by omega)]; rfl
  rw [decide_eq_false h0, decide_eq_true (show 0 ≤ fnd l s.2.1 by omega), condF, Bool.true_and, (idx_task (by omega)).1]
  simp only [bindS]
  unfold fitB
  by_cases h1 : s.1 < 1
  · rw [decide_eq_true h1, decide_eq_false (show ¬ 1 ≤ s.1 by omega)]; rfl
  rw [decide_eq_false h1, decide_eq_true (show 1 ≤ s.1 by omega), condF, Bool.true_and]
  by_cases h2 : s.1 > (w.length : Int)
  · rw [decide_eq_true h2, decide_eq_false (show ¬ s.1 ≤ (w.length : Int) by omega)]; rfl
  rw [decide_eq_false h2, decide_eq_true (show s.1 ≤ (w.length : Int) by omega), condF, Bool.true_and]
  by_cases h3 : s.2.2.1 < 0
  · rw [decide_eq_true h3, decide_eq_false (show ¬ 0 ≤ s.2.2.1 by omega)]; rfl
  rw [decide_eq_false h3, decide_eq_true (show 0 ≤ s.2.2.1 by omega), condF, Bool.true_and]
  by_cases h4 : s.2.2.2 < s.2.2.1
  · rw [decide_eq_true h4, decide_eq_false (show ¬ s.2.2.1 ≤ s.2.2.2 by omega)]; rfl
  have := hs.1
  have := hs.2.1
  have hw : idx w (IntKind.i64.wrap (s.1 - 1)) = some ((w[(s.1 - 1).toNat]?).getD false) := by
    have := hs.2.2
    rw [wrap_i64 (by omega) (by omega)]
    obtain ⟨k, hk⟩ := Int.eq_ofNat_of_zero_le (show 0 ≤ s.1 - 1 by omega)
    rw [hk, idx_get (show k < w.length by omega), Int.toNat_natCast, List.getElem?_eq_getElem (show k < w.length by omega)]; rfl
  rw [decide_eq_false h4, decide_eq_true (show s.2.2.1 ≤ s.2.2.2 by omega), condF, Bool.true_and, wrap_i64 (by omega) (by omega)]
  cases (s.2.2.2 - s.2.2.1 == (task l s.2.1).2.1) with
  | false => rfl
  | true =>
    rw [condT, hw, bindS]
    cases (w[(s.1 - 1).toNat]?).getD false <;> cases (task l s.2.1).2.2.1 <;> rfl
end Go.Proofs.Ythjplaicophnnaa.D
end

section
open Go Go.GD Go.Proofs
namespace Go.Proofs.Ythjplaicophnnaa.D

theorem task_clash {l : List Tk} {w : List Bool} (hA : Acc l w) {a : Tk} (ha : a ∈ l) : a.2.2.2.length ≤ maxLen := by
  obtain ⟨i, hi, rfl⟩ := List.mem_iff_getElem.1 ha
  have := (hA.task i hi).2.2.2.2.1
  rw [maxLen_val]; omega
theorem clash_task25 {l : List Tk} {w : List Bool} (hA : Acc l w) {r s : Int} (hr : 0 ≤ fnd l r) (hs : 0 ≤ fnd l s) : D25 (task l r) (task l s) = some (clB (task l r) (task l s)) :=
  clash25 _ _ (task_clash hA (idx_task hr).2.1) (task_clash hA (idx_task hs).2.1)
theorem clash_task27 {l : List Tk} {w : List Bool} (hA : Acc l w) {r s : Int} (hr : 0 ≤ fnd l r) (hs : 0 ≤ fnd l s) : D27 (task l r) (task l s) = some (clB (task l r) (task l s)) :=
  clash27 _ _ (task_clash hA (idx_task hr).2.1) (task_clash hA (idx_task hs).2.1)

theorem inner15 {l : List Tk} {w : List Bool} (hA : Acc l w) (plan : List Sf) {k : Nat} (hk : k < plan.length) (hpre : ∀ j (h : j < plan.length), j < k → 0 ≤ fnd l plan[j].2.1) (h0 : 0 ≤ fnd l plan[k].2.1) (fin : Unit → Option Bool) :
    forN (fun ix (_ : Unit) K =>
    ((idx plan (k : Int)).bind fun e1 =>
    (idx plan (ix : Int)).bind fun e2 =>
    bif (e1.2.1 == e2.2.1) then some false
    else bif decide (e1.2.2.1 < e2.2.2.2) then (
      bif decide (e2.2.2.1 < e1.2.2.2) then (
        bif (e1.1 == e2.1) then some false
        else (D28 l e1.2.1).bind fun r1 =>
        (idx l r1).bind fun e3 =>
        (D28 l e2.2.1).bind fun r2 =>
        (idx l r2).bind fun e4 =>
        (D27 e3 e4).bind fun r3 =>
        bif r3 then some false
        else K ())
      else K ())
    else K () : Option (Bool))) fin 0 k () = bif (plan.take k).all (fun r => apt l r plan[k]) then fin () else some false := by
  have hl : l.length ≤ maxLen := by have := hA.len; rw [maxLen_val]; omega
  suffices h : ∀ (j m : Nat), m + j = k → forN (fun ix (_ : Unit) K =>
    ((idx plan (k : Int)).bind fun e1 =>
    (idx plan (ix : Int)).bind fun e2 =>
    bif (e1.2.1 == e2.2.1) then some false
    else bif decide (e1.2.2.1 < e2.2.2.2) then (
      bif decide (e2.2.2.1 < e1.2.2.2) then (
        bif (e1.1 == e2.1) then some false
        else (D28 l e1.2.1).bind fun r1 =>
        (idx l r1).bind fun e3 =>
        (D28 l e2.2.1).bind fun r2 =>
        (idx l r2).bind fun e4 =>
        (D27 e3 e4).bind fun r3 =>
        bif r3 then some false
        else K ())
      else K ())
    else K () : Option (Bool))) fin m j () = bif ((plan.drop m).take j).all (fun r => apt l r plan[k]) then fin () else some false from by
    have := h k 0 (by omega)
    rwa [List.drop_zero] at this
  intro j
  induction j with
  | zero => intro m _; rfl
  | succ j ih =>
    intro m hm
    have hmk : m < k := by omega
    have hml : m < plan.length := by omega
    rw [forN, ih (m + 1) (by omega), List.drop_eq_getElem_cons hml, List.take_succ_cons, List.all_cons, idx_get hk, idx_get hml]
    simp only [bindS, find28 l _ hl]
    rw [(idx_task h0).1, (idx_task (hpre m hml hmk)).1]
    simp only [bindS, clash_task27 hA h0 (hpre m hml hmk)]
    unfold apt ovl
    rw [beq_sym plan[k].2.1, beq_sym plan[k].1, clB_sym (task l plan[k].2.1)]
    cases (plan[m].2.1 == plan[k].2.1) with
    | true => rfl
    | false =>
    cases decide (plan[k].2.2.1 < plan[m].2.2.2) with
    | false => cases decide (plan[m].2.2.1 < plan[k].2.2.2) <;> simp
    | true =>
    cases decide (plan[m].2.2.1 < plan[k].2.2.2) with
    | false => simp
    | true =>
    cases (plan[m].1 == plan[k].1) with
    | true => rfl
    | false =>
    cases clB (task l plan[m].2.1) (task l plan[k].2.1) <;> simp

theorem valid15 {l : List Tk} {w : List Bool} (hA : Acc l w) (plan : List Sf) (hp : ∀ s, s ∈ plan → In64 s) : D15 l w plan = some ((plan.length == l.length) && vAll l w [] plan) := by
  have hl : l.length ≤ maxLen := by have := hA.len; rw [maxLen_val]; omega
  rw [e15]
  by_cases he : plan.length = l.length
  case neg =>
    rw [show ((List.length plan : Int) != (List.length l : Int)) = true by simpa using fun e => he (by omega), show (plan.length == l.length) = false by simpa using he]; rfl
  rw [show ((List.length plan : Int) != (List.length l : Int)) = false by simp [he], show (plan.length == l.length) = true by simpa using he, condF, Bool.true_and]
  have hpl : plan.length ≤ maxLen := by rw [he]; exact hl
  unfold lp15_3
  have := iter_nat (ρ := Bool) (step := fun (F : (List Tk × List Bool × List Sf × Int) → Option Bool) ((l1, winch1, plan1, i) : (List Tk) × (List (Bool)) × (List Sf) × Int) =>
    bif decide (i < (List.length plan1 : Int)) then (
      (idx plan1 i).bind fun e =>
      (D26 l1 winch1 e).bind fun r =>
      bif (!r) then some false
      else lp15_1 big F l1 winch1 plan1 i 0)
    else some true) plan.length (fun k (_ : Unit) => (l, w, plan, (k : Int))) (fun k _ => ∀ j (h : j < plan.length), j < k → 0 ≤ fnd l plan[j].2.1) (fun k _ => vAll l w (plan.take k) (plan.drop k)) (fun F k hk _ hI hF => ?_) (fun F _ _ => ?_) (n := big) (len_lt_big hpl) () (fun _ _ h => by omega)
  · exact this
  · have hkm : (k : Int) ≤ 9223372036854775807 := by rw [maxLen_val] at hpl; omega
    simp only [dec_lt hk, condT, idx_get hk, bindS, fits26 l w plan[k] hl (hp _ (List.getElem_mem hk)), f15_1 F l w plan k hkm, wrap_succ hk hpl, Int.toNat_natCast]
    rw [List.drop_eq_getElem_cons hk, show vAll l w (plan.take k) (plan[k] :: plan.drop (k + 1)) = (okAt l w (plan.take k) plan[k] && vAll l w (plan.take k ++ [plan[k]]) (plan.drop (k + 1))) from rfl, ← List.take_succ_eq_append_getElem hk]
    unfold okAt
    by_cases h0 : 0 ≤ fnd l plan[k].2.1
    case neg => rw [decide_eq_false h0]; rfl
    rw [decide_eq_true h0, Bool.true_and, Bool.true_and]
    cases hfit : fitB (task l plan[k].2.1) w plan[k] with
    | false => rfl
    | true =>
    have := hF () (fun j h hj => by
      by_cases e : j = k
      · subst e; exact h0
      · exact hI j h (by omega))
    have hin := inner15 hA plan hk hI h0 (fun (_ : Unit) => F (l, w, plan, ((k + 1 : Nat) : Int)))
    simp only [idx_get hk, bindS] at hin
    rw [show (!true) = false from rfl, condF, hin, this, Bool.true_and]
    cases (plan.take k).all (fun r => apt l r plan[k]) <;> rfl
  · simp only [dec_end, condF, List.drop_length]
    rfl
end Go.Proofs.Ythjplaicophnnaa.D
end

section
open Go Go.GD Go.Proofs
namespace Go.Proofs.Ythjplaicophnnaa.D

theorem inner14 {l : List Tk} {w : List Bool} (hA : Acc l w) (s : Sf) (h0 : 0 ≤ fnd l s.2.1) (tasks : List Tk) (fin : Unit → Option Bool) (k : Int) (hk : k = fnd l s.2.1) : ∀ (ys pre : List Sf), (∀ r, r ∈ pre ++ ys → 0 ≤ fnd l r.2.1) → (∀ r, r ∈ ys → (r.2.1 == s.2.1) = false) →
    (∀ j (h : j < (pre ++ ys).length), tasks[j]? = some (task l (pre ++ ys)[j].2.1)) →
    forI (fun ix el (_ : Unit) K =>
    (bif decide (el.2.2.1 < s.2.2.2) then (
      bif decide (s.2.2.1 < el.2.2.2) then (
        bif (el.1 == s.1) then some false
        else (idx tasks (ix : Int)).bind fun e4 =>
        (idx l k).bind fun e5 =>
        (D25 e4 e5).bind fun r3 =>
        bif r3 then some false
        else K ())
      else K ())
    else K () : Option (Bool))) fin pre.length ys () = bif ys.all (fun r => apt l r s) then fin () else some false
  | [], _, _, _, _ => rfl
  | r :: ys, pre, hf, hne, ht => by
    have ih := inner14 hA s h0 tasks fin k hk ys (pre ++ [r]) (fun r' hr' => hf r' (by simpa using hr')) (fun r' hr' => hne r' (List.mem_cons_of_mem _ hr')) (fun j h => by
      have := ht j (by simpa using h)
      simpa using this)
    rw [List.length_append, List.length_singleton] at ih
    have hr : 0 ≤ fnd l r.2.1 := hf r (by simp)
    have htr : idx tasks (pre.length : Int) = some (task l r.2.1) := by
      rw [idx_nat, ht pre.length (by simp)]
      simp
    rw [forI, ih, htr, hk, (idx_task h0).1, List.all_cons]
    simp only [bindS, clash_task25 hA hr h0]
    unfold apt ovl
    rw [hne r (List.mem_cons_self ..)]
    cases decide (r.2.2.1 < s.2.2.2) with
    | false => simp
    | true =>
    cases decide (s.2.2.1 < r.2.2.2) with
    | false => simp
    | true =>
    cases (r.1 == s.1) with
    | true => rfl
    | false => cases clB (task l r.2.1) (task l s.2.1) <;> simp

theorem valid14 {l : List Tk} {w : List Bool} (hA : Acc l w) (plan : List Sf) (hp : ∀ s, s ∈ plan → In64 s) : D14 l w plan = some ((plan.length == l.length) && vAll l w [] plan) := by
  have hl : l.length ≤ maxLen := by have := hA.len; rw [maxLen_val]; omega
  rw [e14]
  by_cases he : plan.length = l.length
  case neg =>
    rw [show ((List.length plan : Int) != (List.length l : Int)) = true by simpa using fun e => he (by omega), show (plan.length == l.length) = false by simpa using he]; rfl
  rw [show ((List.length plan : Int) != (List.length l : Int)) = false by simp [he], show (plan.length == l.length) = true by simpa using he, condF, Bool.true_and]
  have hpl : plan.length ≤ maxLen := by rw [he]; exact hl
  unfold lp14_3
  have := iter_nat (ρ := Bool) (step := fun (F : (List Tk × List Bool × List Sf × List Tk × List Sf × Int × Int) → Option Bool) ((l1, winch1, plan1, tasks, v, v1, v2) : (List Tk) × (List (Bool)) × (List Sf) × (List Tk) × (List Sf) × Int × Int) =>
    bif decide (v2 < v1) then (
      (idx v v2).bind fun e =>
      (D22 l1 e.2.1).bind fun r =>
      bif decide (r < 0) then some false
      else (D22 tasks e.2.1).bind fun r1 =>
      bif decide (r1 ≥ 0) then some false
      else (idx l1 r).bind fun e1 =>
      (D24 e1 winch1 e).bind fun r2 =>
      bif (!r2) then some false
      else (idx l1 r).bind fun e2 =>
      bif (Nat.ble ((List.length tasks + List.length [e2]) * 48) appendLimit && Nat.ble (List.length tasks + List.length [e2]) 9223372036854775807) then (
        bif (decide (0 ≤ (0 : Int)) && (decide ((0 : Int) ≤ v2) && decide ((v2 : Int) ≤ (List.length plan1 : Int)))) then lp14_1 big F l1 winch1 plan1 (tasks ++ [e2]) e r v v1 v2 (List.drop (Int.toNat 0) (List.take (Int.toNat v2) plan1)) (List.length (List.drop (Int.toNat 0) (List.take (Int.toNat v2) plan1)) : Int) 0
        else none)
      else none)
    else some true) plan.length (fun k (_ : Unit) => (l, w, plan, (plan.take k).map (fun r => task l r.2.1), plan, (plan.length : Int), (k : Int))) (fun k _ => ∀ j (h : j < plan.length), j < k → 0 ≤ fnd l plan[j].2.1) (fun k _ => vAll l w (plan.take k) (plan.drop k)) (fun F k hk _ hI hF => ?_) (fun F _ _ => ?_) (n := big) (len_lt_big hpl) () (fun _ _ h => by omega)
  · exact this
  · have hl6 := hA.len
    have hkt : (plan.take k).length = k := by rw [List.length_take]; omega
    have hin64 := hp _ (List.getElem_mem hk)
    have htl : ((plan.take k).map (fun r => task l r.2.1)).length ≤ maxLen := by rw [List.length_map, hkt]; omega
    simp only [dec_lt hk, condT, idx_get hk, bindS, find22 l _ hl, find22 _ _ htl]
    rw [List.drop_eq_getElem_cons hk, show vAll l w (plan.take k) (plan[k] :: plan.drop (k + 1)) = (okAt l w (plan.take k) plan[k] && vAll l w (plan.take k ++ [plan[k]]) (plan.drop (k + 1))) from rfl, ← List.take_succ_eq_append_getElem hk]
    unfold okAt
    by_cases h0 : 0 ≤ fnd l plan[k].2.1
    case neg => rw [decide_eq_false h0, decide_eq_true (show fnd l plan[k].2.1 < 0 by omega)]; rfl
    rw [decide_eq_true h0, decide_eq_false (show ¬ fnd l plan[k].2.1 < 0 by omega), Bool.true_and, condF, (idx_task h0).1]
    simp only [bindS, fits24 (task l plan[k].2.1) w plan[k] hin64]
    have hfnds : ∀ r, r ∈ plan.take k → 0 ≤ fnd l r.2.1 := by
      intro r hr
      obtain ⟨j, hj, rfl⟩ := List.mem_take_iff_getElem.1 hr
      exact hI j (by omega) (by omega)
    have hany : decide (fnd ((plan.take k).map (fun r => task l r.2.1)) plan[k].2.1 ≥ 0) = (plan.take k).any (fun r => r.2.1 == plan[k].2.1) := by
      unfold fnd
      rw [findI_ge, List.any_map]
      rw [Bool.eq_iff_iff, List.any_eq_true, List.any_eq_true]
      constructor
      · rintro ⟨r, hr, e⟩
        refine ⟨r, hr, ?_⟩
        simp only [Function.comp_apply] at e
        rw [(idx_task (hfnds r hr)).2.2] at e
        exact e
      · rintro ⟨r, hr, e⟩
        refine ⟨r, hr, ?_⟩
        simp only [Function.comp_apply]
        rw [(idx_task (hfnds r hr)).2.2]
        exact e
    rw [hany]
    cases han : (plan.take k).any (fun r => r.2.1 == plan[k].2.1) with
    | true =>
      rw [condT]
      have : (plan.take k).all (fun r => apt l r plan[k]) = false := by
        rw [List.any_eq_true] at han
        obtain ⟨r, hr, e⟩ := han
        rw [List.all_eq_false]
        refine ⟨r, hr, ?_⟩
        unfold apt
        rw [e]; simp
      rw [this]
      simp
    | false =>
    rw [condF]
    cases hfit : fitB (task l plan[k].2.1) w plan[k] with
    | false => rfl
    | true =>
    have hF := hF () (fun j h hj => by
      by_cases e : j = k
      · subst e; exact h0
      · exact hI j h (by omega))
    have hgrow : (Nat.ble ((List.length ((plan.take k).map (fun r => task l r.2.1)) + List.length [task l plan[k].2.1]) * 48) appendLimit && Nat.ble (List.length ((plan.take k).map (fun r => task l r.2.1)) + List.length [task l plan[k].2.1]) 9223372036854775807) = true :=
      grows (by rw [List.length_map, hkt]; simp only [List.length_singleton]; unfold appendLimit; omega) (by decide)
    have hcut : (decide (0 ≤ (0 : Int)) && (decide ((0 : Int) ≤ (k : Int)) && decide (((k : Int) : Int) ≤ (List.length plan : Int)))) = true := by simp; omega
    have hdt : List.drop (Int.toNat 0) (List.take (Int.toNat (k : Int)) plan) = plan.take k := by rw [show Int.toNat 0 = 0 from rfl, List.drop_zero, Int.toNat_natCast]
    have hmap : (plan.take k).map (fun r => task l r.2.1) ++ [task l plan[k].2.1] = (plan.take (k + 1)).map (fun r => task l r.2.1) := by
      rw [List.take_succ_eq_append_getElem hk, List.map_append]; rfl
    have hin := inner14 hA plan[k] h0 ((plan.take (k + 1)).map (fun r => task l r.2.1)) (fun (_ : Unit) => F (l, w, plan, (plan.take (k + 1)).map (fun r => task l r.2.1), plan, (plan.length : Int), ((k + 1 : Nat) : Int))) _ rfl (plan.take k) [] (fun r hr => hfnds r (by simpa using hr))
      (fun r hr => by
        rw [List.any_eq_false] at han
        simpa using han r hr)
      (fun j h => by
        have h : j < (plan.take k).length := by simpa using h
        simp only [List.nil_append]
        rw [List.getElem?_map, List.getElem?_eq_getElem (by rw [List.length_take]; omega)]
        simp)
    rw [List.length_nil] at hin
    simp only [hgrow, hcut, hdt, condT, condF, Bool.not_true, hmap, f14_1 F l w plan _ plan[k] _ plan (plan.length : Int) (k : Int) (plan.take k) (by rw [hkt]; omega), wrap_succ hk hpl]
    rw [hin, hF, Bool.true_and]
    cases (plan.take k).all (fun r => apt l r plan[k]) <;> rfl
  · simp only [dec_end, condF, List.drop_length]
    rfl

/-! End -/
def endF (t : Int) : Nat → List Sf → Int
  | _, [] => t
  | k, s :: l => bif ((k : Int) == 0) then endF s.2.2.2 (k + 1) l else bif decide (s.2.2.2 > t) then endF s.2.2.2 (k + 1) l else endF t (k + 1) l
theorem end_loop : ∀ (l : List Sf) (k : Nat) (t : Int), forI (fun ix (el : Sf) (t : Int) K => (bif ((ix : Int) == 0) then K el.2.2.2 else bif decide (el.2.2.2 > t) then K el.2.2.2 else K t : Option Int)) (fun (t : Int) => (some t : Option Int)) k l t = some (endF t k l)
  | [], _, _ => rfl
  | s :: l, k, t => by
    rw [forI, end_loop l, end_loop l, show endF t k (s :: l) = (bif ((k : Int) == 0) then endF s.2.2.2 (k + 1) l else bif decide (s.2.2.2 > t) then endF s.2.2.2 (k + 1) l else endF t (k + 1) l) from rfl]
    cases ((k : Int) == 0) <;> cases decide (s.2.2.2 > t) <;> rfl
theorem end16 (plan : List Sf) (hl : plan.length ≤ maxLen) : D16 plan = some (endF 0 0 plan) := by rw [e16, f16_1 0 plan hl, end_loop]
theorem end17 (plan : List Sf) (hl : plan.length ≤ maxLen) : D17 plan = some (endF 0 0 plan) := by rw [e17, f17_1 plan 0 hl, end_loop]

theorem accepted13 (l : List Tk) (w : List Bool) : ∃ b, D13 l w = some b ∧ (b = true → Acc l w) := by
  rw [e13, right12]
  simp only [bindS]
  cases decide ((List.length l : Int) ≤ 6) with
  | false => exact ⟨false, rfl, fun h => by cases h⟩
  | true =>
  cases decide ((List.length w : Int) ≤ 3) with
  | false => exact ⟨false, rfl, fun h => by cases h⟩
  | true => exact ⟨rightV l w == 0, rfl, fun h => (acc_iff l w).1 (by simpa using h)⟩
theorem valid_shifts {plan : List Sf} (h : Valid (.sl shiftTy) plan) : ∀ s, s ∈ plan → In64 s := by
  intro s hs
  have h1 := h.2 s hs
  exact ⟨(valid_i64 h1.2.2.1).2, (valid_i64 h1.2.2.2).2, (valid_i64 h1.1).2⟩
theorem law4 (x : (pk ps4).den) (hx : Valid (pk ps4) x) : d4 x = some true := by
  obtain ⟨l, w, plan⟩ := x
  have hp : Valid (.sl shiftTy) plan := hx.2.2
  show D4 l w plan = some true
  rw [e4, aliveD, bindS]
  obtain ⟨b, hb, hA⟩ := accepted13 l w
  rw [hb, bindS]
  cases b with
  | false => rfl
  | true =>
  have hA := hA rfl
  rw [valid14 hA plan (valid_shifts hp), valid15 hA plan (valid_shifts hp), end16 plan hp.1, end17 plan hp.1]
  simp only [bindS, beq_self_eq_true]
  cases decide ((List.length plan : Int) > 50) <;> rfl
end Go.Proofs.Ythjplaicophnnaa.D
end
