import Derived.Test.YtmmlfdnpgigfbaaE24
import Derived.Test.YtmmlfdnpgigfbaaGD29
section
open Go Go.GD Go.Proofs
namespace Go.Proofs.Ytmmlfdnpgigfbaa.D
abbrev Gp := List Int × List Int × List Of

theorem forN_any {α ρ : Type} (p : α → Bool) (r : ρ) (xs : List α) (fin : Unit → Option ρ) (m : Nat) (hm : m ≤ xs.length) :
    forN (fun ix (_ : Unit) K => (idx xs (ix : Int)).bind fun e => bif p e then some r else K ()) fin 0 m () = bif (xs.take m).any p then some r else fin () := by
  suffices h : ∀ (j k : Nat), k + j ≤ xs.length → forN (fun ix (_ : Unit) K => (idx xs (ix : Int)).bind fun e => bif p e then some r else K ()) fin k j () = bif ((xs.drop k).take j).any p then some r else fin () from by
    have := h m 0 (by omega)
    rwa [List.drop_zero] at this
  intro j
  induction j with
  | zero => intro k _; rfl
  | succ j ih =>
    intro k hk
    have hkl : k < xs.length := by omega
    rw [List.drop_eq_getElem_cons hkl, List.take_succ_cons, List.any_cons, forN, idx_get hkl, bindS]
    cases p xs[k] with
    | true => rfl
    | false => exact ih (k + 1) (by omega)

theorem has24 (s : List Of) (o : Of) (hl : s.length ≤ maxLen) : D24 s (fun y => D25 y o) = some (s.any fun y => y.1 == o.1) := by
  rw [e24, e33, f33_1 s _ hl]
  simp only [e25, bindS]
  rw [forI_find (fun y : Of => y.1 == o.1) s 0 (), bindS, findI_ge]

/-! Right -/
def okAP (x : Int × Int) : Bool := !decide (x.1 < 0) && (!decide (x.1 > 120) && (!decide (x.2 < 0) && !decide (x.2 > 100000000)))
def okO (o : Of) : Bool := !decide (o.1 < 1) && (!decide (o.1 > 9999) && (!decide (o.2.1 < 0) && (!decide (o.2.1 > 8) && (!decide (o.2.2.1 < 0) && (!decide (o.2.2.1 > 8) && (!decide (o.2.2.2 < 0) && !decide (o.2.2.2 > 100000000)))))))
def chkO (pre : List Of) (o : Of) : Int := bif okO o then (bif pre.any (fun y => y.1 == o.1) then 7 else 0) else 2
def rightO : List Of → List Of → Int
  | _, [] => 0
  | pre, o :: l => bif chkO pre o == 0 then rightO (pre ++ [o]) l else chkO pre o
def rightV (g : Gp) : Int :=
  bif decide ((List.length g.1 : Int) > 8) then 4 else bif decide ((List.length g.2.2 : Int) > 8) then 4 else bif ((List.length g.2.1 : Int) != (List.length g.1 : Int)) then 3
  else bif (g.1.zip g.2.1).all okAP then rightO [] g.2.2 else 2

theorem offers12 (l : List Of) (hl : l.length ≤ maxLen) : lp12_1 big l l (List.length l : Int) 0 = some (rightO [] l) := by
  rw [f12_1 l l hl]
  suffices h : ∀ (ys pre : List Of), l = pre ++ ys → forI (fun ix el (_ : Unit) K =>
    (bif decide (el.1 < 1) then some 2
    else bif decide (el.1 > 9999) then some 2
    else bif decide (el.2.2.2 < 0) then some 2
    else bif decide (el.2.2.2 > 100000000) then some 2
    else bif decide (el.2.1 < 0) then some 2
    else bif decide (el.2.1 > 8) then some 2
    else bif decide (el.2.2.1 < 0) then some 2
    else bif decide (el.2.2.1 > 8) then some 2
    else bif (decide (0 ≤ (0 : Int)) && (decide ((0 : Int) ≤ (ix : Int)) && decide (((ix : Int) : Int) ≤ (List.length l : Int)))) then (
      (D24 (List.drop (Int.toNat 0) (List.take (Int.toNat (ix : Int)) l)) (fun y => D25 y el)).bind fun r =>
      bif r then some 7
      else K ())
    else none : Option (Int)))
    (fun (_ : Unit) => (some 0 : Option (Int))) pre.length ys () = some (rightO pre ys) from h l [] rfl
  intro ys
  induction ys with
  | nil => intro pre _; rfl
  | cons a ys ih =>
    intro pre e
    have hpl : pre.length ≤ l.length := by rw [e]; simp
    have ht : List.drop (Int.toNat 0) (List.take (Int.toNat (pre.length : Int)) l) = pre := by
      rw [show Int.toNat 0 = 0 from rfl, List.drop_zero, Int.toNat_natCast, e, List.take_left]
    have hin : (decide (0 ≤ (0 : Int)) && (decide ((0 : Int) ≤ (pre.length : Int)) && decide (((pre.length : Int) : Int) ≤ (List.length l : Int)))) = true := by
      simp; omega
    have ihh := ih (pre ++ [a]) (by rw [e]; simp)
    rw [List.length_append, List.length_singleton] at ihh
    rw [forI, ihh]
    simp only [hin, ht, condT, has24 pre a (by omega), bindS]
    rw [show rightO pre (a :: ys) = (bif chkO pre a == 0 then rightO (pre ++ [a]) ys else chkO pre a) from rfl]
    unfold chkO okO
    cases decide (a.1 < 1) <;> cases decide (a.1 > 9999) <;> cases decide (a.2.2.2 < 0) <;> cases decide (a.2.2.2 > 100000000) <;> cases decide (a.2.1 < 0) <;> cases decide (a.2.1 > 8) <;> cases decide (a.2.2.1 < 0) <;> cases decide (a.2.2.1 > 8) <;> first
      | rfl
      | (cases pre.any (fun b => b.1 == a.1) <;> rfl)

theorem right12 (g : Gp) (h40 : g.1.length ≤ 40 ∧ g.2.2.length ≤ 40) : D12 g.1 g.2.1 g.2.2 = some (rightV g) := by
  obtain ⟨ages, prices, offers⟩ := g
  rw [e12]
  unfold rightV
  cases h1 : decide ((List.length ages : Int) > 8) with
  | true => rfl
  | false =>
  cases h2 : decide ((List.length offers : Int) > 8) with
  | true => rfl
  | false =>
  cases h3 : ((List.length prices : Int) != (List.length ages : Int)) with
  | true => rfl
  | false =>
  have hl : ages.length ≤ maxLen := by rw [maxLen_val]; have := h40.1; simp only [] at this; omega
  have ho : offers.length ≤ maxLen := by rw [maxLen_val]; have := h40.2; simp only [] at this; omega
  have hpl : prices.length = ages.length := by
    have : (prices.length : Int) = (ages.length : Int) := by simpa using h3
    omega
  simp only [condF]
  rw [f12_3 ages prices offers hl, offers12 offers ho]
  suffices h : ∀ (ys : List Int) (k : Nat), k + ys.length = prices.length → forI (fun ix el (_ : Unit) K =>
    (bif decide (el < 0) then some 2
    else bif decide (el > 120) then some 2
    else (idx prices (ix : Int)).bind fun e2 =>
    bif decide (e2 < 0) then some 2
    else (idx prices (ix : Int)).bind fun e3 =>
    bif decide (e3 > 100000000) then some 2
    else K () : Option (Int)))
    (fun (_ : Unit) => (some (rightO [] offers) : Option (Int))) k ys () = some (bif (ys.zip (prices.drop k)).all okAP then rightO [] offers else 2) from by
    have := h ages 0 (by omega)
    rw [List.drop_zero] at this
    exact this
  intro ys
  induction ys with
  | nil => intro k _; rfl
  | cons a ys ih =>
    intro k hk
    rw [List.length_cons] at hk
    have hkl : k < prices.length := by omega
    rw [forI, ih (k + 1) (by omega), idx_get hkl, List.drop_eq_getElem_cons hkl, List.zip_cons_cons, List.all_cons]
    simp only [bindS, okAP]
    cases decide (a < 0) <;> cases decide (a > 120) <;> cases decide (prices[k] < 0) <;> cases decide (prices[k] > 100000000) <;> rfl

theorem price26 (n : Int) : D26 n = some (!decide (n < 0) && !decide (n > 100000000)) := by
  rw [e26]
  by_cases h : n < 0
  · rw [decide_eq_true h, decide_eq_false (show ¬ n ≥ 0 by omega)]; rfl
  · rw [decide_eq_false h, decide_eq_true (show n ≥ 0 by omega)]
    by_cases h2 : n > 100000000
    · rw [decide_eq_true h2, decide_eq_false (show ¬ n ≤ 100000000 by omega)]; rfl
    · rw [decide_eq_false h2, decide_eq_true (show n ≤ 100000000 by omega)]; rfl

theorem offers13 (l : List Of) (hl : l.length ≤ maxLen) : lp13_3 big l 0 = some (rightO [] l) := by
  unfold lp13_3
  have := iter_nat (ρ := Int) (step := fun (F1 : (List Of × Int) → Option Int) ((offers2, i1) : (List Of) × Int) =>
    bif decide (i1 < (List.length offers2 : Int)) then (
      (idx offers2 i1).bind fun e =>
      bif decide (e.1 < 1) then some 2
      else bif decide (e.1 > 9999) then some 2
      else bif decide (e.2.1 < 0) then some 2
      else bif decide (e.2.1 > 8) then some 2
      else bif decide (e.2.2.1 < 0) then some 2
      else bif decide (e.2.2.1 > 8) then some 2
      else (D26 e.2.2.2).bind fun r =>
      bif (!r) then some 2
      else lp13_1 big F1 offers2 i1 e 0)
    else some 0) l.length (fun k (_ : Unit) => (l, (k : Int))) (fun _ _ => True) (fun k _ => rightO (l.take k) (l.drop k)) (fun F k hk _ _ hF => ?_) (fun F _ _ => ?_) (n := big) (len_lt_big hl) () trivial
  · exact this
  · have hF := hF () trivial
    have hkm : (k : Int) ≤ 9223372036854775807 := by rw [maxLen_val] at hl; omega
    simp only [dec_lt hk, condT, idx_get hk, bindS, price26, f13_1 F l k l[k] hkm, wrap_succ hk hl]
    rw [forN_any (fun e : Of => e.1 == l[k].1) 7 l _ (Int.toNat (k : Int)) (by rw [Int.toNat_natCast]; omega), Int.toNat_natCast]
    rw [List.drop_eq_getElem_cons hk, show rightO (l.take k) (l[k] :: l.drop (k + 1)) = (bif chkO (l.take k) l[k] == 0 then rightO (l.take k ++ [l[k]]) (l.drop (k + 1)) else chkO (l.take k) l[k]) from rfl, ← List.take_succ_eq_append_getElem hk, hF]
    unfold chkO okO
    cases decide (l[k].1 < 1) <;> cases decide (l[k].1 > 9999) <;> cases decide (l[k].2.1 < 0) <;> cases decide (l[k].2.1 > 8) <;> cases decide (l[k].2.2.1 < 0) <;> cases decide (l[k].2.2.1 > 8) <;> cases decide (l[k].2.2.2 < 0) <;> cases decide (l[k].2.2.2 > 100000000) <;> first
      | rfl
      | (cases (l.take k).any (fun b => b.1 == l[k].1) <;> rfl)
  · simp only [dec_end, condF, List.drop_length]
    rfl

theorem right13 (g : Gp) (h40 : g.1.length ≤ maxLen ∧ g.2.2.length ≤ maxLen) : D13 g.1 g.2.1 g.2.2 = some (rightV g) := by
  obtain ⟨ages, prices, offers⟩ := g
  rw [e13]
  unfold rightV
  cases h1 : decide ((List.length ages : Int) > 8) with
  | true => rfl
  | false =>
  cases h2 : decide ((List.length offers : Int) > 8) with
  | true => rfl
  | false =>
  cases h3 : ((List.length prices : Int) != (List.length ages : Int)) with
  | true => rfl
  | false =>
  have hpl : prices.length = ages.length := by
    have : (prices.length : Int) = (ages.length : Int) := by simpa using h3
    omega
  simp only [condF]
  rw [f13_4 ages prices offers h40.1, offers13 offers h40.2]
  suffices h : ∀ (ys : List Int) (k : Nat), k + ys.length = prices.length → forI (fun ix el (_ : Unit) K =>
    (bif decide (el < 0) then some 2
    else bif decide (el > 120) then some 2
    else (idx prices (ix : Int)).bind fun e2 =>
    (D26 e2).bind fun r =>
    bif (!r) then some 2
    else K () : Option (Int)))
    (fun (_ : Unit) => (some (rightO [] offers) : Option (Int))) k ys () = some (bif (ys.zip (prices.drop k)).all okAP then rightO [] offers else 2) from by
    have := h ages 0 (by omega)
    rw [List.drop_zero] at this
    exact this
  intro ys
  induction ys with
  | nil => intro k _; rfl
  | cons a ys ih =>
    intro k hk
    rw [List.length_cons] at hk
    have hkl : k < prices.length := by omega
    rw [forI, ih (k + 1) (by omega), idx_get hkl, List.drop_eq_getElem_cons hkl, List.zip_cons_cons, List.all_cons]
    simp only [bindS, price26, okAP]
    cases decide (a < 0) <;> cases decide (a > 120) <;> cases decide (prices[k] < 0) <;> cases decide (prices[k] > 100000000) <;> rfl

theorem law3 (x : (pk ps3).den) (hx : Valid (pk ps3) x) : d3 x = some true := by
  have g : Gp := x
  show D3 x = some true
  have h1 : (x : Gp).1.length ≤ maxLen := hx.1.1
  have h2 : (x : Gp).2.2.length ≤ maxLen := hx.2.2.1
  rw [e3, aliveD, bindS, e11]
  cases a1 : decide ((List.length (x : Gp).1 : Int) ≤ 40) with
  | false => rfl
  | true =>
  cases decide ((List.length (x : Gp).2.1 : Int) ≤ 40) with
  | false => rfl
  | true =>
  cases a3 : decide ((List.length (x : Gp).2.2 : Int) ≤ 40) with
  | false => rfl
  | true =>
  simp only [decide_eq_true_eq] at a1 a3
  simp only [condT, bindS]
  rw [right12 x ⟨by omega, by omega⟩, right13 x ⟨h1, h2⟩, bindS, bindS, beq_self_eq_true]
  rfl
end Go.Proofs.Ytmmlfdnpgigfbaa.D
end
