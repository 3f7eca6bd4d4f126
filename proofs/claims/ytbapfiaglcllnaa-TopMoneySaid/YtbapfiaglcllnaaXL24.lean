import Derived.Test.YtbapfiaglcllnaaEXT2
import Derived.Test.YtbapfiaglcllnaaGD29
open Go Go.GD Go.Proofs
namespace Go.Proofs.Ytbapfiaglcllnaa.D.Gr
abbrev Gp := List Int × List Int × List Of
theorem has24 (s : List Of) (o : Of) (hl : s.length ≤ maxLen) : D60 s (fun y => D61 y o) = some (s.any fun y => y.1 == o.1) := by
  rw [e60, e96, f96_1 s _ hl]
  simp only [e61, bindS]
  rw [forI_find (fun y : Of => y.1 == o.1) s 0 (), bindS, findI_ge]
def okAP (x : Int × Int) : Bool := !decide (x.1 < 0) && (!decide (x.1 > 120) && (!decide (x.2 < 0) && !decide (x.2 > 100000000)))
def okO (o : Of) : Bool := !decide (o.1 < 1) && (!decide (o.1 > 9999) && (!decide (o.2.1 < 0) && (!decide (o.2.1 > 8) && (!decide (o.2.2.1 < 0) && (!decide (o.2.2.1 > 8) && (!decide (o.2.2.2 < 0) && !decide (o.2.2.2 > 100000000)))))))
def chkO (pre : List Of) (o : Of) : Int := bif okO o then (bif pre.any (fun y => y.1 == o.1) then 7 else 0) else 2
def rightO : List Of → List Of → Int
  | _, [] => 0
  | pre, o :: l => bif chkO pre o == 0 then rightO (pre ++ [o]) l else chkO pre o
def rightV (g : Gp) : Int :=
  bif decide ((List.length g.1 : Int) > 8) then 4 else bif decide ((List.length g.2.2 : Int) > 8) then 4 else bif ((List.length g.2.1 : Int) != (List.length g.1 : Int)) then 3
  else bif (g.1.zip g.2.1).all okAP then rightO [] g.2.2 else 2
theorem offers12 (l : List Of) (hl : l.length ≤ maxLen) : lp22_1 big l l (List.length l : Int) 0 = some (rightO [] l) := by
  rw [f22_1 l l hl]
  suffices h : ∀ (ys pre : List Of), l = pre ++ ys → forI (fun ix el (_ : Unit) K =>
    (bif decide (el.1 < 1) then some 2
    else bif decide (el.1 > 9999) then some 2
    else bif decide (el.2.2.2 < 0) then some 2
    else bif decide (el.2.2.2 > 100000000) then some 2
    else bif decide (el.2.1 < 0) then some 2
    else bif decide (el.2.1 > 8) then some 2
    else bif decide (el.2.2.1 < 0) then some 2
    else bif decide (el.2.2.1 > 8) then some 2
    else bif (decide (0 ≤ (0 : Int)) && (decide ((0 : Int) ≤ (ix : Int)) && decide (((ix : Int) : Int) ≤ (List.length l : Int)))) then (
      (D60 (List.drop (Int.toNat 0) (List.take (Int.toNat (ix : Int)) l)) (fun y => D61 y el)).bind fun r =>
      bif r then some 7
      else K ())
    else none : Option (Int)))
    (fun (_ : Unit) => (some 0 : Option (Int))) pre.length ys () = some (rightO pre ys) from h l [] rfl
  intro ys
  induction ys with
  | nil => intro pre _; rfl
  | cons a ys ih =>
    intro pre e
    have hpl : pre.length ≤ l.length := by rw [e]; simp
    have ht : List.drop (Int.toNat 0) (List.take (Int.toNat (pre.length : Int)) l) = pre := by
      rw [show Int.toNat 0 = 0 from rfl, List.drop_zero, Int.toNat_natCast, e, List.take_left]
    have hin : (decide (0 ≤ (0 : Int)) && (decide ((0 : Int) ≤ (pre.length : Int)) && decide (((pre.length : Int) : Int) ≤ (List.length l : Int)))) = true := by
      simp; omega
    have ihh := ih (pre ++ [a]) (by rw [e]; simp)
    rw [List.length_append, List.length_singleton] at ihh
    rw [forI, ihh]
    simp only [hin, ht, condT, has24 pre a (by omega), bindS]
    rw [show rightO pre (a :: ys) = (bif chkO pre a == 0 then rightO (pre ++ [a]) ys else chkO pre a) from rfl]
    unfold chkO okO
    cases decide (a.1 < 1) <;> cases decide (a.1 > 9999) <;> cases decide (a.2.2.2 < 0) <;> cases decide (a.2.2.2 > 100000000) <;> cases decide (a.2.1 < 0) <;> cases decide (a.2.1 > 8) <;> cases decide (a.2.2.1 < 0) <;> cases decide (a.2.2.1 > 8) <;> first
      | rfl
      | (cases pre.any (fun b => b.1 == a.1) <;> rfl)
theorem right12 (g : Gp) (h40 : g.1.length ≤ 40 ∧ g.2.2.length ≤ 40) : D22 g.1 g.2.1 g.2.2 = some (rightV g) := by
  obtain ⟨ages, prices, offers⟩ := g
  rw [e22]
  unfold rightV
  cases h1 : decide ((List.length ages : Int) > 8) with
  | true => rfl
  | false =>
  cases h2 : decide ((List.length offers : Int) > 8) with
  | true => rfl
  | false =>
  cases h3 : ((List.length prices : Int) != (List.length ages : Int)) with
  | true => rfl
  | false =>
  have hl : ages.length ≤ maxLen := by rw [maxLen_val]; have := h40.1; simp only [] at this; omega
  have ho : offers.length ≤ maxLen := by rw [maxLen_val]; have := h40.2; simp only [] at this; omega
  have hpl : prices.length = ages.length := by
    have : (prices.length : Int) = (ages.length : Int) := by simpa using h3
    omega
  simp only [condF]
  rw [f22_3 ages prices offers hl, offers12 offers ho]
  suffices h : ∀ (ys : List Int) (k : Nat), k + ys.length = prices.length → forI (fun ix el (_ : Unit) K =>
    (bif decide (el < 0) then some 2
    else bif decide (el > 120) then some 2
    else (idx prices (ix : Int)).bind fun e2 =>
    bif decide (e2 < 0) then some 2
    else (idx prices (ix : Int)).bind fun e3 =>
    bif decide (e3 > 100000000) then some 2
    else K () : Option (Int)))
    (fun (_ : Unit) => (some (rightO [] offers) : Option (Int))) k ys () = some (bif (ys.zip (prices.drop k)).all okAP then rightO [] offers else 2) from by
    have := h ages 0 (by omega)
    rw [List.drop_zero] at this
    exact this
  intro ys
  induction ys with
  | nil => intro k _; rfl
  | cons a ys ih =>
    intro k hk
    rw [List.length_cons] at hk
    have hkl : k < prices.length := by omega
    rw [forI, ih (k + 1) (by omega), idx_get hkl, List.drop_eq_getElem_cons hkl, List.zip_cons_cons, List.all_cons]
    simp only [bindS, okAP]
    cases decide (a < 0) <;> cases decide (a > 120) <;> cases decide (prices[k] < 0) <;> cases decide (prices[k] > 100000000) <;> rfl
end Go.Proofs.Ytbapfiaglcllnaa.D.Gr
