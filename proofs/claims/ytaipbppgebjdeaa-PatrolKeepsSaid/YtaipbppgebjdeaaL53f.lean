import Derived.Test.YtaipbppgebjdeaaL53d
open Go Go.GD Go.Proofs
namespace Go.Proofs.Ytaipbppgebjdeaa.D
theorem inner29 (F : (Int × Int × Pt × Int) → Option Bool) (run t : Int) (p : Pt) (i : Nat) (hi : i < p.1.length) (hl : p.1.length ≤ maxLen) (hs : (p.1[i]).2.2.2.length ≤ maxLen) :
    lp29_1 big F run t p (i : Int) 0 = bif (p.1[i].1 == run) then (bif (p.1[i]).2.2.2.all (fun g => !decide (g.2.2 > t)) then F (run, t, p, ((i + 1 : Nat) : Int)) else some false) else F (run, t, p, ((i + 1 : Nat) : Int)) := by
  unfold lp29_1
  have h := iter_forE (p.1[i]).2.2.2 (fun k (_ : Unit) => (run, t, p, (i : Int), (k : Int))) (fun g (_ : Unit) K => bif (p.1[i].1 == run) then (bif decide (g.2.2 > t) then some false else K ()) else F (run, t, p, ((i + 1 : Nat) : Int)))
    (fun _ => F (run, t, p, ((i + 1 : Nat) : Int))) (step := (fun F1 ((run_2, t2, p2, i1, k_) : Int × Int × Pt × Int × Int) =>
      (idx p2.1 i1).bind fun e =>
      bif decide (k_ < (List.length e.2.2.2 : Int)) then (
        (idx p2.1 i1).bind fun e1 =>
        bif (e1.1 == run_2) then (
          (idx p2.1 i1).bind fun e2 =>
          (idx e2.2.2.2 k_).bind fun e3 =>
          bif decide (e3.2.2 > t2) then some false
          else F1 (run_2, t2, p2, i1, IntKind.i64.wrap (k_ + 1)))
        else F (run_2, t2, p2, IntKind.i64.wrap (i1 + 1)))
      else F (run_2, t2, p2, IntKind.i64.wrap (i1 + 1))))
    (fun F1 k h _ => by simp only [idx_get hi, bindS, dec_lt h, condT, idx_get h, wrap_succ h hs, wrap_succ hi hl])
    (fun F1 _ => by simp only [idx_get hi, bindS, dec_end, condF, wrap_succ hi hl]) (n := big) (len_lt_big hs) ()
  refine h.trans ?_
  cases p.1[i].1 == run with
  | false =>
    cases (p.1[i]).2.2.2 with
    | nil => rfl
    | cons g l => rfl
  | true =>
    simp only [condT]
    have : (fun (g : Sg) (_ : Unit) (K : Unit → Option Bool) => bif decide (g.2.2 > t) then some false else K ()) = (fun g (s : Unit) K => bif !decide (g.2.2 > t) then K s else some false) := by
      funext g s K
      cases decide (g.2.2 > t) <;> rfl
    rw [this, forE_all]
def late (p : Pt) (run t : Int) : Bool := p.1.all fun r => bif r.1 == run then r.2.2.2.all (fun g => !decide (g.2.2 > t)) else true
theorem late29 (p : Pt) (run t : Int) (hl : p.1.length ≤ maxLen) (hs : ∀ r, r ∈ p.1 → r.2.2.2.length ≤ maxLen) : D29 p run t = some (late p run t) := by
  rw [e29]
  unfold lp29_2
  have h := iter_forE p.1 (fun k (_ : Unit) => (run, t, p, (k : Int))) (fun r (s : Unit) K => bif (bif r.1 == run then r.2.2.2.all (fun g => !decide (g.2.2 > t)) else true) then K s else some false)
    (fun _ => some true) (step := (fun F ((run_1, t1, p1, i) : Int × Int × Pt × Int) =>
      bif decide (i < (List.length p1.1 : Int)) then lp29_1 big F run_1 t1 p1 i 0
      else some true))
    (fun F k h _ => by
      simp only [dec_lt h, condT]
      rw [inner29 F run t p k h hl (hs _ (List.getElem_mem h))]
      cases p.1[k].1 == run <;> rfl)
    (fun F _ => by simp only [dec_end, condF]) (n := big) (len_lt_big hl) ()
  refine h.trans ?_
  rw [forE_all, late]
  cases p.1.all fun r => bif r.1 == run then r.2.2.2.all (fun g => !decide (g.2.2 > t)) else true <;> rfl
end Go.Proofs.Ytaipbppgebjdeaa.D
