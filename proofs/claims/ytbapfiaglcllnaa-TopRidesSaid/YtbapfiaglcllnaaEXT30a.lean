import Derived.Test.YtbapfiaglcllnaaXT30a
import Derived.Test.YtbapfiaglcllnaaGDdd
open Go Go.GD Go.Proofs
namespace Go.Proofs.Ytbapfiaglcllnaa.D
noncomputable def D30 (a0 : List ((Int) × ((Int) × ((Int) × ((Int) × ((Int) × ((Int) × (Int)))))))) (a1 : ((Int) × ((Int) × ((Int) × ((Int) × ((Int) × ((Int) × (Int))))))) → Option (Bool)) : Option (Int) := d30 (a0, a1)
noncomputable def lp30_1 (fuel : Nat)  (s1₀ : List ((Int) × ((Int) × ((Int) × ((Int) × ((Int) × ((Int) × (Int)))))))) (f1₀ : ((Int) × ((Int) × ((Int) × ((Int) × ((Int) × ((Int) × (Int))))))) → Option (Bool)) (v₀ : Int) (v1₀ : Int) : Option (Int) :=
  iter (fun F ((s1, f1, v, v1) : (List ((Int) × ((Int) × ((Int) × ((Int) × ((Int) × ((Int) × (Int)))))))) × (((Int) × ((Int) × ((Int) × ((Int) × ((Int) × ((Int) × (Int))))))) → Option (Bool)) × Int × Int) =>
    bif decide (v1 < v) then (
      (idx s1 v1).bind fun e =>
      (f1 e).bind fun r =>
      bif r then some v1
      else F (s1, f1, v, IntKind.i64.wrap (v1 + 1)))
    else some (-1)) fuel (s1₀, f1₀, v₀, v1₀)
theorem f30_1  (s1 : List ((Int) × ((Int) × ((Int) × ((Int) × ((Int) × ((Int) × (Int)))))))) (f1 : ((Int) × ((Int) × ((Int) × ((Int) × ((Int) × ((Int) × (Int))))))) → Option (Bool)) (hl : (s1).length ≤ maxLen) : lp30_1 big s1 f1 (List.length s1 : Int) 0 =
  forI (fun ix el (_ : Unit) K =>
    ((f1 el).bind fun r =>
    bif r then some (ix : Int)
    else K () : Option (Int)))
    (fun (_ : Unit) =>
    (some (-1) : Option (Int))) 0 s1 () := by
  refine iter_forI_from s1 (fun ix (_ : Unit) => (s1, f1, (List.length s1 : Int), (ix : Int))) _ _ ?_ ?_ (k := 0) (Nat.zero_le _) (len_lt_big hl) ()
  · rintro F k h _
    simp only [dec_lt h, condT, idx_get h, bindS, wrap_succ h hl]
  · rintro F _
    simp only [dec_end, condF]
theorem g30 (fuel : Nat) (s : List ((Int) × ((Int) × ((Int) × ((Int) × ((Int) × ((Int) × (Int)))))))) (f : ((Int) × ((Int) × ((Int) × ((Int) × ((Int) × ((Int) × (Int))))))) → Option (Bool)) : (fnK tab env30 6 ann30 fuel Try.f30 [] ps30 rs30 true (s, f) : Option (Int)) = (
  lp30_1 fuel s f (List.length s : Int) 0 : Option (Int)) := by kernel_rfl
theorem e30 (s : List ((Int) × ((Int) × ((Int) × ((Int) × ((Int) × ((Int) × (Int)))))))) (f : ((Int) × ((Int) × ((Int) × ((Int) × ((Int) × ((Int) × (Int))))))) → Option (Bool)) : D30 s f = (
  lp30_1 big s f (List.length s : Int) 0 : Option (Int)) := g30 big s f
end Go.Proofs.Ytbapfiaglcllnaa.D
