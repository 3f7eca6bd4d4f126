import Derived.Test.YtbapfiaglcllnaaXT24a
open Go Go.GD Go.Proofs
namespace Go.Proofs.Ytbapfiaglcllnaa.D
noncomputable def D51 (a0 : List (Int)) : Option (Int) := d51 a0
noncomputable def lp51_1 (fuel : Nat)  (zero₀ : Int) (v₀ : List (Int)) (v1₀ : Int) (v2₀ : Int) : Option (Int) :=
  iter (fun F ((zero, v, v1, v2) : Int × (List (Int)) × Int × Int) =>
    bif decide (v2 < v1) then (
      (idx v v2).bind fun e =>
      bif (e != zero) then some e
      else F (zero, v, v1, IntKind.i64.wrap (v2 + 1)))
    else some zero) fuel (zero₀, v₀, v1₀, v2₀)
theorem f51_1  (zero : Int) (v : List (Int)) (hl : (v).length ≤ maxLen) : lp51_1 big zero v (List.length v : Int) 0 =
  forE (fun  el (_ : Unit) K =>
    (bif (el != zero) then some el
    else K () : Option (Int)))
    (fun (_ : Unit) =>
    (some zero : Option (Int))) v () := by
  refine iter_forE v (fun ix (_ : Unit) => (zero, v, (List.length v : Int), (ix : Int))) _ _ ?_ ?_ (len_lt_big hl) ()
  · rintro F k h _
    simp only [dec_lt h, condT, idx_get h, bindS, wrap_succ h hl]
  · rintro F _
    simp only [dec_end, condF]
theorem g51 (fuel : Nat) (vals : List (Int)) : (fnK tab env51 6 ann51 fuel Try.f51 [] ps51 rs51 true vals : Option (Int)) = (
  lp51_1 fuel 0 vals (List.length vals : Int) 0 : Option (Int)) := by kernel_rfl
theorem e51 (vals : List (Int)) : D51 vals = (
  lp51_1 big 0 vals (List.length vals : Int) 0 : Option (Int)) := g51 big vals
noncomputable def D94 (a0 : Int) : Option (Bool) := d94 a0
theorem e94 (x : Int) : D94 x = (
  some (x != x) : Option (Bool)) := by kernel_rfl
noncomputable def D52 (a0 : Int) (a1 : Int) : Option (Int) := d52 (a0, a1)
theorem e52 (x : Int) (y : Int) : D52 x y = (
  (D94 x).bind fun r =>
  (D94 y).bind fun r1 =>
  bif r then (
    bif r1 then some 0
    else some (-1))
  else bif r1 then some 1
  else bif decide (x < y) then some (-1)
  else bif decide (x > y) then some 1
  else some 0 : Option (Int)) := by kernel_rfl
end Go.Proofs.Ytbapfiaglcllnaa.D
