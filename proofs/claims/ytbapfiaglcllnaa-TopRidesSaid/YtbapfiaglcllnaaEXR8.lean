import Derived.Test.YtbapfiaglcllnaaXRall
import Derived.Test.YtbapfiaglcllnaaEXJall
import Derived.Test.YtbapfiaglcllnaaEXT31
open Go Go.GD Go.Proofs
namespace Go.Proofs.Ytbapfiaglcllnaa.D
noncomputable def D28 (a0 : List (Int)) : Option ((List ((Int) × ((Int) × ((Int) × ((Int) × ((Int) × ((Int) × (Int)))))))) × ((Int) × (Int))) := d28 a0
noncomputable def D8 (a0 : List (Int)) : Option ((List ((Int) × ((Int) × ((Int) × ((Int) × ((Int) × ((Int) × (Int)))))))) × (Int)) := d8 a0
theorem e8 (b : List (Int)) : D8 b = (
  (D28 b).bind fun r =>
  some (r.1, r.2.1) : Option ((List ((Int) × ((Int) × ((Int) × ((Int) × ((Int) × ((Int) × (Int)))))))) × (Int))) := by kernel_rfl
noncomputable def D15 (a0 : List ((Int) × ((Int) × ((Int) × ((Int) × ((Int) × ((Int) × (Int)))))))) (a1 : List ((Int) × ((Int) × ((Int) × ((Int) × ((Int) × ((Int) × (Int)))))))) : Option ((List ((Int) × ((Int) × ((Int) × ((Int) × ((Int) × ((Int) × (Int)))))))) × (Int)) := d15 (a0, a1)
noncomputable def D12 (a0 : List ((Int) × ((Int) × ((Int) × ((Int) × ((Int) × ((Int) × (Int)))))))) (a1 : (Int) × ((Int) × ((Int) × ((Int) × ((Int) × ((Int) × (Int))))))) : Option ((List ((Int) × ((Int) × ((Int) × ((Int) × ((Int) × ((Int) × (Int)))))))) × ((Bool) × (Int))) := d12 (a0, a1)
theorem e12 (l : List ((Int) × ((Int) × ((Int) × ((Int) × ((Int) × ((Int) × (Int)))))))) (r : (Int) × ((Int) × ((Int) × ((Int) × ((Int) × ((Int) × (Int))))))) : D12 l r = (
  (D37 r).bind fun r1 =>
  bif (!r1) then some (([] : List ((Int) × ((Int) × ((Int) × ((Int) × ((Int) × ((Int) × (Int)))))))), false, 2)
  else (D15 l [r]).bind fun r2 =>
  bif (r2.2 != 0) then some (([] : List ((Int) × ((Int) × ((Int) × ((Int) × ((Int) × ((Int) × (Int)))))))), false, r2.2)
  else some (r2.1, decide ((List.length r2.1 : Int) > (List.length l : Int)), 0) : Option ((List ((Int) × ((Int) × ((Int) × ((Int) × ((Int) × ((Int) × (Int)))))))) × ((Bool) × (Int)))) := by kernel_rfl
noncomputable def D5  : Option (Bool) := d5 ()
end Go.Proofs.Ytbapfiaglcllnaa.D
