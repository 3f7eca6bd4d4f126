import Derived.Test.YtbapfiaglcllnaaXT46
import Derived.Test.YtbapfiaglcllnaaEXT24a
open Go Go.GD Go.Proofs
namespace Go.Proofs.Ytbapfiaglcllnaa.D
noncomputable def D87 (a0 : List ((Int) × (Int))) (a1 : ((Int) × (Int)) → Option (Bool)) : Option (List ((Int) × (Int))) := d87 (a0, a1)
noncomputable def D89 (a0 : (Int) × (Int)) : Option (Bool) := d89 a0
theorem e89 (s : (Int) × (Int)) : D89 s = (
  some (s.2 == 0) : Option (Bool)) := by kernel_rfl
noncomputable def D46 (a0 : List ((Int) × (Int))) : Option (List ((Int) × (Int))) := d46 a0
theorem e46 (l : List ((Int) × (Int))) : D46 l = (
  (D53 l).bind fun r =>
  bif (r != 0) then some ([] : List ((Int) × (Int)))
  else (D88 l).bind fun r1 =>
  (D87 r1 D89).bind fun r2 =>
  some r2 : Option (List ((Int) × (Int)))) := by kernel_rfl
end Go.Proofs.Ytbapfiaglcllnaa.D
