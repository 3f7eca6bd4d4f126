import Derived.Test.YtbapfiaglcllnaaGDdd
import Derived.SizedLaws
namespace Go.GD
open Go Go.ChangeShapes Go.WideShapes Go.RowKit
def Light1 (P : Program) (T : TypeId) : (t : Ty) → t.den → Prop
  | .sl _, xs => ∀ e, P.underlying T = some (.slice e) → xs.length * P.bytesOf e ≤ reachBytes
  | _, _ => True
def Light (P : Program) : List TypeId → (ts : List Ty) → (pk ts).den → Prop
  | T :: _, [t], x => Light1 P T t x
  | T :: Ts, t :: t' :: ts, x => Light1 P T t x.1 ∧ Light P Ts (t' :: ts) x.2
  | _, _, _ => True
section
variable {H : Type} {enc : TypeId × Value → H} {P : Program} {w : World} {base : Nat} {sp : Nat → Bool} {held : Bool}
end
end Go.GD
