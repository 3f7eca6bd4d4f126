import Derived.Test.YtbapfiaglcllnaaGD27
namespace Go.GD
open Go
def Tot {ρ : Type} (o : Option ρ) : Prop := ∃ r, o = some r
end Go.GD
