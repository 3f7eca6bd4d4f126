import Derived.Test.YtbapfiaglcllnaaEXT2
namespace Go.Proofs.Ytbapfiaglcllnaa.D
open Go Go.GD Go.Proofs
set_option maxRecDepth 10000000 in
theorem alive16 : D16 = some true := by kernel_rfl
end Go.Proofs.Ytbapfiaglcllnaa.D
