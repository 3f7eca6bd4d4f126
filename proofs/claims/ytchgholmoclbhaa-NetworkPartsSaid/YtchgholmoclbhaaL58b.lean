import Derived.Test.YtchgholmoclbhaaL58
open Go Go.GD Go.Proofs
namespace Go.Proofs.Ytchgholmoclbhaa.D
theorem law3 (x : (pk ps3).den) (h : Valid (pk ps3) x) : d3 x = some true := plays x.1 x.2 h.2.1
end Go.Proofs.Ytchgholmoclbhaa.D
