/-
  No cell of these rows narrows 'for every input' (looked for: loops, veiled, ifaces, maps, wideKeys, modest, calm, conditions, laid).
  DERIVED. THE GIVEN ROWS OF THIS SEAT. 7 by the template 'for every input the law returns true; each argument reads behind the call as it read before'; 0 by the template 'total and deterministic' (their statements: YtdbbbdjglpfnbaaTotals.lean).
  GIVEN WITH THE SEED: the statements are not yours to turn. If you find one false, say at which input.
  Laid BY PROGRAM, IN A SANDBOX (cutbox-rows.mjs): the forced cells as the released guide's own fill.sh prints them over the translation 44c526b4b0085603… (all of the seat's roots in one cut). By AI agents, Wed Nov 11 2026. No macro, syntax, notation, axiom, sorry.
-/
import Derived.Test.YtdbbbdjglpfnbaaChecked
import GoSem.Claim
import GoSem.ClaimJoined
import GoSem.ClaimMapViews
import Derived.JoinedTies
import Derived.KernelRfl
namespace Go.Proofs.Ytdbbbdjglpfnbaa
/- THE CELL 'sum', in the pinned program and in every row, IS THE sha256 OF THE DUMP (.gsa) THAT YtdbbbdjglpfnbaaProg.lean LOADS. Nothing in Lean hashes anything: it is a label: what it is worth is what the hold of that sum in a sandbox is worth. -/
noncomputable def Try.pinned : Pinned := { name := "ytdbbbdjglpfnbaa", sum := "44c526b4b00856033bb0facfb03b9e403065914a448bba8b6e7394c05aa48166", checked := Try.checked }
namespace Rows
def none {H : Type} : Left H := { results := [], args := [] }

/-- 'skiarealaw36.RefundDays': WHATEVER THE INPUT: true; the input reads as it did. -/
def refundDaysSpec : ChangeSpec := { name := "refundDays", fn := fun _ => fun
  | [d1, d2, d3] => { results := [.lit (.bool true)], args := [d1, d2, d3] }
  | _ => none }
def refundDaysRow : OpenClaim := { program := "ytdbbbdjglpfnbaa", sum := "44c526b4b00856033bb0facfb03b9e403065914a448bba8b6e7394c05aa48166", func := "skiarea/skiarealaw36.RefundDays", spec := "refundDays", apart := false }
def RefundDaysSaid : Prop := refundDaysRow.holds Try.pinned (OpenSpec.ofChange refundDaysSpec)

/-- ITS FALSE NEIGHBOUR: 'it returns false'. Refute it at one input. -/
def refundDaysWrong : ChangeSpec := { name := "refundDays", fn := fun _ => fun
  | [d1, d2, d3] => { results := [.lit (.bool false)], args := [d1, d2, d3] }
  | _ => none }
def RefundDaysWrongFalsely : Prop := refundDaysRow.holds Try.pinned (OpenSpec.ofChange refundDaysWrong)

/-- 'skiarealaw36.RefundUnused': WHATEVER THE INPUT: true; the input reads as it did. -/
def refundUnusedSpec : ChangeSpec := { name := "refundUnused", fn := fun _ => fun
  | [d1, d2, d3] => { results := [.lit (.bool true)], args := [d1, d2, d3] }
  | _ => none }
def refundUnusedRow : OpenClaim := { program := "ytdbbbdjglpfnbaa", sum := "44c526b4b00856033bb0facfb03b9e403065914a448bba8b6e7394c05aa48166", func := "skiarea/skiarealaw36.RefundUnused", spec := "refundUnused", apart := false }
def RefundUnusedSaid : Prop := refundUnusedRow.holds Try.pinned (OpenSpec.ofChange refundUnusedSpec)

/-- ITS FALSE NEIGHBOUR: 'it returns false'. Refute it at one input. -/
def refundUnusedWrong : ChangeSpec := { name := "refundUnused", fn := fun _ => fun
  | [d1, d2, d3] => { results := [.lit (.bool false)], args := [d1, d2, d3] }
  | _ => none }
def RefundUnusedWrongFalsely : Prop := refundUnusedRow.holds Try.pinned (OpenSpec.ofChange refundUnusedWrong)

/-- 'skiarealaw36.RefundCloseds': WHATEVER THE INPUT: true; the input reads as it did. -/
def refundClosedsSpec : ChangeSpec := { name := "refundCloseds", fn := fun _ => fun
  | [d1, d2, d3] => { results := [.lit (.bool true)], args := [d1, d2, d3] }
  | _ => none }
def refundClosedsRow : OpenClaim := { program := "ytdbbbdjglpfnbaa", sum := "44c526b4b00856033bb0facfb03b9e403065914a448bba8b6e7394c05aa48166", func := "skiarea/skiarealaw36.RefundCloseds", spec := "refundCloseds", apart := false }
def RefundClosedsSaid : Prop := refundClosedsRow.holds Try.pinned (OpenSpec.ofChange refundClosedsSpec)

/-- ITS FALSE NEIGHBOUR: 'it returns false'. Refute it at one input. -/
def refundClosedsWrong : ChangeSpec := { name := "refundCloseds", fn := fun _ => fun
  | [d1, d2, d3] => { results := [.lit (.bool false)], args := [d1, d2, d3] }
  | _ => none }
def RefundClosedsWrongFalsely : Prop := refundClosedsRow.holds Try.pinned (OpenSpec.ofChange refundClosedsWrong)

/-- 'skiarealaw36.RefundReduces': WHATEVER THE INPUT: true; the input reads as it did. -/
def refundReducesSpec : ChangeSpec := { name := "refundReduces", fn := fun _ => fun
  | [d1, d2] => { results := [.lit (.bool true)], args := [d1, d2] }
  | _ => none }
def refundReducesRow : OpenClaim := { program := "ytdbbbdjglpfnbaa", sum := "44c526b4b00856033bb0facfb03b9e403065914a448bba8b6e7394c05aa48166", func := "skiarea/skiarealaw36.RefundReduces", spec := "refundReduces", apart := false }
def RefundReducesSaid : Prop := refundReducesRow.holds Try.pinned (OpenSpec.ofChange refundReducesSpec)

/-- ITS FALSE NEIGHBOUR: 'it returns false'. Refute it at one input. -/
def refundReducesWrong : ChangeSpec := { name := "refundReduces", fn := fun _ => fun
  | [d1, d2] => { results := [.lit (.bool false)], args := [d1, d2] }
  | _ => none }
def RefundReducesWrongFalsely : Prop := refundReducesRow.holds Try.pinned (OpenSpec.ofChange refundReducesWrong)

/-- 'skiarealaw36.RefundBounds': WHATEVER THE INPUT: true; the input reads as it did. -/
def refundBoundsSpec : ChangeSpec := { name := "refundBounds", fn := fun _ => fun
  | [d1, d2, d3] => { results := [.lit (.bool true)], args := [d1, d2, d3] }
  | _ => none }
def refundBoundsRow : OpenClaim := { program := "ytdbbbdjglpfnbaa", sum := "44c526b4b00856033bb0facfb03b9e403065914a448bba8b6e7394c05aa48166", func := "skiarea/skiarealaw36.RefundBounds", spec := "refundBounds", apart := false }
def RefundBoundsSaid : Prop := refundBoundsRow.holds Try.pinned (OpenSpec.ofChange refundBoundsSpec)

/-- ITS FALSE NEIGHBOUR: 'it returns false'. Refute it at one input. -/
def refundBoundsWrong : ChangeSpec := { name := "refundBounds", fn := fun _ => fun
  | [d1, d2, d3] => { results := [.lit (.bool false)], args := [d1, d2, d3] }
  | _ => none }
def RefundBoundsWrongFalsely : Prop := refundBoundsRow.holds Try.pinned (OpenSpec.ofChange refundBoundsWrong)

/-- 'skiarealaw36.RefundWhole': WHATEVER THE INPUT: true; the input reads as it did. -/
def refundWholeSpec : ChangeSpec := { name := "refundWhole", fn := fun _ => fun
  | [d1, d2, d3] => { results := [.lit (.bool true)], args := [d1, d2, d3] }
  | _ => none }
def refundWholeRow : OpenClaim := { program := "ytdbbbdjglpfnbaa", sum := "44c526b4b00856033bb0facfb03b9e403065914a448bba8b6e7394c05aa48166", func := "skiarea/skiarealaw36.RefundWhole", spec := "refundWhole", apart := false }
def RefundWholeSaid : Prop := refundWholeRow.holds Try.pinned (OpenSpec.ofChange refundWholeSpec)

/-- ITS FALSE NEIGHBOUR: 'it returns false'. Refute it at one input. -/
def refundWholeWrong : ChangeSpec := { name := "refundWhole", fn := fun _ => fun
  | [d1, d2, d3] => { results := [.lit (.bool false)], args := [d1, d2, d3] }
  | _ => none }
def RefundWholeWrongFalsely : Prop := refundWholeRow.holds Try.pinned (OpenSpec.ofChange refundWholeWrong)

/-- 'skiarealaw36.RefundAll': WHATEVER THE INPUT: true; the input reads as it did. -/
def refundAllSpec : ChangeSpec := { name := "refundAll", fn := fun _ => fun
  | [d1, d2, d3] => { results := [.lit (.bool true)], args := [d1, d2, d3] }
  | _ => none }
def refundAllRow : OpenClaim := { program := "ytdbbbdjglpfnbaa", sum := "44c526b4b00856033bb0facfb03b9e403065914a448bba8b6e7394c05aa48166", func := "skiarea/skiarealaw36.RefundAll", spec := "refundAll", apart := false }
def RefundAllSaid : Prop := refundAllRow.holds Try.pinned (OpenSpec.ofChange refundAllSpec)

/-- ITS FALSE NEIGHBOUR: 'it returns false'. Refute it at one input. -/
def refundAllWrong : ChangeSpec := { name := "refundAll", fn := fun _ => fun
  | [d1, d2, d3] => { results := [.lit (.bool false)], args := [d1, d2, d3] }
  | _ => none }
def RefundAllWrongFalsely : Prop := refundAllRow.holds Try.pinned (OpenSpec.ofChange refundAllWrong)

/- THE SECOND FORM. 'bulk': how many values and letters a reading holds, each counted each time it is reached (what is shared counts as often as it is met; a slice's spare places count too). A statement '..UptoSaid' is the law's where the arguments, and the package variables that the reading takes, are together of bulk at most 1048576: NARROWER than '..Said'. Prove '..Said' where nothing that the law and all that it calls make is longer than what came in: it says more and counts as full. Else prove '..UptoSaid'. A law counts once. -/
mutual
def uptoBulk {H : Type} : DataW H → Nat
  | .lit (.string bytes) => bytes.length + 1
  | .lit _ => 1
  | .nil => 1
  | .ptr d => uptoBulk d + 1
  | .slice elems spare => uptoBulkAll elems + uptoBulkAll spare + 1
  | .agg parts => uptoBulkAll parts + 1
  | .iface _ d => uptoBulk d + 1
  | .map entries => uptoBulkEntries entries + 1
  | .held _ => 1
def uptoBulkAll {H : Type} : List (DataW H) → Nat
  | [] => 0
  | d :: r => uptoBulk d + uptoBulkAll r
def uptoBulkEntries {H : Type} : List (Lit × DataW H) → Nat
  | [] => 0
  | x :: r => uptoBulkEntry x + uptoBulkEntries r
def uptoBulkEntry {H : Type} : Lit × DataW H → Nat
  | (.string bytes, d) => bytes.length + uptoBulk d + 1
  | (_, d) => uptoBulk d + 1
 end
def uptoSmall : (H : Type) → List (DataW H) → Bool := fun _ ds => decide (uptoBulkAll ds ≤ 1048576)
def OpenSpec.upto (s : _root_.Go.ChangeSpec) : _root_.Go.OpenSpec := { _root_.Go.OpenSpec.ofChange s with cond := some uptoSmall }

/-- 'skiarealaw36.RefundDays', WHERE WHAT IT READS IS OF BULK AT MOST 1048576: true; the input reads as it did. -/
def refundDaysUptoRow : OpenClaim := { program := "ytdbbbdjglpfnbaa", sum := "44c526b4b00856033bb0facfb03b9e403065914a448bba8b6e7394c05aa48166", func := "skiarea/skiarealaw36.RefundDays", spec := "refundDays", apart := false, narrowed := true }
def RefundDaysUptoSaid : Prop := refundDaysUptoRow.holds Try.pinned (OpenSpec.upto refundDaysSpec)

/-- 'skiarealaw36.RefundUnused', WHERE WHAT IT READS IS OF BULK AT MOST 1048576: true; the input reads as it did. -/
def refundUnusedUptoRow : OpenClaim := { program := "ytdbbbdjglpfnbaa", sum := "44c526b4b00856033bb0facfb03b9e403065914a448bba8b6e7394c05aa48166", func := "skiarea/skiarealaw36.RefundUnused", spec := "refundUnused", apart := false, narrowed := true }
def RefundUnusedUptoSaid : Prop := refundUnusedUptoRow.holds Try.pinned (OpenSpec.upto refundUnusedSpec)

/-- 'skiarealaw36.RefundCloseds', WHERE WHAT IT READS IS OF BULK AT MOST 1048576: true; the input reads as it did. -/
def refundClosedsUptoRow : OpenClaim := { program := "ytdbbbdjglpfnbaa", sum := "44c526b4b00856033bb0facfb03b9e403065914a448bba8b6e7394c05aa48166", func := "skiarea/skiarealaw36.RefundCloseds", spec := "refundCloseds", apart := false, narrowed := true }
def RefundClosedsUptoSaid : Prop := refundClosedsUptoRow.holds Try.pinned (OpenSpec.upto refundClosedsSpec)

/-- 'skiarealaw36.RefundReduces', WHERE WHAT IT READS IS OF BULK AT MOST 1048576: true; the input reads as it did. -/
def refundReducesUptoRow : OpenClaim := { program := "ytdbbbdjglpfnbaa", sum := "44c526b4b00856033bb0facfb03b9e403065914a448bba8b6e7394c05aa48166", func := "skiarea/skiarealaw36.RefundReduces", spec := "refundReduces", apart := false, narrowed := true }
def RefundReducesUptoSaid : Prop := refundReducesUptoRow.holds Try.pinned (OpenSpec.upto refundReducesSpec)

/-- 'skiarealaw36.RefundBounds', WHERE WHAT IT READS IS OF BULK AT MOST 1048576: true; the input reads as it did. -/
def refundBoundsUptoRow : OpenClaim := { program := "ytdbbbdjglpfnbaa", sum := "44c526b4b00856033bb0facfb03b9e403065914a448bba8b6e7394c05aa48166", func := "skiarea/skiarealaw36.RefundBounds", spec := "refundBounds", apart := false, narrowed := true }
def RefundBoundsUptoSaid : Prop := refundBoundsUptoRow.holds Try.pinned (OpenSpec.upto refundBoundsSpec)

/-- 'skiarealaw36.RefundWhole', WHERE WHAT IT READS IS OF BULK AT MOST 1048576: true; the input reads as it did. -/
def refundWholeUptoRow : OpenClaim := { program := "ytdbbbdjglpfnbaa", sum := "44c526b4b00856033bb0facfb03b9e403065914a448bba8b6e7394c05aa48166", func := "skiarea/skiarealaw36.RefundWhole", spec := "refundWhole", apart := false, narrowed := true }
def RefundWholeUptoSaid : Prop := refundWholeUptoRow.holds Try.pinned (OpenSpec.upto refundWholeSpec)

/-- 'skiarealaw36.RefundAll', WHERE WHAT IT READS IS OF BULK AT MOST 1048576: true; the input reads as it did. -/
def refundAllUptoRow : OpenClaim := { program := "ytdbbbdjglpfnbaa", sum := "44c526b4b00856033bb0facfb03b9e403065914a448bba8b6e7394c05aa48166", func := "skiarea/skiarealaw36.RefundAll", spec := "refundAll", apart := false, narrowed := true }
def RefundAllUptoSaid : Prop := refundAllUptoRow.holds Try.pinned (OpenSpec.upto refundAllSpec)

end Rows
end Go.Proofs.Ytdbbbdjglpfnbaa
