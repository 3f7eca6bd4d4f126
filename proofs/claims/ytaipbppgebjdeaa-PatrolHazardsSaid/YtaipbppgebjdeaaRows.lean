/-
  No cell of these rows narrows 'for every input' (looked for: loops, veiled, ifaces, maps, wideKeys, modest, calm, conditions, laid).
  DERIVED. THE GIVEN ROWS OF THIS SEAT. 7 by the template 'for every input the law returns true; each argument reads behind the call as it read before'; 0 by the template 'total and deterministic' (their statements: YtaipbppgebjdeaaTotals.lean).
  GIVEN WITH THE SEED: the statements are not yours to turn. If you find one false, say at which input.
  Laid BY PROGRAM, IN A SANDBOX (cutbox-rows.mjs): the forced cells as the released guide's own fill.sh prints them over the translation 5cc1f8190b697fe3… (all of the seat's roots in one cut). By AI agents, Wed Nov 11 2026. No macro, syntax, notation, axiom, sorry.
-/
import Derived.Test.YtaipbppgebjdeaaChecked
import GoSem.Claim
import GoSem.ClaimJoined
import GoSem.ClaimMapViews
import Derived.JoinedTies
import Derived.KernelRfl
namespace Go.Proofs.Ytaipbppgebjdeaa
/- THE CELL 'sum', in the pinned program and in every row, IS THE sha256 OF THE DUMP (.gsa) THAT YtaipbppgebjdeaaProg.lean LOADS. Nothing in Lean hashes anything: it is a label: what it is worth is what the hold of that sum in a sandbox is worth. -/
noncomputable def Try.pinned : Pinned := { name := "ytaipbppgebjdeaa", sum := "5cc1f8190b697fe39f6bad3a1d8f657d90d33b7bfb2ba30205cedf329605b010", checked := Try.checked }
namespace Rows
def none {H : Type} : Left H := { results := [], args := [] }

/-- 'skiarealaw53.PatrolRight': WHATEVER THE INPUT: true; the input reads as it did. -/
def patrolRightSpec : ChangeSpec := { name := "patrolRight", fn := fun _ => fun
  | [d] => { results := [.lit (.bool true)], args := [d] }
  | _ => none }
def patrolRightRow : OpenClaim := { program := "ytaipbppgebjdeaa", sum := "5cc1f8190b697fe39f6bad3a1d8f657d90d33b7bfb2ba30205cedf329605b010", func := "skiarea/skiarealaw53.PatrolRight", spec := "patrolRight", unfollowed := true, recurses := true, apart := false }
def PatrolRightSaid : Prop := patrolRightRow.holds Try.pinned (OpenSpec.ofChange patrolRightSpec)

/-- ITS FALSE NEIGHBOUR: 'it returns false'. Refute it at one input. -/
def patrolRightWrong : ChangeSpec := { name := "patrolRight", fn := fun _ => fun
  | [d] => { results := [.lit (.bool false)], args := [d] }
  | _ => none }
def PatrolRightWrongFalsely : Prop := patrolRightRow.holds Try.pinned (OpenSpec.ofChange patrolRightWrong)

/-- 'skiarealaw53.PatrolSigns': WHATEVER THE INPUT: true; the input reads as it did. -/
def patrolSignsSpec : ChangeSpec := { name := "patrolSigns", fn := fun _ => fun
  | [d1, d2, d3] => { results := [.lit (.bool true)], args := [d1, d2, d3] }
  | _ => none }
def patrolSignsRow : OpenClaim := { program := "ytaipbppgebjdeaa", sum := "5cc1f8190b697fe39f6bad3a1d8f657d90d33b7bfb2ba30205cedf329605b010", func := "skiarea/skiarealaw53.PatrolSigns", spec := "patrolSigns", unfollowed := true, recurses := true, apart := false }
def PatrolSignsSaid : Prop := patrolSignsRow.holds Try.pinned (OpenSpec.ofChange patrolSignsSpec)

/-- ITS FALSE NEIGHBOUR: 'it returns false'. Refute it at one input. -/
def patrolSignsWrong : ChangeSpec := { name := "patrolSigns", fn := fun _ => fun
  | [d1, d2, d3] => { results := [.lit (.bool false)], args := [d1, d2, d3] }
  | _ => none }
def PatrolSignsWrongFalsely : Prop := patrolSignsRow.holds Try.pinned (OpenSpec.ofChange patrolSignsWrong)

/-- 'skiarealaw53.PatrolReports': WHATEVER THE INPUT: true; the input reads as it did. -/
def patrolReportsSpec : ChangeSpec := { name := "patrolReports", fn := fun _ => fun
  | [d1, d2, d3] => { results := [.lit (.bool true)], args := [d1, d2, d3] }
  | _ => none }
def patrolReportsRow : OpenClaim := { program := "ytaipbppgebjdeaa", sum := "5cc1f8190b697fe39f6bad3a1d8f657d90d33b7bfb2ba30205cedf329605b010", func := "skiarea/skiarealaw53.PatrolReports", spec := "patrolReports", unfollowed := true, recurses := true, apart := false }
def PatrolReportsSaid : Prop := patrolReportsRow.holds Try.pinned (OpenSpec.ofChange patrolReportsSpec)

/-- ITS FALSE NEIGHBOUR: 'it returns false'. Refute it at one input. -/
def patrolReportsWrong : ChangeSpec := { name := "patrolReports", fn := fun _ => fun
  | [d1, d2, d3] => { results := [.lit (.bool false)], args := [d1, d2, d3] }
  | _ => none }
def PatrolReportsWrongFalsely : Prop := patrolReportsRow.holds Try.pinned (OpenSpec.ofChange patrolReportsWrong)

/-- 'skiarealaw53.PatrolFits': WHATEVER THE INPUT: true; the input reads as it did. -/
def patrolFitsSpec : ChangeSpec := { name := "patrolFits", fn := fun _ => fun
  | [d1, d2, d3] => { results := [.lit (.bool true)], args := [d1, d2, d3] }
  | _ => none }
def patrolFitsRow : OpenClaim := { program := "ytaipbppgebjdeaa", sum := "5cc1f8190b697fe39f6bad3a1d8f657d90d33b7bfb2ba30205cedf329605b010", func := "skiarea/skiarealaw53.PatrolFits", spec := "patrolFits", unfollowed := true, recurses := true, apart := false }
def PatrolFitsSaid : Prop := patrolFitsRow.holds Try.pinned (OpenSpec.ofChange patrolFitsSpec)

/-- ITS FALSE NEIGHBOUR: 'it returns false'. Refute it at one input. -/
def patrolFitsWrong : ChangeSpec := { name := "patrolFits", fn := fun _ => fun
  | [d1, d2, d3] => { results := [.lit (.bool false)], args := [d1, d2, d3] }
  | _ => none }
def PatrolFitsWrongFalsely : Prop := patrolFitsRow.holds Try.pinned (OpenSpec.ofChange patrolFitsWrong)

/-- 'skiarealaw53.PatrolReady': WHATEVER THE INPUT: true; the input reads as it did. -/
def patrolReadySpec : ChangeSpec := { name := "patrolReady", fn := fun _ => fun
  | [d1, d2, d3] => { results := [.lit (.bool true)], args := [d1, d2, d3] }
  | _ => none }
def patrolReadyRow : OpenClaim := { program := "ytaipbppgebjdeaa", sum := "5cc1f8190b697fe39f6bad3a1d8f657d90d33b7bfb2ba30205cedf329605b010", func := "skiarea/skiarealaw53.PatrolReady", spec := "patrolReady", unfollowed := true, recurses := true, apart := false }
def PatrolReadySaid : Prop := patrolReadyRow.holds Try.pinned (OpenSpec.ofChange patrolReadySpec)

/-- ITS FALSE NEIGHBOUR: 'it returns false'. Refute it at one input. -/
def patrolReadyWrong : ChangeSpec := { name := "patrolReady", fn := fun _ => fun
  | [d1, d2, d3] => { results := [.lit (.bool false)], args := [d1, d2, d3] }
  | _ => none }
def PatrolReadyWrongFalsely : Prop := patrolReadyRow.holds Try.pinned (OpenSpec.ofChange patrolReadyWrong)

/-- 'skiarealaw53.PatrolHazards': WHATEVER THE INPUT: true; the input reads as it did. -/
def patrolHazardsSpec : ChangeSpec := { name := "patrolHazards", fn := fun _ => fun
  | [d1, d2, d3, d4] => { results := [.lit (.bool true)], args := [d1, d2, d3, d4] }
  | _ => none }
def patrolHazardsRow : OpenClaim := { program := "ytaipbppgebjdeaa", sum := "5cc1f8190b697fe39f6bad3a1d8f657d90d33b7bfb2ba30205cedf329605b010", func := "skiarea/skiarealaw53.PatrolHazards", spec := "patrolHazards", unfollowed := true, recurses := true, apart := false }
def PatrolHazardsSaid : Prop := patrolHazardsRow.holds Try.pinned (OpenSpec.ofChange patrolHazardsSpec)

/-- ITS FALSE NEIGHBOUR: 'it returns false'. Refute it at one input. -/
def patrolHazardsWrong : ChangeSpec := { name := "patrolHazards", fn := fun _ => fun
  | [d1, d2, d3, d4] => { results := [.lit (.bool false)], args := [d1, d2, d3, d4] }
  | _ => none }
def PatrolHazardsWrongFalsely : Prop := patrolHazardsRow.holds Try.pinned (OpenSpec.ofChange patrolHazardsWrong)

/-- 'skiarealaw53.PatrolKeeps': WHATEVER THE INPUT: true; the input reads as it did. -/
def patrolKeepsSpec : ChangeSpec := { name := "patrolKeeps", fn := fun _ => fun
  | [d1, d2, d3, d4, d5] => { results := [.lit (.bool true)], args := [d1, d2, d3, d4, d5] }
  | _ => none }
def patrolKeepsRow : OpenClaim := { program := "ytaipbppgebjdeaa", sum := "5cc1f8190b697fe39f6bad3a1d8f657d90d33b7bfb2ba30205cedf329605b010", func := "skiarea/skiarealaw53.PatrolKeeps", spec := "patrolKeeps", unfollowed := true, recurses := true, apart := false }
def PatrolKeepsSaid : Prop := patrolKeepsRow.holds Try.pinned (OpenSpec.ofChange patrolKeepsSpec)

/-- ITS FALSE NEIGHBOUR: 'it returns false'. Refute it at one input. -/
def patrolKeepsWrong : ChangeSpec := { name := "patrolKeeps", fn := fun _ => fun
  | [d1, d2, d3, d4, d5] => { results := [.lit (.bool false)], args := [d1, d2, d3, d4, d5] }
  | _ => none }
def PatrolKeepsWrongFalsely : Prop := patrolKeepsRow.holds Try.pinned (OpenSpec.ofChange patrolKeepsWrong)

/- THE SECOND FORM. 'bulk': how many values and letters a reading holds, each counted each time it is reached (what is shared counts as often as it is met; a slice's spare places count too). A statement '..UptoSaid' is the law's where the arguments, and the package variables that the reading takes, are together of bulk at most 1048576: NARROWER than '..Said'. Prove '..Said' where nothing that the law and all that it calls make is longer than what came in: it says more and counts as full. Else prove '..UptoSaid'. A law counts once. -/
mutual
def uptoBulk {H : Type} : DataW H → Nat
  | .lit (.string bytes) => bytes.length + 1
  | .lit _ => 1
  | .nil => 1
  | .ptr d => uptoBulk d + 1
  | .slice elems spare => uptoBulkAll elems + uptoBulkAll spare + 1
  | .agg parts => uptoBulkAll parts + 1
  | .iface _ d => uptoBulk d + 1
  | .map entries => uptoBulkEntries entries + 1
  | .held _ => 1
def uptoBulkAll {H : Type} : List (DataW H) → Nat
  | [] => 0
  | d :: r => uptoBulk d + uptoBulkAll r
def uptoBulkEntries {H : Type} : List (Lit × DataW H) → Nat
  | [] => 0
  | x :: r => uptoBulkEntry x + uptoBulkEntries r
def uptoBulkEntry {H : Type} : Lit × DataW H → Nat
  | (.string bytes, d) => bytes.length + uptoBulk d + 1
  | (_, d) => uptoBulk d + 1
 end
def uptoSmall : (H : Type) → List (DataW H) → Bool := fun _ ds => decide (uptoBulkAll ds ≤ 1048576)
def OpenSpec.upto (s : _root_.Go.ChangeSpec) : _root_.Go.OpenSpec := { _root_.Go.OpenSpec.ofChange s with cond := some uptoSmall }

/-- 'skiarealaw53.PatrolRight', WHERE WHAT IT READS IS OF BULK AT MOST 1048576: true; the input reads as it did. -/
def patrolRightUptoRow : OpenClaim := { program := "ytaipbppgebjdeaa", sum := "5cc1f8190b697fe39f6bad3a1d8f657d90d33b7bfb2ba30205cedf329605b010", func := "skiarea/skiarealaw53.PatrolRight", spec := "patrolRight", unfollowed := true, recurses := true, apart := false, narrowed := true }
def PatrolRightUptoSaid : Prop := patrolRightUptoRow.holds Try.pinned (OpenSpec.upto patrolRightSpec)

/-- 'skiarealaw53.PatrolSigns', WHERE WHAT IT READS IS OF BULK AT MOST 1048576: true; the input reads as it did. -/
def patrolSignsUptoRow : OpenClaim := { program := "ytaipbppgebjdeaa", sum := "5cc1f8190b697fe39f6bad3a1d8f657d90d33b7bfb2ba30205cedf329605b010", func := "skiarea/skiarealaw53.PatrolSigns", spec := "patrolSigns", unfollowed := true, recurses := true, apart := false, narrowed := true }
def PatrolSignsUptoSaid : Prop := patrolSignsUptoRow.holds Try.pinned (OpenSpec.upto patrolSignsSpec)

/-- 'skiarealaw53.PatrolReports', WHERE WHAT IT READS IS OF BULK AT MOST 1048576: true; the input reads as it did. -/
def patrolReportsUptoRow : OpenClaim := { program := "ytaipbppgebjdeaa", sum := "5cc1f8190b697fe39f6bad3a1d8f657d90d33b7bfb2ba30205cedf329605b010", func := "skiarea/skiarealaw53.PatrolReports", spec := "patrolReports", unfollowed := true, recurses := true, apart := false, narrowed := true }
def PatrolReportsUptoSaid : Prop := patrolReportsUptoRow.holds Try.pinned (OpenSpec.upto patrolReportsSpec)

/-- 'skiarealaw53.PatrolFits', WHERE WHAT IT READS IS OF BULK AT MOST 1048576: true; the input reads as it did. -/
def patrolFitsUptoRow : OpenClaim := { program := "ytaipbppgebjdeaa", sum := "5cc1f8190b697fe39f6bad3a1d8f657d90d33b7bfb2ba30205cedf329605b010", func := "skiarea/skiarealaw53.PatrolFits", spec := "patrolFits", unfollowed := true, recurses := true, apart := false, narrowed := true }
def PatrolFitsUptoSaid : Prop := patrolFitsUptoRow.holds Try.pinned (OpenSpec.upto patrolFitsSpec)

/-- 'skiarealaw53.PatrolReady', WHERE WHAT IT READS IS OF BULK AT MOST 1048576: true; the input reads as it did. -/
def patrolReadyUptoRow : OpenClaim := { program := "ytaipbppgebjdeaa", sum := "5cc1f8190b697fe39f6bad3a1d8f657d90d33b7bfb2ba30205cedf329605b010", func := "skiarea/skiarealaw53.PatrolReady", spec := "patrolReady", unfollowed := true, recurses := true, apart := false, narrowed := true }
def PatrolReadyUptoSaid : Prop := patrolReadyUptoRow.holds Try.pinned (OpenSpec.upto patrolReadySpec)

/-- 'skiarealaw53.PatrolHazards', WHERE WHAT IT READS IS OF BULK AT MOST 1048576: true; the input reads as it did. -/
def patrolHazardsUptoRow : OpenClaim := { program := "ytaipbppgebjdeaa", sum := "5cc1f8190b697fe39f6bad3a1d8f657d90d33b7bfb2ba30205cedf329605b010", func := "skiarea/skiarealaw53.PatrolHazards", spec := "patrolHazards", unfollowed := true, recurses := true, apart := false, narrowed := true }
def PatrolHazardsUptoSaid : Prop := patrolHazardsUptoRow.holds Try.pinned (OpenSpec.upto patrolHazardsSpec)

/-- 'skiarealaw53.PatrolKeeps', WHERE WHAT IT READS IS OF BULK AT MOST 1048576: true; the input reads as it did. -/
def patrolKeepsUptoRow : OpenClaim := { program := "ytaipbppgebjdeaa", sum := "5cc1f8190b697fe39f6bad3a1d8f657d90d33b7bfb2ba30205cedf329605b010", func := "skiarea/skiarealaw53.PatrolKeeps", spec := "patrolKeeps", unfollowed := true, recurses := true, apart := false, narrowed := true }
def PatrolKeepsUptoSaid : Prop := patrolKeepsUptoRow.holds Try.pinned (OpenSpec.upto patrolKeepsSpec)

end Rows
end Go.Proofs.Ytaipbppgebjdeaa
