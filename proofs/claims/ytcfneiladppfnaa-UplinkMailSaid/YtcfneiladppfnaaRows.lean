/-
  No cell of these rows narrows 'for every input' (looked for: loops, veiled, ifaces, maps, wideKeys, modest, calm, conditions, laid).
  DERIVED. THE GIVEN ROWS OF THIS SEAT. 6 by the template 'for every input the law returns true; each argument reads behind the call as it read before'; 0 by the template 'total and deterministic' (their statements: YtcfneiladppfnaaTotals.lean).
  GIVEN WITH THE SEED: the statements are not yours to turn. If you find one false, say at which input.
  Laid BY PROGRAM, IN A SANDBOX (cutbox-rows.mjs): the forced cells as the released guide's own fill.sh prints them over the translation 97055a7e18edcce0… (all of the seat's roots in one cut). By AI agents, Wed Nov 11 2026. No macro, syntax, notation, axiom, sorry.
-/
import Derived.Test.YtcfneiladppfnaaChecked
import GoSem.Claim
import GoSem.ClaimJoined
import GoSem.ClaimMapViews
import Derived.JoinedTies
import Derived.KernelRfl
namespace Go.Proofs.Ytcfneiladppfnaa
/- THE CELL 'sum', in the pinned program and in every row, IS THE sha256 OF THE DUMP (.gsa) THAT YtcfneiladppfnaaProg.lean LOADS. Nothing in Lean hashes anything: it is a label: what it is worth is what the hold of that sum in a sandbox is worth. -/
noncomputable def Try.pinned : Pinned := { name := "ytcfneiladppfnaa", sum := "97055a7e18edcce04368c47e32116170305bd40971f45700a2161c730cd8cc61", checked := Try.checked }
namespace Rows
def none {H : Type} : Left H := { results := [], args := [] }

/-- 'skiarealaw30.UplinkPosts': WHATEVER THE INPUT: true; the input reads as it did. -/
def uplinkPostsSpec : ChangeSpec := { name := "uplinkPosts", fn := fun _ => fun
  | [d1, d2, d3] => { results := [.lit (.bool true)], args := [d1, d2, d3] }
  | _ => none }
def uplinkPostsRow : OpenClaim := { program := "ytcfneiladppfnaa", sum := "97055a7e18edcce04368c47e32116170305bd40971f45700a2161c730cd8cc61", func := "skiarea/skiarealaw30.UplinkPosts", spec := "uplinkPosts", inPlace := ["slices.overlaps[skiarea/api.Ride]"], unfollowed := true, recurses := true, apart := false }
def UplinkPostsSaid : Prop := uplinkPostsRow.holds Try.pinned (OpenSpec.ofChange uplinkPostsSpec)

/-- ITS FALSE NEIGHBOUR: 'it returns false'. Refute it at one input. -/
def uplinkPostsWrong : ChangeSpec := { name := "uplinkPosts", fn := fun _ => fun
  | [d1, d2, d3] => { results := [.lit (.bool false)], args := [d1, d2, d3] }
  | _ => none }
def UplinkPostsWrongFalsely : Prop := uplinkPostsRow.holds Try.pinned (OpenSpec.ofChange uplinkPostsWrong)

/-- 'skiarealaw30.UplinkReceives': WHATEVER THE INPUT: true; the input reads as it did. -/
def uplinkReceivesSpec : ChangeSpec := { name := "uplinkReceives", fn := fun _ => fun
  | [d1, d2] => { results := [.lit (.bool true)], args := [d1, d2] }
  | _ => none }
def uplinkReceivesRow : OpenClaim := { program := "ytcfneiladppfnaa", sum := "97055a7e18edcce04368c47e32116170305bd40971f45700a2161c730cd8cc61", func := "skiarea/skiarealaw30.UplinkReceives", spec := "uplinkReceives", inPlace := ["slices.overlaps[skiarea/api.Ride]"], unfollowed := true, recurses := true, apart := false }
def UplinkReceivesSaid : Prop := uplinkReceivesRow.holds Try.pinned (OpenSpec.ofChange uplinkReceivesSpec)

/-- ITS FALSE NEIGHBOUR: 'it returns false'. Refute it at one input. -/
def uplinkReceivesWrong : ChangeSpec := { name := "uplinkReceives", fn := fun _ => fun
  | [d1, d2] => { results := [.lit (.bool false)], args := [d1, d2] }
  | _ => none }
def UplinkReceivesWrongFalsely : Prop := uplinkReceivesRow.holds Try.pinned (OpenSpec.ofChange uplinkReceivesWrong)

/-- 'skiarealaw30.UplinkRights': WHATEVER THE INPUT: true; the input reads as it did. -/
def uplinkRightsSpec : ChangeSpec := { name := "uplinkRights", fn := fun _ => fun
  | [d1, d2] => { results := [.lit (.bool true)], args := [d1, d2] }
  | _ => none }
def uplinkRightsRow : OpenClaim := { program := "ytcfneiladppfnaa", sum := "97055a7e18edcce04368c47e32116170305bd40971f45700a2161c730cd8cc61", func := "skiarea/skiarealaw30.UplinkRights", spec := "uplinkRights", inPlace := ["slices.overlaps[skiarea/api.Ride]"], unfollowed := true, recurses := true, apart := false }
def UplinkRightsSaid : Prop := uplinkRightsRow.holds Try.pinned (OpenSpec.ofChange uplinkRightsSpec)

/-- ITS FALSE NEIGHBOUR: 'it returns false'. Refute it at one input. -/
def uplinkRightsWrong : ChangeSpec := { name := "uplinkRights", fn := fun _ => fun
  | [d1, d2] => { results := [.lit (.bool false)], args := [d1, d2] }
  | _ => none }
def UplinkRightsWrongFalsely : Prop := uplinkRightsRow.holds Try.pinned (OpenSpec.ofChange uplinkRightsWrong)

/-- 'skiarealaw30.UplinkOnce': WHATEVER THE INPUT: true; the input reads as it did. -/
def uplinkOnceSpec : ChangeSpec := { name := "uplinkOnce", fn := fun _ => fun
  | [d1, d2] => { results := [.lit (.bool true)], args := [d1, d2] }
  | _ => none }
def uplinkOnceRow : OpenClaim := { program := "ytcfneiladppfnaa", sum := "97055a7e18edcce04368c47e32116170305bd40971f45700a2161c730cd8cc61", func := "skiarea/skiarealaw30.UplinkOnce", spec := "uplinkOnce", inPlace := ["slices.overlaps[skiarea/api.Ride]"], unfollowed := true, recurses := true, apart := false }
def UplinkOnceSaid : Prop := uplinkOnceRow.holds Try.pinned (OpenSpec.ofChange uplinkOnceSpec)

/-- ITS FALSE NEIGHBOUR: 'it returns false'. Refute it at one input. -/
def uplinkOnceWrong : ChangeSpec := { name := "uplinkOnce", fn := fun _ => fun
  | [d1, d2] => { results := [.lit (.bool false)], args := [d1, d2] }
  | _ => none }
def UplinkOnceWrongFalsely : Prop := uplinkOnceRow.holds Try.pinned (OpenSpec.ofChange uplinkOnceWrong)

/-- 'skiarealaw30.UplinkOld': WHATEVER THE INPUT: true; the input reads as it did. -/
def uplinkOldSpec : ChangeSpec := { name := "uplinkOld", fn := fun _ => fun
  | [d1, d2, d3] => { results := [.lit (.bool true)], args := [d1, d2, d3] }
  | _ => none }
def uplinkOldRow : OpenClaim := { program := "ytcfneiladppfnaa", sum := "97055a7e18edcce04368c47e32116170305bd40971f45700a2161c730cd8cc61", func := "skiarea/skiarealaw30.UplinkOld", spec := "uplinkOld", inPlace := ["slices.overlaps[skiarea/api.Ride]"], unfollowed := true, recurses := true, apart := false }
def UplinkOldSaid : Prop := uplinkOldRow.holds Try.pinned (OpenSpec.ofChange uplinkOldSpec)

/-- ITS FALSE NEIGHBOUR: 'it returns false'. Refute it at one input. -/
def uplinkOldWrong : ChangeSpec := { name := "uplinkOld", fn := fun _ => fun
  | [d1, d2, d3] => { results := [.lit (.bool false)], args := [d1, d2, d3] }
  | _ => none }
def UplinkOldWrongFalsely : Prop := uplinkOldRow.holds Try.pinned (OpenSpec.ofChange uplinkOldWrong)

/-- 'skiarealaw30.UplinkMail': WHATEVER THE INPUT: true; the input reads as it did. -/
def uplinkMailSpec : ChangeSpec := { name := "uplinkMail", fn := fun _ => fun
  | [d1, d2, d3] => { results := [.lit (.bool true)], args := [d1, d2, d3] }
  | _ => none }
def uplinkMailRow : OpenClaim := { program := "ytcfneiladppfnaa", sum := "97055a7e18edcce04368c47e32116170305bd40971f45700a2161c730cd8cc61", func := "skiarea/skiarealaw30.UplinkMail", spec := "uplinkMail", inPlace := ["slices.overlaps[skiarea/api.Ride]"], unfollowed := true, recurses := true, apart := false }
def UplinkMailSaid : Prop := uplinkMailRow.holds Try.pinned (OpenSpec.ofChange uplinkMailSpec)

/-- ITS FALSE NEIGHBOUR: 'it returns false'. Refute it at one input. -/
def uplinkMailWrong : ChangeSpec := { name := "uplinkMail", fn := fun _ => fun
  | [d1, d2, d3] => { results := [.lit (.bool false)], args := [d1, d2, d3] }
  | _ => none }
def UplinkMailWrongFalsely : Prop := uplinkMailRow.holds Try.pinned (OpenSpec.ofChange uplinkMailWrong)

/- THE SECOND FORM. 'bulk': how many values and letters a reading holds, each counted each time it is reached (what is shared counts as often as it is met; a slice's spare places count too). A statement '..UptoSaid' is the law's where the arguments, and the package variables that the reading takes, are together of bulk at most 1048576: NARROWER than '..Said'. Prove '..Said' where nothing that the law and all that it calls make is longer than what came in: it says more and counts as full. Else prove '..UptoSaid'. A law counts once. -/
mutual
def uptoBulk {H : Type} : DataW H → Nat
  | .lit (.string bytes) => bytes.length + 1
  | .lit _ => 1
  | .nil => 1
  | .ptr d => uptoBulk d + 1
  | .slice elems spare => uptoBulkAll elems + uptoBulkAll spare + 1
  | .agg parts => uptoBulkAll parts + 1
  | .iface _ d => uptoBulk d + 1
  | .map entries => uptoBulkEntries entries + 1
  | .held _ => 1
def uptoBulkAll {H : Type} : List (DataW H) → Nat
  | [] => 0
  | d :: r => uptoBulk d + uptoBulkAll r
def uptoBulkEntries {H : Type} : List (Lit × DataW H) → Nat
  | [] => 0
  | x :: r => uptoBulkEntry x + uptoBulkEntries r
def uptoBulkEntry {H : Type} : Lit × DataW H → Nat
  | (.string bytes, d) => bytes.length + uptoBulk d + 1
  | (_, d) => uptoBulk d + 1
 end
def uptoSmall : (H : Type) → List (DataW H) → Bool := fun _ ds => decide (uptoBulkAll ds ≤ 1048576)
def OpenSpec.upto (s : _root_.Go.ChangeSpec) : _root_.Go.OpenSpec := { _root_.Go.OpenSpec.ofChange s with cond := some uptoSmall }

/-- 'skiarealaw30.UplinkPosts', WHERE WHAT IT READS IS OF BULK AT MOST 1048576: true; the input reads as it did. -/
def uplinkPostsUptoRow : OpenClaim := { program := "ytcfneiladppfnaa", sum := "97055a7e18edcce04368c47e32116170305bd40971f45700a2161c730cd8cc61", func := "skiarea/skiarealaw30.UplinkPosts", spec := "uplinkPosts", inPlace := ["slices.overlaps[skiarea/api.Ride]"], unfollowed := true, recurses := true, apart := false, narrowed := true }
def UplinkPostsUptoSaid : Prop := uplinkPostsUptoRow.holds Try.pinned (OpenSpec.upto uplinkPostsSpec)

/-- 'skiarealaw30.UplinkReceives', WHERE WHAT IT READS IS OF BULK AT MOST 1048576: true; the input reads as it did. -/
def uplinkReceivesUptoRow : OpenClaim := { program := "ytcfneiladppfnaa", sum := "97055a7e18edcce04368c47e32116170305bd40971f45700a2161c730cd8cc61", func := "skiarea/skiarealaw30.UplinkReceives", spec := "uplinkReceives", inPlace := ["slices.overlaps[skiarea/api.Ride]"], unfollowed := true, recurses := true, apart := false, narrowed := true }
def UplinkReceivesUptoSaid : Prop := uplinkReceivesUptoRow.holds Try.pinned (OpenSpec.upto uplinkReceivesSpec)

/-- 'skiarealaw30.UplinkRights', WHERE WHAT IT READS IS OF BULK AT MOST 1048576: true; the input reads as it did. -/
def uplinkRightsUptoRow : OpenClaim := { program := "ytcfneiladppfnaa", sum := "97055a7e18edcce04368c47e32116170305bd40971f45700a2161c730cd8cc61", func := "skiarea/skiarealaw30.UplinkRights", spec := "uplinkRights", inPlace := ["slices.overlaps[skiarea/api.Ride]"], unfollowed := true, recurses := true, apart := false, narrowed := true }
def UplinkRightsUptoSaid : Prop := uplinkRightsUptoRow.holds Try.pinned (OpenSpec.upto uplinkRightsSpec)

/-- 'skiarealaw30.UplinkOnce', WHERE WHAT IT READS IS OF BULK AT MOST 1048576: true; the input reads as it did. -/
def uplinkOnceUptoRow : OpenClaim := { program := "ytcfneiladppfnaa", sum := "97055a7e18edcce04368c47e32116170305bd40971f45700a2161c730cd8cc61", func := "skiarea/skiarealaw30.UplinkOnce", spec := "uplinkOnce", inPlace := ["slices.overlaps[skiarea/api.Ride]"], unfollowed := true, recurses := true, apart := false, narrowed := true }
def UplinkOnceUptoSaid : Prop := uplinkOnceUptoRow.holds Try.pinned (OpenSpec.upto uplinkOnceSpec)

/-- 'skiarealaw30.UplinkOld', WHERE WHAT IT READS IS OF BULK AT MOST 1048576: true; the input reads as it did. -/
def uplinkOldUptoRow : OpenClaim := { program := "ytcfneiladppfnaa", sum := "97055a7e18edcce04368c47e32116170305bd40971f45700a2161c730cd8cc61", func := "skiarea/skiarealaw30.UplinkOld", spec := "uplinkOld", inPlace := ["slices.overlaps[skiarea/api.Ride]"], unfollowed := true, recurses := true, apart := false, narrowed := true }
def UplinkOldUptoSaid : Prop := uplinkOldUptoRow.holds Try.pinned (OpenSpec.upto uplinkOldSpec)

/-- 'skiarealaw30.UplinkMail', WHERE WHAT IT READS IS OF BULK AT MOST 1048576: true; the input reads as it did. -/
def uplinkMailUptoRow : OpenClaim := { program := "ytcfneiladppfnaa", sum := "97055a7e18edcce04368c47e32116170305bd40971f45700a2161c730cd8cc61", func := "skiarea/skiarealaw30.UplinkMail", spec := "uplinkMail", inPlace := ["slices.overlaps[skiarea/api.Ride]"], unfollowed := true, recurses := true, apart := false, narrowed := true }
def UplinkMailUptoSaid : Prop := uplinkMailUptoRow.holds Try.pinned (OpenSpec.upto uplinkMailSpec)

end Rows
end Go.Proofs.Ytcfneiladppfnaa
