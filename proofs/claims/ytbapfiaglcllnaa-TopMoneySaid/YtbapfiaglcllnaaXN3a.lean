import Derived.Test.YtbapfiaglcllnaaXT46
open Go Go.GD Go.Proofs
namespace Go.Proofs.Ytbapfiaglcllnaa.D.Nt
def cutAt (n : Nat) : Code → Code
  | .seq a (.seq (.region m ops dr) c) => if Nat.beq m n then a else .seq a (cutAt n (.seq (.region m ops dr) c))
  | .seq a b => .seq a (cutAt n b)
  | c => c
noncomputable def f18h : Func := { Try.f18 with body := Try.f18.body.map (cutAt 21), results := #[.tmp 5] }
noncomputable def env18 : Nat → Option Sig := fun n => match n with
  | 46 => some sg46
  | 47 => some sg47
  | 48 => some sg48
  | _ => none
def ann18 : List LoopAnn := [{ id := 6, live := [0, 3, 4, 5, 6, 7], frz := [] }, { id := 11, live := [0, 3, 4, 5, 6, 7, 8, 35, 36], frz := [] }]
abbrev ps18 : List Ty := [.sl (.pair (.int .i64) (.int .i64))]
abbrev rs18 : List Ty := [.sl (.pair (.int .i64) (.pair (.int .i64) (.int .i64)))]
noncomputable def d18 : (pk ps18).den → Option (pk rs18).den := fnK tab env18 11 ann18 big f18h [] ps18 rs18 true
theorem envOk18 : ∀ f sg, env18 f = some sg → Contract Try.prog f sg := by
  intro f sg h
  unfold env18 at h
  split at h
  · injection h with h; subst h; exact c46
  · injection h with h; subst h; exact c47
  · injection h with h; subst h; exact c48
  · cases h
end Go.Proofs.Ytbapfiaglcllnaa.D.Nt
