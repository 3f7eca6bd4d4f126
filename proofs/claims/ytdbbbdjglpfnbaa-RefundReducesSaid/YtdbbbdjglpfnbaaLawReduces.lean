import Derived.Test.YtdbbbdjglpfnbaaFns
import Derived.Test.YtdbbbdjglpfnbaaRows
open Go Go.GD Go.Proofs
namespace Go.Proofs.Ytdbbbdjglpfnbaa.D
abbrev w64 (n : Int) : Int := IntKind.i64.wrap n
abbrev Sale := Int × Int × Int × Int × Int × Int
def reduce (s : Sale) (amount : Int) : Option (Sale × Int) :=
  bif decide (amount < 0) then some ((0,0,0,0,0,0), 2) else
  bif decide (amount > s.2.2.2.2.1) then some ((0,0,0,0,0,0), 2) else
  some ((s.1, s.2.1, s.2.2.1, s.2.2.2.1, w64 (s.2.2.2.2.1 - amount), bif decide (w64 (s.2.2.2.2.1 - amount) < s.2.2.2.2.2) then w64 (s.2.2.2.2.1 - amount) else s.2.2.2.2.2), 0)
theorem e18 (s : Sale) (amount : Int) : d18 (s, amount) = reduce s amount := by kernel_rfl
theorem e19 (s : Sale) (amount : Int) : d19 (s, amount) = reduce s amount := by kernel_rfl
theorem e6 (s : Sale) (amount : Int) : d6 (s, amount) = (d10 ()).bind fun a => bif !a then some false else (d18 (s, amount)).bind fun p => (d19 (s, amount)).bind fun q =>
    bif (p.1.1 == q.1.1 && (p.1.2.1 == q.1.2.1 && (p.1.2.2.1 == q.1.2.2.1 && (p.1.2.2.2.1 == q.1.2.2.2.1 && (p.1.2.2.2.2.1 == q.1.2.2.2.2.1 && p.1.2.2.2.2.2 == q.1.2.2.2.2.2))))) then some (p.2 == q.2) else some false := by kernel_rfl
theorem law6 (x : (pk ps6).den) : d6 x = some true := by
  obtain ⟨s, amount⟩ := x
  rw [e6, e18, e19, alive]
  simp only [Option.bind_some, Bool.not_true, cond_false]
  have hr : ∃ p, reduce s amount = some p := by
    unfold reduce
    cases decide (amount < 0) <;> cases decide (amount > s.2.2.2.2.1) <;> exact ⟨_, rfl⟩
  obtain ⟨p, hp⟩ := hr
  rw [hp]
  simp
end Go.Proofs.Ytdbbbdjglpfnbaa.D
