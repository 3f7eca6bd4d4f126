import Derived.Test.YtdbbbdjglpfnbaaFns
open Go Go.GD Go.Proofs
namespace Go.Proofs.Ytdbbbdjglpfnbaa.D
def unusedRest (paid units left : Int) : Option (Int × Int) :=
  bif decide (units < 1) then some (0, 1) else
  bif decide (units > 100) then some (0, 1) else
  bif decide (left < 0) then some (0, 1) else
  bif decide (left > units) then some (0, 1) else
  bif (units == 0) then none else
  some (IntKind.i64.wrap (Int.tdiv (IntKind.i64.wrap (paid * left)) units), 0)
theorem e13 (paid units left : Int) : d13 (paid, units, left) =
  bif decide (paid < 0) then some (0, 2) else bif decide (paid > 100000000) then some (0, 2) else unusedRest paid units left := by kernel_rfl
theorem e25 (n : Int) : d25 n = bif decide (n ≥ 0) then some (decide (n ≤ 100000000)) else some false := by kernel_rfl
theorem e14 (paid units left : Int) : d14 (paid, units, left) = (d25 paid).bind fun c => bif !c then some (0, 2) else unusedRest paid units left := by kernel_rfl
theorem e4 (paid units left : Int) : d4 (paid, units, left) = (d10 ()).bind fun a => bif !a then some false else (d13 (paid, units, left)).bind fun p => (d14 (paid, units, left)).bind fun q =>
    bif p.1 == q.1 then some (p.2 == q.2) else some false := by kernel_rfl
theorem unusedRest_some (paid units left : Int) : ∃ p, unusedRest paid units left = some p := by
  unfold unusedRest
  by_cases h1 : units < 1
  · simp [h1]
  · have h0 : (units == 0) = false := by simp; omega
    rw [h0]
    cases decide (units < 1) <;> cases decide (units > 100) <;> cases decide (left < 0) <;> cases decide (left > units) <;> exact ⟨_, rfl⟩
theorem law4' (paid units left : Int) : d4 (paid, units, left) = some true := by
  have hs : d13 (paid, units, left) = d14 (paid, units, left) := by
    rw [e13, e14, e25]
    by_cases h1 : paid < 0
    · have h2 : ¬ (paid ≥ 0) := by omega
      simp [h1, h2]
    · have h2 : paid ≥ 0 := by omega
      by_cases h3 : paid > 100000000
      · have h4 : ¬ (paid ≤ 100000000) := by omega
        simp [h1, h2, h3, h4]
      · have h4 : paid ≤ 100000000 := by omega
        simp [h1, h2, h3, h4]
  have hp : ∃ p, d13 (paid, units, left) = some p := by
    rw [e13]
    obtain ⟨p, hp⟩ := unusedRest_some paid units left
    rw [hp]
    cases decide (paid < 0) <;> cases decide (paid > 100000000) <;> exact ⟨_, rfl⟩
  obtain ⟨p, hp⟩ := hp
  rw [e4, ← hs, hp, alive]
  simp
theorem law4 (x : (pk ps4).den) (_ : Valid (pk ps4) x) : d4 x = some true := law4' x.1 x.2.1 x.2.2
end Go.Proofs.Ytdbbbdjglpfnbaa.D
