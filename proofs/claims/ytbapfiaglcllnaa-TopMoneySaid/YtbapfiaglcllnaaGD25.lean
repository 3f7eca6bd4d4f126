import Derived.Test.YtbapfiaglcllnaaGD24
import Derived.IntWalk
import Derived.DataShut
namespace Go.GD
open Go
theorem iter_rule {S ρ : Type} {step : (S → Option ρ) → S → Option ρ} (I : S → Prop) (μ : S → Nat) (Q : S → ρ → Prop)
    (h : ∀ F s, I s → (∀ s', I s' → μ s' < μ s → ∃ r, F s' = some r ∧ Q s' r) → ∃ r, step F s = some r ∧ Q s r) :
    ∀ (n : Nat) (s : S), I s → μ s < n → ∃ r, iter step n s = some r ∧ Q s r
  | 0, _, _, hn => absurd hn (Nat.not_lt_zero _)
  | n + 1, s, hI, hn => h (iter step n) s hI fun s' hI' hlt => iter_rule I μ Q h n s' hI' (by omega)
theorem idx_nat {α : Type} (xs : List α) (i : Nat) : idx xs (i : Int) = xs[i]? := by
  unfold idx
  rw [show decide (0 ≤ (i : Int)) = true by simp]
  simp
theorem idx_get {α : Type} {xs : List α} {i : Nat} (h : i < xs.length) : idx xs (i : Int) = some xs[i] := by
  rw [idx_nat, List.getElem?_eq_getElem h]
theorem wrap_i64 {n : Int} (h1 : -9223372036854775808 ≤ n) (h2 : n ≤ 9223372036854775807) : IntKind.i64.wrap n = n := IntWalk.i64_in n ⟨h1, h2⟩
end Go.GD
