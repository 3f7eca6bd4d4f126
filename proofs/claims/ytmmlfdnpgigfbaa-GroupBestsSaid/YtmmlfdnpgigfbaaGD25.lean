import Derived.Test.YtmmlfdnpgigfbaaGD24
import Derived.IntWalk
import Derived.DataShut
namespace Go.GD
open Go

/-! ### plain laws on rounds -/

theorem iter_rule {S ρ : Type} {step : (S → Option ρ) → S → Option ρ} (I : S → Prop) (μ : S → Nat) (Q : S → ρ → Prop)
    (h : ∀ F s, I s → (∀ s', I s' → μ s' < μ s → ∃ r, F s' = some r ∧ Q s' r) → ∃ r, step F s = some r ∧ Q s r) :
    ∀ (n : Nat) (s : S), I s → μ s < n → ∃ r, iter step n s = some r ∧ Q s r
  | 0, _, _, hn => absurd hn (Nat.not_lt_zero _)
  | n + 1, s, hI, hn => h (iter step n) s hI fun s' hI' hlt => iter_rule I μ Q h n s' hI' (by omega)

/-- the rounds' value, where it is known -/
theorem iter_eq {S ρ : Type} {step : (S → Option ρ) → S → Option ρ} (I : S → Prop) (μ : S → Nat) (f : S → ρ)
    (h : ∀ F s, I s → (∀ s', I s' → μ s' < μ s → F s' = some (f s')) → step F s = some (f s)) (n : Nat) (s : S) (hI : I s) (hn : μ s < n) : iter step n s = some (f s) := by
  obtain ⟨r, h1, h2⟩ := iter_rule I μ (fun s r => r = f s) (fun F s hI hF => ⟨f s, h F s hI fun s' hI' hl => by
    obtain ⟨r, q1, q2⟩ := hF s' hI' hl
    rw [q1, q2], rfl⟩) n s hI hn
  rw [h1, h2]

theorem idx_nat {α : Type} (xs : List α) (i : Nat) : idx xs (i : Int) = xs[i]? := by
  unfold idx
  rw [show decide (0 ≤ (i : Int)) = true by simp]
  simp

theorem idx_get {α : Type} {xs : List α} {i : Nat} (h : i < xs.length) : idx xs (i : Int) = some xs[i] := by
  rw [idx_nat, List.getElem?_eq_getElem h]

theorem wrap_i64 {n : Int} (h1 : -9223372036854775808 ≤ n) (h2 : n ≤ 9223372036854775807) : IntKind.i64.wrap n = n := IntWalk.i64_in n ⟨h1, h2⟩

theorem valid_i64 {n : Int} (h : Valid (.int .i64) n) : -9223372036854775808 ≤ n ∧ n ≤ 9223372036854775807 := by
  have h : (Lit.int .i64 n).wf = true := h
  have e1 : IntKind.i64.min = -9223372036854775808 := by rfl
  have e2 : IntKind.i64.max = 9223372036854775807 := by rfl
  simp only [Lit.wf, Bool.and_eq_true, decide_eq_true_eq, e1, e2] at h
  exact h
end Go.GD
