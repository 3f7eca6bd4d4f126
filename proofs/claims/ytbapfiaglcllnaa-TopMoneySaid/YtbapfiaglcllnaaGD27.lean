import Derived.Test.YtbapfiaglcllnaaGD26
namespace Go.GD
open Go
def findI {α : Type} (p : α → Bool) : Nat → List α → Int
  | _, [] => -1
  | k, x :: xs => bif p x then (k : Int) else findI p (k + 1) xs
theorem forI_find {α σ : Type} (p : α → Bool) : ∀ (xs : List α) (k : Nat) (s : σ), forI (fun k x s K => bif p x then some (k : Int) else K s) (fun _ => some (-1)) k xs s = some (findI p k xs)
  | [], _, _ => rfl
  | x :: xs, k, s => by
    simp only [forI, findI]
    cases p x with
    | true => rfl
    | false => exact forI_find p xs (k + 1) s
theorem findI_neg {α : Type} (p : α → Bool) : ∀ (xs : List α) (k : Nat), xs.any p = false → findI p k xs = -1
  | [], _, _ => rfl
  | x :: xs, k, h => by
    simp only [List.any_cons, Bool.or_eq_false_iff] at h
    simp only [findI, h.1, cond_false]
    exact findI_neg p xs (k + 1) h.2
theorem findI_pos {α : Type} (p : α → Bool) : ∀ (xs : List α) (k : Nat), xs.any p = true → ∃ i : Nat, ∃ h : i < xs.length, findI p k xs = ((k + i : Nat) : Int) ∧ p xs[i] = true ∧ ∀ j (h : j < xs.length), j < i → p xs[j] = false
  | [], _, h => by simp at h
  | x :: xs, k, h => by
    simp only [findI]
    cases hx : p x with
    | true => exact ⟨0, by simp, by simp, hx, fun j _ hj => by omega⟩
    | false =>
      rw [List.any_cons, hx, Bool.false_or] at h
      obtain ⟨i, hi, h1, h2, h3⟩ := findI_pos p xs (k + 1) h
      refine ⟨i + 1, by simp; omega, ?_, by simpa using h2, fun j hj hlt => ?_⟩
      · simp only [cond_false, h1]; omega
      · cases j with
        | zero => exact hx
        | succ j => exact h3 j (by simpa using hj) (by omega)
theorem findI_ge {α : Type} (p : α → Bool) (xs : List α) (k : Nat) : decide (findI p k xs ≥ 0) = xs.any p := by
  cases h : xs.any p with
  | false => rw [findI_neg p xs k h]; rfl
  | true =>
    obtain ⟨i, _, h1, _⟩ := findI_pos p xs k h
    rw [h1]
    exact decide_eq_true (by omega)
theorem forI_congr {α σ ρ : Type} {body body' : Nat → α → σ → (σ → Option ρ) → Option ρ} {fin fin' : σ → Option ρ} (xs : List α) (k : Nat)
    (hb : ∀ i (h : i < xs.length), ∀ s K, body (k + i) xs[i] s K = body' (k + i) xs[i] s K) (hf : ∀ s, fin s = fin' s) (s : σ) : forI body fin k xs s = forI body' fin' k xs s := by
  induction xs generalizing s k with
  | nil => exact hf s
  | cons x xs ih =>
    simp only [forI]
    have := hb 0 (by simp) s
    simp only [Nat.add_zero, List.getElem_cons_zero] at this
    rw [this]
    congr 1
    funext s'
    exact ih (k + 1) (fun i hi s K => by
      have := hb (i + 1) (by simpa using hi) s K
      rw [show k + (i + 1) = k + 1 + i by omega] at this
      simpa using this) s'
theorem maxLen_val : maxLen = 9223372036854775807 := rfl
end Go.GD
