import Derived.Test.YtmmlfdnpgigfbaaGD28
namespace Go.GD
open Go

/-! ### loops with an invariant -/

theorem forN_rule {σ ρ : Type} {body : Nat → σ → (σ → Option ρ) → Option ρ} {fin : σ → Option ρ} (I : Nat → σ → Prop) (Q : Option ρ → Prop) (m : Nat)
    (hb : ∀ k, k < m → ∀ s, I k s → ∀ K, (∀ s', I (k + 1) s' → Q (K s')) → Q (body k s K)) (hf : ∀ s, I m s → Q (fin s)) {s : σ} (h0 : I 0 s) : Q (forN body fin 0 m s) := by
  suffices h : ∀ (j k : Nat) (s : σ), k + j = m → I k s → Q (forN body fin k j s) from h m 0 s (by omega) h0
  intro j
  induction j with
  | zero => intro k s e hI; obtain rfl : k = m := by omega
            exact hf s hI
  | succ j ih => intro k s e hI; exact hb k (by omega) s hI _ fun s' hs' => ih (k + 1) s' (by omega) hs'

theorem forE_rule {α σ ρ : Type} {body : α → σ → (σ → Option ρ) → Option ρ} {fin : σ → Option ρ} (I : List α → σ → Prop) (Q : Option ρ → Prop) (xs : List α)
    (hb : ∀ pre x post, xs = pre ++ x :: post → ∀ s, I pre s → ∀ K, (∀ s', I (pre ++ [x]) s' → Q (K s')) → Q (body x s K)) (hf : ∀ s, I xs s → Q (fin s)) {s : σ} (h0 : I [] s) : Q (forE body fin xs s) := by
  suffices h : ∀ (ys pre : List α) (s : σ), xs = pre ++ ys → I pre s → Q (forE body fin ys s) from h xs [] s rfl h0
  intro ys
  induction ys with
  | nil => intro pre s e hI; rw [List.append_nil] at e; subst e; exact hf s hI
  | cons y ys ih => intro pre s e hI; exact hb pre y ys e s hI _ fun s' hs' => ih (pre ++ [y]) s' (by rw [e]; simp) hs'

theorem forI_rule {α σ ρ : Type} {body : Nat → α → σ → (σ → Option ρ) → Option ρ} {fin : σ → Option ρ} (I : List α → σ → Prop) (Q : Option ρ → Prop) (xs : List α)
    (hb : ∀ pre x post, xs = pre ++ x :: post → ∀ s, I pre s → ∀ K, (∀ s', I (pre ++ [x]) s' → Q (K s')) → Q (body pre.length x s K)) (hf : ∀ s, I xs s → Q (fin s)) {s : σ} (h0 : I [] s) : Q (forI body fin 0 xs s) := by
  suffices h : ∀ (ys pre : List α) (s : σ), xs = pre ++ ys → I pre s → Q (forI body fin pre.length ys s) from h xs [] s rfl h0
  intro ys
  induction ys with
  | nil => intro pre s e hI; rw [List.append_nil] at e; subst e; exact hf s hI
  | cons y ys ih =>
    intro pre s e hI
    refine hb pre y ys e s hI _ fun s' hs' => ?_
    have := ih (pre ++ [y]) s' (by rw [e]; simp) hs'
    rwa [List.length_append, List.length_singleton] at this

/-! ### lists in the order of their first difference -/

def lexLt : List Int → List Int → Bool
  | [], [] => false
  | [], _ :: _ => true
  | _ :: _, [] => false
  | a :: as, b :: bs => if a = b then lexLt as bs else decide (a < b)

theorem lexLt_irrefl : ∀ a, lexLt a a = false
  | [] => rfl
  | a :: as => by simp [lexLt, lexLt_irrefl as]
theorem lexLt_trans : ∀ a b c, lexLt a b = true → lexLt b c = true → lexLt a c = true
  | [], [], _, h, _ => by cases h
  | [], _ :: _, [], _, h => by cases h
  | [], _ :: _, _ :: _, _, _ => rfl
  | _ :: _, [], _, h, _ => by cases h
  | _ :: _, _ :: _, [], _, h => by cases h
  | a :: as, b :: bs, c :: cs, h1, h2 => by
    simp only [lexLt] at h1 h2 ⊢
    by_cases e1 : a = b
    · subst e1
      by_cases e2 : a = c
      · subst e2; simp at h1 h2 ⊢; exact lexLt_trans as bs cs h1 h2
      · simp only [e2, if_false] at h2 ⊢; exact h2
    · simp only [e1, if_false, decide_eq_true_eq] at h1
      by_cases e2 : b = c
      · subst e2
        simp only [e1, if_false, decide_eq_true_eq]; exact h1
      · simp only [e2, if_false, decide_eq_true_eq] at h2
        have : ¬ a = c := by omega
        simp only [this, if_false, decide_eq_true_eq]; omega
theorem lexLt_total : ∀ a b, lexLt a b = false → lexLt b a = false → a = b
  | [], [], _, _ => rfl
  | [], _ :: _, h, _ => by cases h
  | _ :: _, [], _, h => by cases h
  | a :: as, b :: bs, h1, h2 => by
    simp only [lexLt] at h1 h2
    by_cases e : a = b
    · subst e; simp at h1 h2; rw [lexLt_total as bs h1 h2]
    · have : ¬ b = a := fun h => e h.symm
      simp only [e, this, if_false, decide_eq_false_iff_not] at h1 h2
      omega
end Go.GD
