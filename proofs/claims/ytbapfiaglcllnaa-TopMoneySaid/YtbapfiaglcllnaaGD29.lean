import Derived.Test.YtbapfiaglcllnaaGD28
namespace Go.GD
open Go
theorem forI_rule {α σ ρ : Type} {body : Nat → α → σ → (σ → Option ρ) → Option ρ} {fin : σ → Option ρ} (I : List α → σ → Prop) (Q : Option ρ → Prop) (xs : List α)
    (hb : ∀ pre x post, xs = pre ++ x :: post → ∀ s, I pre s → ∀ K, (∀ s', I (pre ++ [x]) s' → Q (K s')) → Q (body pre.length x s K)) (hf : ∀ s, I xs s → Q (fin s)) {s : σ} (h0 : I [] s) : Q (forI body fin 0 xs s) := by
  suffices h : ∀ (ys pre : List α) (s : σ), xs = pre ++ ys → I pre s → Q (forI body fin pre.length ys s) from h xs [] s rfl h0
  intro ys
  induction ys with
  | nil => intro pre s e hI; rw [List.append_nil] at e; subst e; exact hf s hI
  | cons y ys ih =>
    intro pre s e hI
    refine hb pre y ys e s hI _ fun s' hs' => ?_
    have := ih (pre ++ [y]) s' (by rw [e]; simp) hs'
    rwa [List.length_append, List.length_singleton] at this
def lexLt : List Int → List Int → Bool
  | [], [] => false
  | [], _ :: _ => true
  | _ :: _, [] => false
  | a :: as, b :: bs => if a = b then lexLt as bs else decide (a < b)
end Go.GD
