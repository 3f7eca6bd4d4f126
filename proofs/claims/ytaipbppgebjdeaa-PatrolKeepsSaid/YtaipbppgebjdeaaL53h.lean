import Derived.Test.YtaipbppgebjdeaaL53g
open Go Go.GD Go.Proofs
namespace Go.Proofs.Ytaipbppgebjdeaa.D
theorem done_iff (l : Ck) (t : Int) : doneC l t = true ↔ ∀ it, it ∈ l.1 → l.2.2.any (valid l it t) = true := by
  unfold doneC openC
  constructor
  · intro h it hit
    have h : (l.1.filter fun it => !l.2.2.any (valid l it t)) = [] := List.eq_nil_of_length_eq_zero (by simpa using h)
    have := List.filter_eq_nil_iff.1 h it hit
    simpa using this
  · intro h
    have : (l.1.filter fun it => !l.2.2.any (valid l it t)) = [] := List.filter_eq_nil_iff.2 fun it hit => by simp [h it hit]
    rw [this]; rfl
theorem done_signed (l : Ck) (a b c t : Int) (hc : c ≤ t) (hlate : ∀ g, g ∈ l.2.2 → g.2.2 ≤ c) (h : doneC l t = true) : doneC (signed l a b c) t = true := by
  rw [done_iff] at h ⊢
  intro it hit
  have := h it hit
  obtain ⟨g, hg, hv⟩ := List.any_eq_true.1 this
  have hgc := hlate g hg
  unfold valid at hv
  cases h1 : g.1 == it with
  | false => rw [h1] at hv; cases hv
  | true =>
  cases h2 : decide (g.2.2 ≤ t) with
  | false => rw [h1, h2] at hv; cases hv
  | true =>
    rw [h1, h2] at hv
    have hv := of_decide_eq_true hv
    refine List.any_eq_true.2 ?_
    by_cases hq : it = a
    · refine ⟨(a, b, c), List.mem_append_right _ (List.mem_singleton.2 rfl), ?_⟩
      subst hq
      unfold valid
      rw [show ((it, b, c) : Sg).1 = it from rfl, beq_self_eq_true, decide_eq_true (show ((it, b, c) : Sg).2.2 ≤ t from hc)]
      exact decide_eq_true (show t < c + l.2.1 by omega)
    · refine ⟨g, List.mem_append_left _ (List.mem_filter.2 ⟨hg, ?_⟩), ?_⟩
      · rw [beq_iff_eq] at h1
        rw [h1]; simpa using hq
      · unfold valid
        rw [h1, h2]
        exact decide_eq_true hv
end Go.Proofs.Ytaipbppgebjdeaa.D
