import Derived.Test.YtaipbppgebjdeaaL53f
open Go Go.GD Go.Proofs
namespace Go.Proofs.Ytaipbppgebjdeaa.D
/-- what Sign gives -/
theorem sign_cases (p : Pt) (run a b c : Int) (h : SmP p) : (∃ e : Int, e ≠ 0 ∧ D15 p run a b c = some (([], []), e)) ∨
    ∃ i : Nat, ∃ hi : i < p.1.length, runAt p run = (i : Int) ∧ (p.1[i].1 == run) = true ∧ D32 (signed (p.1[i]).2 a b c) = some 0 ∧ D15 p run a b c = some ((p.1.set i (p.1[i].1, signed (p.1[i]).2 a b c), p.2), 0) := by
  have hs := h.sm
  have m1 : p.1.length ≤ maxLen := by have := h.1; rw [maxLen_val]; omega
  rw [e15, list34 _ _ m1]
  simp only [bindS]
  rcases runAt_cases p run with ⟨hr, _⟩ | ⟨i, hi, hr, hrun⟩
  · rw [hr]
    have hd : decide ((-1 : Int) < 0) = true := rfl
    rw [hd, condT]
    exact .inl ⟨8, by decide, rfl⟩
  · rw [hr]
    have hd : decide ((i : Int) < 0) = false := decide_eq_false (by omega)
    have hm : p.1[i] ∈ p.1 := List.getElem_mem hi
    have hb := h.2.2 _ hm
    have hb9 : (p.1[i]).2.1.length ≤ 900 ∧ (p.1[i]).2.2.2.length ≤ 900 := by omega
    rw [hd, condF, idx_get hi, bindS, sign37 _ _ _ _ hb9, cp38 _ hs]
    obtain ⟨_, r, k2⟩ := right19 (signed (p.1[i]).2 a b c)
    rw [k2]
    simp only [bindS]
    cases hz : r != 0 with
    | true =>
      simp only [condT, bindS, hz]
      exact .inl ⟨r, by simpa using hz, rfl⟩
    | false =>
      simp only [condF, bindS, bne_self_eq_false, idx_get hi, Int.toNat_natCast]
      exact .inr ⟨i, hi, rfl, hrun, by rw [k2, show r = 0 by simpa using hz], rfl⟩
end Go.Proofs.Ytaipbppgebjdeaa.D
