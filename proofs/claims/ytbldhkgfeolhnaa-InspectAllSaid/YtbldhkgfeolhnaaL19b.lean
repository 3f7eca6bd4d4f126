import Derived.Test.YtbldhkgfeolhnaaL19
open Go Go.GD Go.Proofs
namespace Go.Proofs.Ytbldhkgfeolhnaa.D
theorem checks3 (l : Ck) : D3 l = some true := by
  obtain ⟨h1, r, h2⟩ := rightIR l
  rw [e3, aliveD, bindS, ← h1, h2]
  simp only [bindS, Bool.not_true, condF, beq_self_eq_true]
  cases decide ((l.1.length : Int) > 80) with
  | true => rfl
  | false => cases decide ((l.2.2.length : Int) > 220) <;> rfl
theorem law3 (x : (pk ps3).den) (_ : Valid (pk ps3) x) : d3 x = some true := checks3 x

theorem zC_sm : SmC ([], 0, []) := ⟨by decide, by decide⟩
theorem signs4 (l : Ck) (a b c : Int) : D4 l a b c = some true := by
  obtain ⟨h1, r, h2⟩ := rightIR l
  rw [e4, aliveD, bindS, ← h1, h2]
  simp only [bindS, Bool.not_true, condF]
  cases hz : r != 0 with
  | true => rfl
  | false =>
    have h0 : D13 l = some 0 := by rw [← h1, h2, show r = 0 by simpa using hz]
    have hR := rng_of l h0
    have hb : l.1.length ≤ 900 ∧ l.2.2.length ≤ 900 := ⟨by have := hR.1; omega, by have := hR.2.1; omega⟩
    obtain ⟨k1, r1, k2⟩ := rightIR (signed l a b c)
    rw [condF, signI _ _ _ _ hb, signR _ _ _ _ hb, ← k1, k2, bindS]
    cases hz1 : r1 != 0 with
    | true => simp only [condT, bindS, sameC _ zC_sm, beq_self_eq_true]
    | false => simp only [condF, bindS, sameC _ (signed_sm a b c hb), beq_self_eq_true, condT]
theorem law4 (x : (pk ps4).den) (_ : Valid (pk ps4) x) : d4 x = some true := signs4 x.1 x.2.1 x.2.2.1 x.2.2.2

theorem open6 (l : Ck) (t : Int) : D6 l t = some true := by
  obtain ⟨h1, r, h2⟩ := rightIR l
  rw [e6, aliveD, bindS, ← h1, h2]
  simp only [bindS, Bool.not_true, condF]
  cases hz : r != 0 with
  | true => rfl
  | false =>
    have h0 : D13 l = some 0 := by rw [← h1, h2, show r = 0 by simpa using hz]
    have hR := rng_of l h0
    have hl : (openC l t).length ≤ l.1.length := List.length_filter_le _ _
    rw [condF, openI l t hR, openR l t hR, doneI l t hR, doneR l t hR]
    simp only [bindS, sameInts (openC l t) (by have := hR.1; omega), condT, beq_self_eq_true]
theorem law6 (x : (pk ps6).den) (_ : Valid (pk ps6) x) : d6 x = some true := open6 x.1 x.2

/-! Last, going down -/
theorem down18 (l : Ck) (item t : Int) (hl : l.2.2.length ≤ maxLen) (v : Sg) {step : (Int × Int × Ck × Sg × Int → Option (Sg × Bool)) → Int × Int × Ck × Sg × Int → Option (Sg × Bool)}
    (hs : ∀ F i, step F (item, t, l, v, i) = bif decide (i ≥ 0) then (
      (idx l.2.2 i).bind fun e =>
      bif (e.1 == item) then (
        (idx l.2.2 i).bind fun e1 =>
        bif decide (e1.2.2 ≤ t) then (
          (idx l.2.2 i).bind fun e2 =>
          some (e2, true))
        else F (item, t, l, v, IntKind.i64.wrap (i - 1)))
      else F (item, t, l, v, IntKind.i64.wrap (i - 1)))
    else some (((0, 0, 0), false) : Sg × Bool)) : ∀ (k n : Nat), k ≤ l.2.2.length → k < n →
    iter step n (item, t, l, v, (k : Int) - 1) = some (lastV (l.2.2.take k) item t)
  | 0, n + 1, _, _ => by
    rw [iter, hs, show decide (((0 : Nat) : Int) - 1 ≥ 0) = false from rfl, condF]
    rfl
  | k + 1, n + 1, hk, hn => by
    have ih := down18 l item t hl v hs k n (by omega) (by omega)
    have hlt : k < l.2.2.length := by omega
    have hw : IntKind.i64.wrap ((k : Int) - 1) = (k : Int) - 1 := by
      rw [maxLen_val] at hl
      rw [wrap_i64 (by omega) (by omega)]
    have hi : ((k + 1 : Nat) : Int) - 1 = (k : Int) := by omega
    rw [iter, hs, hi, hw, decide_eq_true (by omega), condT, idx_get hlt]
    simp only [bindS]
    rw [ih]
    have e : (l.2.2.take (k + 1)).reverse = l.2.2[k] :: (l.2.2.take k).reverse := by
      rw [List.take_succ_eq_append_getElem hlt, List.reverse_append]; rfl
    unfold lastV
    rw [e, List.find?_cons, tst]
    cases l.2.2[k].1 == item with
    | false => rfl
    | true => cases decide (l.2.2[k].2.2 ≤ t) <;> rfl
theorem last18 (l : Ck) (item t : Int) (hl : l.2.2.length ≤ 1000) : D18 l item t = some (lastV l.2.2 item t) := by
  have m : l.2.2.length ≤ maxLen := by rw [maxLen_val]; omega
  rw [e18, wrap_i64 (by omega) (by omega)]
  unfold lp18_1
  refine (down18 l item t m (0, 0, 0) (fun _ _ => rfl) l.2.2.length big (Nat.le_refl _) (len_lt_big m)).trans ?_
  rw [List.take_length]
theorem last17 (l : Ck) (item t : Int) (hl : l.2.2.length ≤ 1000) : D17 l item t = some (lastV l.2.2 item t) := by
  show (bif Nat.ble l.2.2.length 9223372036854775807 then some (lastV l.2.2 item t) else none) = _
  rw [Nat.ble_eq_true_of_le (show l.2.2.length ≤ 9223372036854775807 by omega), condT]
theorem last5 (l : Ck) (item t : Int) : D5 l item t = some true := by
  obtain ⟨h1, r, h2⟩ := rightIR l
  rw [e5, aliveD, bindS, ← h1, h2]
  simp only [bindS, Bool.not_true, condF]
  cases hz : r != 0 with
  | true => rfl
  | false =>
    have h0 : D13 l = some 0 := by rw [← h1, h2, show r = 0 by simpa using hz]
    have hR := rng_of l h0
    rw [condF, last17 l item t (by have := hR.2.1; omega), last18 l item t (by have := hR.2.1; omega)]
    simp only [bindS, beq_self_eq_true, Bool.and_self, condT]
theorem law5 (x : (pk ps5).den) (_ : Valid (pk ps5) x) : d5 x = some true := last5 x.1 x.2.1 x.2.2
end Go.Proofs.Ytbldhkgfeolhnaa.D
