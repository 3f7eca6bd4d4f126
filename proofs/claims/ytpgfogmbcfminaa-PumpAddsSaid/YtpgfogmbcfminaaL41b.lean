import Derived.Test.YtpgfogmbcfminaaL41
open Go Go.GD Go.Proofs
namespace Go.Proofs.Ytpgfogmbcfminaa.D
/-! sets as numbers -/
def bitsTo (m i : Nat) : List Int := ((List.range i).filter fun j => m.testBit j).map fun (j : Nat) => (j : Int)
def bits (m : Nat) : List Int := bitsTo m 8

theorem bitsTo_succ (m i : Nat) : bitsTo m (i + 1) = if m.testBit i then bitsTo m i ++ [(i : Int)] else bitsTo m i := by
  unfold bitsTo
  rw [List.range_succ, List.filter_append]
  cases h : m.testBit i <;> simp [h]
theorem bitsTo_end (m i : Nat) (h : m < 2 ^ i) : ∀ d, bitsTo m (i + d) = bitsTo m i
  | 0 => rfl
  | d + 1 => by
    rw [← Nat.add_assoc, bitsTo_succ, Nat.testBit_lt_two_pow (Nat.lt_of_lt_of_le h (Nat.pow_le_pow_right (by omega) (by omega))), bitsTo_end m i h d]
    simp
theorem bitsTo_len (m i : Nat) : (bitsTo m i).length ≤ i := by
  unfold bitsTo
  rw [List.length_map]
  exact Nat.le_trans (List.length_filter_le _ _) (by simp)
theorem shr_nat (m i : Nat) (h : i < 64) : Int.fdiv (m : Int) (2 ^ (Nat.min (Int.toNat (i : Int)) 64)) = ((m / 2 ^ i : Nat) : Int) := by
  rw [Int.toNat_natCast, show Nat.min i 64 = i from Nat.min_eq_left (by omega)]
  have e : (2 : Int) ^ i = ((2 ^ i : Nat) : Int) := by simp
  rw [e]
  exact (Int.ofNat_fdiv m (2 ^ i)).symm
theorem and_one (q : Nat) (h : q < 256) : IntKind.i64.wrap (((BitVec.ofInt 64 (q : Int) &&& BitVec.ofInt 64 1).toNat : Int)) = ((q % 2 : Nat) : Int) := by
  have e1 : BitVec.ofInt 64 (q : Int) = BitVec.ofNat 64 q := by simp
  have e2 : BitVec.ofInt 64 1 = BitVec.ofNat 64 1 := by rfl
  rw [e1, e2, BitVec.toNat_and, BitVec.toNat_ofNat, BitVec.toNat_ofNat, Nat.mod_eq_of_lt (show q < 2 ^ 64 by omega), Nat.mod_eq_of_lt (show 1 < 2 ^ 64 by omega), Nat.and_one_is_mod]
  exact wrap_i64 (by omega) (by omega)
theorem testBit_div (m i : Nat) : m.testBit i = decide (m / 2 ^ i % 2 = 1) := Nat.testBit_eq_decide_div_mod_eq

theorem members21 (m : Nat) (hm : m < 256) : D21 (m : Int) = some (bits m) := by
  rw [e21]
  unfold lp21_1
  refine iter_eq (fun (s : Int × List Int × Int) => ∃ i : Nat, i ≤ 8 ∧ s = ((m : Int), bitsTo m i, (i : Int))) (fun s => (8 - s.2.2).toNat) (fun _ => bits m) ?_ big _ ⟨0, by omega, rfl⟩ (by unfold big; show (8 - (0 : Int)).toNat < _; omega)
  rintro F s ⟨i, hi, rfl⟩ hF
  have c1 : decide ((i : Int) < 0) = false := decide_eq_false (by omega)
  have hle : m / 2 ^ i ≤ m := Nat.div_le_self _ _
  simp only [c1, condF, shr_nat m i (by omega), and_one (m / 2 ^ i) (by omega)]
  by_cases h0 : m / 2 ^ i = 0
  · have : (((m / 2 ^ i : Nat) : Int) != 0) = false := by rw [h0]; rfl
    rw [this, condF]
    have hlt : m < 2 ^ i := by
      rcases Nat.div_eq_zero_iff.1 h0 with h | h
      · exact absurd h (by have := Nat.two_pow_pos i; omega)
      · exact h
    unfold bits
    obtain ⟨d, hd⟩ : ∃ d, 8 = i + d := ⟨8 - i, by omega⟩
    rw [hd, bitsTo_end m i hlt d]
  · have : (((m / 2 ^ i : Nat) : Int) != 0) = true := by simp only [bne_iff_ne, ne_eq]; omega
    rw [this, condT]
    have hi8 : i < 8 := by
      rcases Nat.lt_or_ge i 8 with h | h
      · exact h
      · have : i = 8 := by omega
        subst this
        exact absurd (Nat.div_eq_of_lt (by omega)) h0
    have hw : IntKind.i64.wrap ((i : Int) + 1) = ((i + 1 : Nat) : Int) := wrap_succ hi8 (by rw [maxLen_val]; omega)
    have hg : (Nat.ble (((bitsTo m i).length + List.length [(i : Int)]) * 8) appendLimit && Nat.ble ((bitsTo m i).length + List.length [(i : Int)]) 9223372036854775807) = true := by
      have := bitsTo_len m i
      exact grows (by unfold appendLimit; rw [List.length_singleton]; omega) (by omega)
    have next := hF ((m : Int), bitsTo m (i + 1), ((i + 1 : Nat) : Int)) ⟨i + 1, by omega, rfl⟩ (by show (8 - ((i + 1 : Nat) : Int)).toNat < (8 - (i : Int)).toNat; omega)
    rw [bitsTo_succ, testBit_div] at next
    rw [hg, hw, condT]
    by_cases h1 : m / 2 ^ i % 2 = 1
    · have : (((m / 2 ^ i % 2 : Nat) : Int) == 1) = true := by rw [h1]; rfl
      rw [this, condT]
      simpa [h1] using next
    · have : (((m / 2 ^ i % 2 : Nat) : Int) == 1) = false := by simp only [beq_eq_false_iff_ne]; omega
      rw [this, condF]
      simpa [h1] using next

theorem subset23 (m : Nat) (hm : m < 256) : D23 (m : Int) = some (bits m) := by
  rw [e23]
  unfold lp23_1
  refine iter_eq (fun (s : Int × List Int × Int) => ∃ i : Nat, i ≤ 8 ∧ s = (((m / 2 ^ i : Nat) : Int), bitsTo m i, (i : Int))) (fun s => (8 - s.2.2).toNat) (fun _ => bits m) ?_ big _ ⟨0, by omega, by simp [bitsTo]⟩ (by unfold big; show (8 - (0 : Int)).toNat < _; omega)
  rintro F s ⟨i, hi, rfl⟩ hF
  have hle : m / 2 ^ i ≤ m := Nat.div_le_self _ _
  have e2 : Int.tdiv ((m / 2 ^ i : Nat) : Int) 2 = ((m / 2 ^ (i + 1) : Nat) : Int) := by
    rw [Nat.pow_succ, ← Nat.div_div_eq_div_mul]; rfl
  have e3 : Int.tmod ((m / 2 ^ i : Nat) : Int) 2 = ((m / 2 ^ i % 2 : Nat) : Int) := rfl
  have hle2 : m / 2 ^ (i + 1) ≤ m := Nat.div_le_self _ _
  have w2 : IntKind.i64.wrap ((m / 2 ^ (i + 1) : Nat) : Int) = ((m / 2 ^ (i + 1) : Nat) : Int) := by
    generalize m / 2 ^ (i + 1) = q at hle2
    exact wrap_i64 (by omega) (by omega)
  simp only [e2, e3, w2]
  by_cases h0 : m / 2 ^ i = 0
  · have : decide (((m / 2 ^ i : Nat) : Int) > 0) = false := by rw [h0]; rfl
    rw [this, condF]
    have hlt : m < 2 ^ i := by
      rcases Nat.div_eq_zero_iff.1 h0 with h | h
      · exact absurd h (by have := Nat.two_pow_pos i; omega)
      · exact h
    unfold bits
    obtain ⟨d, hd⟩ : ∃ d, 8 = i + d := ⟨8 - i, by omega⟩
    rw [hd, bitsTo_end m i hlt d]
  · have : decide (((m / 2 ^ i : Nat) : Int) > 0) = true := decide_eq_true (Int.natCast_pos.2 (Nat.pos_of_ne_zero h0))
    rw [this, condT]
    have hi8 : i < 8 := by
      rcases Nat.lt_or_ge i 8 with h | h
      · exact h
      · have : i = 8 := by omega
        subst this
        exact absurd (Nat.div_eq_of_lt (by omega)) h0
    have hw : IntKind.i64.wrap ((i : Int) + 1) = ((i + 1 : Nat) : Int) := wrap_succ hi8 (by rw [maxLen_val]; omega)
    have hg : (Nat.ble (((bitsTo m i).length + List.length [(i : Int)]) * 8) appendLimit && Nat.ble ((bitsTo m i).length + List.length [(i : Int)]) 9223372036854775807) = true := by
      have := bitsTo_len m i
      exact grows (by unfold appendLimit; rw [List.length_singleton]; omega) (by omega)
    have next := hF (((m / 2 ^ (i + 1) : Nat) : Int), bitsTo m (i + 1), ((i + 1 : Nat) : Int)) ⟨i + 1, by omega, rfl⟩ (by show (8 - ((i + 1 : Nat) : Int)).toNat < (8 - (i : Int)).toNat; omega)
    rw [bitsTo_succ, testBit_div] at next
    rw [hg, hw, condT]
    by_cases h1 : m / 2 ^ i % 2 = 1
    · have : (((m / 2 ^ i % 2 : Nat) : Int) == 1) = true := by rw [h1]; rfl
      rw [this, condT]
      simpa [h1] using next
    · have : (((m / 2 ^ i % 2 : Nat) : Int) == 1) = false := by simp only [beq_eq_false_iff_ne]; omega
      rw [this, condF]
      simpa [h1] using next
end Go.Proofs.Ytpgfogmbcfminaa.D
