import Derived.Test.YtpgfogmbcfminaaL41d
import Derived.Test.YtpgfogmbcfminaaGDW
open Go Go.GD Go.Proofs
namespace Go.Proofs.Ytpgfogmbcfminaa.D
theorem sumP_append (p : Nat → Bool) (f : Pump → Int) : ∀ (l m : List Pump) (k : Nat), sumP p f k (l ++ m) = sumP p f k l + sumP p f (k + l.length) m
  | [], m, k => by simp [sumP]
  | x :: l, m, k => by
    rw [List.cons_append, sumP, sumP, sumP_append p f l m (k + 1), List.length_cons, show k + (l.length + 1) = k + 1 + l.length by omega]
    omega
theorem law9' (l : List Pump) (x : Pump) (flow : Int) (hl : l.length * 24 ≤ reachBytes) : D9 l x flow = some true := by
  have hr : reachBytes = 140737488351232 := rfl
  rw [hr] at hl
  have g1 : (Nat.ble ((List.length ([] : List Pump) + l.length) * 24) appendLimit && Nat.ble (List.length ([] : List Pump) + l.length) 9223372036854775807) = true := by
    simp only [Bool.and_eq_true, Nat.ble_eq, List.length_nil, Nat.zero_add]; unfold appendLimit; omega
  have g2 : (Nat.ble ((List.length (([] : List Pump) ++ l) + List.length [x]) * 24) appendLimit && Nat.ble (List.length (([] : List Pump) ++ l) + List.length [x]) 9223372036854775807) = true := by
    simp only [Bool.and_eq_true, Nat.ble_eq, List.nil_append, List.length_singleton]; unfold appendLimit; omega
  rw [e9, aliveD]
  simp only [bindS, Bool.not_true, condF]
  rw [g1, condT, g2, condT]
  simp only [List.nil_append, right11, bindS]
  by_cases h0 : (if (l ++ [x]).length > 8 then 4 else chk [] (l ++ [x]) : Int) = 0
  · have hg' := good_of h0
    have hg : Good l := ⟨by have := hg'.1; rw [List.length_append] at this; omega, fun y hy => hg'.2 y (List.mem_append_left _ hy)⟩
    rw [h0]
    simp only [bne_self_eq_false, condF]
    have hn : l.length < 8 := by have := hg'.1; rw [List.length_append, List.length_singleton] at this; omega
    have he : ∀ (f : Pump → Int) (j : Nat), j < 2 ^ l.length → sumP (hasN (bits j)) f 0 (l ++ [x]) = sumP (hasN (bits j)) f 0 l := by
      intro f j hj
      rw [sumP_append, Nat.zero_add]
      have : hasN (bits j) l.length = false := by rw [hasN_bits j _ (by omega)]; exact Nat.testBit_lt_two_pow hj
      simp [sumP, this]
    by_cases hneg : flow < 0
    · rw [neg13 l flow hneg, neg13 _ flow hneg]; rfl
    rcases best13 hg flow (by omega) with ⟨q1, q2⟩ | ⟨m, q1, q2⟩
    · have : ∃ r, D13 (l ++ [x]) flow = some r := by
        rcases best13 hg' flow (by omega) with ⟨_, p⟩ | ⟨_, _, p⟩ <;> exact ⟨_, p⟩
      obtain ⟨r, hr⟩ := this
      rw [q2, hr]; rfl
    · have hlt : 2 ^ l.length ≤ 2 ^ (l ++ [x]).length := Nat.pow_le_pow_right (by omega) (by rw [List.length_append]; omega)
      have hm' : m < 2 ^ (l ++ [x]).length := by have := q1.1; omega
      have hfm : fl (l ++ [x]) m ≥ flow := by
        have := he (·.2.1) m q1.1
        have h2 := q1.2.1
        show sumP (hasN (bits m)) (fun x => x.2.1) 0 (l ++ [x]) ≥ flow
        rw [this]; exact h2
      rcases best13 hg' flow (by omega) with ⟨p1, p2⟩ | ⟨m', p1, p2⟩
      · exfalso
        have := fl_all hg' m; omega
      · have hle := least_le p1 hm' hfm
        have hpe : pw (l ++ [x]) m = pw l m := he (·.2.2) m q1.1
        rw [hpe] at hle
        rw [q2, p2]
        simp [hle]
  · have : ((if (l ++ [x]).length > 8 then 4 else chk [] (l ++ [x]) : Int) != 0) = true := by simpa using h0
    rw [this, condT]
theorem par9 : Try.f9.params.toList = [22, 37, 3] := by kernel_rfl
theorem und22 : Try.prog.underlying 22 = some (.slice 37) := by kernel_rfl
theorem bytes37 : Try.prog.bytesOf 37 = 24 := by kernel_rfl
theorem law9 (x : (pk ps9).den) (_ : Valid (pk ps9) x) (h : Light Try.prog Try.f9.params.toList ps9 x) : d9 x = some true := by
  rw [par9] at h
  have := h.1 37 und22
  rw [bytes37] at this
  exact law9' x.1 x.2.1 x.2.2 this
end Go.Proofs.Ytpgfogmbcfminaa.D
