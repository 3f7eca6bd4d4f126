import Derived.Test.YtcfneiladppfnaaE30
open Go Go.GD Go.Proofs
namespace Go.Proofs.Ytcfneiladppfnaa.D
abbrev Rds := List Rd
abbrev Outb := Int × Int × Rds
abbrev Inb := Int × Int × Rds × Rds
theorem limOk {a b k : Nat} (hb : 0 < k) (h : (a + b) * k ≤ 1000000000) : (Nat.ble ((a + b) * k) appendLimit && Nat.ble (a + b) 9223372036854775807) = true :=
  grows (Nat.le_trans h (by decide)) hb
theorem clone27 (s : Rds) (h : s.length ≤ 100000) : D27 s = some s := by
  rw [e27, limOk (by decide) (by simp; omega)]; rfl
theorem same17 (a : Rds) (h : a.length ≤ 100000) : D17 a a = some true := by
  rw [e17, bne_self_eq_false, condF, f17_1 a a (by rw [maxLen_val]; omega)]
  refine forI_inv (fun _ => ()) (fun r => r = some true) a (fun pre x post e K hK => ?_) rfl rfl
  have hk : pre.length < a.length := by rw [e]; simp
  have hx : a[pre.length] = x := by simp [e]
  rw [idx_get hk, hx]
  simp only [bindS, beq_self_eq_true, Bool.and_self, Bool.not_true, condF]
  exact hK
theorem sameOut15 (o : Outb) (h : o.2.2.length ≤ 100000) : D15 o o = some true := by
  rw [e15, same17 _ h]; simp only [beq_self_eq_true, condT, bindS]
theorem sameIn16 (i : Inb) (h1 : i.2.2.1.length ≤ 100000) (h2 : i.2.2.2.length ≤ 100000) : D16 i i = some true := by
  rw [e16, same17 _ h1, same17 _ h2]; simp only [beq_self_eq_true, condT, bindS]
theorem filterO_eq (f : Rd → Option Bool) (p : Rd → Bool) (hf : ∀ x, f x = some (p x)) : ∀ xs, filterO f xs = some (xs.filter fun x => !p x)
  | [] => rfl
  | x :: xs => by
    rw [filterO, hf, filterO_eq f p hf xs, List.filter_cons]
    simp only [Option.bind_some]
    cases p x <;> rfl
def ackF (o : Outb) (n : Int) : Outb := (o.1, o.2.1, o.2.2.filter fun r => decide (r.2.1 > n))
theorem ack19 (o : Outb) (n : Int) (h : o.2.2.length ≤ 100000) : D19 o n = some (ackF o n) := by
  rw [e19, clone27 _ h, bindS]
  have : D28 o.2.2 (fun y => D29 y n) = some (o.2.2.filter fun r => decide (r.2.1 > n)) := by
    show dfD (o.2.2, fun y => D29 y n) = _
    rw [dfD, Nat.ble_eq_true_of_le (show o.2.2.length ≤ 9223372036854775807 by omega), cond_true, filterO_eq _ (fun r => decide (r.2.1 ≤ n)) (fun x => e29 x n)]
    congr 1
    apply List.filter_congr
    intro x _
    rw [Bool.eq_iff_iff]; simp
  rw [this, bindS]; rfl
theorem ack20 (o : Outb) (n : Int) (h : o.2.2.length ≤ 100000) : D20 o n = some (ackF o n) := by
  rw [e20, f20_1 _ _ _ _ (by rw [maxLen_val]; omega)]
  refine forE_inv (fun pre => (o.1, o.2.1, pre.filter fun r => decide (r.2.1 > n))) (fun r => r = some (ackF o n)) o.2.2 (fun pre x post e K hK => ?_) rfl rfl
  have hl : pre.length + 1 + post.length = o.2.2.length := by rw [e]; simp; omega
  have := List.length_filter_le (fun r : Rd => decide (r.2.1 > n)) pre
  rw [List.filter_append] at hK
  cases hx : decide (x.2.1 > n) with
  | true =>
    rw [condT, limOk (by decide) (by simp only [List.length_singleton]; omega), condT]
    simp only [List.filter_cons, hx, if_true, List.filter_nil] at hK
    exact hK
  | false =>
    simp only [List.filter_cons, hx, Bool.false_eq_true, if_false, List.filter_nil, List.append_nil] at hK
    rw [condF]; exact hK
def postF (o : Outb) (r : Rd) : Outb × Int :=
  if r.1 ≠ o.1 then ((0, 0, []), 1) else if r.2.1 ≠ o.2.1 then ((0, 0, []), 11) else if 64 ≤ o.2.2.length ∨ 1000000 ≤ o.2.1 then ((0, 0, []), 9) else ((o.1, o.2.1 + 1, o.2.2 ++ [r]), 0)
theorem post13 (o : Outb) (r : Rd) (h0 : -9223372036854775808 ≤ o.2.1) : D13 o r = some (postF o r) := by
  rw [e13, postF]
  by_cases h1 : r.1 = o.1
  · rw [if_neg (by simpa using h1), show (r.1 != o.1) = false by simpa using h1, condF]
    by_cases h2 : r.2.1 = o.2.1
    · rw [if_neg (by simpa using h2), show (r.2.1 != o.2.1) = false by simpa using h2, condF]
      by_cases h3 : 64 ≤ o.2.2.length
      · rw [if_pos (.inl h3), decide_eq_true (by omega)]; rfl
      · rw [decide_eq_false (by omega), condF]
        by_cases h4 : 1000000 ≤ o.2.1
        · rw [if_pos (.inr h4), decide_eq_true (by omega)]; rfl
        · rw [if_neg (fun e => e.elim h3 h4), decide_eq_false (by omega), condF, clone27 _ (by omega), bindS, limOk (by decide) (by simp only [List.length_singleton]; omega), condT, wrap_i64 (by omega) (by omega)]
    · rw [if_pos h2, show (r.2.1 != o.2.1) = true by simpa using h2]; rfl
  · rw [if_pos h1, show (r.1 != o.1) = true by simpa using h1]; rfl
theorem post14 (o : Outb) (r : Rd) (h0 : -9223372036854775808 ≤ o.2.1) : D14 o r = some (postF o r) := by
  rw [e14, postF]
  by_cases h1 : r.1 = o.1
  · rw [if_neg (by simpa using h1), show (r.1 != o.1) = false by simpa using h1, condF]
    by_cases h2 : r.2.1 = o.2.1
    · rw [if_neg (by simpa using h2), show (r.2.1 != o.2.1) = false by simpa using h2, condF]
      by_cases h3 : 64 ≤ o.2.2.length
      · rw [if_pos (.inl h3), decide_eq_true (by omega)]; rfl
      · rw [decide_eq_false (by omega), condF]
        by_cases h4 : 1000000 ≤ o.2.1
        · rw [if_pos (.inr h4), decide_eq_true (by omega)]; rfl
        · rw [if_neg (fun e => e.elim h3 h4), decide_eq_false (by omega), condF, limOk (by decide) (by simp; omega), condT, List.nil_append, limOk (by decide) (by simp only [List.length_singleton]; omega), condT, wrap_i64 (by omega) (by omega)]
    · rw [if_pos h2, show (r.2.1 != o.2.1) = true by simpa using h2]; rfl
  · rw [if_pos h1, show (r.1 != o.1) = true by simpa using h1]; rfl
theorem posts3 (o : Outb) (r : Rd) (n : Int) (h0 : -9223372036854775808 ≤ o.2.1) : D3 o r n = some true := by
  rw [e3, aliveD, e10]
  simp only [bindS, Bool.not_true, condF]
  by_cases hl : (o.2.2.length : Int) ≤ 200
  · rw [decide_eq_true hl, Bool.not_true, condF, e11, e12, post13 o r h0, post14 o r h0, e18, clone27 _ (by omega), ack19 _ _ (by omega), ack20 _ _ (by omega)]
    have hp : (postF o r).1.2.2.length ≤ 100000 := by
      unfold postF
      split
      · decide
      · split
        · decide
        · split
          · decide
          · simp; omega
    have hf : (ackF o n).2.2.length ≤ 100000 := by
      have := List.length_filter_le (fun r : Rd => decide (r.2.1 > n)) o.2.2
      show (o.2.2.filter _).length ≤ _; omega
    simp only [bindS, sameOut15 (n, 1, []) (Nat.zero_le _), sameIn16 (n, 1, [], []) (Nat.zero_le _) (Nat.zero_le _), sameOut15 _ hp, sameOut15 _ hf, same17 o.2.2 (by omega), condT, beq_self_eq_true]
  · rw [decide_eq_false hl]; rfl
theorem law3 (x : (pk ps3).den) (h : Valid (pk ps3) x) : d3 x = some true := posts3 x.1 x.2.1 x.2.2 (valid_i64 h.1.2.1).1

/-! Receive -/
def insF (r : Rd) : Rds → Rds
  | [] => [r]
  | x :: xs => bif decide (x.2.1 > r.2.1) then r :: x :: xs else x :: insF r xs
theorem insF_none (r : Rd) : ∀ l : Rds, l.any (fun x => decide (x.2.1 > r.2.1)) = false → insF r l = l ++ [r]
  | [], _ => rfl
  | x :: l, h => by
    simp only [List.any_cons, Bool.or_eq_false_iff] at h
    rw [insF, h.1, cond_false, insF_none r l h.2]; rfl
theorem insF_at (r : Rd) : ∀ (l : Rds) (i : Nat) (hi : i < l.length), decide (l[i].2.1 > r.2.1) = true → (∀ j (h : j < l.length), j < i → decide (l[j].2.1 > r.2.1) = false) → insF r l = l.take i ++ [r] ++ l.drop i
  | x :: l, 0, _, h1, _ => by
    have h1 : decide (x.2.1 > r.2.1) = true := h1
    rw [insF, h1]; rfl
  | x :: l, i + 1, hi, h1, h2 => by
    have h0 : decide (x.2.1 > r.2.1) = false := h2 0 (by simp) (by omega)
    rw [insF, h0, cond_false, insF_at r l i (by simpa using hi) (by simpa using h1) (fun j hj hlt => by have := h2 (j + 1) (by simpa using hj) (by omega); simpa using this)]
    rfl
theorem insF_length (r : Rd) : ∀ l : Rds, (insF r l).length = l.length + 1
  | [] => rfl
  | x :: l => by
    rw [insF]
    cases decide (x.2.1 > r.2.1) with
    | true => rfl
    | false => rw [cond_false, List.length_cons, insF_length r l, List.length_cons]
theorem ins36 (l : Rds) (i : Nat) (hi : i ≤ l.length) (r : Rd) (h : l.length ≤ 100000) : D36 l (i : Int) [r] = some (l.take i ++ [r] ++ l.drop i) := by
  show insD (l, (i : Int), [r]) = _
  have : (decide (0 ≤ (i : Int)) && (decide ((i : Int) ≤ (l.length : Int)) && (Nat.beq ([r] : Rds).length 1 && Nat.ble ((l.length + 1) * 56) appendLimit))) = true := by
    rw [decide_eq_true (show (0 : Int) ≤ i by omega), decide_eq_true (show (i : Int) ≤ (l.length : Int) by omega), Nat.ble_eq_true_of_le (show (l.length + 1) * 56 ≤ appendLimit by unfold appendLimit; omega)]
    rfl
  rw [insD]
  simp only [this, cond_true, Int.toNat_natCast]
theorem insF_snoc (r x : Rd) : ∀ l : Rds, insF r (l ++ [x]) = bif l.any (fun y => decide (y.2.1 > r.2.1)) then insF r l ++ [x] else (bif decide (x.2.1 > r.2.1) then l ++ [r] ++ [x] else l ++ [x] ++ [r])
  | [] => by
    have : insF r [x] = bif decide (x.2.1 > r.2.1) then [r, x] else [x, r] := rfl
    show insF r [x] = bif decide (x.2.1 > r.2.1) then [] ++ [r] ++ [x] else [] ++ [x] ++ [r]
    rw [this]
    cases decide (x.2.1 > r.2.1) <;> rfl
  | y :: l => by
    rw [List.cons_append, insF, insF, List.any_cons]
    cases decide (y.2.1 > r.2.1) with
    | true => rfl
    | false =>
      rw [cond_false, cond_false, Bool.false_or, insF_snoc r x l]
      cases l.any (fun y => decide (y.2.1 > r.2.1)) with
      | true => rfl
      | false => cases decide (x.2.1 > r.2.1) <;> rfl
theorem early38 (l : Rds) (r : Rd) (h : l.length ≤ 100000) : D38 l r = some (insF r l) := by
  rw [e38, f38_1 _ _ _ _ (by rw [maxLen_val]; omega)]
  refine forE_inv (fun pre => ((bif pre.any (fun y => decide (y.2.1 > r.2.1)) then insF r pre else pre : Rds), pre.any (fun y => decide (y.2.1 > r.2.1)))) (fun o => o = some (insF r l)) l (fun pre x post e K hK => ?_) ?_ rfl
  · have hl : pre.length + 1 + post.length = l.length := by rw [e]; simp; omega
    have hil := insF_length r pre
    rw [insF_snoc, List.any_append] at hK
    cases ha : pre.any (fun y => decide (y.2.1 > r.2.1)) with
    | true =>
      simp only [ha, Bool.true_or, cond_true] at hK
      simp only [cond_true, Bool.not_true, condF]
      rw [limOk (by decide) (by simp only [List.length_singleton]; omega), condT]
      exact hK
    | false =>
      simp only [ha, Bool.false_or, cond_false, List.any_cons, List.any_nil, Bool.or_false] at hK
      simp only [cond_false, Bool.not_false, condT]
      cases hx : decide (x.2.1 > r.2.1) with
      | true =>
        rw [hx] at hK
        rw [condT, limOk (by decide) (by simp only [List.length_singleton]; omega), condT, limOk (by decide) (by simp only [List.length_append, List.length_singleton]; omega), condT]
        exact hK
      | false =>
        rw [hx] at hK
        rw [condF, limOk (by decide) (by simp only [List.length_singleton]; omega), condT]
        exact hK
  · cases ha : l.any (fun y => decide (y.2.1 > r.2.1)) with
    | true => rfl
    | false =>
      simp only [cond_false, Bool.not_false, condT]
      rw [limOk (by decide) (by simp only [List.length_singleton]; omega), insF_none r l ha]
      rfl
def place (l : Rds) (n : Int) : Int := findI (fun (r : Rd) => r.2.1 == n) 0 l
theorem place37 (l : Rds) (n : Int) (h : l.length ≤ 100000) : D37 l n = some (place l n) := by
  rw [e37, f37_1 _ _ (by rw [maxLen_val]; omega), forI_find (fun (r : Rd) => r.2.1 == n) l 0 ()]
  rfl
theorem place_cases (l : Rds) (n : Int) : (place l n = -1 ∧ l.any (fun r => r.2.1 == n) = false) ∨ ∃ i : Nat, ∃ h : i < l.length, place l n = (i : Int) ∧ (l[i].2.1 == n) = true := by
  cases ha : l.any (fun r => r.2.1 == n) with
  | false => exact .inl ⟨findI_neg _ _ _ ha, rfl⟩
  | true =>
    obtain ⟨i, h, h1, h2, _⟩ := findI_pos _ _ 0 ha
    exact .inr ⟨i, h, by rw [Nat.zero_add] at h1; exact h1, h2⟩
/-- what is moved over once one has arrived -/
def drain (i : Inb) : Inb :=
  match h : (place i.2.2.2 i.2.1 : Int) with
  | Int.ofNat k => if hk : k < i.2.2.2.length then drain (i.1, i.2.1 + 1, i.2.2.1 ++ [i.2.2.2[k]], i.2.2.2.take k ++ i.2.2.2.drop (k + 1)) else i
  | Int.negSucc _ => i
termination_by i.2.2.2.length
decreasing_by
  show (i.2.2.2.take k ++ i.2.2.2.drop (k + 1)).length < i.2.2.2.length
  rw [List.length_append, List.length_take, List.length_drop]; omega
theorem drain_stop {i : Inb} (h : place i.2.2.2 i.2.1 = -1) : drain i = i := by
  rw [drain]
  split
  · rename_i k hk; rw [h] at hk; cases hk
  · rfl
theorem drain_go {i : Inb} {k : Nat} (h : place i.2.2.2 i.2.1 = (k : Int)) (hk : k < i.2.2.2.length) : drain i = drain (i.1, i.2.1 + 1, i.2.2.1 ++ [i.2.2.2[k]], i.2.2.2.take k ++ i.2.2.2.drop (k + 1)) := by
  rw [drain]
  split
  · rename_i k' hk'
    rw [h] at hk'
    have : k = k' := by injection hk'
    subst this
    rw [dif_pos hk]
  · rename_i n hn; rw [h] at hn; cases hn
def Small (i : Inb) : Prop := i.2.2.1.length + i.2.2.2.length ≤ 50000 ∧ -1000000 ≤ i.2.1 ∧ i.2.1 + i.2.2.2.length ≤ 2000000
theorem del32 (l : Rds) (k : Nat) (hk : k < l.length) : D32 l (k : Int) ((k : Int) + 1) = some (l.take k ++ l.drop (k + 1)) := by
  show delD rideTy (l, (k : Int), (k : Int) + 1) = _
  rw [delD, if_pos ⟨by show (0 : Int) ≤ (k : Int); omega, by show (k : Int) ≤ (k : Int) + 1; omega, by show (k : Int) + 1 ≤ (l.length : Int); omega⟩]
  show some (l.take (k : Int).toNat ++ l.drop ((k : Int) + 1).toNat) = _
  rw [Int.toNat_natCast, show ((k : Int) + 1).toNat = k + 1 by omega]
theorem drain21 (i v : Inb) (h : Small i) : lp21_1 big i v = some (drain i, (drain i).2.1 - 1) := by
  unfold lp21_1
  refine iter_eq (fun s : Inb × Inb => Small s.1) (fun s => s.1.2.2.2.length) (fun s => (drain s.1, (drain s.1).2.1 - 1)) (fun F s hI hF => ?_) big (i, v) h (by show i.2.2.2.length < 18446744073709551616; have := h.1; omega)
  obtain ⟨i, v⟩ := s
  obtain ⟨h1, h2, h3⟩ := hI
  simp only at h1 h2 h3
  have hix : D30 i.2.2.2 (fun y => D31 y i) = some (place i.2.2.2 i.2.1) := index30 _ _ (fun r => r.2.1 == i.2.1) (fun x _ => e31 x i) (by rw [maxLen_val]; omega)
  simp only [hix, bindS]
  rcases place_cases i.2.2.2 i.2.1 with ⟨hp, _⟩ | ⟨k, hk, hp, _⟩
  · rw [drain_stop hp, hp, show decide ((-1 : Int) < 0) = true from rfl, condT, wrap_i64 (by omega) (by omega)]
  · rw [drain_go hp hk, hp, decide_eq_false (by omega), condF, idx_get hk, bindS, limOk (by decide) (by simp only [List.length_singleton]; omega), condT, wrap_i64 (n := (k : Int) + 1) (by omega) (by omega), del32 _ _ hk, bindS, wrap_i64 (n := i.2.1 + 1) (by omega) (by omega)]
    have hlen : (i.2.2.2.take k ++ i.2.2.2.drop (k + 1)).length + 1 = i.2.2.2.length := by rw [List.length_append, List.length_take, List.length_drop]; omega
    refine hF _ ⟨?_, ?_, ?_⟩ ?_
    · show (i.2.2.1 ++ [i.2.2.2[k]]).length + (i.2.2.2.take k ++ i.2.2.2.drop (k + 1)).length ≤ _
      rw [List.length_append, List.length_singleton]; omega
    · show -1000000 ≤ i.2.1 + 1; omega
    · show i.2.1 + 1 + ((i.2.2.2.take k ++ i.2.2.2.drop (k + 1)).length : Int) ≤ _
      omega
    · show (i.2.2.2.take k ++ i.2.2.2.drop (k + 1)).length < i.2.2.2.length; omega
theorem next39 (i : Inb) (r : Rd) (h : Small i) : D39 i r = some (i.1, i.2.1 + 1, i.2.2.1 ++ [r], i.2.2.2) := by
  obtain ⟨h1, h2, h3⟩ := h
  rw [e39, limOk (by decide) (by simp; omega), condT, List.nil_append, limOk (by decide) (by simp only [List.length_singleton]; omega), condT, wrap_i64 (by omega) (by omega)]
theorem drain22 (i v : Inb) (h : Small i) : lp22_1 big i v = some (drain i, (drain i).2.1 - 1) := by
  unfold lp22_1
  refine iter_eq (fun s : Inb × Inb => Small s.1) (fun s => s.1.2.2.2.length) (fun s => (drain s.1, (drain s.1).2.1 - 1)) (fun F s hI hF => ?_) big (i, v) h (by show i.2.2.2.length < 18446744073709551616; have := h.1; omega)
  obtain ⟨i, v⟩ := s
  have hS := hI
  obtain ⟨h1, h2, h3⟩ := hI
  simp only at h1 h2 h3 hS
  simp only [place37 i.2.2.2 i.2.1 (by omega), bindS]
  rcases place_cases i.2.2.2 i.2.1 with ⟨hp, _⟩ | ⟨k, hk, hp, _⟩
  · rw [drain_stop hp, hp, show decide ((-1 : Int) ≥ 0) = false from rfl, condF, wrap_i64 (by omega) (by omega)]
  · have c1 : (decide (0 ≤ (0 : Int)) && (decide ((0 : Int) ≤ (k : Int)) && decide ((k : Int) ≤ (i.2.2.2.length : Int)))) = true := by simp only [Bool.and_eq_true, decide_eq_true_eq]; omega
    have c2 : (decide (0 ≤ ((k : Int) + 1)) && (decide (((k : Int) + 1) ≤ (i.2.2.2.length : Int)) && decide ((i.2.2.2.length : Int) ≤ (i.2.2.2.length : Int)))) = true := by simp only [Bool.and_eq_true, decide_eq_true_eq]; omega
    have ht : (List.drop (Int.toNat 0) (List.take (Int.toNat (k : Int)) i.2.2.2)) = i.2.2.2.take k := by rw [Int.toNat_natCast]; rfl
    have hd : (List.drop (Int.toNat ((k : Int) + 1)) (List.take (Int.toNat (i.2.2.2.length : Int)) i.2.2.2)) = i.2.2.2.drop (k + 1) := by rw [Int.toNat_natCast, List.take_length, show ((k : Int) + 1).toNat = k + 1 by omega]
    have hlen : (i.2.2.2.take k).length + (i.2.2.2.drop (k + 1)).length + 1 = i.2.2.2.length := by rw [List.length_take, List.length_drop]; omega
    rw [drain_go hp hk, hp, wrap_i64 (n := (k : Int) + 1) (by omega) (by omega), c1, c2, decide_eq_true (show (k : Int) ≥ 0 by omega), condT, condT, ht, hd, List.nil_append, limOk (by decide) (by simp only [List.length_nil]; omega), condT, condT, limOk (by decide) (by omega), condT, idx_get hk, bindS, next39 _ _ hS, bindS]
    refine hF _ ⟨?_, ?_, ?_⟩ ?_
    · show (i.2.2.1 ++ [i.2.2.2[k]]).length + (i.2.2.2.take k ++ i.2.2.2.drop (k + 1)).length ≤ _
      rw [List.length_append, List.length_append, List.length_singleton]; omega
    · show -1000000 ≤ i.2.1 + 1; omega
    · show i.2.1 + 1 + ((i.2.2.2.take k ++ i.2.2.2.drop (k + 1)).length : Int) ≤ _
      rw [List.length_append]; omega
    · show (i.2.2.2.take k ++ i.2.2.2.drop (k + 1)).length < i.2.2.2.length
      rw [List.length_append]; omega
def recv (i : Inb) (r : Rd) : Inb :=
  if r.1 ≠ i.1 ∨ r.2.1 < i.2.1 then i
  else if r.2.1 = i.2.1 then drain (i.1, i.2.1 + 1, i.2.2.1 ++ [r], i.2.2.2)
  else if i.2.2.2.any (fun x => x.2.1 == r.2.1) = true then i else (i.1, i.2.1, i.2.2.1, insF r i.2.2.2)
def SmallR (i : Inb) : Prop := i.2.2.1.length + i.2.2.2.length ≤ 40000 ∧ -1000000 ≤ i.2.1 ∧ i.2.1 + i.2.2.2.length ≤ 1900000
theorem recv21 (i : Inb) (r : Rd) (h : SmallR i) : D21 i r = some (recv i r, (recv i r).2.1 - 1) := by
  obtain ⟨h1, h2, h3⟩ := h
  rw [e21, clone27 _ (by omega), clone27 _ (by omega), bindS, bindS, recv]
  have hw : IntKind.i64.wrap (i.2.1 - 1) = i.2.1 - 1 := wrap_i64 (by omega) (by omega)
  rw [hw]
  by_cases c1 : r.1 = i.1
  · rw [show (r.1 != i.1) = false by simpa using c1, condF]
    by_cases c2 : r.2.1 < i.2.1
    · rw [decide_eq_true c2, if_pos (.inr c2), condT]
    · rw [decide_eq_false c2, condF, if_neg (fun e => e.elim (fun e => e c1) c2)]
      by_cases c3 : r.2.1 = i.2.1
      · rw [if_pos c3, show (r.2.1 == i.2.1) = true by simpa using c3, condT, limOk (by decide) (by simp only [List.length_singleton]; omega), condT, wrap_i64 (by omega) (by omega)]
        exact drain21 _ _ ⟨by show (i.2.2.1 ++ [r]).length + i.2.2.2.length ≤ _; rw [List.length_append, List.length_singleton]; omega, by show -1000000 ≤ i.2.1 + 1; omega, by show i.2.1 + 1 + (i.2.2.2.length : Int) ≤ _; omega⟩
      · have hc : D33 i.2.2.2 (fun y => D34 y r) = some (i.2.2.2.any (fun x => x.2.1 == r.2.1)) := by
          rw [e33, index30 _ _ (fun x => x.2.1 == r.2.1) (fun x _ => e34 x r) (by rw [maxLen_val]; omega), bindS, findI_ge]
        rw [if_neg c3, show (r.2.1 == i.2.1) = false by simpa using c3, condF, hc, bindS]
        cases ha : i.2.2.2.any (fun x => x.2.1 == r.2.1) with
        | true => rw [if_pos rfl]; rfl
        | false =>
          rw [if_neg (by decide), Bool.not_false, condT, index30 _ _ (fun x => decide (x.2.1 > r.2.1)) (fun x _ => e35 x r) (by rw [maxLen_val]; omega), bindS]
          cases hg : i.2.2.2.any (fun x => decide (x.2.1 > r.2.1)) with
          | false =>
            rw [findI_neg _ _ _ hg, show decide ((-1 : Int) < 0) = true from rfl, condT, ins36 _ _ (Nat.le_refl _) _ (by omega), bindS, insF_none r _ hg, List.take_length, List.drop_length, List.append_nil]
          | true =>
            obtain ⟨k, hk, k1, k2, k3⟩ := findI_pos _ _ 0 hg
            rw [k1, Nat.zero_add, decide_eq_false (by omega), condF, ins36 _ _ (by omega) _ (by omega), bindS, insF_at r _ k hk k2 (fun j hj hlt => k3 j hj hlt)]
  · rw [show (r.1 != i.1) = true by simpa using c1, if_pos (.inl c1), condT]
theorem recv22 (i : Inb) (r : Rd) (h : SmallR i) : D22 i r = some (recv i r, (recv i r).2.1 - 1) := by
  have hS : Small i := ⟨by have := h.1; omega, h.2.1, by have := h.2.2; omega⟩
  obtain ⟨h1, h2, h3⟩ := h
  rw [e22, recv]
  have hw : IntKind.i64.wrap (i.2.1 - 1) = i.2.1 - 1 := wrap_i64 (by omega) (by omega)
  rw [hw]
  by_cases c1 : r.1 = i.1
  · rw [show (r.1 != i.1) = false by simpa using c1, condF]
    by_cases c2 : r.2.1 < i.2.1
    · rw [decide_eq_true c2, if_pos (.inr c2), condT]
    · rw [decide_eq_false c2, condF, if_neg (fun e => e.elim (fun e => e c1) c2)]
      by_cases c3 : r.2.1 = i.2.1
      · rw [if_pos c3, decide_eq_false (by omega), condF, next39 _ _ hS, bindS]
        exact drain22 _ _ ⟨by show (i.2.2.1 ++ [r]).length + i.2.2.2.length ≤ _; rw [List.length_append, List.length_singleton]; omega, by show -1000000 ≤ i.2.1 + 1; omega, by show i.2.1 + 1 + (i.2.2.2.length : Int) ≤ _; omega⟩
      · rw [if_neg c3, decide_eq_true (by omega), condT, place37 _ _ (by omega), bindS]
        rcases place_cases i.2.2.2 r.2.1 with ⟨hp, ha⟩ | ⟨k, hk, hp, ha⟩
        · rw [ha, if_neg (by decide), hp, show decide ((-1 : Int) < 0) = true from rfl, condT, early38 _ _ (by omega), bindS]
        · rw [if_pos (List.any_eq_true.2 ⟨_, List.getElem_mem hk, ha⟩), hp, decide_eq_false (by omega), condF]
  · rw [show (r.1 != i.1) = true by simpa using c1, if_pos (.inl c1), condT]
theorem drain_len : ∀ (n : Nat) (i : Inb), i.2.2.2.length ≤ n → (drain i).2.2.1.length + (drain i).2.2.2.length = i.2.2.1.length + i.2.2.2.length := by
  intro n
  induction n with
  | zero =>
    intro i hi
    have : i.2.2.2 = [] := List.eq_nil_of_length_eq_zero (by omega)
    rw [drain_stop (by rw [this]; rfl)]
  | succ n ih =>
    intro i hi
    rcases place_cases i.2.2.2 i.2.1 with ⟨hp, _⟩ | ⟨k, hk, hp, _⟩
    · rw [drain_stop hp]
    · rw [drain_go hp hk, ih _ (by show (i.2.2.2.take k ++ i.2.2.2.drop (k + 1)).length ≤ n; rw [List.length_append, List.length_take, List.length_drop]; omega)]
      show (i.2.2.1 ++ [i.2.2.2[k]]).length + (i.2.2.2.take k ++ i.2.2.2.drop (k + 1)).length = _
      rw [List.length_append, List.length_append, List.length_take, List.length_drop, List.length_singleton]; omega
theorem recv_len (i : Inb) (r : Rd) : (recv i r).2.2.1.length + (recv i r).2.2.2.length ≤ i.2.2.1.length + i.2.2.2.length + 1 := by
  unfold recv
  split
  · omega
  · split
    · rw [drain_len _ _ (Nat.le_refl _)]
      show (i.2.2.1 ++ [r]).length + i.2.2.2.length ≤ _
      rw [List.length_append, List.length_singleton]; omega
    · split
      · omega
      · show i.2.2.1.length + (insF r i.2.2.2).length ≤ _
        rw [insF_length]; omega
theorem receives4 (i : Inb) (r : Rd) : D4 i r = some true := by
  rw [e4, aliveD, e10, e10]
  simp only [bindS, Bool.not_true, condF]
  by_cases h1 : (i.2.2.1.length : Int) ≤ 200
  · by_cases h2 : (i.2.2.2.length : Int) ≤ 200
    · by_cases h3 : i.2.1 < 1
      · rw [decide_eq_true h1, decide_eq_true h2, decide_eq_true h3]; rfl
      · by_cases h4 : i.2.1 > 1000000
        · rw [decide_eq_true h1, decide_eq_true h2, decide_eq_false h3, decide_eq_true h4]; rfl
        · have hS : SmallR i := ⟨by omega, by omega, by omega⟩
          have hl := recv_len i r
          rw [decide_eq_true h1, decide_eq_true h2, decide_eq_false h3, decide_eq_false h4, recv21 _ _ hS, recv22 _ _ hS]
          simp only [Bool.not_true, condF, bindS, sameIn16 _ (show (recv i r).2.2.1.length ≤ 100000 by omega) (show (recv i r).2.2.2.length ≤ 100000 by omega), condT, beq_self_eq_true]
    · rw [decide_eq_true h1, decide_eq_false h2]; rfl
  · rw [decide_eq_false h1]; rfl
theorem law4 (x : (pk ps4).den) (_ : Valid (pk ps4) x) : d4 x = some true := receives4 x.1 x.2
end Go.Proofs.Ytcfneiladppfnaa.D
