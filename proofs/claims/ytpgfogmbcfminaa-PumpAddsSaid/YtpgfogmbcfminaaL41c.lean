import Derived.Test.YtpgfogmbcfminaaL41b
import Derived.Test.YtpgfogmbcfminaaGD29
open Go Go.GD Go.Proofs
namespace Go.Proofs.Ytpgfogmbcfminaa.D
/-! orders -/
theorem less24 (a b : List Int) (ha : a.length ≤ maxLen) : D24 a b = some (lexLt a b) := by
  rw [e24, f24_1 a b ha]
  suffices h : ∀ (xs : List Int) (k : Nat), a.drop k = xs → k + xs.length = a.length → forI _ _ k xs () = some (lexLt xs (b.drop k)) from by
    have := h a 0 rfl (by omega)
    rwa [List.drop_zero] at this
  intro xs
  induction xs with
  | nil =>
    intro k _ hk
    simp only [forI]
    simp only [List.length_nil, Nat.add_zero] at hk
    subst hk
    rcases Nat.lt_or_ge a.length b.length with h | h
    · rw [List.drop_eq_getElem_cons h]
      have : decide ((a.length : Int) < (b.length : Int)) = true := decide_eq_true (by omega)
      rw [this]; rfl
    · rw [List.drop_eq_nil_of_le h]
      have : decide ((a.length : Int) < (b.length : Int)) = false := decide_eq_false (by omega)
      rw [this]; rfl
  | cons x xs ih =>
    intro k hd hk
    simp only [List.length_cons] at hk
    simp only [forI]
    have hd' : a.drop (k + 1) = xs := by rw [← List.tail_drop, hd]; rfl
    rcases Nat.lt_or_ge k b.length with h | h
    · have c : decide ((k : Int) < (b.length : Int)) = true := decide_eq_true (by omega)
      rw [c, condT, List.drop_eq_getElem_cons h]
      simp only [idx_get h, bindS, lexLt]
      by_cases e : x = b[k]
      · have : (x != b[k]) = false := by simp [e]
        rw [this, condF, if_pos e]
        exact ih (k + 1) hd' (by omega)
      · have : (x != b[k]) = true := by simpa using e
        rw [this, condT, if_neg e]
    · have c : decide ((k : Int) < (b.length : Int)) = false := decide_eq_false (by omega)
      have c2 : decide ((a.length : Int) < (b.length : Int)) = false := decide_eq_false (by omega)
      rw [c, condF, List.drop_eq_nil_of_le h, c2]
      rfl
theorem cmp27 (x y : Int) : D27 x y = some (if x < y then -1 else if x > y then 1 else 0) := by
  rw [e27, e29, e29]
  simp only [bindS, bne_self_eq_false, condF]
  by_cases h : x < y
  · simp [h]
  · by_cases h2 : x > y
    · simp [h, h2]
    · simp [h, h2]
theorem cmp22 (a b : List Int) (ha : a.length ≤ maxLen) : ∃ c, D22 a b = some c ∧ decide (c < 0) = lexLt a b := by
  rw [e22, f22_1 a b a ha]
  refine forI_rule (I := fun pre _ => lexLt a b = lexLt (a.drop pre.length) (b.drop pre.length)) (Q := fun o => ∃ c, o = some c ∧ decide (c < 0) = lexLt a b) a ?_ ?_ (by simp)
  · intro pre x post e s hI K hK
    have hd : a.drop pre.length = x :: post := by rw [e, List.drop_left]
    have hlen : pre.length < a.length := by rw [e]; simp
    rw [hd] at hI
    rcases Nat.lt_or_ge pre.length b.length with h | h
    · have c : decide ((pre.length : Int) ≥ (b.length : Int)) = false := decide_eq_false (by omega)
      rw [List.drop_eq_getElem_cons h] at hI
      rw [c, condF, idx_get h, bindS, cmp27, bindS]
      simp only [lexLt] at hI
      by_cases e1 : x = b[pre.length]
      · have h1 : ¬ x < b[pre.length] := by omega
        have h2 : ¬ x > b[pre.length] := by omega
        rw [if_neg h1, if_neg h2]
        simp only [bne_self_eq_false, condF]
        rw [if_pos e1] at hI
        refine hK () ?_
        rw [hI, List.length_append, List.length_singleton]
        have : a.drop (pre.length + 1) = post := by rw [← List.tail_drop, hd]; rfl
        rw [this]
      · rw [if_neg e1] at hI
        by_cases h1 : x < b[pre.length]
        · rw [if_pos h1]
          exact ⟨-1, rfl, by rw [hI]; simp [h1]⟩
        · have h2 : x > b[pre.length] := by omega
          rw [if_neg h1, if_pos h2]
          exact ⟨1, rfl, by rw [hI]; simp [h1]⟩
    · have c : decide ((pre.length : Int) ≥ (b.length : Int)) = true := decide_eq_true (by omega)
      rw [c, condT]
      rw [List.drop_eq_nil_of_le h] at hI
      exact ⟨1, rfl, by rw [hI]; rfl⟩
  · intro s hI
    rw [List.drop_length] at hI
    rcases Nat.lt_or_ge a.length b.length with h | h
    · rw [List.drop_eq_getElem_cons h] at hI
      have : decide ((a.length : Int) < (b.length : Int)) = true := decide_eq_true (by omega)
      rw [this, condT]; exact ⟨_, rfl, by rw [hI]; rfl⟩
    · rw [List.drop_eq_nil_of_le h] at hI
      have : decide ((a.length : Int) < (b.length : Int)) = false := decide_eq_false (by omega)
      rw [this, condF]; exact ⟨_, rfl, by rw [hI]; rfl⟩
theorem same15 (a b : List Int) (ha : a.length ≤ maxLen) (hb : b.length ≤ maxLen) : D15 a b = some (!lexLt a b && !lexLt b a) := by
  rw [e15, less24 a b ha, bindS, less24 b a hb, bindS]
  cases lexLt a b <;> rfl

def better (p : Int) (c : List Int) (p' : Int) (c' : List Int) : Bool := decide (p < p') || (p == p' && lexLt c c')
theorem better_irrefl (p : Int) (c : List Int) : better p c p c = false := by simp [better, lexLt_irrefl]
theorem better_trans {p p' p'' : Int} {c c' c'' : List Int} (h1 : better p c p' c' = true) (h2 : better p' c' p'' c'' = true) : better p c p'' c'' = true := by
  simp only [better, Bool.or_eq_true, Bool.and_eq_true, decide_eq_true_eq, beq_iff_eq] at *
  rcases h1 with h1 | ⟨h1, q1⟩ <;> rcases h2 with h2 | ⟨h2, q2⟩
  · left; omega
  · left; omega
  · left; omega
  · right; exact ⟨by omega, lexLt_trans _ _ _ q1 q2⟩
theorem better_total {p p' : Int} {c c' : List Int} (h1 : better p c p' c' = false) (h2 : better p' c' p c = false) : p = p' ∧ c = c' := by
  simp only [better, Bool.or_eq_false_iff, Bool.and_eq_false_iff, decide_eq_false_iff_not, beq_eq_false_iff_ne] at *
  have e : p = p' := by omega
  subst e
  exact ⟨rfl, lexLt_total _ _ (h1.2.resolve_left (by simp)) (h2.2.resolve_left (by simp))⟩

/-! sums of sets -/
theorem hasN_bits (m k : Nat) (hk : k < 8) : hasN (bits m) k = m.testBit k := by
  unfold hasN hasI bits bitsTo
  rw [Bool.eq_iff_iff, List.any_eq_true]
  constructor
  · rintro ⟨y, hy, e⟩
    obtain ⟨j, hj, rfl⟩ := List.mem_map.1 hy
    have : (j : Int) = (k : Int) := by simpa using e
    have : j = k := by omega
    subst this
    exact (List.mem_filter.1 hj).2
  · intro h
    exact ⟨(k : Int), List.mem_map.2 ⟨k, List.mem_filter.2 ⟨List.mem_range.2 hk, h⟩, rfl⟩, by simp⟩
theorem sumP_congr {p q : Nat → Bool} {f : Pump → Int} : ∀ (l : List Pump) (k : Nat), (∀ i, i < l.length → p (k + i) = q (k + i)) → sumP p f k l = sumP q f k l
  | [], _, _ => rfl
  | x :: xs, k, h => by
    have h0 := h 0 (by simp)
    rw [Nat.add_zero] at h0
    have ih := sumP_congr (p := p) (q := q) (f := f) xs (k + 1) fun i hi => by
      have := h (i + 1) (by simpa using hi)
      rwa [show k + (i + 1) = k + 1 + i by omega] at this
    simp only [sumP, h0, ih]
theorem sumP_mono {p q : Nat → Bool} {f : Pump → Int} : ∀ (l : List Pump) (k : Nat), (∀ x, x ∈ l → 0 ≤ f x) → (∀ i, i < l.length → p (k + i) = true → q (k + i) = true) → sumP p f k l ≤ sumP q f k l
  | [], _, _, _ => Int.le_refl _
  | x :: xs, k, hf, h => by
    have hx := hf x (List.mem_cons_self ..)
    have h0 := h 0 (by simp)
    rw [Nat.add_zero] at h0
    have ih := sumP_mono (p := p) (q := q) xs (k + 1) (fun y hy => hf y (List.mem_cons_of_mem _ hy)) fun i hi => by
      have := h (i + 1) (by simpa using hi)
      rwa [show k + (i + 1) = k + 1 + i by omega] at this
    simp only [sumP]
    cases hp : p k with
    | true => rw [h0 hp]; simp only [if_true]; omega
    | false =>
      simp only [Bool.false_eq_true, if_false]
      split <;> omega
theorem sumP_lt {p q : Nat → Bool} {f : Pump → Int} : ∀ (l : List Pump) (k : Nat), (∀ x, x ∈ l → 0 < f x) → (∀ i, i < l.length → p (k + i) = true → q (k + i) = true) → (∃ i, i < l.length ∧ p (k + i) = false ∧ q (k + i) = true) →
    sumP p f k l < sumP q f k l
  | [], _, _, _, ⟨i, hi, _⟩ => by simp at hi
  | x :: xs, k, hf, h, ⟨i, hi, hpi, hqi⟩ => by
    have hx := hf x (List.mem_cons_self ..)
    have h0 := h 0 (by simp)
    rw [Nat.add_zero] at h0
    have hs : ∀ i, i < xs.length → p (k + 1 + i) = true → q (k + 1 + i) = true := fun i hi => by
      have := h (i + 1) (by simpa using hi)
      rwa [show k + (i + 1) = k + 1 + i by omega] at this
    have hf' : ∀ y, y ∈ xs → 0 < f y := fun y hy => hf y (List.mem_cons_of_mem _ hy)
    simp only [sumP]
    cases i with
    | zero =>
      rw [Nat.add_zero] at hpi hqi
      rw [hpi, hqi]
      have := sumP_mono (p := p) (q := q) xs (k + 1) (fun y hy => Int.le_of_lt (hf' y hy)) hs
      simp only [Bool.false_eq_true, if_false, if_true]
      omega
    | succ i =>
      have ih := sumP_lt (p := p) (q := q) xs (k + 1) hf' hs ⟨i, by simpa using hi, by rwa [show k + 1 + i = k + (i + 1) by omega], by rwa [show k + 1 + i = k + (i + 1) by omega]⟩
      cases hp : p k with
      | true => rw [h0 hp]; simp only [if_true]; omega
      | false =>
        simp only [Bool.false_eq_true, if_false]
        split <;> omega

/-- a set with any members -/
theorem set_of (p : Nat → Bool) : ∀ n, ∃ m, m < 2 ^ n ∧ ∀ k, k < n → m.testBit k = p k
  | 0 => ⟨0, by simp, fun k hk => by omega⟩
  | n + 1 => by
    obtain ⟨m, h1, h2⟩ := set_of p n
    cases hp : p n with
    | false =>
      refine ⟨m, by rw [Nat.pow_succ]; omega, fun k hk => ?_⟩
      by_cases e : k = n
      · subst e; rw [hp, Nat.testBit_lt_two_pow h1]
      · exact h2 k (by omega)
    | true =>
      refine ⟨2 ^ n + m, by rw [Nat.pow_succ]; omega, fun k hk => ?_⟩
      by_cases e : k = n
      · subst e; rw [hp, Nat.testBit_two_pow_add_eq, Nat.testBit_lt_two_pow h1]; rfl
      · rw [Nat.testBit_two_pow_add_gt (by omega)]; exact h2 k (by omega)

def fl (l : List Pump) (j : Nat) : Int := sumP (hasN (bits j)) (·.2.1) 0 l
def pw (l : List Pump) (j : Nat) : Int := sumP (hasN (bits j)) (·.2.2) 0 l
def Good (l : List Pump) : Prop := l.length ≤ 8 ∧ ∀ x, x ∈ l → badP x = false
theorem good_of {l : List Pump} (h : (if l.length > 8 then 4 else chk [] l : Int) = 0) : Good l := by
  by_cases hn : l.length > 8
  · rw [if_pos hn] at h; cases h
  · rw [if_neg hn] at h
    exact ⟨by omega, chk_good l [] h⟩

section
variable {l : List Pump} (hg : Good l)
include hg
theorem flowG (c : List Int) (hc : c.length ≤ maxLen) : D16 l c = some (sumP (hasN c) (·.2.1) 0 l) := by
  rw [flow16 l c (by have := hg.1; rw [maxLen_val]; omega) hc, sumW_eq _ _ l 0 0 (fun x hx => by have := badP_false (hg.2 x hx); omega) (Int.le_refl _) (by have := hg.1; omega)]
  simp
theorem flowG' (c : List Int) (hc : c.length ≤ maxLen) : D17 l c = some (sumP (hasN c) (·.2.1) 0 l) := by
  rw [flow17 l c (by have := hg.1; rw [maxLen_val]; omega) hc, sumW_eq _ _ l 0 0 (fun x hx => by have := badP_false (hg.2 x hx); omega) (Int.le_refl _) (by have := hg.1; omega)]
  simp
theorem powerG (c : List Int) (hc : c.length ≤ maxLen) : D18 l c = some (sumP (hasN c) (·.2.2) 0 l) := by
  rw [power18 l c (by have := hg.1; rw [maxLen_val]; omega) hc, sumW_eq _ _ l 0 0 (fun x hx => by have := badP_false (hg.2 x hx); omega) (Int.le_refl _) (by have := hg.1; omega)]
  simp
theorem powerG' (c : List Int) (hc : c.length ≤ maxLen) : D19 l c = some (sumP (hasN c) (·.2.2) 0 l) := by
  rw [power19 l c (by have := hg.1; rw [maxLen_val]; omega) hc, sumW_eq _ _ l 0 0 (fun x hx => by have := badP_false (hg.2 x hx); omega) (Int.le_refl _) (by have := hg.1; omega)]
  simp
omit hg in
theorem bits_len (m : Nat) : (bits m).length ≤ maxLen := by have := bitsTo_len m 8; unfold bits; rw [maxLen_val]; omega

/-- the best of all sets -/
def Least (flow : Int) (m : Nat) : Prop := m < 2 ^ l.length ∧ fl l m ≥ flow ∧ ∀ j, j < 2 ^ l.length → fl l j ≥ flow → better (pw l j) (bits j) (pw l m) (bits m) = false

theorem fl_all (j : Nat) : fl l j ≤ fl l (2 ^ l.length - 1) := by
  refine sumP_mono l 0 (fun x hx => by have := badP_false (hg.2 x hx); omega) fun i hi _ => ?_
  have := hg.1
  rw [hasN_bits _ _ (by omega), Nat.zero_add, Nat.testBit_two_pow_sub_one]
  simpa using hi

theorem best13 (flow : Int) (h0 : 0 ≤ flow) : (fl l (2 ^ l.length - 1) < flow ∧ D13 l flow = some ([], 0, 9)) ∨ ∃ m, Least (l := l) flow m ∧ D13 l flow = some (bits m, pw l m, 0) := by
  have hn := hg.1
  have hN : 2 ^ l.length ≤ 256 := Nat.pow_le_pow_right (n := 2) (by omega) hn
  have hpos : 0 < 2 ^ l.length := Nat.two_pow_pos _
  generalize hNe : 2 ^ l.length = N at *
  have c1 : decide (flow < 0) = false := decide_eq_false (by omega)
  have c2 : decide ((l.length : Int) > 8) = false := decide_eq_false (by omega)
  have c3 : decide ((l.length : Int) < 0) = false := decide_eq_false (by omega)
  have e1 : (1 : Int) * 2 ^ (Nat.min (Int.toNat (l.length : Int)) 64) = (N : Int) := by
    rw [Int.toNat_natCast, show Nat.min l.length 64 = l.length from Nat.min_eq_left (by omega), Int.one_mul, ← hNe]; simp
  have w1 : IntKind.i64.wrap (N : Int) = (N : Int) := wrap_i64 (by omega) (by omega)
  have w2 : IntKind.i64.wrap ((N : Int) - 1) = ((N - 1 : Nat) : Int) := by rw [wrap_i64 (by omega) (by omega)]; omega
  rw [e13, c1, c2, c3, e1, w1, w2, condF, condF, condF, members21 (N - 1) (by omega), bindS, flowG hg _ (bits_len _), bindS]
  show (fl l (N - 1) < flow ∧ (bif decide (fl l (N - 1) < flow) then _ else _) = _) ∨ ∃ m, _ ∧ (bif decide (fl l (N - 1) < flow) then _ else _) = _
  by_cases hf : fl l (N - 1) < flow
  · left
    have : decide (fl l (N - 1) < flow) = true := decide_eq_true hf
    rw [this, condT]
    exact ⟨hf, rfl⟩
  · right
    have : decide (fl l (N - 1) < flow) = false := decide_eq_false hf
    rw [this, condF, powerG hg _ (bits_len _), bindS, f13_1 _ _ _ _ _ (by omega), Int.toNat_natCast]
    show ∃ m, _ ∧ forN _ _ 0 (N - 1) (bits (N - 1), pw l (N - 1)) = _
    refine forN_rule (I := fun k (s : List Int × Int) => ∃ m, m < N ∧ s = (bits m, pw l m) ∧ fl l m ≥ flow ∧ ∀ j, (j = N - 1 ∨ j < k) → fl l j ≥ flow → better (pw l j) (bits j) (pw l m) (bits m) = false)
      (Q := fun o => ∃ m, Least (l := l) flow m ∧ o = some (bits m, pw l m, 0)) (N - 1) ?_ ?_ ?_
    · rintro k hk s ⟨m, h1, rfl, h2, h3⟩ K hK
      simp only [members21 k (by omega), bindS, flowG hg _ (bits_len k), powerG hg _ (bits_len k)]
      have keep : (fl l k ≥ flow → better (pw l k) (bits k) (pw l m) (bits m) = false) → ∃ m', Least (l := l) flow m' ∧ K (bits m, pw l m) = some (bits m', pw l m', 0) := fun hb =>
        hK _ ⟨m, h1, rfl, h2, fun j hj hfj => by
          rcases hj with rfl | hj
          · exact h3 _ (.inl rfl) hfj
          · rcases Nat.lt_or_ge j k with h | h
            · exact h3 j (.inr h) hfj
            · have : j = k := by omega
              subst this; exact hb hfj⟩
      have take : fl l k ≥ flow → better (pw l k) (bits k) (pw l m) (bits m) = true → ∃ m', Least (l := l) flow m' ∧ K (bits k, pw l k) = some (bits m', pw l m', 0) := fun hfk hb =>
        hK _ ⟨k, by omega, rfl, hfk, fun j hj hfj => by
          cases hbj : better (pw l j) (bits j) (pw l k) (bits k) with
          | false => rfl
          | true =>
            have hjm := better_trans hbj hb
            rcases hj with rfl | hj
            · rw [h3 _ (.inl rfl) hfj] at hjm; cases hjm
            · rcases Nat.lt_or_ge j k with h | h
              · rw [h3 j (.inr h) hfj] at hjm; cases hjm
              · have : j = k := by omega
                subst this; rw [better_irrefl] at hbj; cases hbj⟩
      have eF : sumP (hasN (bits k)) (fun x => x.2.1) 0 l = fl l k := rfl
      have eP : sumP (hasN (bits k)) (fun x => x.2.2) 0 l = pw l k := rfl
      rw [eF, eP]
      by_cases hfk : fl l k < flow
      · have : decide (fl l k < flow) = true := decide_eq_true hfk
        rw [this, condT]
        exact keep fun h => by omega
      · have : decide (fl l k < flow) = false := decide_eq_false hfk
        rw [this, condF]
        by_cases hp : pw l k < pw l m
        · have : decide (pw l k < pw l m) = true := decide_eq_true hp
          rw [this, condT]
          exact take (by omega) (by unfold better; rw [this]; rfl)
        · have d : decide (pw l k < pw l m) = false := decide_eq_false hp
          rw [d, condF]
          by_cases he : pw l k = pw l m
          · have d2 : (pw l k == pw l m) = true := by simpa using he
            rw [d2, condT]
            obtain ⟨c, hc1, hc2⟩ := cmp22 (bits k) (bits m) (bits_len k)
            rw [hc1, bindS, hc2]
            cases hlx : lexLt (bits k) (bits m) with
            | true => rw [condT]; exact take (by omega) (by unfold better; rw [d2, hlx]; simp)
            | false => rw [condF]; exact keep fun _ => by unfold better; rw [d, hlx]; simp
          · have d2 : (pw l k == pw l m) = false := by simpa using he
            rw [d2, condF]
            exact keep fun _ => by unfold better; rw [d, d2]; rfl
    · rintro s ⟨m, h1, rfl, h2, h3⟩
      exact ⟨m, ⟨by rw [hNe]; exact h1, h2, fun j hj hfj => h3 j (by rw [hNe] at hj; omega) hfj⟩, rfl⟩
    · exact ⟨N - 1, by omega, rfl, by omega, fun j hj hfj => by
        rcases hj with rfl | hj
        · exact better_irrefl _ _
        · omega⟩
end
end Go.Proofs.Ytpgfogmbcfminaa.D
