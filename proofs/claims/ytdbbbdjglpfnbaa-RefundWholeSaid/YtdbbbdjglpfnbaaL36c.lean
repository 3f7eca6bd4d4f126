import Derived.Test.YtdbbbdjglpfnbaaL36b
open Go Go.GD Go.Proofs
namespace Go.Proofs.Ytdbbbdjglpfnbaa.D
/-! Even -/
/-- the part k of an amount that is divided into n -/
def part (a n k : Nat) : Nat := a / n + if k < a % n then 1 else 0

theorem part_le (a n k : Nat) : part a n k ≤ a + 1 := by
  unfold part
  have := Nat.div_le_self a n
  split <;> omega

theorem tdiv_nat (a n : Nat) : Int.tdiv (a : Int) (n : Int) = ((a / n : Nat) : Int) := rfl
theorem tmod_nat (a n : Nat) : Int.tmod (a : Int) (n : Int) = ((a % n : Nat) : Int) := rfl
theorem wrap_nat (n : Nat) (h : n ≤ 9223372036854775807) : IntKind.i64.wrap (n : Int) = (n : Int) := wrap_i64 (by omega) (by omega)

theorem even26 (a n : Nat) (ha : a ≤ 1099511627776) (h1 : 1 ≤ n) (h2 : n ≤ 64) : D26 (a : Int) (n : Int) = some ((List.range n).map (fun k => (part a n k : Int)), 0) := by
  have c1 : decide ((a : Int) < 0) = false := decide_eq_false (by omega)
  have c2 : decide ((a : Int) > 1099511627776) = false := decide_eq_false (by omega)
  have c3 : decide ((n : Int) < 1) = false := decide_eq_false (by omega)
  have c4 : decide ((n : Int) > 64) = false := decide_eq_false (by omega)
  rw [e26, c1, c2, c3, c4, condF, condF, condF, condF, f26_1 _ _ _ (by omega), Int.toNat_natCast]
  refine forN_inv (fun k => (List.range k).map (fun k => (part a n k : Int))) (· = some ((List.range n).map (fun k => (part a n k : Int)), 0)) n ?_ rfl rfl
  intro k hk K hK
  have c5 : ((n : Int) == 0) = false := by simp only [beq_eq_false_iff_ne]; omega
  have hq : a / n ≤ a := Nat.div_le_self _ _
  have w1 : IntKind.i64.wrap ((a / n : Nat) : Int) = ((a / n : Nat) : Int) := wrap_nat _ (by omega)
  have w2 : IntKind.i64.wrap (((a / n : Nat) : Int) + 1) = ((a / n + 1 : Nat) : Int) := wrap_nat (a / n + 1) (by omega)
  rw [List.range_succ, List.map_append] at hK
  simp only [c5, condF, tdiv_nat, tmod_nat, w1, w2, List.length_map, List.length_range, List.length_singleton, grows_int k (by omega), condT]
  have e : decide ((k : Int) < ((a % n : Nat) : Int)) = decide (k < a % n) := by
    rw [Bool.eq_iff_iff, decide_eq_true_eq, decide_eq_true_eq]; omega
  rw [e]
  simp only [List.map_cons, List.map_nil, part] at hK
  by_cases h : k < a % n
  · simp only [h, if_true] at hK; simp only [h, decide_true, condT]; exact hK
  · simp only [h, if_false, Nat.add_zero] at hK; simp only [h, decide_false, condF]; exact hK

theorem set_mid {α : Type} (l r : List α) (x y : α) (n : Nat) (h : l.length = n) : (l ++ x :: r).set n y = l ++ y :: r := by
  subst h
  rw [List.set_append, if_neg (Nat.lt_irrefl _), Nat.sub_self]
  rfl
theorem get_mid {α : Type} (l r : List α) (x : α) (n : Nat) (h : l.length = n) : idx (l ++ x :: r) (n : Int) = some x := by
  subst h
  rw [idx_nat, List.getElem?_append_right (Nat.le_refl _), Nat.sub_self]
  rfl

theorem even23 (a n : Nat) (ha : a ≤ 1099511627776) (h1 : 1 ≤ n) (h2 : n ≤ 64) : D23 (a : Int) (n : Int) = some ((List.range n).map (fun k => (part a n k : Int)), 0) := by
  have c1 : decide ((a : Int) < 0) = false := decide_eq_false (by omega)
  have c2 : decide ((a : Int) > 1099511627776) = false := decide_eq_false (by omega)
  have c3 : decide ((n : Int) < 1) = false := decide_eq_false (by omega)
  have c4 : decide ((n : Int) > 64) = false := decide_eq_false (by omega)
  have c5 : decide (0 ≤ (n : Int)) = true := decide_eq_true (by omega)
  have c6 : decide ((n : Int) ≤ n) = true := decide_eq_true (by omega)
  have c7 : decide (8 * (n : Int) ≤ (appendLimit : Int)) = true := decide_eq_true (by unfold appendLimit; omega)
  have c8 : decide ((n : Int) ≤ 9223372036854775807) = true := decide_eq_true (by omega)
  rw [e23, c1, c2, c3, c4, c5, c6, c7, c8]
  simp only [condF, Bool.and_self, condT, Int.toNat_natCast, List.length_replicate]
  rw [f23_1 _ _ _ _ (by omega), Int.toNat_natCast]
  refine forN_inv (fun k => (List.range k).map (fun k => (part a n k : Int)) ++ List.replicate (n - k) 0) (· = some ((List.range n).map (fun k => (part a n k : Int)), 0)) n ?_ (by simp) (by simp)
  intro k hk K hK
  have c9 : ((n : Int) == 0) = false := by simp only [beq_eq_false_iff_ne]; omega
  have hq : a / n ≤ a := Nat.div_le_self _ _
  have w1 : IntKind.i64.wrap ((a / n : Nat) : Int) = ((a / n : Nat) : Int) := wrap_nat _ (by omega)
  have w2 : IntKind.i64.wrap (((a / n : Nat) : Int) + 1) = ((a / n + 1 : Nat) : Int) := wrap_nat (a / n + 1) (by omega)
  have hl : ((List.range k).map (fun k => (part a n k : Int))).length = k := by simp
  have er : List.replicate (n - k) (0 : Int) = 0 :: List.replicate (n - (k + 1)) 0 := by
    rw [show n - k = (n - (k + 1)) + 1 by omega]; rfl
  rw [List.range_succ, List.map_append] at hK
  rw [er]
  have e : decide ((k : Int) < ((a % n : Nat) : Int)) = decide (k < a % n) := by
    rw [Bool.eq_iff_iff, decide_eq_true_eq, decide_eq_true_eq]; omega
  simp only [c9, condF, tdiv_nat, tmod_nat, w1, get_mid _ _ _ k hl, bindS, Int.toNat_natCast, set_mid _ _ _ _ k hl, w2, e]
  simp only [List.map_cons, List.map_nil, part, List.append_assoc, List.cons_append, List.nil_append] at hK ⊢
  by_cases h : k < a % n
  · simp only [h, if_true] at hK; simp only [h, decide_true, condT]; exact hK
  · simp only [h, if_false, Nat.add_zero] at hK; simp only [h, decide_false, condF]; exact hK

/-! Days -/
def okS (n : Int) : Bool := decide (0 ≤ n) && decide (n ≤ 1000)
theorem e22b (n : Int) : D22 n = some (okS n) := by
  rw [e22]; unfold okS
  by_cases h : n ≥ 0 <;> simp [h]
theorem e24b (n : Int) : D24 n = some (okS n) := by
  rw [e24]; unfold okS
  by_cases h : n ≥ 0 <;> simp [h]
theorem e25b (n : Int) : D25 n = some (decide (0 ≤ n) && decide (n ≤ 100000000)) := by
  rw [e25]
  by_cases h : n ≥ 0 <;> simp [h]

/-- what a day gives back -/
def dayOf (least : Int) (rate a n : Nat) (closed : List Int) (k : Nat) : Nat := if closed.getD k 0 ≥ least then part a n k * rate / 1000 else 0
def payTo (least : Int) (rate a n : Nat) (closed : List Int) : Nat → Nat
  | 0 => 0
  | k + 1 => payTo least rate a n closed k + dayOf least rate a n closed k
def partTo (a n : Nat) : Nat → Nat
  | 0 => 0
  | k + 1 => partTo a n k + part a n k

theorem partTo_eq (a n : Nat) : ∀ k, partTo a n k = k * (a / n) + min k (a % n)
  | 0 => by simp [partTo]
  | k + 1 => by
    rw [partTo, partTo_eq a n k, part, Nat.add_mul, Nat.one_mul]
    split <;> omega

theorem partTo_all (a n : Nat) (h : 0 < n) : partTo a n n = a := by
  rw [partTo_eq]
  have := Nat.mod_lt a h
  have h2 := Nat.div_add_mod a n
  rw [Nat.min_eq_right (by omega)]
  exact h2

theorem dayOf_le (least : Int) (rate a n : Nat) (closed : List Int) (k : Nat) (h : rate ≤ 1000) : dayOf least rate a n closed k ≤ part a n k := by
  unfold dayOf
  split
  · exact Nat.div_le_of_le_mul (by rw [Nat.mul_comm]; exact Nat.mul_le_mul_right _ h)
  · omega

theorem payTo_le (least : Int) (rate a n : Nat) (closed : List Int) (h : rate ≤ 1000) : ∀ k, payTo least rate a n closed k ≤ partTo a n k
  | 0 => Nat.le_refl _
  | k + 1 => Nat.add_le_add (payTo_le least rate a n closed h k) (dayOf_le least rate a n closed k h)

theorem payTo_mono {least least' : Int} {rate rate' a n : Nat} {closed closed' : List Int} : ∀ k, (∀ i, i < k → dayOf least rate a n closed i ≤ dayOf least' rate' a n closed' i) → payTo least rate a n closed k ≤ payTo least' rate' a n closed' k
  | 0, _ => Nat.le_refl _
  | k + 1, h => Nat.add_le_add (payTo_mono k fun i hi => h i (by omega)) (h k (by omega))

def daysS (r : Int × Int) (paid : Int) (closed : List Int) : Int × Int :=
  bif !(okS r.1 && okS r.2 && (decide (0 ≤ paid) && decide (paid ≤ 100000000))) then (0, 2) else
  bif decide ((closed.length : Int) < 1) || decide ((closed.length : Int) > 64) then (0, 1) else
  bif !closed.all okS then (0, 2) else ((payTo r.1 r.2.toNat paid.toNat closed.length closed closed.length : Nat), 0)

theorem day_step (rate a n k : Nat) (hr : rate ≤ 1000) (ha : a ≤ 100000000) (hk : k < 64) :
    IntKind.i64.wrap (Int.tdiv (IntKind.i64.wrap ((part a n k : Int) * (rate : Int))) 1000) = ((part a n k * rate / 1000 : Nat) : Int) ∧
    (∀ s : Nat, s ≤ partTo a n k → IntKind.i64.wrap ((s : Int) + ((part a n k * rate / 1000 : Nat) : Int)) = ((s + part a n k * rate / 1000 : Nat) : Int)) := by
  have hp := part_le a n k
  have h1 : part a n k * rate ≤ (a + 1) * 1000 := Nat.mul_le_mul hp hr
  have e1 : (part a n k : Int) * (rate : Int) = ((part a n k * rate : Nat) : Int) := by rw [Int.natCast_mul]
  have h3 : part a n k * rate / 1000 ≤ part a n k * rate := Nat.div_le_self _ _
  have hpt : partTo a n k ≤ 64 * 100000000 + 64 := by
    rw [partTo_eq]
    have : k * (a / n) ≤ 64 * 100000000 := Nat.mul_le_mul (by omega) (Nat.le_trans (Nat.div_le_self _ _) ha)
    omega
  constructor
  · rw [e1, wrap_nat _ (by omega)]
    show IntKind.i64.wrap ((part a n k * rate / 1000 : Nat) : Int) = _
    exact wrap_nat _ (by omega)
  · intro s hs
    generalize part a n k * rate / 1000 = q at *
    exact wrap_nat (s + q) (by omega)

theorem idx_map_range (f : Nat → Int) (n k : Nat) (h : k < n) : idx ((List.range n).map f) (k : Int) = some (f k) := by
  rw [idx_nat]; simp [h]

theorem getD_lt {xs : List Int} {k : Nat} (h : k < xs.length) : xs.getD k 0 = xs[k] := by simp [List.getD, h]

theorem days11 (r : Int × Int) (paid : Int) (closed : List Int) : D11 r paid closed = some (daysS r paid closed) := by
  rw [e11, e22b, e22b]
  unfold daysS
  simp only [bindS]
  cases h1 : okS r.1 with
  | false => rfl
  | true =>
  cases h2 : okS r.2 with
  | false => rfl
  | true =>
  by_cases h3 : paid < 0
  · have : ¬ 0 ≤ paid := by omega
    simp [h3, this]
  by_cases h4 : paid > 100000000
  · have : ¬ paid ≤ 100000000 := by omega
    have h5 : (0 : Int) ≤ paid := by omega
    simp [h3, h4, this, h5]
  have h5 : (0 : Int) ≤ paid := by omega
  have h6 : paid ≤ 100000000 := by omega
  simp only [h3, h4, h5, h6, decide_false, decide_true, condF, Bool.not_true, Bool.and_self]
  by_cases h7 : (closed.length : Int) < 1
  · simp [h7]
  by_cases h8 : (closed.length : Int) > 64
  · simp [h7, h8]
  simp only [h7, h8, decide_false, condF, Bool.or_self]
  rw [f11_3 _ _ _ _ (by rw [maxLen_val]; omega)]
  simp only [e22b, bindS]
  have e : (fun (x : Int) (_ : Unit) (K : Unit → Option (Int × Int)) => bif !okS x then some ((0 : Int), (2 : Int)) else K ()) = fun x s K => bif okS x then K s else some ((0 : Int), (2 : Int)) := by
    funext x s K; cases okS x <;> rfl
  rw [e, forE_all]
  cases hc : closed.all okS with
  | false => rfl
  | true =>
  obtain ⟨a, rfl⟩ := Int.eq_ofNat_of_zero_le h5
  obtain ⟨n, hn⟩ : ∃ n, n = closed.length := ⟨_, rfl⟩
  have hn1 : 1 ≤ n := by omega
  have hn2 : n ≤ 64 := by omega
  simp only [condT, Bool.not_true, condF]
  rw [← hn, even23 a n (by omega) hn1 hn2]
  simp only [bindS, bne_self_eq_false, condF]
  rw [f11_1 closed r 0 ((List.range n).map (fun k => (part a n k : Int))) (by rw [List.length_map, List.length_range, maxLen_val]; omega)]
  have hr2 : 0 ≤ r.2 ∧ r.2 ≤ 1000 := by unfold okS at h2; simpa using h2
  obtain ⟨rate, hrate⟩ := Int.eq_ofNat_of_zero_le hr2.1
  rw [hrate]
  simp only [Int.toNat_natCast]
  refine forI_inv (fun pre => (payTo r.1 rate a n closed pre.length : Int)) (· = some (((payTo r.1 rate a n closed n : Nat) : Int), (0 : Int))) _ ?g1 ?g2 ?g3
  case g2 => simp
  case g3 => simp [payTo]
  intro pre x post hxs K hK
  have hlen : pre.length < n := by
    have := congrArg List.length hxs
    simp at this; omega
  have hx : x = (part a n pre.length : Int) := by
    have h1 := idx_map_range (fun k => (part a n k : Int)) n pre.length hlen
    rw [hxs, get_mid pre post x pre.length rfl] at h1
    exact Option.some.inj h1
  have hk2 : pre.length < closed.length := by omega
  rw [List.length_append, List.length_singleton] at hK
  simp only [idx_get hk2, bindS]
  obtain ⟨d1, d2⟩ := day_step rate a n pre.length (by omega) (by omega) (by omega)
  subst hx
  rw [d1, d2 _ (payTo_le r.1 rate a n closed (by omega) _)]
  simp only [payTo, dayOf, getD_lt hk2] at hK
  by_cases hge : closed[pre.length] ≥ r.1
  · simp only [hge, if_true] at hK; simp only [hge, decide_true, condT]; exact hK
  · simp only [hge, if_false, Nat.add_zero] at hK; simp only [hge, decide_false, condF]; exact hK

theorem days12 (r : Int × Int) (paid : Int) (closed : List Int) : D12 r paid closed = some (daysS r paid closed) := by
  rw [e12, e24b, e24b, e25b]
  unfold daysS
  simp only [bindS]
  cases h1 : okS r.1 with
  | false => rfl
  | true =>
  cases h2 : okS r.2 with
  | false => rfl
  | true =>
  cases h3 : (decide (0 ≤ paid) && decide (paid ≤ 100000000)) with
  | false => rfl
  | true =>
  obtain ⟨h5, h6⟩ : 0 ≤ paid ∧ paid ≤ 100000000 := by simpa using h3
  simp only [condF, Bool.not_true, Bool.and_self]
  by_cases h7 : (closed.length : Int) < 1
  · simp [h7]
  by_cases h8 : (closed.length : Int) > 64
  · simp [h7, h8]
  simp only [h7, h8, decide_false, condF, Bool.or_self]
  rw [f12_3 _ _ _ (by rw [maxLen_val]; omega)]
  simp only [e24b, bindS]
  have e : (fun (x : Int) (_ : Unit) (K : Unit → Option (Int × Int)) => bif !okS x then some ((0 : Int), (2 : Int)) else K ()) = fun x s K => bif okS x then K s else some ((0 : Int), (2 : Int)) := by
    funext x s K; cases okS x <;> rfl
  rw [e, forE_all]
  cases hc : closed.all okS with
  | false => rfl
  | true =>
  obtain ⟨a, rfl⟩ := Int.eq_ofNat_of_zero_le h5
  obtain ⟨n, hn⟩ : ∃ n, n = closed.length := ⟨_, rfl⟩
  have hn1 : 1 ≤ n := by omega
  have hn2 : n ≤ 64 := by omega
  simp only [condT, Bool.not_true, condF]
  rw [← hn, even26 a n (by omega) hn1 hn2]
  simp only [bindS]
  rw [f12_1 closed r _ 0 (by rw [maxLen_val]; omega)]
  have hr2 : 0 ≤ r.2 ∧ r.2 ≤ 1000 := by unfold okS at h2; simpa using h2
  obtain ⟨rate, hrate⟩ := Int.eq_ofNat_of_zero_le hr2.1
  rw [hrate]
  simp only [Int.toNat_natCast]
  refine forI_inv (fun pre => (payTo r.1 rate a n closed pre.length : Int)) (· = some (((payTo r.1 rate a n closed n : Nat) : Int), (0 : Int))) closed ?g1 ?g2 ?g3
  case g2 => simp only [hn]
  case g3 => simp [payTo]
  intro pre x post hxs K hK
  have hlen : pre.length < n := by
    have := congrArg List.length hxs
    simp at this; omega
  have hk2 : pre.length < closed.length := by omega
  have hx : closed[pre.length] = x := by
    have h1 : idx closed (pre.length : Int) = some x := by rw [hxs]; exact get_mid pre post x pre.length rfl
    rw [idx_get hk2] at h1
    exact Option.some.inj h1
  rw [List.length_append, List.length_singleton] at hK
  simp only [idx_map_range (fun k => (part a n k : Int)) n pre.length hlen, bindS]
  obtain ⟨d1, d2⟩ := day_step rate a n pre.length (by omega) (by omega) (by omega)
  rw [d1, d2 _ (payTo_le r.1 rate a n closed (by omega) _)]
  simp only [payTo, dayOf, getD_lt hk2, hx] at hK
  by_cases hge : x ≥ r.1
  · simp only [hge, if_true] at hK; simp only [hge, decide_true, condT]; exact hK
  · simp only [hge, if_false, Nat.add_zero] at hK; simp only [hge, decide_false, condF]; exact hK

theorem law3' (r : Int × Int) (paid : Int) (closed : List Int) : D3 r paid closed = some true := by
  rw [e3, aliveD, days11, days12]
  simp
theorem law3 (x : (pk ps3).den) (_ : Valid (pk ps3) x) : d3 x = some true := law3' x.1 x.2.1 x.2.2
end Go.Proofs.Ytdbbbdjglpfnbaa.D
