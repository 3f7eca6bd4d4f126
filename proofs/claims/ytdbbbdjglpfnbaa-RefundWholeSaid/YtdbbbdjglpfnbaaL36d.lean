import Derived.Test.YtdbbbdjglpfnbaaL36c
open Go Go.GD Go.Proofs
namespace Go.Proofs.Ytdbbbdjglpfnbaa.D
theorem daysS_ok {r : Int × Int} {paid : Int} {closed : List Int} (h1 : okS r.1 = true) (h2 : okS r.2 = true) (h3 : 0 ≤ paid) (h4 : paid ≤ 100000000) (h5 : 1 ≤ closed.length) (h6 : closed.length ≤ 64) (h7 : closed.all okS = true) :
    daysS r paid closed = (((payTo r.1 r.2.toNat paid.toNat closed.length closed closed.length : Nat) : Int), (0 : Int)) := by
  unfold daysS
  have c1 : decide ((closed.length : Int) < 1) = false := decide_eq_false (by omega)
  have c2 : decide ((closed.length : Int) > 64) = false := decide_eq_false (by omega)
  simp [h1, h2, h3, h4, c1, c2, h7]
theorem daysS_bad {r : Int × Int} {paid : Int} {closed : List Int} (h : (daysS r paid closed).2 ≠ 0) : (daysS r paid closed).1 = 0 := by
  unfold daysS at *
  generalize (okS r.1 && okS r.2 && (decide (0 ≤ paid) && decide (paid ≤ 100000000))) = a at *
  generalize (decide ((closed.length : Int) < 1) || decide ((closed.length : Int) > 64)) = b at *
  generalize closed.all okS = c at *
  cases a <;> cases b <;> cases c <;> simp at *
theorem daysS_inv {r : Int × Int} {paid : Int} {closed : List Int} (h : (daysS r paid closed).2 = 0) :
    okS r.1 = true ∧ okS r.2 = true ∧ 0 ≤ paid ∧ paid ≤ 100000000 ∧ 1 ≤ closed.length ∧ closed.length ≤ 64 ∧ closed.all okS = true := by
  unfold daysS at h
  cases h1 : okS r.1 with
  | false => rw [h1] at h; simp at h
  | true =>
  cases h2 : okS r.2 with
  | false => rw [h1, h2] at h; simp at h
  | true =>
  cases h3 : (decide (0 ≤ paid) && decide (paid ≤ 100000000)) with
  | false => rw [h1, h2, h3] at h; simp at h
  | true =>
  cases h4 : (decide ((closed.length : Int) < 1) || decide ((closed.length : Int) > 64)) with
  | true => rw [h1, h2, h3, h4] at h; simp at h
  | false =>
  cases h5 : closed.all okS with
  | false => rw [h1, h2, h3, h4, h5] at h; simp at h
  | true =>
    simp at h3 h4
    exact ⟨rfl, rfl, h3.1, h3.2, by omega, by omega, rfl⟩
theorem okS_iff (n : Int) : okS n = true ↔ 0 ≤ n ∧ n ≤ 1000 := by unfold okS; simp

/-! RefundBounds -/
def moreAt (d : List Int) (k : Nat) (x : Int) : Int :=
  if k < d.length then (bif decide ((bif decide ((1000 : Int) < d.getD k 0) then 1000 else d.getD k 0) > x) then (bif decide ((1000 : Int) < d.getD k 0) then 1000 else d.getD k 0) else x) else x
theorem moreAt_ge (d : List Int) (k : Nat) (x : Int) : x ≤ moreAt d k x := by
  unfold moreAt
  split
  · generalize d.getD k 0 = e
    by_cases h1 : (1000 : Int) < e
    · simp only [h1, decide_true, cond_true]
      by_cases h2 : (1000 : Int) > x
      · simp only [h2, decide_true, cond_true]; omega
      · simp only [h2, decide_false, cond_false]; omega
    · simp only [h1, decide_false, cond_false]
      by_cases h2 : e > x
      · simp only [h2, decide_true, cond_true]; omega
      · simp only [h2, decide_false, cond_false]; omega
  · omega
theorem moreAt_le (d : List Int) (k : Nat) (x : Int) (h : x ≤ 1000) : moreAt d k x ≤ 1000 := by
  unfold moreAt
  split
  · generalize d.getD k 0 = e
    by_cases h1 : (1000 : Int) < e
    · simp only [h1, decide_true, cond_true]
      by_cases h2 : (1000 : Int) > x
      · simp only [h2, decide_true, cond_true]; omega
      · simp only [h2, decide_false, cond_false]; omega
    · simp only [h1, decide_false, cond_false]
      by_cases h2 : e > x
      · simp only [h2, decide_true, cond_true]; omega
      · simp only [h2, decide_false, cond_false]; omega
  · omega

theorem dayOf_mono {least least' : Int} {rate rate' a n : Nat} {closed closed' : List Int} {k : Nat} (h1 : least' ≤ least) (h2 : rate ≤ rate') (h3 : closed.getD k 0 ≤ closed'.getD k 0) :
    dayOf least rate a n closed k ≤ dayOf least' rate' a n closed' k := by
  unfold dayOf
  split
  · rw [if_pos (by omega)]
    exact Nat.div_le_div_right (Nat.mul_le_mul_left _ h2)
  · omega

theorem law7' (r : Int × Int) (paid : Int) (days : List Int × List Int) (hv : Valid (pk ps7) (r, paid, days)) : D7 r paid days = some true := by
  obtain ⟨⟨hr1, hr2⟩, hp, _⟩ := hv
  have hr1 := valid_i64 hr1
  have hr2 := valid_i64 hr2
  rw [e7, aliveD]
  simp only [bindS, Bool.not_true, condF]
  by_cases hc : days.1.length > 100
  · have : decide ((days.1.length : Int) > 100) = true := decide_eq_true (by omega)
    rw [this, condT]
  have c0 : decide ((days.1.length : Int) > 100) = false := decide_eq_false (by omega)
  rw [c0, condF, days11, bindS]
  by_cases hok : (daysS r paid days.1).2 = 0
  · have c1 : ((daysS r paid days.1).2 != 0) = false := by rw [hok]; rfl
    obtain ⟨h1, h2, h3, h4, h5, h6, h7⟩ := daysS_inv hok
    have hs := daysS_ok h1 h2 h3 h4 h5 h6 h7
    rw [c1, condF, hs]
    obtain ⟨a, rfl⟩ := Int.eq_ofNat_of_zero_le h3
    rw [okS_iff] at h1 h2
    obtain ⟨rate, hrate⟩ := Int.eq_ofNat_of_zero_le h2.1
    generalize days.1 = closed at h5 h6 h7 ⊢
    have hrn : rate ≤ 1000 := by omega
    rw [f7_1 _ _ _ _ _ _ (by rw [maxLen_val]; omega)]
    refine forI_inv (fun pre => pre.mapIdx (moreAt days.2)) (· = some true) closed ?g1 ?g2 ?g3
    case g3 => rfl
    case g1 =>
      intro pre x post hxs K hK
      have hlen : pre.length < 64 := by
        have := congrArg List.length hxs
        simp at this; omega
      rw [List.mapIdx_concat] at hK
      simp only [List.length_mapIdx, List.length_singleton, grows_int pre.length (by omega), condT]
      by_cases hk : pre.length < days.2.length
      · have ck : decide ((pre.length : Int) < (days.2.length : Int)) = true := decide_eq_true (by omega)
        have e1 : days.2.getD pre.length 0 = days.2[pre.length] := getD_lt hk
        simp only [moreAt, hk, if_true, e1] at hK
        rw [ck, condT, idx_get hk, bindS]
        exact hK
      · have ck : decide ((pre.length : Int) < (days.2.length : Int)) = false := decide_eq_false (by omega)
        simp only [moreAt, hk, if_false] at hK
        rw [ck, condF]
        exact hK
    case g2 =>
      obtain ⟨more, hmore⟩ : ∃ m, m = closed.mapIdx (moreAt days.2) := ⟨_, rfl⟩
      rw [← hmore]
      have hml : more.length = closed.length := by rw [hmore, List.length_mapIdx]
      have hget : ∀ k (h : k < closed.length), more.getD k 0 = moreAt days.2 k closed[k] := by
        intro k h
        rw [getD_lt (by rw [hml]; exact h)]
        simp only [hmore, List.getElem_mapIdx]
      have hall : more.all okS = true := by
        rw [List.all_eq_true]
        intro y hy
        obtain ⟨k, hk, e⟩ := List.mem_iff_getElem.1 hy
        have hk' : k < closed.length := by omega
        have hx := List.all_eq_true.1 h7 _ (List.getElem_mem hk')
        rw [okS_iff] at hx
        have := hget k hk'
        rw [getD_lt hk, e] at this
        rw [this, okS_iff]
        have g1 := moreAt_ge days.2 k closed[k]
        have g2 := moreAt_le days.2 k closed[k] hx.2
        omega
      have s1 := daysS_ok (r := r) (paid := a) (closed := more) ((okS_iff _).2 h1) ((okS_iff _).2 h2) h3 h4 (by omega) (by omega) hall
      have hw1 : IntKind.i64.wrap (Int.tdiv r.1 2) = r.1 / 2 := by
        rw [Int.tdiv_eq_ediv_of_nonneg h1.1]
        exact wrap_i64 (by omega) (by omega)
      have s2 := daysS_ok (r := (r.1 / 2, r.2)) (paid := a) (closed := closed) ((okS_iff _).2 (by show 0 ≤ r.1 / 2 ∧ r.1 / 2 ≤ 1000; omega)) ((okS_iff _).2 h2) h3 h4 h5 h6 h7
      have hw2 : IntKind.i64.wrap (r.2 + 1) = r.2 + 1 := wrap_i64 (by omega) (by omega)
      obtain ⟨q, hq⟩ : ∃ q : Nat, (bif decide (r.2 + 1 < 1000) then r.2 + 1 else 1000) = (q : Int) ∧ rate ≤ q ∧ q ≤ 1000 := by
        by_cases h : r.2 + 1 < 1000
        · exact ⟨rate + 1, by simp only [h, decide_true, cond_true]; omega, by omega, by omega⟩
        · exact ⟨1000, by simp only [h, decide_false, cond_false]; rfl, by omega, by omega⟩
      have s3 := daysS_ok (r := (r.1, (q : Int))) (paid := a) (closed := closed) ((okS_iff _).2 h1) ((okS_iff _).2 (by show 0 ≤ (q : Int) ∧ (q : Int) ≤ 1000; omega)) h3 h4 h5 h6 h7
      simp only [days11, hw1, hw2, hq.1, s1, s2, s3, bindS]
      simp only [beq_self_eq_true, condT, hml, hrate, Int.toNat_natCast]
      have n0 := payTo_le r.1 rate a closed.length closed hrn closed.length
      have n1 := payTo_le r.1 rate a closed.length more hrn closed.length
      rw [partTo_all a closed.length (by omega)] at n0 n1
      have n2 : payTo r.1 rate a closed.length closed closed.length ≤ payTo r.1 rate a closed.length more closed.length :=
        payTo_mono _ fun i hi => dayOf_mono (Int.le_refl _) (Nat.le_refl _) (by rw [hget i hi, getD_lt hi]; exact moreAt_ge _ _ _)
      have n3 : payTo r.1 rate a closed.length closed closed.length ≤ payTo (r.1 / 2) rate a closed.length closed closed.length :=
        payTo_mono _ fun i _ => dayOf_mono (by omega) (Nat.le_refl _) (Int.le_refl _)
      have n4 : payTo r.1 rate a closed.length closed closed.length ≤ payTo r.1 q a closed.length closed closed.length :=
        payTo_mono _ fun i _ => dayOf_mono (Int.le_refl _) hq.2.1 (Int.le_refl _)
      have d1 : decide (((payTo r.1 rate a closed.length closed closed.length : Nat) : Int) ≥ 0) = true := decide_eq_true (by omega)
      have d2 : decide (((payTo r.1 rate a closed.length closed closed.length : Nat) : Int) ≤ (a : Int)) = true := decide_eq_true (by omega)
      have d3 : decide (((payTo r.1 rate a closed.length more closed.length : Nat) : Int) ≥ ((payTo r.1 rate a closed.length closed closed.length : Nat) : Int)) = true := decide_eq_true (by omega)
      have d4 : decide (((payTo r.1 rate a closed.length more closed.length : Nat) : Int) ≤ (a : Int)) = true := decide_eq_true (by omega)
      have d5 : decide (((payTo (r.1 / 2) rate a closed.length closed closed.length : Nat) : Int) ≥ ((payTo r.1 rate a closed.length closed closed.length : Nat) : Int)) = true := decide_eq_true (by omega)
      have d6 : decide (((payTo r.1 q a closed.length closed closed.length : Nat) : Int) ≥ ((payTo r.1 rate a closed.length closed closed.length : Nat) : Int)) = true := decide_eq_true (by omega)
      simp only [d1, d2, d3, d4, d5, d6, condT]
  · have c1 : ((daysS r paid days.1).2 != 0) = true := by simpa using hok
    rw [c1, condT, daysS_bad hok]
    rfl
theorem law7 (x : (pk ps7).den) (h : Valid (pk ps7) x) : d7 x = some true := law7' x.1 x.2.1 x.2.2 h

/-! RefundWhole -/
theorem payTo_all (a n : Nat) (closed : List Int) (h : closed.all okS = true) : ∀ k, k ≤ closed.length → payTo 0 1000 a n closed k = partTo a n k
  | 0, _ => rfl
  | k + 1, hk => by
    rw [payTo, partTo, payTo_all a n closed h k (by omega)]
    congr 1
    unfold dayOf
    have hx := List.all_eq_true.1 h _ (List.getElem_mem (show k < closed.length by omega))
    rw [okS_iff] at hx
    rw [getD_lt (by omega), if_pos hx.1]
    omega
theorem payTo_none (a n : Nat) (closed : List Int) : ∀ k, payTo 0 0 a n closed k = 0
  | 0 => rfl
  | k + 1 => by
    rw [payTo, payTo_none a n closed k]
    unfold dayOf
    split <;> simp

def unusedS (paid units left : Int) : Int × Int :=
  if paid < 0 ∨ paid > 100000000 then (0, 2) else if units < 1 ∨ units > 100 ∨ left < 0 ∨ left > units then (0, 1) else ((paid.toNat * left.toNat / units.toNat : Nat), 0)
theorem unused13 (paid units left : Int) : D13 paid units left = some (unusedS paid units left) := by
  rw [e13]
  unfold unusedS
  by_cases h1 : paid < 0
  · simp [h1]
  by_cases h2 : paid > 100000000
  · simp [h1, h2]
  by_cases h3 : units < 1
  · simp [h1, h2, h3]
  by_cases h4 : units > 100
  · simp [h1, h2, h3, h4]
  by_cases h5 : left < 0
  · simp [h1, h2, h3, h4, h5]
  by_cases h6 : left > units
  · simp [h1, h2, h3, h4, h5, h6]
  obtain ⟨p, rfl⟩ := Int.eq_ofNat_of_zero_le (show 0 ≤ paid by omega)
  obtain ⟨u, rfl⟩ := Int.eq_ofNat_of_zero_le (show 0 ≤ units by omega)
  obtain ⟨l, rfl⟩ := Int.eq_ofNat_of_zero_le (show 0 ≤ left by omega)
  have h7 : ((u : Int) == 0) = false := by simp only [beq_eq_false_iff_ne]; omega
  have hm : p * l ≤ 100000000 * 100 := Nat.mul_le_mul (by omega) (by omega)
  have e1 : (p : Int) * (l : Int) = ((p * l : Nat) : Int) := by rw [Int.natCast_mul]
  have hd : p * l / u ≤ p * l := Nat.div_le_self _ _
  simp only [h1, h2, h3, h4, h5, h6, h7, decide_false, condF, e1, wrap_nat (p * l) (by omega), or_self, if_false, Int.toNat_natCast]
  rw [tdiv_nat, wrap_nat _ (by omega)]

theorem split_sum (p u l : Nat) (hu : 1 ≤ u) (hl : l ≤ u) : p * l / u + p * (u - l) / u ≤ p ∧ p ≤ p * l / u + p * (u - l) / u + 1 := by
  have e : p * l + p * (u - l) = p * u := by rw [← Nat.mul_add]; congr 1; omega
  have h1 := Nat.div_add_mod (p * l) u
  have h2 := Nat.div_add_mod (p * (u - l)) u
  have m1 := Nat.mod_lt (p * l) (show 0 < u by omega)
  have m2 := Nat.mod_lt (p * (u - l)) (show 0 < u by omega)
  generalize p * l / u = a at *
  generalize p * (u - l) / u = b at *
  have e2 : u * a + u * b = u * (a + b) := by rw [Nat.mul_add]
  have e3 : p * u = u * p := Nat.mul_comm _ _
  constructor
  · have : u * (a + b) ≤ u * p := by omega
    exact Nat.le_of_mul_le_mul_left this (by omega)
  · have e4 : u * (a + b + 2) = u * (a + b) + u * 2 := by rw [Nat.mul_add]
    have : u * p < u * (a + b + 2) := by omega
    have := Nat.lt_of_mul_lt_mul_left this
    omega

theorem tail8 (paid u l : Int) : ((D13 paid u l).bind fun r3 =>
    bif (r3.2 != 0) then some (r3.1 == 0)
    else (D13 paid u (IntKind.i64.wrap (u - l))).bind fun r4 =>
    bif (r4.2 == 0) then (
      bif decide (r3.1 ≥ 0) then (
        bif decide (r4.1 ≥ 0) then (
          bif decide (IntKind.i64.wrap (r3.1 + r4.1) ≤ paid) then some (decide (IntKind.i64.wrap (r3.1 + r4.1) ≥ IntKind.i64.wrap (paid - 1)))
          else some false)
        else some false)
      else some false)
    else some false) = some true := by
  simp only [unused13, bindS]
  by_cases h1 : paid < 0 ∨ paid > 100000000
  · simp [unusedS, h1]
  by_cases h2 : u < 1 ∨ u > 100 ∨ l < 0 ∨ l > u
  · simp [unusedS, h1, h2]
  obtain ⟨p, rfl⟩ := Int.eq_ofNat_of_zero_le (show 0 ≤ paid by omega)
  obtain ⟨u, rfl⟩ := Int.eq_ofNat_of_zero_le (show 0 ≤ u by omega)
  obtain ⟨l, rfl⟩ := Int.eq_ofNat_of_zero_le (show 0 ≤ l by omega)
  have hw : IntKind.i64.wrap ((u : Int) - (l : Int)) = ((u - l : Nat) : Int) := by rw [wrap_i64 (by omega) (by omega)]; omega
  have s1 : unusedS p u l = (((p * l / u : Nat) : Int), (0 : Int)) := by unfold unusedS; rw [if_neg h1, if_neg h2]; rfl
  have s2 : unusedS p u ((u - l : Nat) : Int) = (((p * (u - l) / u : Nat) : Int), (0 : Int)) := by
    unfold unusedS; rw [if_neg h1, if_neg (by omega)]; rfl
  obtain ⟨q1, q2⟩ := split_sum p u l (by omega) (by omega)
  rw [hw, s1, s2]
  generalize p * l / u = a at *
  generalize p * (u - l) / u = b at *
  have w1 : IntKind.i64.wrap ((a : Int) + (b : Int)) = ((a + b : Nat) : Int) := wrap_nat (a + b) (by omega)
  have w2 : IntKind.i64.wrap ((p : Int) - 1) = (p : Int) - 1 := wrap_i64 (by omega) (by omega)
  have d1 : decide ((a : Int) ≥ 0) = true := decide_eq_true (by omega)
  have d2 : decide ((b : Int) ≥ 0) = true := decide_eq_true (by omega)
  have d3 : decide (((a + b : Nat) : Int) ≤ (p : Int)) = true := decide_eq_true (by omega)
  have d4 : decide (((a + b : Nat) : Int) ≥ (p : Int) - 1) = true := decide_eq_true (by omega)
  simp only [bne_self_eq_false, beq_self_eq_true, condF, condT, w1, w2, d1, d2, d3, d4]

theorem law8' (paid : Int) (closed : List Int) (units : Int × Int) : D8 paid closed units = some true := by
  rw [e8, aliveD]
  simp only [bindS, Bool.not_true, condF]
  by_cases hc : closed.length > 100
  · have : decide ((closed.length : Int) > 100) = true := decide_eq_true (by omega)
    rw [this, condT]
  have c0 : decide ((closed.length : Int) > 100) = false := decide_eq_false (by omega)
  rw [c0, condF, days11, days11, bindS, bindS, tail8]
  have k1 : okS 1000 = true := by decide
  have k0 : okS 0 = true := by decide
  have hsame : (daysS (0, 1000) paid closed).2 = (daysS (0, 0) paid closed).2 := by
    unfold daysS
    simp only [k1, k0]
    generalize (decide (0 ≤ paid) && decide (paid ≤ 100000000)) = a
    generalize (decide ((closed.length : Int) < 1) || decide ((closed.length : Int) > 64)) = b
    generalize closed.all okS = c
    cases a <;> cases b <;> cases c <;> rfl
  rw [hsame]
  simp only [bne_self_eq_false, condF]
  by_cases h0 : (daysS (0, 0) paid closed).2 = 0
  · obtain ⟨_, _, h3, h4, h5, h6, h7⟩ := daysS_inv h0
    rw [daysS_ok (r := (0, 0)) k0 k0 h3 h4 h5 h6 h7, daysS_ok (r := (0, 1000)) k0 k1 h3 h4 h5 h6 h7]
    have e1 : payTo 0 (Int.toNat 1000) paid.toNat closed.length closed closed.length = paid.toNat := by
      rw [show Int.toNat 1000 = 1000 from rfl, payTo_all _ _ _ h7 _ (Nat.le_refl _), partTo_all _ _ h5]
    have e2 : payTo 0 (Int.toNat 0) paid.toNat closed.length closed closed.length = 0 := payTo_none _ _ _ _
    have e3 : ((paid.toNat : Int) != paid) = false := by rw [Int.toNat_of_nonneg h3]; simp
    simp only [e1, e2, beq_self_eq_true, condT, e3, condF]
    rfl
  · have : ((daysS (0, 0) paid closed).2 == 0) = false := by simpa using h0
    rw [this, condF]
theorem law8 (x : (pk ps8).den) (_ : Valid (pk ps8) x) : d8 x = some true := law8' x.1 x.2.1 x.2.2
end Go.Proofs.Ytdbbbdjglpfnbaa.D
