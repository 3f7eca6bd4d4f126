import Derived.Test.YtpgfogmbcfminaaL41c
open Go Go.GD Go.Proofs
namespace Go.Proofs.Ytpgfogmbcfminaa.D
section
variable {l : List Pump} (hg : Good l)
include hg
theorem best14 (flow : Int) (h0 : 0 ≤ flow) : ((∀ j, j < 2 ^ l.length → fl l j < flow) ∧ D14 l flow = some ([], 0, 9)) ∨ ∃ m, Least (l := l) flow m ∧ D14 l flow = some (bits m, pw l m, 0) := by
  have hn := hg.1
  have c1 : decide (flow < 0) = false := decide_eq_false (by omega)
  rw [e14, c1, condF, f14_3 l flow 1 (by rw [maxLen_val]; omega)]
  refine forE_inv (fun pre => ((2 ^ pre.length : Nat) : Int)) (fun o => ((∀ j, j < 2 ^ l.length → fl l j < flow) ∧ o = some ([], 0, 9)) ∨ ∃ m, Least (l := l) flow m ∧ o = some (bits m, pw l m, 0)) l ?_ ?_ rfl
  · intro pre x post e K hK
    have hlen : pre.length < 8 := by
      have := congrArg List.length e
      simp at this; omega
    have hp : 2 ^ pre.length ≤ 256 := Nat.pow_le_pow_right (n := 2) (by omega) (show pre.length ≤ 8 by omega)
    have e2 : 2 ^ (pre ++ [x]).length = 2 * 2 ^ pre.length := by rw [List.length_append, List.length_singleton, Nat.pow_succ]; omega
    have w : IntKind.i64.wrap ((2 : Int) * ((2 ^ pre.length : Nat) : Int)) = ((2 ^ (pre ++ [x]).length : Nat) : Int) := by
      rw [e2, wrap_i64 (by omega) (by omega)]; omega
    rw [w]; exact hK
  · have hN : 2 ^ l.length ≤ 256 := Nat.pow_le_pow_right (n := 2) (by omega) hn
    generalize hNe : 2 ^ l.length = N at *
    rw [f14_1 _ _ _ _ _ _ (by omega), Int.toNat_natCast]
    refine forN_rule (I := fun k (s : List Int × Int × Bool) => (s = ([], 0, false) ∧ ∀ j, j < k → fl l j < flow) ∨
        ∃ m, m < N ∧ s = (bits m, pw l m, true) ∧ fl l m ≥ flow ∧ ∀ j, j < k → fl l j ≥ flow → better (pw l j) (bits j) (pw l m) (bits m) = false)
      (Q := fun o => ((∀ j, j < N → fl l j < flow) ∧ o = some ([], 0, 9)) ∨ ∃ m, Least (l := l) flow m ∧ o = some (bits m, pw l m, 0)) N ?_ ?_ ?_
    · intro k hk s hI K hK
      have eF : sumP (hasN (bits k)) (fun x => x.2.1) 0 l = fl l k := rfl
      have eP : sumP (hasN (bits k)) (fun x => x.2.2) 0 l = pw l k := rfl
      rcases hI with ⟨rfl, hI⟩ | ⟨m, h1, rfl, h2, h3⟩
      · simp only [subset23 k (by omega), bindS, flowG' hg _ (bits_len k), powerG' hg _ (bits_len k), eF, eP]
        by_cases hfk : fl l k < flow
        · have : decide (fl l k < flow) = true := decide_eq_true hfk
          rw [this, condT]
          exact hK _ (.inl ⟨rfl, fun j hj => by
            rcases Nat.lt_or_ge j k with h | h
            · exact hI j h
            · have : j = k := by omega
              subst this; exact hfk⟩)
        · have : decide (fl l k < flow) = false := decide_eq_false hfk
          rw [this, condF]
          simp only [Bool.not_false, condT]
          exact hK _ (.inr ⟨k, by omega, rfl, by omega, fun j hj hfj => by
            rcases Nat.lt_or_ge j k with h | h
            · have := hI j h; omega
            · have : j = k := by omega
              subst this; exact better_irrefl _ _⟩)
      · have keep : (fl l k ≥ flow → better (pw l k) (bits k) (pw l m) (bits m) = false) → (fun o => ((∀ j, j < N → fl l j < flow) ∧ o = some ([], 0, 9)) ∨ ∃ m, Least (l := l) flow m ∧ o = some (bits m, pw l m, 0)) (K (bits m, pw l m, true)) := fun hb =>
          hK _ (.inr ⟨m, h1, rfl, h2, fun j hj hfj => by
            rcases Nat.lt_or_ge j k with h | h
            · exact h3 j h hfj
            · have : j = k := by omega
              subst this; exact hb hfj⟩)
        have take : fl l k ≥ flow → better (pw l k) (bits k) (pw l m) (bits m) = true → (fun o => ((∀ j, j < N → fl l j < flow) ∧ o = some ([], 0, 9)) ∨ ∃ m, Least (l := l) flow m ∧ o = some (bits m, pw l m, 0)) (K (bits k, pw l k, true)) := fun hfk hb =>
          hK _ (.inr ⟨k, by omega, rfl, hfk, fun j hj hfj => by
            cases hbj : better (pw l j) (bits j) (pw l k) (bits k) with
            | false => rfl
            | true =>
              have hjm := better_trans hbj hb
              rcases Nat.lt_or_ge j k with h | h
              · rw [h3 j h hfj] at hjm; cases hjm
              · have : j = k := by omega
                subst this; rw [better_irrefl] at hbj; cases hbj⟩)
        simp only [subset23 k (by omega), bindS, flowG' hg _ (bits_len k), powerG' hg _ (bits_len k), eF, eP]
        by_cases hfk : fl l k < flow
        · have : decide (fl l k < flow) = true := decide_eq_true hfk
          rw [this, condT]
          exact keep fun h => by omega
        · have : decide (fl l k < flow) = false := decide_eq_false hfk
          rw [this, condF]
          simp only [Bool.not_true, condF]
          by_cases hp : pw l k < pw l m
          · have : decide (pw l k < pw l m) = true := decide_eq_true hp
            rw [this, condT]
            exact take (by omega) (by unfold better; rw [this]; rfl)
          · have d : decide (pw l k < pw l m) = false := decide_eq_false hp
            rw [d, condF]
            by_cases he : pw l k = pw l m
            · have d2 : (pw l k == pw l m) = true := by simpa using he
              rw [d2, condT, less24 _ _ (bits_len k), bindS]
              cases hlx : lexLt (bits k) (bits m) with
              | true => rw [condT]; exact take (by omega) (by unfold better; rw [d2, hlx]; simp)
              | false => rw [condF]; exact keep fun _ => by unfold better; rw [d, hlx]; simp
            · have d2 : (pw l k == pw l m) = false := by simpa using he
              rw [d2, condF]
              exact keep fun _ => by unfold better; rw [d, d2]; rfl
    · rintro s (⟨rfl, hI⟩ | ⟨m, h1, rfl, h2, h3⟩)
      · exact .inl ⟨fun j hj => hI j hj, rfl⟩
      · exact .inr ⟨m, ⟨by rw [hNe]; exact h1, h2, fun j hj hfj => h3 j (by rw [hNe] at hj; exact hj) hfj⟩, rfl⟩
    · exact .inl ⟨rfl, fun j hj => by omega⟩
end

theorem neg13 (l : List Pump) (flow : Int) (h : flow < 0) : D13 l flow = some ([], 0, 2) := by
  have : decide (flow < 0) = true := decide_eq_true h
  rw [e13, this, condT]
theorem neg14 (l : List Pump) (flow : Int) (h : flow < 0) : D14 l flow = some ([], 0, 2) := by
  have : decide (flow < 0) = true := decide_eq_true h
  rw [e14, this, condT]
theorem least_one {l : List Pump} {flow : Int} {m m' : Nat} (h : Least (l := l) flow m) (h' : Least (l := l) flow m') : pw l m = pw l m' ∧ bits m = bits m' :=
  better_total (h'.2.2 m h.1 h.2.1) (h.2.2 m' h'.1 h'.2.1)

theorem law4' (l : List Pump) (flow : Int) : D4 l flow = some true := by
  rw [e4, aliveD]
  simp only [bindS, Bool.not_true, condF, right12]
  by_cases h0 : (if l.length > 8 then 4 else chk [] l : Int) = 0
  · have hg := good_of h0
    rw [h0]
    simp only [bne_self_eq_false, condF]
    have same : ∀ (x : List Int) (n e : Int), x.length ≤ maxLen → D13 l flow = some (x, n, e) → D14 l flow = some (x, n, e) → ((D13 l flow).bind fun r2 => (D14 l flow).bind fun r3 => (D15 r2.1 r3.1).bind fun r4 =>
        bif r4 then (bif (r2.2.1 == r3.2.1) then some (r2.2.2 == r3.2.2) else some false) else some false) = some true := by
      intro x n e hx q1 q2
      rw [q1, q2]
      simp only [bindS, same15 x x hx hx, lexLt_irrefl, beq_self_eq_true, Bool.not_false, Bool.and_self, condT]
    by_cases hneg : flow < 0
    · exact same [] 0 2 (by simp) (neg13 l flow hneg) (neg14 l flow hneg)
    · rcases best13 hg flow (by omega) with ⟨q1, q2⟩ | ⟨m, q1, q2⟩ <;> rcases best14 hg flow (by omega) with ⟨p1, p2⟩ | ⟨m', p1, p2⟩
      · exact same _ _ _ (by simp) q2 p2
      · exfalso
        have := fl_all hg m'
        have := p1.2.1
        omega
      · exfalso
        have := p1 m q1.1
        have := q1.2.1
        omega
      · obtain ⟨e1, e2⟩ := least_one q1 p1
        rw [← e1, ← e2] at p2
        exact same _ _ _ (bits_len m) q2 p2
  · have : ((if l.length > 8 then 4 else chk [] l : Int) != 0) = true := by simpa using h0
    rw [this, condT]
theorem law4 (x : (pk ps4).den) (_ : Valid (pk ps4) x) : d4 x = some true := law4' x.1 x.2

/-! any choice is a set -/
theorem choice_set {l : List Pump} (hg : Good l) (c : List Int) : ∃ m, m < 2 ^ l.length ∧ ∀ f : Pump → Int, sumP (hasN c) f 0 l = sumP (hasN (bits m)) f 0 l := by
  obtain ⟨m, h1, h2⟩ := set_of (hasN c) l.length
  refine ⟨m, h1, fun f => sumP_congr l 0 fun i hi => ?_⟩
  have := hg.1
  rw [Nat.zero_add, hasN_bits m i (by omega), h2 i hi]

theorem bits_mem {m : Nat} {y : Int} (h : y ∈ bits m) : ∃ j : Nat, y = (j : Int) ∧ j < 8 ∧ m.testBit j = true := by
  unfold bits bitsTo at h
  obtain ⟨j, hj, rfl⟩ := List.mem_map.1 h
  have := List.mem_filter.1 hj
  exact ⟨j, rfl, List.mem_range.1 this.1, this.2⟩
theorem bits_sorted (m : Nat) : (bits m).Pairwise (· < ·) := by
  unfold bits bitsTo
  rw [List.pairwise_map]
  refine List.Pairwise.filter _ ?_
  exact List.Pairwise.imp (fun h => by omega) List.pairwise_lt_range

theorem law6' (l : List Pump) (flow : Int) (c : List Int) : D6 l flow c = some true := by
  rw [e6, aliveD]
  simp only [bindS, Bool.not_true, condF, right11]
  by_cases h0 : (if l.length > 8 then 4 else chk [] l : Int) = 0
  · have hg := good_of h0
    rw [h0]
    simp only [bne_self_eq_false, condF]
    by_cases hc : c.length > 60
    · have : decide ((c.length : Int) > 60) = true := decide_eq_true (by omega)
      rw [this, condT]
    · have cc : decide ((c.length : Int) > 60) = false := decide_eq_false (by omega)
      rw [cc, condF]
      have hcl : c.length ≤ maxLen := by rw [maxLen_val]; omega
      obtain ⟨j, hj1, hj2⟩ := choice_set hg c
      by_cases hneg : flow < 0
      · rw [neg13 l flow hneg, bindS]
        have : decide (flow < 0) = true := decide_eq_true hneg
        simp [this]
      have cn : decide (flow < 0) = false := decide_eq_false hneg
      have eF : ∀ k, sumP (hasN (bits k)) (fun x => x.2.1) 0 l = fl l k := fun _ => rfl
      have eP : ∀ k, sumP (hasN (bits k)) (fun x => x.2.2) 0 l = pw l k := fun _ => rfl
      rcases best13 hg flow (by omega) with ⟨q1, q2⟩ | ⟨m, q1, q2⟩
      · rw [q2, bindS]
        have := fl_all hg j
        have d : decide (fl l j < flow) = true := decide_eq_true (by omega)
        simp only [cn, flowG hg c hcl, hj2, bindS, eF, d]
        rfl
      · have q1' := q1.2.1
        have d1 : decide (fl l m < flow) = false := decide_eq_false (by omega)
        rw [q2, bindS]
        simp only [bne_self_eq_false, condF, cn, flowG hg _ (bits_len m), powerG hg _ (bits_len m), bindS, eF, eP, d1]
        rw [f6_1 _ _ _ _ _ (bits_len m)]
        refine forI_inv (fun _ => ()) (· = some true) (bits m) ?_ ?_ rfl
        · intro pre x post e K hK
          obtain ⟨i, rfl, hi, ht⟩ := bits_mem (show x ∈ bits m by rw [e]; simp)
          have hil : i < l.length := by
            rcases Nat.lt_or_ge i l.length with h | h
            · exact h
            · rw [Nat.testBit_lt_two_pow (Nat.lt_of_lt_of_le q1.1 (Nat.pow_le_pow_right (by omega) h))] at ht; cases ht
          have d2 : decide ((i : Int) < 0) = false := decide_eq_false (by omega)
          have d3 : decide ((i : Int) ≥ (l.length : Int)) = false := decide_eq_false (by omega)
          rw [d2, condF, d3, condF]
          by_cases hp : pre.length = 0
          · have : decide (((pre.length : Nat) : Int) > 0) = false := decide_eq_false (by omega)
            rw [this, condF]; exact hK
          · have hlen : pre.length < (bits m).length := by rw [e]; simp
            have hml := bits_len m
            have : decide (((pre.length : Nat) : Int) > 0) = true := decide_eq_true (by omega)
            rw [this, condT, wrap_pred (by omega) (by omega), idx_get (by omega), bindS]
            have hs := bits_sorted m
            have hlt : (bits m)[pre.length - 1]'(by omega) < (i : Int) := by
              have := List.pairwise_iff_getElem.1 hs (pre.length - 1) pre.length (by omega) hlen (by omega)
              have e2 : (bits m)[pre.length] = (i : Int) := by
                have h1 : idx (bits m) (pre.length : Int) = some (i : Int) := by
                  rw [e, idx_nat, List.getElem?_append_right (Nat.le_refl _), Nat.sub_self]; rfl
                rw [idx_get hlen] at h1
                exact Option.some.inj h1
              rwa [e2] at this
            have d4 : decide ((i : Int) ≤ (bits m)[pre.length - 1]'(by omega)) = false := decide_eq_false (by omega)
            rw [d4, condF]; exact hK
        · simp only [flowG hg c hcl, powerG hg c hcl, hj2, bindS, eF, eP]
          by_cases hfj : fl l j < flow
          · have : decide (fl l j < flow) = true := decide_eq_true hfj
            rw [this, condT]
          · have : decide (fl l j < flow) = false := decide_eq_false hfj
            have hb := q1.2.2 j hj1 (by omega)
            have : pw l j ≥ pw l m := by
              simp only [better, Bool.or_eq_false_iff, decide_eq_false_iff_not] at hb
              omega
            simp [*]
  · have : ((if l.length > 8 then 4 else chk [] l : Int) != 0) = true := by simpa using h0
    rw [this, condT]
theorem law6 (x : (pk ps6).den) (_ : Valid (pk ps6) x) : d6 x = some true := law6' x.1 x.2.1 x.2.2

theorem least_le {l : List Pump} {flow : Int} {m j : Nat} (h : Least (l := l) flow m) (hj : j < 2 ^ l.length) (hf : fl l j ≥ flow) : pw l m ≤ pw l j := by
  have hb := h.2.2 j hj hf
  simp only [better, Bool.or_eq_false_iff, decide_eq_false_iff_not] at hb
  omega

theorem law8' (l : List Pump) (flow more : Int) : D8 l flow more = some true := by
  rw [e8, aliveD]
  simp only [bindS, Bool.not_true, condF, right11]
  by_cases h0 : (if l.length > 8 then 4 else chk [] l : Int) = 0
  · have hg := good_of h0
    rw [h0]
    simp only [bne_self_eq_false, condF]
    by_cases hm : flow > more
    · have : decide (flow > more) = true := decide_eq_true hm
      rw [this, condT]
    · have cm : decide (flow > more) = false := decide_eq_false hm
      rw [cm, condF]
      have any13 : ∀ f : Int, ∃ r, D13 l f = some r := fun f => by
        by_cases h : f < 0
        · exact ⟨_, neg13 l f h⟩
        · rcases best13 hg f (by omega) with ⟨_, q⟩ | ⟨_, _, q⟩ <;> exact ⟨_, q⟩
      obtain ⟨r1, hr1⟩ := any13 flow
      by_cases hneg : more < 0
      · rw [hr1, neg13 l more hneg]; rfl
      · rcases best13 hg more (by omega) with ⟨q1, q2⟩ | ⟨m, q1, q2⟩
        · rw [hr1, q2]; rfl
        · by_cases hn : flow < 0
          · have : decide (flow < 0) = true := decide_eq_true hn
            rw [hr1, q2, this]; rfl
          · have : decide (flow < 0) = false := decide_eq_false hn
            have hfm : fl l m ≥ flow := by have := q1.2.1; omega
            rcases best13 hg flow (by omega) with ⟨p1, p2⟩ | ⟨m', p1, p2⟩
            · exfalso
              have := fl_all hg m; omega
            · have hle := least_le p1 q1.1 hfm
              rw [p2, q2, this]
              simp [hle]
  · have : ((if l.length > 8 then 4 else chk [] l : Int) != 0) = true := by simpa using h0
    rw [this, condT]
theorem law8 (x : (pk ps8).den) (_ : Valid (pk ps8) x) : d8 x = some true := law8' x.1 x.2.1 x.2.2

/-! PumpNeeded -/
theorem law7' (l : List Pump) (flow : Int) : D7 l flow = some true := by
  rw [e7, aliveD]
  simp only [bindS, Bool.not_true, condF, right11]
  by_cases h0 : (if l.length > 8 then 4 else chk [] l : Int) = 0
  · have hg := good_of h0
    rw [h0]
    simp only [bne_self_eq_false, condF]
    by_cases hneg : flow < 0
    · rw [neg13 l flow hneg, bindS]; rfl
    rcases best13 hg flow (by omega) with ⟨q1, q2⟩ | ⟨m, q1, q2⟩
    · rw [q2, bindS]; rfl
    · rw [q2, bindS]
      simp only [bne_self_eq_false, condF]
      rw [f7_1 _ _ _ (bits_len m)]
      refine forI_inv (fun _ => ()) (· = some true) (bits m) ?_ ?_ rfl
      · intro pre x post e K hK
        have hlen : pre.length < (bits m).length := by rw [e]; simp
        have h8 : (bits m).length ≤ 8 := bitsTo_len m 8
        have d1 : (decide (0 ≤ (0 : Int)) && (decide ((0 : Int) ≤ (pre.length : Int)) && decide (((pre.length : Nat) : Int) ≤ ((bits m).length : Int)))) = true := by
          simp; omega
        have w : IntKind.i64.wrap ((pre.length : Int) + 1) = ((pre.length + 1 : Nat) : Int) := wrap_succ hlen (bits_len m)
        have d2 : (decide (0 ≤ ((pre.length + 1 : Nat) : Int)) && (decide (((pre.length + 1 : Nat) : Int) ≤ ((bits m).length : Int)) && decide (((bits m).length : Int) ≤ ((bits m).length : Int)))) = true := by
          simp; omega
        have t1 : (bits m).take pre.length = pre := by rw [e, List.take_left]
        have t2 : (bits m).drop (pre.length + 1) = post := by
          rw [← List.tail_drop, e, List.drop_left]; rfl
        have hpost : pre.length + 1 + post.length = (bits m).length := by rw [e]; simp; omega
        rw [d1, condT, w, d2]
        simp only [Int.toNat_natCast, List.take_length, t1, t2, Int.toNat_zero, List.drop_zero, List.nil_append, List.length_nil, Nat.zero_add]
        have g1 : (Nat.ble (pre.length * 8) appendLimit && Nat.ble pre.length 9223372036854775807) = true := by
          simp only [Bool.and_eq_true, Nat.ble_eq]; unfold appendLimit; omega
        have g2 : (Nat.ble ((pre.length + post.length) * 8) appendLimit && Nat.ble (pre.length + post.length) 9223372036854775807) = true :=
          grows (by unfold appendLimit; omega) (by omega)
        rw [g1, g2, condT, condT, condT]
        have hll : (pre ++ post).length ≤ maxLen := by rw [List.length_append, maxLen_val]; omega
        rw [flowG hg _ hll, bindS]
        -- the set without x
        have hs := bits_sorted m
        obtain ⟨i, rfl, hi, ht⟩ := bits_mem (show x ∈ bits m by rw [e]; simp)
        have hil : i < l.length := by
          rcases Nat.lt_or_ge i l.length with h | h
          · exact h
          · rw [Nat.testBit_lt_two_pow (Nat.lt_of_lt_of_le q1.1 (Nat.pow_le_pow_right (by omega) h))] at ht; cases ht
        have hsub : ∀ k, hasN (pre ++ post) k = true → hasN (bits m) k = true := by
          intro k hk
          unfold hasN hasI at *
          rw [List.any_eq_true] at *
          obtain ⟨y, hy, e2⟩ := hk
          refine ⟨y, ?_, e2⟩
          rw [e]
          rcases List.mem_append.1 hy with h | h
          · exact List.mem_append_left _ h
          · exact List.mem_append_right _ (List.mem_cons_of_mem _ h)
        have hnot : hasN (pre ++ post) i = false := by
          cases hk : hasN (pre ++ post) i with
          | false => rfl
          | true =>
            exfalso
            unfold hasN hasI at hk
            rw [List.any_eq_true] at hk
            obtain ⟨y, hy, e2⟩ := hk
            have e2 : y = (i : Int) := by simpa using e2
            subst e2
            rw [e] at hs
            obtain ⟨_, hs2, hs3⟩ := List.pairwise_append.1 hs
            rcases List.mem_append.1 hy with h | h
            · have := hs3 _ h _ (List.mem_cons_self ..); omega
            · have := (List.pairwise_cons.1 hs2).1 _ h; omega
        have hin : hasN (bits m) i = true := by rw [hasN_bits m i hi]; exact ht
        obtain ⟨j, hj1, hj2⟩ := choice_set hg (pre ++ post)
        have hlt : pw l j < pw l m := by
          show sumP (hasN (bits j)) _ 0 l < _
          rw [← hj2]
          exact sumP_lt l 0 (fun y hy => by have := badP_false (hg.2 y hy); omega) (fun k _ hk => by rw [Nat.zero_add] at *; exact hsub k hk) ⟨i, hil, by rw [Nat.zero_add]; exact hnot, by rw [Nat.zero_add]; exact hin⟩
        have hfj : ¬ fl l j ≥ flow := fun h => by
          have := least_le q1 hj1 h; omega
        have d3 : decide (sumP (hasN (pre ++ post)) (fun x => x.2.1) 0 l ≥ flow) = false := by
          rw [hj2]; exact decide_eq_false hfj
        rw [d3, condF]; exact hK
      · rfl
  · have : ((if l.length > 8 then 4 else chk [] l : Int) != 0) = true := by simpa using h0
    rw [this, condT]
theorem law7 (x : (pk ps7).den) (_ : Valid (pk ps7) x) : d7 x = some true := law7' x.1 x.2
end Go.Proofs.Ytpgfogmbcfminaa.D
