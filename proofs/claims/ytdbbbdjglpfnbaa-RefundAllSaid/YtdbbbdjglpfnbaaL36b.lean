import Derived.Test.YtdbbbdjglpfnbaaL36
open Go Go.GD Go.Proofs
namespace Go.Proofs.Ytdbbbdjglpfnbaa.D
/-! RefundAll -/
def hasOp (ops : List Int) (x : Lift) : Bool := ops.any (· == x.2.1)
def isShut (ops cl : List Int) (x : Lift) : Bool := hasOp ops x && cl.any (· == x.1)

theorem tally_fold (ops cl : List Int) : ∀ (L : List Lift) (a b : Nat), a + L.length ≤ 1000 → b + L.length ≤ 1000 →
    L.foldl (tally ops cl) ((a : Int), (b : Int)) = (((a + L.countP (hasOp ops) : Nat) : Int), ((b + L.countP (isShut ops cl) : Nat) : Int))
  | [], a, b, _, _ => by simp
  | x :: L, a, b, ha, hb => by
    simp only [List.length_cons] at ha hb
    have wa : inc (a : Int) = ((a + 1 : Nat) : Int) := by unfold inc; rw [wrap_i64 (by omega) (by omega)]; rfl
    have wb : inc (b : Int) = ((b + 1 : Nat) : Int) := by unfold inc; rw [wrap_i64 (by omega) (by omega)]; rfl
    have e1 : hasOp ops x = ops.any (· == x.2.1) := rfl
    have e2 : isShut ops cl x = (ops.any (· == x.2.1) && cl.any (· == x.1)) := rfl
    have e3 : tally ops cl ((a : Int), (b : Int)) x = if ops.any (· == x.2.1) then (inc (a : Int), if cl.any (· == x.1) then inc (b : Int) else (b : Int)) else ((a : Int), (b : Int)) := rfl
    rw [List.foldl_cons, List.countP_cons, List.countP_cons, e1, e2, e3]
    cases ops.any (· == x.2.1) with
    | false =>
      simp only [Bool.false_and, Bool.false_eq_true, if_false]
      rw [tally_fold ops cl L a b (by omega) (by omega)]
      simp
    | true =>
      cases cl.any (· == x.1) with
      | false =>
        simp only [Bool.true_and, Bool.false_eq_true, if_false, if_true, wa]
        rw [tally_fold ops cl L (a + 1) b (by omega) (by omega)]
        simp only [Prod.mk.injEq]
        omega
      | true =>
        simp only [Bool.true_and, if_true, wa, wb]
        rw [tally_fold ops cl L (a + 1) (b + 1) (by omega) (by omega)]
        simp only [Prod.mk.injEq]
        omega

/-- the share as a natural number -/
def share (ops cl : List Int) (L : List Lift) : Nat := L.countP (isShut ops cl) * 1000 / L.countP (hasOp ops)

theorem quota_nat (ops cl : List Int) (L : List Lift) (h : L.length ≤ 1000) : quota (L.foldl (tally ops cl) (0, 0)) = (share ops cl L : Int) := by
  have := tally_fold ops cl L 0 0 (by omega) (by omega)
  simp only [Nat.zero_add] at this
  rw [show ((0 : Int), (0 : Int)) = (((0 : Nat) : Int), ((0 : Nat) : Int)) from rfl, this]
  have hb : L.countP (isShut ops cl) ≤ L.length := List.countP_le_length
  unfold quota share
  generalize L.countP (isShut ops cl) = b at *
  generalize L.countP (hasOp ops) = a
  simp only
  split
  · rename_i h0
    have : a = 0 := by omega
    subst this; simp
  · have e1 : IntKind.i64.wrap ((b : Int) * 1000) = ((b * 1000 : Nat) : Int) := by rw [wrap_i64 (by omega) (by omega)]; rfl
    have e2 : Int.tdiv ((b * 1000 : Nat) : Int) (a : Int) = ((b * 1000 / a : Nat) : Int) := rfl
    rw [e1, e2]
    have : b * 1000 / a ≤ b * 1000 := Nat.div_le_self _ _
    generalize b * 1000 / a = q at *
    rw [wrap_i64 (by omega) (by omega)]

theorem shut_le_has (ops cl : List Int) (L : List Lift) : L.countP (isShut ops cl) ≤ L.countP (hasOp ops) :=
  List.countP_mono_left fun x _ h => by unfold isShut at h; exact (Bool.and_eq_true_iff.1 h).1

theorem share_le (ops cl : List Int) (L : List Lift) : share ops cl L ≤ 1000 := by
  unfold share
  have := shut_le_has ops cl L
  rcases Nat.eq_zero_or_pos (L.countP (hasOp ops)) with h | h
  · rw [h]; simp
  · exact Nat.div_le_of_le_mul (by omega)

theorem share_mono (ops cl cl' : List Int) (L : List Lift) (h : ∀ x, x ∈ cl → x ∈ cl') : share ops cl L ≤ share ops cl' L := by
  unfold share
  refine Nat.div_le_div_right (Nat.mul_le_mul_right _ (List.countP_mono_left fun x _ hx => ?_))
  unfold isShut at *
  rw [Bool.and_eq_true] at *
  refine ⟨hx.1, ?_⟩
  rw [List.any_eq_true] at *
  obtain ⟨y, hy, e⟩ := hx.2
  exact ⟨y, h y hy, e⟩

theorem share_nil (ops : List Int) (L : List Lift) : share ops [] L = 0 := by
  unfold share
  have : L.countP (isShut ops []) = 0 := by
    rw [List.countP_eq_zero]; intro x _; simp [isShut]
  rw [this]; simp

theorem share_all (ops : List Int) (L : List Lift) : share ops (L.map (·.1)) L = if L.any (hasOp ops) = true then 1000 else 0 := by
  have e : L.countP (isShut ops (L.map (·.1))) = L.countP (hasOp ops) := by
    refine List.countP_congr fun x hx => ?_
    unfold isShut
    have : (L.map (·.1)).any (· == x.1) = true := by
      rw [List.any_eq_true]
      exact ⟨x.1, List.mem_map.2 ⟨x, hx, rfl⟩, by simp⟩
    rw [this, Bool.and_true]
  unfold share
  rw [e]
  split
  · rename_i h
    have : 0 < L.countP (hasOp ops) := by
      rw [List.countP_pos_iff]
      rw [List.any_eq_true] at h
      exact h
    rw [Nat.mul_comm, Nat.mul_div_cancel _ this]
  · rename_i h
    have : L.countP (hasOp ops) = 0 := by
      rw [List.countP_eq_zero]
      intro x hx hp
      exact h (List.any_eq_true.2 ⟨x, hx, hp⟩)
    rw [this]

theorem f16n (m : Mp) (ops cl : List Int) (hl : m.2.1.length ≤ 32) (ho : ops.length ≤ maxLen) (hc : cl.length ≤ maxLen) : D16 m ops cl = some (share ops cl m.2.1 : Int) := by
  rw [f16 m ops cl (by rw [maxLen_val]; omega) ho hc, quota_nat ops cl m.2.1 (by omega)]

theorem grows_int (n : Nat) (h : n ≤ 1000) : (Nat.ble ((n + 1) * 8) appendLimit && Nat.ble (n + 1) 9223372036854775807) = true :=
  grows (by unfold appendLimit; omega) (by omega)

theorem loop9 (ops closed : List Int) (m : Mp) (ho : ops.length ≤ 100) (hc : closed.length ≤ 100) (hL : m.2.1.length ≤ 32) :
    lp9_1 big ops m (share ops closed m.2.1 : Int) false [] closed 0 = some true := by
  have hol : ops.length ≤ maxLen := by rw [maxLen_val]; omega
  rw [f9_1 ops m _ false [] closed (by rw [maxLen_val]; omega)]
  refine forE_inv (fun pre => (pre.any (hasOp ops), pre.map (·.1), closed ++ pre.map (·.1))) (· = some true) m.2.1 ?_ ?_ (by simp)
  · intro pre x post e K hK
    have hlen : pre.length + (x :: post).length ≤ 32 := by rw [← List.length_append, ← e]; exact hL
    simp only [List.length_cons] at hlen
    have g1 := grows_int (pre.map (·.1)).length (by rw [List.length_map]; omega)
    have g2 := grows_int (closed ++ pre.map (·.1)).length (by rw [List.length_append, List.length_map]; omega)
    have hmore : D16 m ops (closed ++ pre.map (·.1) ++ [x.1]) = some (share ops (closed ++ pre.map (·.1) ++ [x.1]) m.2.1 : Int) :=
      f16n m ops _ hL hol (by simp only [List.length_append, List.length_map, List.length_singleton]; rw [maxLen_val]; omega)
    have h1 := share_le ops (closed ++ pre.map (·.1) ++ [x.1]) m.2.1
    have h2 := share_mono ops closed (closed ++ pre.map (·.1) ++ [x.1]) m.2.1 (fun y hy => by simp [hy])
    have c1 : decide ((share ops (closed ++ pre.map (·.1) ++ [x.1]) m.2.1 : Int) < (share ops closed m.2.1 : Int)) = false := decide_eq_false (by omega)
    have c2 : decide ((share ops (closed ++ pre.map (·.1) ++ [x.1]) m.2.1 : Int) > 1000) = false := decide_eq_false (by omega)
    simp only [List.any_append, List.any_cons, List.any_nil, Bool.or_false, List.map_append, List.map_cons, List.map_nil, ← List.append_assoc] at hK
    simp only [List.length_singleton, g1, g2, condT, hmore, bindS, c1, c2, condF, has20 ops _ hol]
    cases hp : pre.any (hasOp ops) with
    | true => rw [hp, Bool.true_or] at hK; exact hK
    | false => rw [hp, Bool.false_or] at hK; exact hK
  · have h1 := share_le ops closed m.2.1
    have e1 : D16 m ops (m.2.1.map (·.1)) = some (share ops (m.2.1.map (·.1)) m.2.1 : Int) := f16n m ops _ hL hol (by rw [List.length_map, maxLen_val]; omega)
    have e2 : D16 m ops [] = some 0 := by rw [f16n m ops [] hL hol (by simp), share_nil]; rfl
    have g1 : decide ((share ops closed m.2.1 : Int) ≥ 0) = true := decide_eq_true (by omega)
    have g2 : decide ((share ops closed m.2.1 : Int) ≤ 1000) = true := decide_eq_true (by omega)
    simp only [e1, e2, bindS, share_all, g1, g2]
    cases m.2.1.any (hasOp ops) <;> rfl

theorem right_few (m : Mp) (h : D15 m = some 0) : m.2.1.length ≤ 32 := by
  rw [e15] at h
  by_cases h2 : m.2.1.length ≤ 32
  · exact h2
  · have c2 : decide ((m.2.1.length : Int) > 32) = true := decide_eq_true (by omega)
    rw [c2] at h
    cases decide ((m.1.length : Int) > 64) <;> simp at h

theorem law9' (m : Mp) (ops cl : List Int) (hv : Valid (pk ps9) (m, ops, cl)) : D9 m ops cl = some true := by
  obtain ⟨hm, _⟩ := hv
  obtain ⟨r, hr⟩ := t15 m hm
  rw [e9, aliveD]
  simp only [bindS, Bool.not_true, condF]
  by_cases ho : ops.length > 100
  · have : decide ((ops.length : Int) > 100) = true := decide_eq_true (by omega)
    rw [this]; rfl
  have c1 : decide ((ops.length : Int) > 100) = false := decide_eq_false (by omega)
  rw [c1]
  by_cases hc : cl.length > 100
  · have : decide ((cl.length : Int) > 100) = true := decide_eq_true (by omega)
    rw [this]; rfl
  have c2 : decide ((cl.length : Int) > 100) = false := decide_eq_false (by omega)
  rw [c2, hr]
  simp only [condF, bindS]
  by_cases h0 : r = 0
  · subst h0
    have hL := right_few m hr
    rw [f16n m ops cl hL (by rw [maxLen_val]; omega) (by rw [maxLen_val]; omega)]
    have g : (Nat.ble ((List.length ([] : List Int) + cl.length) * 8) appendLimit && Nat.ble (List.length ([] : List Int) + cl.length) 9223372036854775807) = true :=
      grows (by unfold appendLimit; simp; omega) (by omega)
    simp only [bne_self_eq_false, condF, bindS, g, condT, List.nil_append]
    exact loop9 ops cl m (by omega) (by omega) hL
  · have : (r != 0) = true := by simpa using h0
    rw [this]; rfl
theorem law9 (x : (pk ps9).den) (h : Valid (pk ps9) x) : d9 x = some true := law9' x.1 x.2.1 x.2.2 h
end Go.Proofs.Ytdbbbdjglpfnbaa.D
