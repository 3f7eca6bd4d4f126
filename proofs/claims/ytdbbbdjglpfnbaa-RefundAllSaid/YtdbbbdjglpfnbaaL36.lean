import Derived.Test.YtdbbbdjglpfnbaaE36
import Derived.Test.YtdbbbdjglpfnbaaGD28
open Go Go.GD Go.Proofs
namespace Go.Proofs.Ytdbbbdjglpfnbaa.D
abbrev Lift := Int × Int × Int × Int × Int × Int × Int × Int
abbrev Mp := List (Int × Int) × List Lift × List (Int × Int × Int × Int × Int × Int × Int) × List Int

/-! lists -/
theorem has20 (l : List Int) (n : Int) (hl : l.length ≤ maxLen) : D20 l n = some (l.any (· == n)) := by
  rw [e20, f20_1 l n hl, forE_any]
  cases l.any (· == n) <;> rfl
theorem cont31 (s : List Int) (v : Int) (hl : s.length ≤ maxLen) : D31 s v = some (s.any (· == v)) := by
  rw [e31, e36, f36_1 s v hl]
  have : (fun (x : Int) => v == x) = (· == v) := by funext x; exact beq_sym v x
  rw [forI_find (fun x => v == x) s 0 ()]
  simp only [bindS]
  rw [findI_ge, this]

/-! the map's check comes to an end -/
theorem e32b (n lo hi : Int) : D32 n lo hi = some (decide (lo ≤ n) && decide (n ≤ hi)) := by
  rw [e32]
  by_cases h : n ≥ lo <;> simp [h]
theorem t27 (l : List (Int × Int)) (hl : l.length ≤ maxLen) : Tot (D27 l) := by
  rw [e27, f27_1 l hl]
  refine tot_forI (fun _ => tot_some _) l 0 (fun i h s K hK => ?_) ()
  simp only [e32b, bindS]
  refine tot_bif (fun _ => tot_some _) fun _ => tot_bif (fun _ => tot_some _) fun _ => tot_bif (fun hi => ?_) fun _ => hK _
  have hi : 0 < i := by simpa using hi
  rw [Nat.zero_add, wrap_pred hi (by omega)]
  refine tot_bind (tot_idx (by omega) (by omega)) fun x _ => tot_bif (fun _ => tot_some _) fun _ => hK _
theorem t35 (m : Mp) (i : Int) (hl : m.1.length ≤ maxLen) : Tot (D35 m i) := by
  rw [e35, f35_1 i m (0, 0) hl]
  exact tot_forE (fun _ => tot_some _) _ (fun x _ s K hK => tot_bif (fun _ => tot_some _) fun _ => hK _) ()
theorem t33 (m : Mp) (i j : Int) (hl : m.1.length ≤ maxLen) : Tot (D33 m i j) := by
  rw [e33]
  exact tot_bind (t35 m i hl) fun _ _ => tot_bind (t35 m j hl) fun _ _ => tot_bif (fun _ => tot_some _) fun _ => tot_bif (fun _ => tot_some _) fun _ => tot_bif (fun _ => tot_some _) fun _ => tot_some _
theorem t34 (x : Lift) (h : x.2.2.2.2.2.2.2 ≠ 0) : Tot (D34 x) := by
  rw [e34]
  have h0 : (x.2.2.2.2.2.2.2 == 0) = false := by simpa using h
  rw [h0]
  simp only [condF, e32b, bindS]
  exact tot_bif (fun _ => tot_some _) fun _ => tot_some _
theorem t28 (m : Mp) (h1 : m.1.length ≤ maxLen) (hl : m.2.1.length ≤ maxLen) : Tot (D28 m) := by
  rw [e28, f28_1 m hl]
  refine tot_forI (fun _ => tot_some _) m.2.1 0 (fun i h s K hK => ?_) ()
  simp only [e32b, bindS]
  refine tot_bif (fun _ => tot_some _) fun _ => tot_bif (fun _ => tot_some _) fun _ => tot_bif (fun _ => tot_some _) fun _ => tot_bif (fun _ => tot_some _) fun _ => tot_bif (fun _ => tot_some _) fun _ =>
    tot_bif (fun _ => tot_some _) fun h5 => tot_bif (fun hi => ?_) fun _ => tot_bind (t33 m _ _ h1) fun _ _ => tot_bif (fun _ => tot_some _) fun _ => tot_bind (t34 _ ?_) fun _ _ => tot_bif (fun _ => tot_some _) fun _ => hK _
  · have hi : 0 < i := by simpa using hi
    rw [Nat.zero_add, wrap_pred hi (by omega)]
    refine tot_bind (tot_idx (by omega) (by omega)) fun x _ => tot_bif (fun _ => tot_some _) fun _ => tot_bind (t33 m _ _ h1) fun _ _ => tot_bif (fun _ => tot_some _) fun _ => tot_bind (t34 _ ?_) fun _ _ => tot_bif (fun _ => tot_some _) fun _ => hK _
    simp only [Bool.not_eq_false', Bool.and_eq_true, decide_eq_true_eq] at h5
    omega
  · simp only [Bool.not_eq_false', Bool.and_eq_true, decide_eq_true_eq] at h5
    omega
theorem t29 (m : Mp) (h1 : m.1.length ≤ maxLen) (hl : m.2.2.1.length ≤ maxLen) : Tot (D29 m) := by
  rw [e29, f29_1 m hl]
  refine tot_forI (fun _ => tot_some _) m.2.2.1 0 (fun i h s K hK => ?_) ()
  simp only [e32b, bindS]
  refine tot_bif (fun _ => tot_some _) fun _ => tot_bif (fun _ => tot_some _) fun _ => tot_bif (fun _ => tot_some _) fun _ => tot_bif (fun _ => tot_some _) fun _ => tot_bif (fun _ => tot_some _) fun _ =>
    tot_bif (fun hi => ?_) fun _ => tot_bind (t33 m _ _ h1) fun _ _ => tot_bif (fun _ => tot_some _) fun _ => hK _
  have hi : 0 < i := by simpa using hi
  rw [Nat.zero_add, wrap_pred hi (by omega)]
  exact tot_bind (tot_idx (by omega) (by omega)) fun x _ => tot_bif (fun _ => tot_some _) fun _ => tot_bind (t33 m _ _ h1) fun _ _ => tot_bif (fun _ => tot_some _) fun _ => hK _
theorem t30 (m : Mp) (h1 : m.1.length ≤ maxLen) (hl : m.2.2.2.length ≤ maxLen) : Tot (D30 m) := by
  rw [e30]
  refine tot_bif (fun _ => tot_some _) fun h0 => ?_
  have h0 : 1 ≤ m.2.2.2.length := by
    have : ((m.2.2.2.length : Int) == 0) = false := h0
    simp only [beq_eq_false_iff_ne] at this
    omega
  rw [f30_3 m hl]
  refine tot_forE (fun _ => ?_) _ (fun x _ s K hK => tot_bind (t35 m x h1) fun _ _ => tot_bif (fun _ => tot_some _) fun _ => hK _) ()
  rw [f30_1 m hl h0]
  refine tot_forI (fun _ => tot_some _) _ 1 (fun i h s K hK => ?_) ()
  rw [List.length_drop] at h
  rw [wrap_pred (by omega) (by omega)]
  exact tot_bind (tot_idx (by omega) (by omega)) fun x _ => tot_bif (fun _ => tot_some _) fun _ => hK _
theorem t15 (m : Mp) (hv : Valid (.pair (.sl (.pair (.int .i64) (.int .i64))) (.pair (.sl (.pair (.int .i64) (.pair (.int .i64) (.pair (.int .i64) (.pair (.int .i64) (.pair (.int .i64) (.pair (.int .i64) (.pair (.int .i64) (.int .i64)))))))))
    (.pair (.sl (.pair (.int .i64) (.pair (.int .i64) (.pair (.int .i64) (.pair (.int .i64) (.pair (.int .i64) (.pair (.int .i64) (.int .i64)))))))) (.sl (.int .i64))))) m) : Tot (D15 m) := by
  obtain ⟨⟨h1, _⟩, ⟨h2, _⟩, ⟨h3, _⟩, h4, _⟩ := hv
  rw [e15]
  exact tot_bif (fun _ => tot_some _) fun _ => tot_bif (fun _ => tot_some _) fun _ => tot_bif (fun _ => tot_some _) fun _ => tot_bif (fun _ => tot_some _) fun _ =>
    tot_bind (t27 m.1 h1) fun _ _ => tot_bif (fun _ => tot_some _) fun _ => tot_bind (t28 m h1 h2) fun _ _ => tot_bif (fun _ => tot_some _) fun _ =>
    tot_bind (t29 m h1 h3) fun _ _ => tot_bif (fun _ => tot_some _) fun _ => tot_bind (t30 m h1 h4) fun _ _ => tot_some _

/-! the share of the lifts that are closed -/
def inc (n : Int) : Int := IntKind.i64.wrap (n + 1)
def tally (ops cl : List Int) (s : Int × Int) (x : Lift) : Int × Int :=
  if ops.any (· == x.2.1) then (inc s.1, if cl.any (· == x.1) then inc s.2 else s.2) else s
def quota (s : Int × Int) : Int := if s.1 = 0 then 0 else IntKind.i64.wrap (Int.tdiv (IntKind.i64.wrap (s.2 * 1000)) s.1)
theorem quota_rest (s : Int × Int) : (bif (s.1 == 0) then some 0 else bif (s.1 == 0) then none else some (IntKind.i64.wrap (Int.tdiv (IntKind.i64.wrap (s.2 * 1000)) s.1))) = some (quota s) := by
  unfold quota
  by_cases h : s.1 = 0
  · simp [h]
  · have h' : (s.1 == 0) = false := by simpa using h
    simp [h, h']
theorem f16 (m : Mp) (ops cl : List Int) (hl : m.2.1.length ≤ maxLen) (ho : ops.length ≤ maxLen) (hc : cl.length ≤ maxLen) : D16 m ops cl = some (quota (m.2.1.foldl (tally ops cl) (0, 0))) := by
  rw [e16, f16_1 ops cl 0 0 m.2.1 hl, ← forE_foldl (tally ops cl) (fun s => some (quota s))]
  refine forE_congr _ (fun x _ s K => ?_) (fun s => quota_rest s) _
  obtain ⟨a, b⟩ := s
  simp only [cont31 ops _ ho, cont31 cl _ hc, bindS, tally, inc]
  cases h1 : ops.any (· == x.2.1) <;> cases h2 : cl.any (· == x.1) <;> simp
theorem f17 (m : Mp) (ops cl : List Int) (hl : m.2.1.length ≤ maxLen) (ho : ops.length ≤ maxLen) (hc : cl.length ≤ maxLen) : D17 m ops cl = some (quota (m.2.1.foldl (tally ops cl) (0, 0))) := by
  rw [e17, f17_1 ops cl m 0 0 hl, ← forE_foldl (tally ops cl) (fun s => some (quota s))]
  refine forE_congr _ (fun x _ s K => ?_) (fun s => ?_) _
  · obtain ⟨a, b⟩ := s
    simp only [has20 ops _ ho, has20 cl _ hc, bindS, tally, inc]
    cases h1 : ops.any (· == x.2.1) <;> cases h2 : cl.any (· == x.1) <;> simp
  · rw [← quota_rest]
    obtain ⟨a, b⟩ := s
    simp only [Int.mul_comm]
theorem law5' (m : Mp) (ops cl : List Int) (hv : Valid (pk ps5) (m, ops, cl)) : D5 m ops cl = some true := by
  obtain ⟨hm, ⟨ho, _⟩, hc, _⟩ := hv
  obtain ⟨r, hr⟩ := t15 m hm
  rw [e5, aliveD]
  simp only [bindS, Bool.not_true, condF]
  rw [hr, f16 m ops cl hm.2.1.1 ho hc, f17 m ops cl hm.2.1.1 ho hc]
  simp only [bindS, beq_self_eq_true]
  cases decide ((ops.length : Int) > 100) <;> cases decide ((cl.length : Int) > 100) <;> cases (r != 0) <;> rfl
theorem law5 (x : (pk ps5).den) (h : Valid (pk ps5) x) : d5 x = some true := law5' x.1 x.2.1 x.2.2 h
end Go.Proofs.Ytdbbbdjglpfnbaa.D
