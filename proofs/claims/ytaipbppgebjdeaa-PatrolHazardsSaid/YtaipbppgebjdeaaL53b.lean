import Derived.Test.YtaipbppgebjdeaaL53
open Go Go.GD Go.Proofs
namespace Go.Proofs.Ytaipbppgebjdeaa.D
theorem limOk {a b k : Nat} (hb : 0 < k) (h : (a + b) * k ≤ 1000000000) : (Nat.ble ((a + b) * k) appendLimit && Nat.ble (a + b) 9223372036854775807) = true :=
  grows (Nat.le_trans h (by decide)) hb
/-- within the bounds of the statements -/
def SmC (l : Ck) : Prop := l.1.length ≤ 1000 ∧ l.2.2.length ≤ 1000
def Sm (p : Pt) : Prop := p.1.length ≤ 1000 ∧ p.2.length ≤ 1000 ∧ ∀ r, r ∈ p.1 → SmC r.2

theorem runAt_cases (p : Pt) (run : Int) : (runAt p run = -1 ∧ p.1.any (fun l => l.1 == run) = false) ∨ ∃ i : Nat, ∃ h : i < p.1.length, runAt p run = (i : Int) ∧ (p.1[i].1 == run) = true := by
  cases ha : p.1.any (fun l => l.1 == run) with
  | false => exact .inl ⟨findI_neg _ _ _ ha, rfl⟩
  | true =>
    obtain ⟨i, h, h1, h2, _⟩ := findI_pos _ _ 0 ha
    exact .inr ⟨i, h, by rw [Nat.zero_add] at h1; exact h1, h2⟩
theorem hazAt_cases (l : List Sg) (id : Int) : (hazAt l id = -1 ∧ l.any (fun h => h.1 == id) = false) ∨ ∃ i : Nat, ∃ h : i < l.length, hazAt l id = (i : Int) ∧ (l[i].1 == id) = true ∧ ∀ j (h : j < l.length), j < i → (l[j].1 == id) = false := by
  cases ha : l.any (fun h => h.1 == id) with
  | false => exact .inl ⟨findI_neg _ _ _ ha, rfl⟩
  | true =>
    obtain ⟨i, h, h1, h2, h3⟩ := findI_pos _ _ 0 ha
    exact .inr ⟨i, h, by rw [Nat.zero_add] at h1; exact h1, h2, h3⟩

theorem cl54 (s : List Int) (h : s.length ≤ 1000) : D54 s = some s := by
  rw [e54, limOk (by decide) (by simp; omega)]; rfl
theorem cl55 (s : List Sg) (h : s.length ≤ 1000) : D55 s = some s := by
  rw [e55, limOk (by decide) (by simp; omega)]; rfl
theorem cl56 (s : List Sg) (h : s.length ≤ 1000) : D56 s = some s := by
  rw [e56, limOk (by decide) (by simp; omega)]; rfl
theorem cp38 (p : Pt) (h : Sm p) : D38 p = some p := by
  obtain ⟨h1, h2, h3⟩ := h
  rw [e38]
  have hc : (decide (0 ≤ (0 : Int)) && (decide ((0 : Int) ≤ (p.1.length : Int)) && (decide (64 * (p.1.length : Int) ≤ (appendLimit : Int)) && decide ((p.1.length : Int) ≤ 9223372036854775807)))) = true := by
    have : (appendLimit : Int) = 140737488355328 := rfl
    rw [this]
    simp only [Bool.and_eq_true, decide_eq_true_eq]
    omega
  rw [hc, condT, f38_1 _ _ _ _ (by rw [maxLen_val]; omega)]
  refine forE_inv (fun pre => pre) (· = some p) p.1 (fun pre x post e K hK => ?_) ?_ rfl
  · have hx : x ∈ p.1 := by rw [e]; simp
    have hl : pre.length + 1 + post.length = p.1.length := by rw [e]; simp; omega
    have := h3 x hx
    simp only [cl54 _ this.1, cl55 _ this.2, bindS]
    rw [limOk (by decide) (by simp; omega), condT]
    exact hK
  · simp only [cl56 _ h2, bindS]
theorem own40 (p : Pt) (h : Sm p) : D40 p = some p := by
  obtain ⟨h1, h2, h3⟩ := h
  rw [e40, f40_1 _ _ _ (by rw [maxLen_val]; omega)]
  refine forE_inv (fun pre => (pre, ([] : List Sg))) (· = some p) p.1 (fun pre x post e K hK => ?_) ?_ rfl
  · have hx : x ∈ p.1 := by rw [e]; simp
    have hl : pre.length + 1 + post.length = p.1.length := by rw [e]; simp; omega
    have := h3 x hx
    have a1 := this.1
    have a2 := this.2
    rw [limOk (by decide) (by simp; omega), limOk (by decide) (by simp; omega), limOk (by decide) (by simp; omega)]
    exact hK
  · rw [limOk (by decide) (by simp; omega)]; rfl

theorem int46 (l : List Int) (h : l.length ≤ 1000) : D46 l l = some true := by
  rw [e46, bne_self_eq_false, condF, f46_1 l l (by rw [maxLen_val]; omega)]
  refine forI_inv (fun _ => ()) (fun r => r = some true) l (fun pre x post e K hK => ?_) rfl rfl
  have hk : pre.length < l.length := by rw [e]; simp
  have hx : l[pre.length] = x := by simp [e]
  rw [idx_get hk, hx]
  simp only [bindS, bne_self_eq_false, condF]
  exact hK
theorem same30 (l : Ck) (h : SmC l) : D30 l l = some true := by
  rw [e30, bne_self_eq_false, condF, bne_self_eq_false, condF, int46 _ h.1, bindS, Bool.not_true, condF, f30_1 l l (by have := h.2; rw [maxLen_val]; omega)]
  refine forI_inv (fun _ => ()) (fun r => r = some true) l.2.2 (fun pre x post e K hK => ?_) rfl rfl
  have hk : pre.length < l.2.2.length := by rw [e]; simp
  have hx : l.2.2[pre.length] = x := by simp [e]
  rw [idx_get hk, hx]
  simp only [bindS, beq_self_eq_true, Bool.and_self, Bool.not_true, condF]
  exact hK
theorem same17 (p : Pt) (h : Sm p) : D17 p p = some true := by
  obtain ⟨h1, h2, h3⟩ := h
  rw [e17, bne_self_eq_false, condF, bne_self_eq_false, condF, f17_3 p p (by rw [maxLen_val]; omega), f17_1 p p (by rw [maxLen_val]; omega)]
  refine forI_inv (fun _ => ()) (fun r => r = some true) p.1 (fun pre x post e K hK => ?_) ?_ rfl
  · have hk : pre.length < p.1.length := by rw [e]; simp
    have hx : p.1[pre.length] = x := by simp [e]
    rw [idx_get hk, hx]
    simp only [bindS, bne_self_eq_false, condF, same30 _ (h3 x (by rw [e]; simp)), Bool.not_true]
    exact hK
  · refine forI_inv (fun _ => ()) (fun r => r = some true) p.2 (fun pre x post e K hK => ?_) rfl rfl
    have hk : pre.length < p.2.length := by rw [e]; simp
    have hx : p.2[pre.length] = x := by simp [e]
    rw [idx_get hk, hx]
    simp only [bindS, beq_self_eq_true, Bool.and_self, Bool.not_true, condF]
    exact hK

/-! Sign -/
def signed (l : Ck) (item by_ t : Int) : Ck := (l.1, l.2.1, l.2.2.filter (fun g => g.1 != item) ++ [(item, by_, t)])
theorem signed_sm {l : Ck} (item by_ t : Int) (h : l.1.length ≤ 900 ∧ l.2.2.length ≤ 900) : SmC (signed l item by_ t) := by
  have := List.length_filter_le (fun (g : Sg) => g.1 != item) l.2.2
  refine ⟨by show l.1.length ≤ 1000; omega, ?_⟩
  simp only [signed, List.length_append, List.length_singleton]
  omega
theorem sign37 (l : Ck) (item by_ t : Int) (h : l.1.length ≤ 900 ∧ l.2.2.length ≤ 900) :
    D37 l item by_ t = (D32 (signed l item by_ t)).bind fun r1 => bif (r1 != 0) then some (([], 0, []), r1) else some (signed l item by_ t, 0) := by
  rw [e37, cl54 _ (by omega), bindS, f37_1 _ _ _ _ _ _ (by rw [maxLen_val]; omega)]
  refine forE_inv (fun pre => (l.1, l.2.1, pre.filter (fun g => g.1 != item))) (fun r => r = _) l.2.2 (fun pre x post e K hK => ?_) ?_ rfl
  · have hl : pre.length + 1 + post.length = l.2.2.length := by rw [e]; simp; omega
    have := List.length_filter_le (fun (g : Sg) => g.1 != item) pre
    rw [List.filter_append] at hK
    cases hx : x.1 != item with
    | true =>
      rw [condT, limOk (by decide) (by simp only [List.length_singleton]; omega), condT]
      simp only [List.filter_cons, hx, if_true, List.filter_nil] at hK
      exact hK
    | false =>
      simp only [List.filter_cons, hx, Bool.false_eq_true, if_false, List.filter_nil, List.append_nil] at hK
      rw [condF]
      exact hK
  · have := List.length_filter_le (fun (g : Sg) => g.1 != item) l.2.2
    rw [limOk (by decide) (by simp only [List.length_singleton]; omega)]
    rfl
theorem sign39 (l : Ck) (item by_ t : Int) (h : l.1.length ≤ 900 ∧ l.2.2.length ≤ 900) :
    D39 l item by_ t = (D35 (signed l item by_ t)).bind fun r1 => bif (r1 != 0) then some (([], 0, []), r1) else some (signed l item by_ t, 0) := by
  rw [e39, f39_3 _ _ _ _ _ _ (by rw [maxLen_val]; omega)]
  have hin : lp39_1 big item by_ t l ([], 0, []) (l.1, l.2.1, []) 0 = (D35 (signed l item by_ t)).bind fun r1 => bif (r1 != 0) then some (([], 0, []), r1) else some (signed l item by_ t, 0) := by
    rw [f39_1 _ _ _ _ _ _ (by rw [maxLen_val]; omega)]
    refine forE_inv (fun pre => (l.1, l.2.1, pre.filter (fun g => g.1 != item))) (fun r => r = _) l.2.2 (fun pre x post e K hK => ?_) ?_ rfl
    · have hl : pre.length + 1 + post.length = l.2.2.length := by rw [e]; simp; omega
      have := List.length_filter_le (fun (g : Sg) => g.1 != item) pre
      rw [List.filter_append] at hK
      cases hx : x.1 != item with
      | true =>
        rw [condT, limOk (by decide) (by simp only [List.length_singleton]; omega), condT]
        simp only [List.filter_cons, hx, if_true, List.filter_nil] at hK
        exact hK
      | false =>
        simp only [List.filter_cons, hx, Bool.false_eq_true, if_false, List.filter_nil, List.append_nil] at hK
        rw [condF]
        exact hK
    · have := List.length_filter_le (fun (g : Sg) => g.1 != item) l.2.2
      rw [limOk (by decide) (by simp only [List.length_singleton]; omega)]
      rfl
  refine forE_inv (fun pre => (pre, l.2.1, ([] : List Sg))) (fun r => r = _) l.1 (fun pre x post e K hK => ?_) hin rfl
  have hl : pre.length + 1 + post.length = l.1.length := by rw [e]; simp; omega
  rw [limOk (by decide) (by simp only [List.length_singleton]; omega), condT]
  exact hK

def SmP (p : Pt) : Prop := p.1.length ≤ 70 ∧ p.2.length ≤ 210 ∧ ∀ r, r ∈ p.1 → r.2.1.length ≤ 70 ∧ r.2.2.2.length ≤ 210
theorem SmP.sm {p : Pt} (h : SmP p) : Sm p := ⟨Nat.le_trans h.1 (by decide), Nat.le_trans h.2.1 (by decide), fun r hr => ⟨Nat.le_trans (h.2.2 r hr).1 (by decide), Nat.le_trans (h.2.2 r hr).2 (by decide)⟩⟩
theorem zP_sm : Sm ([], []) := ⟨by decide, by decide, fun r hr => by cases hr⟩
theorem sign15 (p : Pt) (run a b c : Int) (h : SmP p) : D15 p run a b c = D16 p run a b c ∧ ∃ q, D15 p run a b c = some q ∧ Sm q.1 := by
  have hs := h.sm
  have m1 : p.1.length ≤ maxLen := by have := h.1; rw [maxLen_val]; omega
  rw [e15, e16, list34 _ _ m1, at36 _ _ m1]
  simp only [bindS]
  rcases runAt_cases p run with ⟨hr, _⟩ | ⟨i, hi, hr, _⟩
  · rw [hr]
    have hd : decide ((-1 : Int) < 0) = true := rfl
    rw [hd, condT, condT]
    exact ⟨rfl, _, rfl, zP_sm⟩
  · rw [hr]
    have hd : decide ((i : Int) < 0) = false := decide_eq_false (by omega)
    have hm : p.1[i] ∈ p.1 := List.getElem_mem hi
    have hb := h.2.2 _ hm
    have hb9 : (p.1[i]).2.1.length ≤ 900 ∧ (p.1[i]).2.2.2.length ≤ 900 := by omega
    rw [hd, condF, condF, idx_get hi, bindS, bindS, sign37 _ _ _ _ hb9, sign39 _ _ _ _ hb9, cp38 _ hs, own40 _ hs]
    obtain ⟨k1, k2⟩ := right19 (signed (p.1[i]).2 a b c)
    rw [← k1]
    obtain ⟨r, hr⟩ := k2
    rw [hr]
    refine ⟨rfl, ?_⟩
    simp only [bindS]
    cases hz : r != 0 with
    | true =>
      simp only [condT, bindS, hz]
      exact ⟨_, rfl, zP_sm⟩
    | false =>
      simp only [condF, bindS, bne_self_eq_false, idx_get hi]
      refine ⟨_, rfl, ?_⟩
      refine ⟨by simp only [List.length_set]; exact hs.1, hs.2.1, fun r hr => ?_⟩
      rcases List.mem_or_eq_of_mem_set hr with hr | rfl
      · exact hs.2.2 r hr
      · exact signed_sm a b c hb9
theorem acc14 (p : Pt) (h : p.1.length ≤ maxLen) : ∃ b, D14 p = some b ∧ (b = true → SmP p ∧ D13 p = some 0) := by
  obtain ⟨b, hb, hs⟩ := small11 p h
  rw [e14, hb, bindS]
  cases b with
  | false => exact ⟨false, rfl, fun e => by cases e⟩
  | true =>
    obtain ⟨r, hr⟩ := (right53 p).2
    rw [← (right53 p).1, hr]
    refine ⟨r == 0, rfl, fun e => ⟨hs rfl, ?_⟩⟩
    rw [beq_iff_eq] at e
    rw [e]
theorem signs4 (p : Pt) (run : Int) (s : Sg) (h : p.1.length ≤ maxLen) : D4 p run s = some true := by
  obtain ⟨b, hb, hs⟩ := acc14 p h
  rw [e4, aliveD, hb]
  simp only [bindS, Bool.not_true, condF]
  cases b with
  | false => rfl
  | true =>
    obtain ⟨k1, q, k2, k3⟩ := sign15 p run s.1 s.2.1 s.2.2 (hs rfl).1
    rw [← k1, k2]
    simp only [Bool.not_true, condF, bindS, same17 _ k3, condT, beq_self_eq_true]
theorem law4 (x : (pk ps4).den) (h : Valid (pk ps4) x) : d4 x = some true := signs4 x.1 x.2.1 x.2.2 h.1.1.1
end Go.Proofs.Ytaipbppgebjdeaa.D
