import Derived.Test.YtbldhkgfeolhnaaL19b
open Go Go.GD Go.Proofs
namespace Go.Proofs.Ytbldhkgfeolhnaa.D
/-- what Right asks -/
structure Good (l : Ck) : Prop where
  li : l.1.length ≤ 64
  ls : l.2.2.length ≤ 200
  ev : 1 ≤ l.2.1 ∧ l.2.1 ≤ 604800
  it : ∀ i (h : i < l.1.length), 1 ≤ l.1[i] ∧ l.1[i] ≤ 9999 ∧ (l.1.take i).any (· == l.1[i]) = false
  sg : ∀ i (h : i < l.2.2.length), l.1.any (· == l.2.2[i].1) = true ∧ (1 ≤ l.2.2[i].2.1 ∧ l.2.2[i].2.1 ≤ 9999) ∧ (0 ≤ l.2.2[i].2.2 ∧ l.2.2[i].2.2 ≤ 20000000)
  so : ∀ i (h : i + 1 < l.2.2.length), (l.2.2[i]'(by omega)).2.2 ≤ l.2.2[i + 1].2.2
theorem good_of (l : Ck) (h : D13 l = some 0) : Good l := by
  rw [e13] at h
  obtain ⟨h1, h⟩ := pass_bif h (by decide)
  obtain ⟨h2, h⟩ := pass_bif h (by decide)
  simp only [decide_eq_false_iff_not] at h1 h2
  rw [inR, bindS] at h
  obtain ⟨h3, h⟩ := pass_bif h (by decide)
  have h3 := in_rng h3
  rw [f13_3 l (by rw [maxLen_val]; omega)] at h
  obtain ⟨gi, h⟩ := forI_pass (fun i x => 1 ≤ x ∧ x ≤ 9999 ∧ (l.1.take i).any (· == x) = false) l.1 0 (fun i hi K hK => by
    rw [inR, bindS] at hK
    obtain ⟨hr, hK⟩ := pass_bif hK (by decide)
    have hr := in_rng hr
    have hlt : (List.drop (Int.toNat 0) (List.take (Int.toNat ((0 + i : Nat) : Int)) l.1)).length ≤ maxLen := by rw [maxLen_val]; simp; omega
    rw [hasR _ _ hlt, bindS] at hK
    cases hc : (decide (0 ≤ (0 : Int)) && (decide ((0 : Int) ≤ ((0 + i : Nat) : Int)) && decide (((0 + i : Nat) : Int) ≤ (l.1.length : Int)))) with
    | false => rw [hc] at hK; cases hK
    | true =>
      rw [hc, condT] at hK
      obtain ⟨hn, hK⟩ := pass_bif hK (by decide)
      exact ⟨⟨hr.1, hr.2, hn⟩, hK⟩) h
  rw [f13_1 l (by rw [maxLen_val]; omega)] at h
  obtain ⟨g, _⟩ := forI_pass (fun i (x : Sg) => (l.1.any (· == x.1) = true ∧ (1 ≤ x.2.1 ∧ x.2.1 ≤ 9999) ∧ (0 ≤ x.2.2 ∧ x.2.2 ≤ 20000000)) ∧ ∀ j, i = j + 1 → ∀ e, idx l.2.2 (j : Int) = some e → e.2.2 ≤ x.2.2) l.2.2 0 (fun i hi K hK => by
    rw [hasR _ _ (by rw [maxLen_val]; omega), bindS] at hK
    obtain ⟨ha, hK⟩ := pass_bif hK (by decide)
    rw [inR, bindS] at hK
    obtain ⟨hb, hK⟩ := pass_bif hK (by decide)
    rw [inR, bindS] at hK
    obtain ⟨hg, hK⟩ := pass_bif hK (by decide)
    have hgood := And.intro (show l.1.any (· == (l.2.2[i]).1) = true by simpa using ha) (And.intro (in_rng hb) (in_rng hg))
    cases hd : decide (((0 + i : Nat) : Int) > 0) with
    | false =>
      rw [hd, condF] at hK
      simp only [decide_eq_false_iff_not] at hd
      exact ⟨⟨hgood, fun j hj => by omega⟩, hK⟩
    | true =>
      rw [hd, condT] at hK
      have hd := of_decide_eq_true hd
      rw [wrap_i64 (by omega) (by omega)] at hK
      cases hx : idx l.2.2 (((0 + i : Nat) : Int) - 1) with
      | none => rw [hx] at hK; cases hK
      | some e =>
        rw [hx, bindS] at hK
        obtain ⟨hle, hK⟩ := pass_bif hK (by decide)
        simp only [decide_eq_false_iff_not] at hle
        refine ⟨⟨hgood, fun j hj e' he' => ?_⟩, hK⟩
        rw [show ((0 + i : Nat) : Int) - 1 = (j : Int) by omega, he'] at hx
        rw [Option.some.inj hx]
        omega) h
  refine ⟨by omega, by omega, h3, fun i hi => ?_, fun i hi => (g i hi).1, fun i hi => (g (i + 1) hi).2 i (by omega) _ (idx_get (by omega))⟩
  have := gi i hi
  simpa using this
theorem Good.rng {l : Ck} (h : Good l) : Rng l := ⟨h.li, h.ls, h.ev.1, h.ev.2, fun g hg => by
  obtain ⟨i, hi, rfl⟩ := List.getElem_of_mem hg
  exact (h.sg i hi).2.2⟩
theorem right_of (l : Ck) (h : Good l) : D12 l = some 0 := by
  have h1 := h.li
  have h2 := h.ls
  have m1 : l.1.length ≤ maxLen := by rw [maxLen_val]; omega
  have m2 : l.2.2.length ≤ maxLen := by rw [maxLen_val]; omega
  rw [e12, decide_eq_false (by omega), decide_eq_false (by omega), decide_eq_false (by have := h.ev; omega), decide_eq_false (by have := h.ev; omega), condF, condF, condF, condF, f12_3 _ _ m1]
  refine forI_inv (fun _ => ()) (fun r => r = some 0) l.1 (fun pre x post e K hK => ?_) ?_ rfl
  · have hk : pre.length < l.1.length := by rw [e]; simp
    have hx : l.1[pre.length] = x := by simp [e]
    obtain ⟨q1, q2, q3⟩ := h.it pre.length hk
    rw [hx] at q1 q2 q3
    have hlt : (List.drop (Int.toNat 0) (List.take (Int.toNat ((pre.length : Nat) : Int)) l.1)).length ≤ maxLen := by rw [maxLen_val]; simp; omega
    have hc : (decide (0 ≤ (0 : Int)) && (decide ((0 : Int) ≤ (pre.length : Int)) && decide ((pre.length : Int) ≤ (l.1.length : Int)))) = true := by
      simp only [Bool.and_eq_true, decide_eq_true_eq]; omega
    rw [decide_eq_false (by omega), decide_eq_false (by omega), condF, condF, hc, condT, contI _ _ hlt, bindS]
    simp only [Int.toNat_natCast, Int.toNat_zero, List.drop_zero, q3, condF]
    exact hK
  · rw [f12_1 _ _ m2]
    refine forI_inv (fun _ => ()) (fun (r : Option Int) => r = some 0) l.2.2 (fun pre x post e K hK => ?_) rfl rfl
    have hk : pre.length < l.2.2.length := by rw [e]; simp
    have hx : l.2.2[pre.length] = x := by simp [e]
    obtain ⟨q1, q2, q3⟩ := h.sg pre.length hk
    rw [hx] at q1 q2 q3
    rw [contI _ _ m1, bindS, q1, decide_eq_false (by omega), decide_eq_false (by omega), decide_eq_false (by omega), decide_eq_false (by omega)]
    simp only [Bool.not_true, condF]
    cases hd : decide ((pre.length : Int) > 0) with
    | false => rw [condF]; exact hK
    | true =>
      have hd := of_decide_eq_true hd
      have := h.so (pre.length - 1) (by omega)
      rw [condT, wrap_i64 (by omega) (by omega), show (pre.length : Int) - 1 = ((pre.length - 1 : Nat) : Int) by omega, idx_get (show pre.length - 1 < l.2.2.length by omega), bindS]
      simp only [show pre.length - 1 + 1 = pre.length by omega, hx] at this
      rw [decide_eq_false (by omega), condF]
      exact hK
theorem so_le {l : Ck} (h : Good l) : ∀ (d i : Nat) (hi : i + d < l.2.2.length), (l.2.2[i]'(by omega)).2.2 ≤ l.2.2[i + d].2.2
  | 0, i, hi => Int.le_refl _
  | d + 1, i, hi => Int.le_trans (so_le h d i (by omega)) (h.so (i + d) hi)

/-! how long an item stays signed -/
theorem valid_iff {l : Ck} {it v : Int} {g : Sg} : valid l it v g = true ↔ g.1 = it ∧ g.2.2 ≤ v ∧ v < g.2.2 + l.2.1 := by
  unfold valid
  cases h1 : g.1 == it with
  | false => simp at h1; simp [h1]
  | true =>
    simp at h1
    cases h2 : decide (g.2.2 ≤ v) with
    | false => simp at h2; simp; omega
    | true => simp at h2; simp [h1, h2]
def cov (l : Ck) (it v : Int) : Bool := l.2.2.any (valid l it v)
theorem cov_iff {l : Ck} {it v : Int} : cov l it v = true ↔ ∃ g, g ∈ l.2.2 ∧ g.1 = it ∧ g.2.2 ≤ v ∧ v < g.2.2 + l.2.1 := by
  unfold cov
  rw [List.any_eq_true]
  exact ⟨fun ⟨g, h1, h2⟩ => ⟨g, h1, valid_iff.1 h2⟩, fun ⟨g, h1, h2⟩ => ⟨g, h1, valid_iff.2 h2⟩⟩
/-- e is the least time from t on at which the item is open -/
def Until1 (l : Ck) (it t e : Int) : Prop := t ≤ e ∧ (∀ v, t ≤ v → v < e → cov l it v = true) ∧ cov l it e = false
theorem Until1.uniq {l : Ck} {it t e e' : Int} (h : Until1 l it t e) (h' : Until1 l it t e') : e = e' := by
  obtain ⟨a1, a2, a3⟩ := h
  obtain ⟨b1, b2, b3⟩ := h'
  rcases Int.lt_trichotomy e e' with hlt | rfl | hlt
  · rw [b2 e a1 hlt] at a3; cases a3
  · rfl
  · rw [a2 e' b1 hlt] at b3; cases b3
theorem ends36 (l : Ck) (it t : Int) (h : Good l) : ∃ e, D36 l it t = some e ∧ Until1 l it t e ∧ (e = t ∨ e ≤ 20604800) := by
  have hls := h.ls
  have hev := h.ev
  have hR := h.rng
  rw [e36, f36_1 _ _ _ _ (by rw [maxLen_val]; omega)]
  refine forE_rule (fun pre t1 => t ≤ t1 ∧ (∀ v, t ≤ v → v < t1 → cov l it v = true) ∧ (∀ g, g ∈ pre → valid l it t1 g = false) ∧ (t1 = t ∨ t1 ≤ 20604800)) (fun r => ∃ e, r = some e ∧ Until1 l it t e ∧ (e = t ∨ e ≤ 20604800)) l.2.2 (fun pre x post e t1 hI K hK => ?_) (fun t1 hI => ?_) ⟨Int.le_refl _, (fun v h1 h2 => by omega), (fun g hg => by cases hg), .inl rfl⟩
  · obtain ⟨i1, i2, i3, i4⟩ := hI
    have hk : pre.length < l.2.2.length := by rw [e]; simp
    have hx : l.2.2[pre.length] = x := by simp [e]
    have hxm : x ∈ l.2.2 := by rw [e]; simp
    have hr := (h.sg pre.length hk).2.2
    rw [hx] at hr
    rw [wrap_i64 (n := x.2.2 + l.2.1) (by omega) (by omega)]
    have stay : valid l it t1 x = false → ∃ e, K t1 = some e ∧ Until1 l it t e ∧ (e = t ∨ e ≤ 20604800) := fun hv =>
      hK t1 ⟨i1, i2, fun g hg => by
        rcases List.mem_append.1 hg with hg | hg
        · exact i3 g hg
        · rw [List.mem_singleton.1 hg]; exact hv, i4⟩
    cases c1 : x.1 == it with
    | false => exact stay (by rw [valid, c1]; rfl)
    | true =>
      cases c2 : decide (x.2.2 ≤ t1) with
      | false => exact stay (by rw [valid, c1, c2]; rfl)
      | true =>
        cases c3 : decide (t1 < x.2.2 + l.2.1) with
        | false => exact stay (by rw [valid, c1, c2, c3]; rfl)
        | true =>
          simp only [beq_iff_eq] at c1
          have c2 := of_decide_eq_true c2
          have c3 := of_decide_eq_true c3
          refine hK _ ⟨by omega, fun v h1 h2 => ?_, fun g hg => ?_, .inr (by omega)⟩
          · by_cases hv : v < t1
            · exact i2 v h1 hv
            · exact cov_iff.2 ⟨x, hxm, c1, by omega, h2⟩
          · rw [Bool.eq_false_iff]
            intro hv
            have hv := valid_iff.1 hv
            rcases List.mem_append.1 hg with hg | hg
            · obtain ⟨j, hj, rfl⟩ := List.getElem_of_mem hg
              have hs := so_le h (pre.length - j) j (by omega)
              have e1 : l.2.2[j]'(by omega) = pre[j] := by simp [e, List.getElem_append_left hj]
              have e2 : l.2.2[j + (pre.length - j)]'(by omega) = x := by simp only [show j + (pre.length - j) = pre.length by omega]; exact hx
              rw [e1, e2] at hs
              omega
            · rw [List.mem_singleton.1 hg] at hv; omega
  · obtain ⟨i1, i2, i3, i4⟩ := hI
    refine ⟨t1, rfl, ⟨i1, i2, ?_⟩, i4⟩
    unfold cov
    rw [List.any_eq_false]
    intro g hg
    rw [i3 g hg]; simp
end Go.Proofs.Ytbldhkgfeolhnaa.D
