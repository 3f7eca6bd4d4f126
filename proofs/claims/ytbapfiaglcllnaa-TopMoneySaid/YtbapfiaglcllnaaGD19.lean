import Derived.Test.YtbapfiaglcllnaaGD18
import Derived.Orders
namespace Go.GD
open Go
theorem listGet_set (σ : St) (s : Nat) (v : Slot) (t : Nat) : listGet (listSet σ s v) t = if t = s ∧ s < σ.length then v else listGet σ t := by
  by_cases h : t = s
  · subst h
    by_cases hl : t < σ.length
    · rw [if_pos ⟨rfl, hl⟩, listGet_set_same _ _ _ hl]
    · rw [if_neg (fun e => hl e.2), listSet_out _ _ _ (by omega)]
  · rw [if_neg (fun e => h e.1), listGet_set_other _ _ _ _ h]
def Frames (p : Prog) (σ σ' : St) (Rn Wn : List Nat) : Prop :=
  ∀ σ2 : St, σ2.length = σ.length → (∀ s, s ∈ Rn → listGet σ2 s = listGet σ s) →
    ∃ σ2', p.run σ2 some = some σ2' ∧ σ2'.length = σ2.length ∧ ∀ s, (s ∈ Wn → listGet σ2' s = listGet σ' s) ∧ (s ∉ Wn → listGet σ2' s = listGet σ2 s ∧ listGet σ' s = listGet σ s)
theorem runF_frames {ρ : Type} : (p : Prog) → ∀ {σ : St} {R W : List Nat} {k : St → List Nat → List Nat → Option ρ} {r : ρ}, p.runF σ R W k = some r →
    ∃ σ' Rn Wn, k σ' (Rn ++ R) (Wn ++ W) = some r ∧ σ'.length = σ.length ∧ Frames p σ σ' Rn Wn := by
  intro p
  induction p with
  | fin => intro σ R W k r h; exact ⟨σ, [], [], h, rfl, fun σ2 _ _ => ⟨σ2, rfl, rfl, fun s => ⟨(fun h => by cases h), fun _ => ⟨rfl, rfl⟩⟩⟩⟩
  | fail => intro σ R W k r h; cases h
  | get s p ih =>
    intro σ R W k r h
    obtain ⟨σ', Rn, Wn, h1, h2, h3⟩ := ih _ h
    refine ⟨σ', Rn ++ [s], Wn, by simpa using h1, h2, fun σ2 hl hag => ?_⟩
    obtain ⟨σ2', q1, q2, q3⟩ := h3 σ2 hl fun t ht => hag t (List.mem_append_left _ ht)
    refine ⟨σ2', ?_, q2, q3⟩
    simp only [Prog.run]
    rw [hag s (by simp)]; exact q1
  | put s v p ih =>
    intro σ R W k r h
    obtain ⟨σ', Rn, Wn, h1, h2, h3⟩ := ih h
    rw [listSet_length] at h2
    refine ⟨σ', Rn, Wn ++ [s], by simpa using h1, h2, fun σ2 hl hag => ?_⟩
    obtain ⟨σ2', q1, q2, q3⟩ := h3 (listSet σ2 s v) (by rw [listSet_length, listSet_length, hl]) fun t ht => by
      rw [listGet_set, listGet_set, hl, hag t ht]
    rw [listSet_length] at q2
    refine ⟨σ2', q1, q2, fun t => ?_⟩
    obtain ⟨q4, q5⟩ := q3 t
    constructor
    · intro ht
      by_cases htw : t ∈ Wn
      · exact q4 htw
      · have e : t = s := by simpa [htw] using ht
        obtain ⟨q6, q7⟩ := q5 htw
        rw [q6, q7, listGet_set, listGet_set, hl]
        by_cases hs : s < σ.length
        · rw [if_pos ⟨e, hs⟩, if_pos ⟨e, hs⟩]
        · rw [if_neg (fun h => hs h.2), if_neg (fun h => hs h.2), e, listGet_out _ _ (by omega), listGet_out _ _ (by omega)]
    · intro ht
      obtain ⟨q6, q7⟩ := q5 (fun h => ht (List.mem_append_left _ h))
      have e : t ≠ s := fun e => ht (by rw [e]; simp)
      rw [q6, q7, listGet_set_other _ _ _ _ e, listGet_set_other _ _ _ _ e]
      exact ⟨rfl, rfl⟩
  | br b p q ihp ihq =>
    intro σ R W k r h
    cases b with
    | true => exact ihp h
    | false => exact ihq h
  | both p q => intro σ R W k r h; cases h
  | brs s p q u ihp ihq ihu =>
    intro σ R W k r h
    simp only [Prog.runF] at h
    split at h
    case h_3 => cases h
    case h_2 =>
      rename_i i gn hs
      obtain ⟨σ', Rn, Wn, h1, h2, h3⟩ := ihu h
      refine ⟨σ', Rn ++ [s], Wn, by simpa using h1, h2, fun σ2 hl hag => ?_⟩
      obtain ⟨σ2', q1, q2, q3⟩ := h3 σ2 hl fun t ht => hag t (List.mem_append_left _ ht)
      have hs2 := (hag s (by simp)).trans hs
      refine ⟨σ2', ?_, q2, q3⟩
      simp only [Prog.run, hs2]; exact q1
    rename_i b ms i gn hs
    have e1 : listSet σ s ⟨.val ⟨.bool, b, ms⟩, i, gn⟩ = σ := by rw [← hs]; exact listSet_self _ _
    cases b with
    | true =>
      simp only [cond, e1] at h
      obtain ⟨σ', Rn, Wn, h1, h2, h3⟩ := ihp h
      refine ⟨σ', Rn ++ [s], Wn, by simpa using h1, h2, fun σ2 hl hag => ?_⟩
      obtain ⟨σ2', q1, q2, q3⟩ := h3 σ2 hl fun t ht => hag t (List.mem_append_left _ ht)
      have hs2 := (hag s (by simp)).trans hs
      have e2 : listSet σ2 s ⟨.val ⟨.bool, true, ms⟩, i, gn⟩ = σ2 := by rw [← hs2]; exact listSet_self _ _
      refine ⟨σ2', ?_, q2, q3⟩
      simp only [Prog.run, hs2, cond, e2]; exact q1
    | false =>
      simp only [cond, e1] at h
      obtain ⟨σ', Rn, Wn, h1, h2, h3⟩ := ihq h
      refine ⟨σ', Rn ++ [s], Wn, by simpa using h1, h2, fun σ2 hl hag => ?_⟩
      obtain ⟨σ2', q1, q2, q3⟩ := h3 σ2 hl fun t ht => hag t (List.mem_append_left _ ht)
      have hs2 := (hag s (by simp)).trans hs
      have e2 : listSet σ2 s ⟨.val ⟨.bool, false, ms⟩, i, gn⟩ = σ2 := by rw [← hs2]; exact listSet_self _ _
      refine ⟨σ2', ?_, q2, q3⟩
      simp only [Prog.run, hs2, cond, e2]; exact q1
  | bind o p ih =>
    intro σ R W k r h
    simp only [Prog.runF] at h
    obtain ⟨x, hx, h⟩ := Option.bind_eq_some_iff.1 h
    obtain ⟨σ', Rn, Wn, h1, h2, h3⟩ := ih x h
    refine ⟨σ', Rn, Wn, h1, h2, fun σ2 hl hag => ?_⟩
    obtain ⟨σ2', q1, q2, q3⟩ := h3 σ2 hl hag
    exact ⟨σ2', by simp only [Prog.run, hx]; exact q1, q2, q3⟩
theorem memNat_iff : (l : List Nat) → (n : Nat) → memNat l n = true ↔ n ∈ l
  | [], n => by simp [memNat]
  | a :: l, n => by
    simp only [memNat, Bool.or_eq_true, memNat_iff l n, List.mem_cons]
    constructor
    · rintro (h | h)
      · exact .inl (Nat.eq_of_beq_eq_true h).symm
      · exact .inr h
    · rintro (h | h)
      · exact .inl (by rw [h]; exact Nat.beq_refl _)
      · exact .inr h
theorem disj_iff : (l m : List Nat) → disj l m = true ↔ ∀ a, a ∈ l → a ∉ m
  | [], m => by simp [disj]
  | a :: l, m => by
    simp only [disj, Bool.and_eq_true, disj_iff l m, Bool.not_eq_true', ← Bool.not_eq_true, memNat_iff]
    exact ⟨fun h b hb => (List.mem_cons.1 hb).elim (fun e => e ▸ h.1) (h.2 b), fun h => ⟨h a (List.mem_cons_self ..), fun b hb => h b (List.mem_cons_of_mem _ hb)⟩⟩
theorem insN_mem {i a : Nat} {l : List Nat} (h : i ∈ insN a l) : i ∈ a :: l := by
  unfold insN at h
  cases hm : memNat l a with
  | true => rw [hm] at h; exact List.mem_cons_of_mem _ h
  | false => rw [hm] at h; exact h
theorem uniN_mem {i : Nat} : (m : List Nat) → {l : List Nat} → i ∈ uniN m l → i ∈ m ++ l
  | [], _, h => h
  | a :: m, l, h => by
    rcases List.mem_cons.1 (insN_mem h) with h | h
    · subst h; exact List.mem_cons_self ..
    · exact List.mem_cons_of_mem _ (uniN_mem m h)
theorem ancOf_mem {anc : List (List Nat)} {i : Nat} : (l : List Edge) → i ∈ ancOf anc l → ∃ e, e ∈ l ∧ Region.binds .any e = true ∧ (e.on = i ∨ i ∈ anc.getD e.on [])
  | [], h => by simp [ancOf] at h
  | e :: l, h => by
    have later : i ∈ ancOf anc l → ∃ e', e' ∈ e :: l ∧ Region.binds .any e' = true ∧ (e'.on = i ∨ i ∈ anc.getD e'.on []) := fun h =>
      let ⟨e', h1, h2⟩ := ancOf_mem l h
      ⟨e', List.mem_cons_of_mem _ h1, h2⟩
    unfold ancOf at h
    have here : (Region.binds .any e = true) → i ∈ e.on :: (anc.getD e.on [] ++ ancOf anc l) → ∃ e', e' ∈ e :: l ∧ Region.binds .any e' = true ∧ (e'.on = i ∨ i ∈ anc.getD e'.on []) := by
      intro hb h
      rcases List.mem_cons.1 h with h | h
      · exact ⟨e, List.mem_cons_self .., hb, .inl h.symm⟩
      · rcases List.mem_append.1 h with h | h
        · exact ⟨e, List.mem_cons_self .., hb, .inr h⟩
        · exact later h
    cases hg : e.ground <;> simp only [hg] at h <;> first
      | exact later h
      | (refine here (by simp [Region.binds, hg]) ?_
         rcases List.mem_cons.1 (insN_mem h) with h | h
         · subst h; exact List.mem_cons_self ..
         · exact List.mem_cons_of_mem _ (uniN_mem _ h))
theorem edgesOk_mem {j : Nat} : (l : List Edge) → edgesOk j l = true → ∀ e, e ∈ l → Region.binds .any e = true → e.on < j
  | [], _, e, h, _ => by cases h
  | e0 :: l, h, e, he, hb => by
    unfold edgesOk at h
    rcases List.mem_cons.1 he with rfl | he
    · unfold Region.binds at hb
      cases hg : e.ground <;> simp only [hg] at h hb <;> first
        | (exact absurd hb (by decide))
        | (simp only [Bool.and_eq_true, Nat.blt_eq] at h; exact h.1)
    · cases hg : e0.ground <;> simp only [hg] at h <;> first
        | exact edgesOk_mem l h e he hb
        | exact edgesOk_mem l (Bool.and_eq_true_iff.1 h).2 e he hb
theorem apartAll_get {before R W : List Nat} : (l : List (List Nat × List Nat)) → (i : Nat) → apartAll before R W i l = true → ∀ (k : Nat) (h : k < l.length),
    i + k ∈ before ∨ ((∀ a, a ∈ W → a ∉ l[k].1) ∧ (∀ a, a ∈ W → a ∉ l[k].2) ∧ (∀ a, a ∈ l[k].2 → a ∉ R))
  | [], _, _, k, h => by simp at h
  | (R', W') :: l, i, ha, k, h => by
    simp only [apartAll, Bool.and_eq_true, Bool.or_eq_true, memNat_iff, disj_iff] at ha
    cases k with
    | zero => exact ha.1
    | succ k =>
      have := apartAll_get l (i + 1) ha.2 k (by simpa using h)
      rw [show i + 1 + k = i + (k + 1) by omega] at this
      exact this
structure Trace (E : Env) (ops : List Oper) (n : Nat) (st : Nat → St) (R W bef : Nat → List Nat) : Prop where
  len : ∀ i, i ≤ n → (st i).length = (st 0).length
  frames : ∀ i o, i < n → ops[i]? = some o → Frames (guardP ops o (opP E o)) (st i) (st (i + 1)) (R i) (W i)
  apart : ∀ i j, i < j → j < n → i ∈ bef j ∨ ((∀ a, a ∈ W j → a ∉ R i) ∧ (∀ a, a ∈ W j → a ∉ W i) ∧ (∀ a, a ∈ W i → a ∉ R j))
  befs : ∀ j o, j < n → ops[j]? = some o → ∀ i, i ∈ bef j → ∃ e, e ∈ o.after.toList ∧ Region.binds .any e = true ∧ e.on < j ∧ (e.on = i ∨ i ∈ bef e.on)
  edges : ∀ j o, j < n → ops[j]? = some o → ∀ e, e ∈ o.after.toList → Region.binds .any e = true → e.on < j
def upd {α : Type} (f : Nat → α) (j : Nat) (v : α) : Nat → α := fun i => if i = j then v else f i
theorem upd_same {α : Type} (f : Nat → α) (j : Nat) (v : α) : upd f j v j = v := if_pos rfl
theorem upd_other {α : Type} (f : Nat → α) (j : Nat) (v : α) {i : Nat} (h : i ≠ j) : upd f j v i = f i := if_neg h
theorem map_upd {α : Type} (f : Nat → α) (j : Nat) (v : α) : (List.range (j + 1)).map (upd f j v) = (List.range j).map f ++ [v] := by
  rw [List.range_succ, List.map_append, List.map_singleton, upd_same]
  congr 1
  refine List.map_congr_left fun i hi => upd_other f j v ?_
  have := List.mem_range.1 hi
  omega
theorem drawC_trace {E : Env} {ops : List Oper} {ρ : Type} {k : St → Option ρ} {r : ρ} : (l : List Oper) → ∀ {j : Nat} {σ : St} {st : Nat → St} {R W bef : Nat → List Nat},
    j ≤ ops.length → ops.drop j = l → Trace E ops j st R W bef → st j = σ → drawC E ops l j ((List.range j).map bef) ((List.range j).map fun i => (R i, W i)) σ k = some r →
    ∃ (st' : Nat → St) (R' W' bef' : Nat → List Nat), Trace E ops ops.length st' R' W' bef' ∧ st' 0 = st 0 ∧ k (st' ops.length) = some r
  | [], j, σ, st, R, W, bef, hjl, hd, tr, hst, hr => by
    have hj : ops.length ≤ j := by
      have := congrArg List.length hd
      simp only [List.length_drop, List.length_nil] at this
      omega
    have e : j = ops.length := by omega
    subst e
    exact ⟨st, R, W, bef, tr, rfl, by rw [hst]; exact hr⟩
  | o :: l, j, σ, st, R, W, bef, _, hd, tr, hst, hr => by
    have hj : j < ops.length := by
      have := congrArg List.length hd
      simp only [List.length_drop, List.length_cons] at this
      omega
    have hoj : ops[j]? = some o := by
      have := congrArg (fun l => l[0]?) hd
      simpa [List.getElem?_drop] using this
    simp only [drawC] at hr
    obtain ⟨σ', Rn, Wn, h1, h2, h3⟩ := runF_frames _ hr
    simp only [List.append_nil] at h1
    split at h1
    case isFalse => cases h1
    rename_i hok
    simp only [Bool.and_eq_true] at hok
    have hedges := edgesOk_mem _ hok.1
    have hbefs : ∀ i, i ∈ ancOf ((List.range j).map bef) o.after.toList → ∃ e, e ∈ o.after.toList ∧ Region.binds .any e = true ∧ e.on < j ∧ (e.on = i ∨ i ∈ bef e.on) := by
      intro i hi
      obtain ⟨e, he, hb, hor⟩ := ancOf_mem _ hi
      have hlt := hedges e he hb
      refine ⟨e, he, hb, hlt, hor.imp id fun hm => ?_⟩
      simpa [List.getD_eq_getElem?_getD, List.getElem?_map, List.getElem?_range hlt] using hm
    have hap := apartAll_get _ 0 hok.2
    rw [← map_upd bef j, ← map_upd (fun i => (R i, W i)) j] at h1
    have e2 : (List.range (j + 1)).map (upd (fun i => (R i, W i)) j (Rn, Wn)) = (List.range (j + 1)).map fun i => (upd R j Rn i, upd W j Wn i) := by
      refine List.map_congr_left fun i _ => ?_
      by_cases hi : i = j
      · subst hi; rw [upd_same, upd_same, upd_same]
      · rw [upd_other _ _ _ hi, upd_other _ _ _ hi, upd_other _ _ _ hi]
    rw [e2] at h1
    have tr' : Trace E ops (j + 1) (upd st (j + 1) σ') (upd R j Rn) (upd W j Wn) (upd bef j (ancOf ((List.range j).map bef) o.after.toList)) := by
      have st0 : upd st (j + 1) σ' 0 = st 0 := upd_other _ _ _ (by omega)
      refine ⟨fun i hi => ?_, fun i o' hi ho' => ?_, fun i i' hlt hi' => ?_, fun i o' hi ho' a ha => ?_, fun i o' hi ho' e he hb => ?_⟩
      · rw [st0]
        by_cases e : i = j + 1
        · rw [e, upd_same, h2, ← hst]; exact tr.len j (Nat.le_refl _)
        · rw [upd_other _ _ _ e]; exact tr.len i (by omega)
      · by_cases e : i = j
        · subst e
          rw [ho'] at hoj
          injection hoj with hoj
          subst hoj
          rw [upd_same, upd_same, upd_same, upd_other _ _ _ (by omega), hst]; exact h3
        · rw [upd_other _ _ _ e, upd_other _ _ _ e, upd_other _ _ _ (by omega), upd_other _ _ _ (by omega)]
          exact tr.frames i o' (by omega) ho'
      · by_cases e : i' = j
        · subst e
          rw [upd_same, upd_same, upd_same, upd_other _ _ _ (by omega), upd_other _ _ _ (by omega)]
          have := hap i (by simpa using hlt)
          simpa using this
        · rw [upd_other _ _ _ e, upd_other _ _ _ e, upd_other _ _ _ e, upd_other _ _ _ (by omega), upd_other _ _ _ (by omega)]
          exact tr.apart i i' hlt (by omega)
      · by_cases e : i = j
        · subst e
          rw [ho'] at hoj
          injection hoj with hoj
          subst hoj
          rw [upd_same] at ha
          obtain ⟨e, q1, q2, q3, q4⟩ := hbefs a ha
          exact ⟨e, q1, q2, q3, by rw [upd_other _ _ _ (by omega)]; exact q4⟩
        · rw [upd_other _ _ _ e] at ha
          obtain ⟨e', q1, q2, q3, q4⟩ := tr.befs i o' (by omega) ho' a ha
          exact ⟨e', q1, q2, q3, by rw [upd_other _ _ _ (by omega)]; exact q4⟩
      · by_cases e' : i = j
        · subst e'
          rw [ho'] at hoj
          injection hoj with hoj
          subst hoj
          exact hedges e he hb
        · exact tr.edges i o' (by omega) ho' e he hb
    obtain ⟨st', R', W', bef', q1, q2, q3⟩ := drawC_trace l (by omega) (by rw [← List.drop_drop, hd]; rfl) tr' (upd_same _ _ _) h1
    exact ⟨st', R', W', bef', q1, q2.trans (upd_other _ _ _ (by omega)), q3⟩
def valOf (st : Nat → St) (W : Nat → List Nat) (S : Nat → Bool) : Nat → Nat → Slot
  | 0, s => listGet (st 0) s
  | m + 1, s => if S m && memNat (W m) s then listGet (st (m + 1)) s else valOf st W S m s
theorem valOf_congr {st : Nat → St} {W : Nat → List Nat} {S S' : Nat → Bool} {s : Nat} : (m : Nat) → (∀ i, i < m → s ∈ W i → S i = S' i) → valOf st W S m s = valOf st W S' m s
  | 0, _ => rfl
  | m + 1, h => by
    simp only [valOf]
    rw [valOf_congr m fun i hi => h i (by omega)]
    by_cases hw : memNat (W m) s = true
    · rw [h m (by omega) ((memNat_iff _ _).1 hw)]
    · rw [Bool.not_eq_true] at hw
      rw [hw, Bool.and_false, Bool.and_false]
theorem valOf_cut {st : Nat → St} {W : Nat → List Nat} {S : Nat → Bool} {s m : Nat} : (n : Nat) → m ≤ n → (∀ i, m ≤ i → i < n → S i = true → s ∉ W i) → valOf st W S n s = valOf st W S m s
  | 0, hm, _ => by rw [Nat.le_zero.1 hm]
  | n + 1, hm, h => by
    rcases Nat.lt_or_ge n m with hl | hl
    · rw [show m = n + 1 by omega]
    · simp only [valOf]
      rw [if_neg, valOf_cut n hl fun i h1 h2 => h i h1 (by omega)]
      intro e
      rw [Bool.and_eq_true, memNat_iff] at e
      exact h n hl (by omega) e.1 e.2
section
variable {E : Env} {ops : List Oper} {n : Nat} {st : Nat → St} {R W bef : Nat → List Nat}
theorem Trace.same (tr : Trace E ops n st R W bef) (hn : ops.length = n) {i : Nat} (hi : i < n) {s : Nat} (hs : s ∉ W i) : listGet (st (i + 1)) s = listGet (st i) s := by
  obtain ⟨_, _, _, h⟩ := tr.frames i ops[i] hi (List.getElem?_eq_getElem _) (st i) rfl fun _ _ => rfl
  exact ((h s).2 hs).2
theorem Trace.all (tr : Trace E ops n st R W bef) (hn : ops.length = n) (s : Nat) : (m : Nat) → m ≤ n → valOf st W (fun _ => true) m s = listGet (st m) s
  | 0, _ => rfl
  | m + 1, hm => by
    simp only [valOf]
    by_cases hw : memNat (W m) s = true
    · rw [hw]; rfl
    · rw [Bool.not_eq_true] at hw
      rw [hw]
      simp only [Bool.and_false, Bool.false_eq_true, if_false]
      rw [tr.all hn s m (by omega), tr.same hn (by omega) (fun h => by rw [(memNat_iff _ _).2 h] at hw; cases hw)]
theorem Trace.down (tr : Trace E ops n st R W bef) (hn : ops.length = n) {S : Nat → Bool}
    (hS : ∀ j o, S j = true → ops[j]? = some o → ∀ e, e ∈ o.after.toList → Region.binds .any e = true → S e.on = true) :
    ∀ (j : Nat) (o : Oper), j < n → ops[j]? = some o → (∀ e, e ∈ o.after.toList → Region.binds .any e = true → S e.on = true) → ∀ i, i ∈ bef j → S i = true := by
  intro j
  induction j using Nat.strongRecOn with
  | _ j ih =>
    intro o hj ho he i hi
    obtain ⟨e, h1, h2, h3, h4⟩ := tr.befs j o hj ho i hi
    have hSe := he e h1 h2
    rcases h4 with h4 | h4
    · rw [← h4]; exact hSe
    · have hl : e.on < ops.length := by omega
      exact ih e.on h3 ops[e.on] (by omega) (List.getElem?_eq_getElem hl) (hS e.on _ hSe (List.getElem?_eq_getElem hl)) i h4
end
theorem St.ext {σ σ' : St} (hl : σ.length = σ'.length) (h : ∀ s, listGet σ s = listGet σ' s) : σ = σ' := by
  induction σ generalizing σ' with
  | nil => cases σ' with
    | nil => rfl
    | cons => simp at hl
  | cons a l ih => cases σ' with
    | nil => simp at hl
    | cons b l' =>
      have h0 : a = b := h 0
      rw [h0, ih (by simpa using hl) fun s => h (s + 1)]
section
variable {C : Ctx} {E : Env} {ds : List Deferred} {Q : Exit → Act → World → Prop} {ops : Array Oper} {n : Nat} {st : Nat → St} {R W bef : Nat → List Nat}
theorem draw_sound (hE : TabOK C.P E.tab) (hfn : EnvOK C E) (tr : Trace E ops.toList n st R W bef) (hn : ops.size = n)
    (hQ : ∀ g' tm' w', SRep C g' (st n) tm' w' → Q .normal ⟨tm', ds⟩ w') :
    ∀ (fuel : Nat) (U : List Nat) (listed : Array Bool) (g : Own) (σ : St) (tm : Array Value) (w : World), U.Nodup → U.length = fuel → (∀ i, i ∈ U ↔ i < n ∧ listed.getD i false = false) → listed.size = n →
      (∀ j o, listed.getD j false = true → ops.toList[j]? = some o → ∀ e, e ∈ o.after.toList → Region.binds .any e = true → listed.getD e.on false = true) →
      σ.length = (st 0).length → (∀ s, listGet σ s = valOf st W (fun i => listed.getD i false) n s) → SRep C g σ tm w → wpAny C.P .any ops Q fuel listed ⟨tm, ds⟩ w := by
  have hn' : ops.toList.length = n := by simpa using hn
  have fin : ∀ (listed : Array Bool) (g : Own) (σ : St) (tm : Array Value) (w : World), listed.size = n →
      σ.length = (st 0).length → (∀ s, listGet σ s = valOf st W (fun i => listed.getD i false) n s) → SRep C g σ tm w → (∀ i, i < n → listed.getD i false = true) → Q .normal ⟨tm, ds⟩ w := by
    intro listed g σ tm w _ hl hv h hall
    have : σ = st n := St.ext (by rw [hl, tr.len n (Nat.le_refl _)]) fun s => by
      rw [hv s, valOf_congr (S' := fun _ => true) n (fun i hi _ => hall i hi), tr.all hn' s n (Nat.le_refl _)]
    subst this
    exact hQ _ _ _ h
  have notReady : ∀ (listed : Array Bool), listed.size = n → Region.ready .any ops listed = [] → ∀ i, i < n → listed.getD i false = true := by
    intro listed hsz hr i
    induction i using Nat.strongRecOn with
    | _ i ih =>
      intro hi
      have hio : ops.toList[i]? = some ops.toList[i] := List.getElem?_eq_getElem (by omega)
      have hnot : i ∉ Region.ready .any ops listed := by rw [hr]; simp
      rw [mem_ready] at hnot
      cases hli : listed.getD i false with
      | true => rfl
      | false =>
        exfalso
        refine hnot ⟨?_, ops.toList[i], by simp, fun e he hb => ?_⟩
        · simp only [Array.getD_eq_getD_getElem?] at hli ⊢
          rw [Array.getElem?_eq_getElem (by omega)] at hli ⊢
          exact hli
        · have := tr.edges i _ hi hio e (by simpa using he) hb
          exact ih e.on this (by omega)
  intro fuel
  induction fuel with
  | zero =>
    intro U listed g σ tm w hnd hU hUi hsz hdown hl hv h
    have hall : ∀ i, i < n → listed.getD i false = true := fun i hi => by
      cases hli : listed.getD i false with
      | true => rfl
      | false =>
        have := (hUi i).2 ⟨hi, hli⟩
        rw [List.eq_nil_of_length_eq_zero hU] at this
        cases this
    refine ⟨?_, fin listed g σ tm w hsz hl hv h hall⟩
    rw [List.eq_nil_iff_forall_not_mem]
    intro i hi
    rw [mem_ready] at hi
    obtain ⟨h1, o, ho, _⟩ := hi
    have hlt : i < n := by have := (Array.getElem?_eq_some_iff.1 ho).1; omega
    have := hall i hlt
    simp only [Array.getD_eq_getD_getElem?] at this h1
    rw [Array.getElem?_eq_getElem (by omega)] at this h1
    rw [Option.getD_some] at this h1
    rw [this] at h1; cases h1
  | succ fuel ih =>
    intro U listed g σ tm w hnd hU hUi hsz hdown hl hv h
    refine ⟨fun hr => fin listed g σ tm w hsz hl hv h (notReady listed hsz hr), fun j hj => ?_⟩
    rw [mem_ready] at hj
    obtain ⟨hj0, o, ho, hbind⟩ := hj
    have hjn : j < n := by have := (Array.getElem?_eq_some_iff.1 ho).1; omega
    have hoL : ops.toList[j]? = some o := by simpa using ho
    have hj1 : listed.getD j false = false := by
      simp only [Array.getD_eq_getD_getElem?] at hj0 ⊢
      rw [Array.getElem?_eq_getElem (by omega)] at hj0 ⊢
      exact hj0
    have hbef : ∀ i, i ∈ bef j → listed.getD i false = true := tr.down hn' (S := fun i => listed.getD i false) hdown j o hjn hoL fun e he hb => hbind e (by simpa using he) hb
    have hlater : ∀ i, j < i → i < n → listed.getD i false = true → (∀ a, a ∈ W i → a ∉ R j) ∧ (∀ a, a ∈ W i → a ∉ W j) ∧ (∀ a, a ∈ W j → a ∉ R i) := by
      intro i hji hi hli
      rcases tr.apart j i hji hi with hb | hb
      · exfalso
        have hio : ops.toList[i]? = some ops.toList[i] := List.getElem?_eq_getElem (by omega)
        have := tr.down hn' (S := fun i => listed.getD i false) hdown i _ hi hio (fun e he hb => hdown i _ hli hio e he hb) j hb
        rw [hj1] at this; cases this
      · exact hb
    have hearlier : ∀ i, i < j → listed.getD i false = false → (∀ a, a ∈ W j → a ∉ R i) ∧ (∀ a, a ∈ W j → a ∉ W i) ∧ (∀ a, a ∈ W i → a ∉ R j) := by
      intro i hij hli
      rcases tr.apart i j hij hjn with hb | hb
      · have := hbef i hb; rw [hli] at this; cases this
      · exact hb
    have hread : ∀ s, s ∈ R j → listGet σ s = listGet (st j) s := by
      intro s hs
      rw [hv s, valOf_cut (m := j) n (by omega) fun i h1 h2 h3 hw => ?_, ← tr.all hn' s j (by omega)]
      · refine valOf_congr j fun i hi hw => ?_
        cases hli : listed.getD i false with
        | true => rfl
        | false => exact absurd hs ((hearlier i hi hli).2.2 s hw)
      · rcases Nat.eq_or_lt_of_le h1 with e | e
        · subst e
          rw [hj1] at h3; cases h3
        · exact (hlater i e h2 h3).1 s hw hs
    obtain ⟨σ2, q1, q2, q3⟩ := tr.frames j o hjn hoL σ (by rw [hl, tr.len j (by omega)]) hread
    have hset : ∀ i, (listed.setIfInBounds j true).getD i false = (decide (i = j) || listed.getD i false) := by
      intro i
      by_cases e : i = j
      · subst e
        simp [show i < listed.size by omega]
      · rw [getD_set_ne false (Ne.symm e)]; simp [e]
    have hlt' : (listed.setIfInBounds j true).size = n := by simpa using hsz
    have hUj : j ∈ U := (hUi j).2 ⟨hjn, hj1⟩
    have := guard_sound (ops := ops) (Q := Q) (next := wpAny C.P .any ops Q fuel (listed.setIfInBounds j true)) hE hfn h q1 (fun g' σ' a' w' h' hd' hk' => by
      injection hk' with hk'
      subst hk'
      obtain ⟨tm', ds'⟩ := a'
      simp only at hd'
      subst hd'
      refine ih (U.erase j) _ g' σ' tm' w' (hnd.erase j) (by rw [List.length_erase_of_mem hUj, hU]; rfl) (fun i => ?_) hlt' (fun i o' hi ho' e he hb => ?_) (by rw [q2, hl]) (fun s => ?_) h'
      · rw [hnd.mem_erase_iff, hUi, hset]
        by_cases e : i = j <;> simp [e]
      · rw [hset] at hi ⊢
        by_cases e' : i = j
        · subst e'
          rw [ho'] at hoL
          injection hoL with hoL
          subst hoL
          rw [hbind e (by simpa using he) hb, Bool.or_true]
        · simp only [e', decide_false, Bool.false_or] at hi
          rw [hdown i o' hi ho' e he hb, Bool.or_true]
      · by_cases hw : s ∈ W j
        · rw [((q3 s).1 hw), valOf_cut (m := j + 1) n (by omega) fun i h1 h2 h3 hwi => ?_]
          · simp only [valOf]
            rw [if_pos (by
              show ((listed.setIfInBounds j true).getD j false && memNat (W j) s) = true
              rw [hset, (memNat_iff _ _).2 hw]; simp)]
          · simp only [hset] at h3
            have hne : i ≠ j := by omega
            simp only [hne, decide_false, Bool.false_or] at h3
            exact (hlater i (by omega) h2 h3).2.1 s hwi hw
        · rw [((q3 s).2 hw).1, hv s]
          refine valOf_congr n fun i hi hwi => ?_
          have hne : i ≠ j := fun e => hw (e ▸ hwi)
          rw [hset]; simp [hne])
    unfold wpOp
    simp only [ho]
    split
    · rename_i hw; rw [if_pos hw] at this; exact .inl this
    · rename_i hw; rw [if_neg hw] at this; exact this
theorem drawn_sound {ρ : Type} {K : St → Option ρ} {r : ρ} {id : Nat} {g : Own} {σ : St} {tm : Array Value} {w : World} (hm : C.P.follows .mixedOrders = true) (hE : TabOK C.P E.tab) (hfn : EnvOK C E)
    (h : SRep C g σ tm w) (hr : drawC E ops.toList ops.toList 0 [] [] σ K = some r) (hQ : ∀ g' σ' tm' w', SRep C g' σ' tm' w' → K σ' = some r → Q .normal ⟨tm', ds⟩ w') :
    (Code.region id ops true).wp C.P Q ⟨tm, ds⟩ w := by
  obtain ⟨st, R, W, bef, tr, h0, hK⟩ := drawC_trace (st := fun _ => σ) (R := fun _ => []) (W := fun _ => []) (bef := fun _ => []) ops.toList (Nat.zero_le _) rfl
    ⟨fun _ _ => rfl, fun _ _ h => absurd h (Nat.not_lt_zero _), fun _ _ _ h => absurd h (Nat.not_lt_zero _), fun _ _ h => absurd h (Nat.not_lt_zero _), fun _ _ h => absurd h (Nat.not_lt_zero _)⟩ rfl hr
  refine wp_region_any hm (draw_sound (n := ops.size) hE hfn (by simpa using tr) rfl (fun g' tm' w' h' => hQ g' _ tm' w' h' (by simpa using hK)) ops.size (List.range ops.size) _ g σ tm _ List.nodup_range (by simp) (fun i => ?_) (by simp) (fun j o hj => ?_) (by rw [h0]) (fun s => ?_) (h.grow (Grow.heap h rfl ⟨rfl, rfl, rfl, Nat.le_succ _⟩)))
  · rw [List.mem_range]
    constructor
    · intro hi; exact ⟨hi, by simp [hi]⟩
    · exact fun h => h.1
  · exfalso
    simp only [Array.getD_eq_getD_getElem?] at hj
    rcases Nat.lt_or_ge j ops.size with hl | hl
    · simp [hl] at hj
    · simp [Nat.not_lt.2 hl] at hj
  · rw [valOf_cut (m := 0) _ (Nat.zero_le _) fun i _ hi hl => ?_]
    · simp only [valOf, h0]
    · exfalso
      simp [hi] at hl
end
end Go.GD
