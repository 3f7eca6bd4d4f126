import Derived.Test.YtbapfiaglcllnaaEXT31
section
open Go Go.GD Go.Proofs
namespace Go.Proofs.Ytbapfiaglcllnaa.D.Ul
open Up
abbrev Rds := List Rd
abbrev Inb := Int × Int × Rds × Rds
theorem limOk {a b k : Nat} (hb : 0 < k) (h : (a + b) * k ≤ 1000000000) : (Nat.ble ((a + b) * k) appendLimit && Nat.ble (a + b) 9223372036854775807) = true :=
  grows (Nat.le_trans h (by decide)) hb
theorem clone29 (s : Rds) (h : s.length ≤ 100000) : D29 s = some s := by
  rw [e29, limOk (by decide) (by simp; omega)]; rfl
def insF (r : Rd) : Rds → Rds
  | [] => [r]
  | x :: xs => bif decide (x.2.1 > r.2.1) then r :: x :: xs else x :: insF r xs
theorem insF_none (r : Rd) : ∀ l : Rds, l.any (fun x => decide (x.2.1 > r.2.1)) = false → insF r l = l ++ [r]
  | [], _ => rfl
  | x :: l, h => by
    simp only [List.any_cons, Bool.or_eq_false_iff] at h
    rw [insF, h.1, cond_false, insF_none r l h.2]; rfl
theorem insF_at (r : Rd) : ∀ (l : Rds) (i : Nat) (hi : i < l.length), decide (l[i].2.1 > r.2.1) = true → (∀ j (h : j < l.length), j < i → decide (l[j].2.1 > r.2.1) = false) → insF r l = l.take i ++ [r] ++ l.drop i
  | x :: l, 0, _, h1, _ => by
    have h1 : decide (x.2.1 > r.2.1) = true := h1
    rw [insF, h1]; rfl
  | x :: l, i + 1, hi, h1, h2 => by
    have h0 : decide (x.2.1 > r.2.1) = false := h2 0 (by simp) (by omega)
    rw [insF, h0, cond_false, insF_at r l i (by simpa using hi) (by simpa using h1) (fun j hj hlt => by have := h2 (j + 1) (by simpa using hj) (by omega); simpa using this)]
    rfl
theorem insF_length (r : Rd) : ∀ l : Rds, (insF r l).length = l.length + 1
  | [] => rfl
  | x :: l => by
    rw [insF]
    cases decide (x.2.1 > r.2.1) with
    | true => rfl
    | false => rw [cond_false, List.length_cons, insF_length r l, List.length_cons]
theorem ins36 (l : Rds) (i : Nat) (hi : i ≤ l.length) (r : Rd) (h : l.length ≤ 100000) : D36 l (i : Int) [r] = some (l.take i ++ [r] ++ l.drop i) := by
  show insD (l, (i : Int), [r]) = _
  have : (decide (0 ≤ (i : Int)) && (decide ((i : Int) ≤ (l.length : Int)) && (Nat.beq ([r] : Rds).length 1 && Nat.ble ((l.length + 1) * 56) appendLimit))) = true := by
    rw [decide_eq_true (show (0 : Int) ≤ i by omega), decide_eq_true (show (i : Int) ≤ (l.length : Int) by omega), Nat.ble_eq_true_of_le (show (l.length + 1) * 56 ≤ appendLimit by unfold appendLimit; omega)]
    rfl
  rw [insD]
  simp only [this, cond_true, Int.toNat_natCast]
def place (l : Rds) (n : Int) : Int := findI (fun (r : Rd) => r.2.1 == n) 0 l
theorem place_cases (l : Rds) (n : Int) : (place l n = -1 ∧ l.any (fun r => r.2.1 == n) = false) ∨ ∃ i : Nat, ∃ h : i < l.length, place l n = (i : Int) ∧ (l[i].2.1 == n) = true := by
  cases ha : l.any (fun r => r.2.1 == n) with
  | false => exact .inl ⟨findI_neg _ _ _ ha, rfl⟩
  | true =>
    obtain ⟨i, h, h1, h2, _⟩ := findI_pos _ _ 0 ha
    exact .inr ⟨i, h, by rw [Nat.zero_add] at h1; exact h1, h2⟩
def drain (i : Inb) : Inb :=
  match h : (place i.2.2.2 i.2.1 : Int) with
  | Int.ofNat k => if hk : k < i.2.2.2.length then drain (i.1, i.2.1 + 1, i.2.2.1 ++ [i.2.2.2[k]], i.2.2.2.take k ++ i.2.2.2.drop (k + 1)) else i
  | Int.negSucc _ => i
termination_by i.2.2.2.length
decreasing_by
  show (i.2.2.2.take k ++ i.2.2.2.drop (k + 1)).length < i.2.2.2.length
  rw [List.length_append, List.length_take, List.length_drop]; omega
theorem drain_stop {i : Inb} (h : place i.2.2.2 i.2.1 = -1) : drain i = i := by
  rw [drain]
  split
  · rename_i k hk; rw [h] at hk; cases hk
  · rfl
theorem drain_go {i : Inb} {k : Nat} (h : place i.2.2.2 i.2.1 = (k : Int)) (hk : k < i.2.2.2.length) : drain i = drain (i.1, i.2.1 + 1, i.2.2.1 ++ [i.2.2.2[k]], i.2.2.2.take k ++ i.2.2.2.drop (k + 1)) := by
  rw [drain]
  split
  · rename_i k' hk'
    rw [h] at hk'
    have : k = k' := by injection hk'
    subst this
    rw [dif_pos hk]
  · rename_i n hn; rw [h] at hn; cases hn
def Small (i : Inb) : Prop := i.2.2.1.length + i.2.2.2.length ≤ 50000 ∧ -1000000 ≤ i.2.1 ∧ i.2.1 + i.2.2.2.length ≤ 2000000
theorem del32 (l : Rds) (k : Nat) (hk : k < l.length) : D32 l (k : Int) ((k : Int) + 1) = some (l.take k ++ l.drop (k + 1)) := by
  show delD rideTy (l, (k : Int), (k : Int) + 1) = _
  rw [delD, if_pos ⟨by show (0 : Int) ≤ (k : Int); omega, by show (k : Int) ≤ (k : Int) + 1; omega, by show (k : Int) + 1 ≤ (l.length : Int); omega⟩]
  show some (l.take (k : Int).toNat ++ l.drop ((k : Int) + 1).toNat) = _
  rw [Int.toNat_natCast, show ((k : Int) + 1).toNat = k + 1 by omega]
theorem drain11 (i v : Inb) (h : Small i) : lp11_1 big i v = some (drain i, (drain i).2.1 - 1) := by
  unfold lp11_1
  refine iter_eq (fun s : Inb × Inb => Small s.1) (fun s => s.1.2.2.2.length) (fun s => (drain s.1, (drain s.1).2.1 - 1)) (fun F s hI hF => ?_) big (i, v) h (by show i.2.2.2.length < 18446744073709551616; have := h.1; omega)
  obtain ⟨i, v⟩ := s
  obtain ⟨h1, h2, h3⟩ := hI
  simp only at h1 h2 h3
  have hix : D30 i.2.2.2 (fun y => D31 y i) = some (place i.2.2.2 i.2.1) := index30 _ _ (fun r => r.2.1 == i.2.1) (fun x _ => e31 x i) (by rw [maxLen_val]; omega)
  simp only [hix, bindS]
  rcases place_cases i.2.2.2 i.2.1 with ⟨hp, _⟩ | ⟨k, hk, hp, _⟩
  · rw [drain_stop hp, hp, show decide ((-1 : Int) < 0) = true from rfl, condT, wrap_i64 (by omega) (by omega)]
  · rw [drain_go hp hk, hp, decide_eq_false (by omega), condF, idx_get hk, bindS, limOk (by decide) (by simp only [List.length_singleton]; omega), condT, wrap_i64 (n := (k : Int) + 1) (by omega) (by omega), del32 _ _ hk, bindS, wrap_i64 (n := i.2.1 + 1) (by omega) (by omega)]
    have hlen : (i.2.2.2.take k ++ i.2.2.2.drop (k + 1)).length + 1 = i.2.2.2.length := by rw [List.length_append, List.length_take, List.length_drop]; omega
    refine hF _ ⟨?_, ?_, ?_⟩ ?_
    · show (i.2.2.1 ++ [i.2.2.2[k]]).length + (i.2.2.2.take k ++ i.2.2.2.drop (k + 1)).length ≤ _
      rw [List.length_append, List.length_singleton]; omega
    · show -1000000 ≤ i.2.1 + 1; omega
    · show i.2.1 + 1 + ((i.2.2.2.take k ++ i.2.2.2.drop (k + 1)).length : Int) ≤ _
      omega
    · show (i.2.2.2.take k ++ i.2.2.2.drop (k + 1)).length < i.2.2.2.length; omega
def recv (i : Inb) (r : Rd) : Inb :=
  if r.1 ≠ i.1 ∨ r.2.1 < i.2.1 then i
  else if r.2.1 = i.2.1 then drain (i.1, i.2.1 + 1, i.2.2.1 ++ [r], i.2.2.2)
  else if i.2.2.2.any (fun x => x.2.1 == r.2.1) = true then i else (i.1, i.2.1, i.2.2.1, insF r i.2.2.2)
def SmallR (i : Inb) : Prop := i.2.2.1.length + i.2.2.2.length ≤ 40000 ∧ -1000000 ≤ i.2.1 ∧ i.2.1 + i.2.2.2.length ≤ 1900000
theorem recv11 (i : Inb) (r : Rd) (h : SmallR i) : D11 i r = some (recv i r, (recv i r).2.1 - 1) := by
  obtain ⟨h1, h2, h3⟩ := h
  rw [e11, clone29 _ (by omega), clone29 _ (by omega), bindS, bindS, recv]
  have hw : IntKind.i64.wrap (i.2.1 - 1) = i.2.1 - 1 := wrap_i64 (by omega) (by omega)
  rw [hw]
  by_cases c1 : r.1 = i.1
  · rw [show (r.1 != i.1) = false by simpa using c1, condF]
    by_cases c2 : r.2.1 < i.2.1
    · rw [decide_eq_true c2, if_pos (.inr c2), condT]
    · rw [decide_eq_false c2, condF, if_neg (fun e => e.elim (fun e => e c1) c2)]
      by_cases c3 : r.2.1 = i.2.1
      · rw [if_pos c3, show (r.2.1 == i.2.1) = true by simpa using c3, condT, limOk (by decide) (by simp only [List.length_singleton]; omega), condT, wrap_i64 (by omega) (by omega)]
        exact drain11 _ _ ⟨by show (i.2.2.1 ++ [r]).length + i.2.2.2.length ≤ _; rw [List.length_append, List.length_singleton]; omega, by show -1000000 ≤ i.2.1 + 1; omega, by show i.2.1 + 1 + (i.2.2.2.length : Int) ≤ _; omega⟩
      · have hc : D33 i.2.2.2 (fun y => D34 y r) = some (i.2.2.2.any (fun x => x.2.1 == r.2.1)) := by
          rw [e33, index30 _ _ (fun x => x.2.1 == r.2.1) (fun x _ => e34 x r) (by rw [maxLen_val]; omega), bindS, findI_ge]
        rw [if_neg c3, show (r.2.1 == i.2.1) = false by simpa using c3, condF, hc, bindS]
        cases ha : i.2.2.2.any (fun x => x.2.1 == r.2.1) with
        | true => rw [if_pos rfl]; rfl
        | false =>
          rw [if_neg (by decide), Bool.not_false, condT, index30 _ _ (fun x => decide (x.2.1 > r.2.1)) (fun x _ => e35 x r) (by rw [maxLen_val]; omega), bindS]
          cases hg : i.2.2.2.any (fun x => decide (x.2.1 > r.2.1)) with
          | false =>
            rw [findI_neg _ _ _ hg, show decide ((-1 : Int) < 0) = true from rfl, condT, ins36 _ _ (Nat.le_refl _) _ (by omega), bindS, insF_none r _ hg, List.take_length, List.drop_length, List.append_nil]
          | true =>
            obtain ⟨k, hk, k1, k2, k3⟩ := findI_pos _ _ 0 hg
            rw [k1, Nat.zero_add, decide_eq_false (by omega), condF, ins36 _ _ (by omega) _ (by omega), bindS, insF_at r _ k hk k2 (fun j hj hlt => k3 j hj hlt)]
  · rw [show (r.1 != i.1) = true by simpa using c1, if_pos (.inl c1), condT]
def rdEq (a b : Rd) : Bool := ((a.1 == b.1) && ((a.2.1 == b.2.1) && ((a.2.2.1 == b.2.2.1) && ((a.2.2.2.1 == b.2.2.2.1) && ((a.2.2.2.2.1 == b.2.2.2.2.1) && ((a.2.2.2.2.2.1 == b.2.2.2.2.2.1) && (a.2.2.2.2.2.2 == b.2.2.2.2.2.2)))))))
theorem rdEq_iff {a b : Rd} : rdEq a b = true ↔ a = b := by
  obtain ⟨a1, a2, a3, a4, a5, a6, a7⟩ := a
  obtain ⟨b1, b2, b3, b4, b5, b6, b7⟩ := b
  simp [rdEq]
def consec (l : Rds) (gate first : Int) : Prop := ∀ k (h : k < l.length), l[k].1 = gate ∧ l[k].2.1 = first + k
def asc (l : Rds) : Prop := l.Pairwise fun x y => x.2.1 < y.2.1
def inb (gate : Int) (p : Rds) (G : Nat) (early : Rds) : Inb := (gate, (G : Int) + 1, p.take G, early)
def later (p : Rds) (G : Nat) (early : Rds) : Prop := ∀ e ∈ early, ∃ k, p[k]? = some e ∧ G < k
theorem seq_at {p : Rds} {gate : Int} (hc : consec p gate 1) {k : Nat} {e : Rd} (h : p[k]? = some e) : k < p.length ∧ e.1 = gate ∧ e.2.1 = 1 + (k : Int) := by
  obtain ⟨hk, he⟩ := List.getElem?_eq_some_iff.1 h
  have := hc k hk
  rw [he] at this
  exact ⟨hk, this⟩
theorem take_snoc {p : Rds} {G : Nat} (h : G < p.length) : p.take G ++ [p[G]] = p.take (G + 1) := by
  rw [List.take_append_getElem h]
theorem split_at {l : Rds} {i : Nat} (h : i < l.length) : l = l.take i ++ l[i] :: l.drop (i + 1) := by
  rw [← List.drop_eq_getElem_cons h, List.take_append_drop]
theorem drain_ok (gate : Int) (p : Rds) (hc : consec p gate 1) : ∀ (m : Nat) (early : Rds) (G : Nat), early.length ≤ m → G ≤ p.length → (∀ e ∈ early, ∃ k, p[k]? = some e ∧ G ≤ k) → asc early →
    ∃ G' early', drain (inb gate p G early) = inb gate p G' early' ∧ G ≤ G' ∧ G' ≤ p.length ∧ later p G' early' ∧ asc early' ∧ early'.length ≤ early.length := by
  intro m
  induction m with
  | zero =>
    intro early G hm hG hE hA
    have : early = [] := List.eq_nil_of_length_eq_zero (by omega)
    subst this
    exact ⟨G, [], drain_stop rfl, Nat.le_refl _, hG, (fun e he => by cases he), hA, Nat.le_refl _⟩
  | succ m ih =>
    intro early G hm hG hE hA
    rcases place_cases early ((G : Int) + 1) with ⟨hp, hn⟩ | ⟨i, hi, hp, hs⟩
    · refine ⟨G, early, drain_stop hp, Nat.le_refl _, hG, fun e he => ?_, hA, Nat.le_refl _⟩
      obtain ⟨k, hk, hle⟩ := hE e he
      refine ⟨k, hk, ?_⟩
      have h1 := (seq_at hc hk).2.2
      rw [List.any_eq_false] at hn
      have h2 := hn e he
      have : ¬ e.2.1 = (G : Int) + 1 := fun h => h2 (by simpa using h)
      omega
    · obtain ⟨k, hk, hle⟩ := hE early[i] (List.getElem_mem hi)
      have h1 := seq_at hc hk
      have h2 : early[i].2.1 = (G : Int) + 1 := by simpa using hs
      have h3 : k = G := by omega
      subst h3
      have hkl := h1.1
      have hk' : early[i] = p[k] := by rw [List.getElem?_eq_getElem hkl] at hk; injection hk with hk; exact hk.symm
      have hsp := split_at hi
      unfold asc at hA
      rw [hsp] at hA
      rw [List.pairwise_append] at hA
      obtain ⟨A1, A2, A3⟩ := hA
      rw [List.pairwise_cons] at A2
      have hA' : asc (early.take i ++ early.drop (i + 1)) := by
        unfold asc
        rw [List.pairwise_append]
        exact ⟨A1, A2.2, fun x hx y hy => A3 x hx y (List.mem_cons_of_mem _ hy)⟩
      have hlen : (early.take i ++ early.drop (i + 1)).length + 1 = early.length := by rw [List.length_append, List.length_take, List.length_drop]; omega
      obtain ⟨G', early', d1, d2, d3, d4, d5, d6⟩ := ih (early.take i ++ early.drop (i + 1)) (k + 1) (by omega) (by omega) (fun e he => by
        have hmem : e ∈ early := by
          rcases List.mem_append.1 he with h | h
          · exact List.mem_of_mem_take h
          · exact List.mem_of_mem_drop h
        obtain ⟨k2, q1, q2⟩ := hE e hmem
        refine ⟨k2, q1, ?_⟩
        have q3 := (seq_at hc q1).2.2
        rcases List.mem_append.1 he with h | h
        · have := A3 e h early[i] (List.mem_cons_self ..); omega
        · have := A2.1 e h; omega) hA'
      refine ⟨G', early', ?_, by omega, d3, d4, d5, by omega⟩
      rw [drain_go hp hi, ← d1]
      show drain (gate, (k : Int) + 1 + 1, p.take k ++ [early[i]], _) = drain (gate, ((k + 1 : Nat) : Int) + 1, p.take (k + 1), _)
      rw [hk', take_snoc hkl]
      rfl
theorem insF_mem (r : Rd) : ∀ (l : Rds) (e : Rd), e ∈ insF r l → e = r ∨ e ∈ l
  | [], e, h => .inl (by simpa [insF] using h)
  | x :: l, e, h => by
    rw [insF] at h
    cases hd : decide (x.2.1 > r.2.1) with
    | true => rw [hd, cond_true] at h; exact List.mem_cons.1 h
    | false =>
      rw [hd, cond_false] at h
      rcases List.mem_cons.1 h with h | h
      · exact .inr (h ▸ List.mem_cons_self ..)
      · exact (insF_mem r l e h).imp_right (List.mem_cons_of_mem _)
theorem insF_asc (r : Rd) : ∀ (l : Rds), asc l → l.any (fun x => x.2.1 == r.2.1) = false → asc (insF r l)
  | [], _, _ => by unfold asc; exact List.pairwise_singleton ..
  | x :: l, h, hn => by
    unfold asc at h
    rw [List.pairwise_cons] at h
    simp only [List.any_cons, Bool.or_eq_false_iff, beq_eq_false_iff_ne, ne_eq] at hn
    rw [insF]
    cases hd : decide (x.2.1 > r.2.1) with
    | true =>
      have hd : x.2.1 > r.2.1 := of_decide_eq_true hd
      unfold asc
      rw [cond_true, List.pairwise_cons, List.pairwise_cons]
      refine ⟨fun e he => ?_, h⟩
      rcases List.mem_cons.1 he with rfl | he
      · exact hd
      · have := h.1 e he; omega
    | false =>
      have hd : ¬ x.2.1 > r.2.1 := of_decide_eq_false hd
      unfold asc
      rw [cond_false, List.pairwise_cons]
      refine ⟨fun e he => ?_, insF_asc r l h.2 hn.2⟩
      rcases insF_mem r l e he with rfl | he
      · have := hn.1; omega
      · exact h.1 e he
end Go.Proofs.Ytbapfiaglcllnaa.D.Ul
end

section
open Go Go.GD Go.Proofs
namespace Go.Proofs.Ytbapfiaglcllnaa.D.Ul
open Up
def Has (p : Rds) (G : Nat) (early : Rds) (j : Nat) : Prop := j < G ∨ ∃ e, e ∈ early ∧ p[j]? = some e
theorem inb_inj {gate : Int} {p : Rds} {G G' : Nat} {early early' : Rds} (h : inb gate p G early = inb gate p G' early') : G = G' ∧ early = early' := by
  have h1 : (G : Int) + 1 = (G' : Int) + 1 := congrArg (fun i : Inb => i.2.1) h
  have h2 : early = early' := congrArg (fun i : Inb => i.2.2.2) h
  exact ⟨by omega, h2⟩
theorem at_inj {p : Rds} {gate : Int} (hc : consec p gate 1) {j k : Nat} {e : Rd} (h : p[j]? = some e) (h' : p[k]? = some e) : j = k := by
  have h1 := (seq_at hc h).2.2
  have h2 := (seq_at hc h').2.2
  omega
theorem insF_mem_iff (r : Rd) : ∀ (l : Rds) (e : Rd), e ∈ insF r l ↔ e = r ∨ e ∈ l
  | [], e => by simp [insF]
  | x :: l, e => by
    rw [insF]
    cases decide (x.2.1 > r.2.1) with
    | true => rw [cond_true, List.mem_cons]
    | false =>
      rw [cond_false, List.mem_cons, insF_mem_iff r l e, List.mem_cons]
      constructor
      · rintro (h | h | h) <;> simp [h]
      · rintro (h | h | h) <;> simp [h]
theorem drain_has (gate : Int) (p : Rds) (hc : consec p gate 1) : ∀ (m : Nat) (early : Rds) (G : Nat), early.length ≤ m → G ≤ p.length → (∀ e ∈ early, ∃ k, p[k]? = some e ∧ G ≤ k) → asc early →
    ∀ G' early', drain (inb gate p G early) = inb gate p G' early' → ∀ j, Has p G' early' j ↔ Has p G early j := by
  intro m
  induction m with
  | zero =>
    intro early G hm hG hE hA G' early' hd j
    have : early = [] := List.eq_nil_of_length_eq_zero (by omega)
    subst this
    rw [drain_stop rfl] at hd
    obtain ⟨rfl, rfl⟩ := inb_inj hd
    exact Iff.rfl
  | succ m ih =>
    intro early G hm hG hE hA G' early' hd j
    rcases place_cases early ((G : Int) + 1) with ⟨hp, hn⟩ | ⟨i, hi, hp, hs⟩
    · rw [drain_stop hp] at hd
      obtain ⟨rfl, rfl⟩ := inb_inj hd
      exact Iff.rfl
    · obtain ⟨k, hk, hle⟩ := hE early[i] (List.getElem_mem hi)
      have h1 := seq_at hc hk
      have h2 : early[i].2.1 = (G : Int) + 1 := by simpa using hs
      have h3 : k = G := by omega
      subst h3
      have hkl := h1.1
      have hk' : early[i] = p[k] := by rw [List.getElem?_eq_getElem hkl] at hk; injection hk with hk; exact hk.symm
      have hlen : (early.take i ++ early.drop (i + 1)).length + 1 = early.length := by rw [List.length_append, List.length_take, List.length_drop]; omega
      have hmem : ∀ e, e ∈ early ↔ e ∈ early.take i ++ early.drop (i + 1) ∨ e = early[i] := fun e => by
        conv => lhs; rw [split_at hi]
        rw [List.mem_append, List.mem_append, List.mem_cons]
        constructor
        · rintro (h | h | h) <;> simp [h]
        · rintro ((h | h) | h) <;> simp [h]
      have hd' : drain (inb gate p (k + 1) (early.take i ++ early.drop (i + 1))) = inb gate p G' early' := by
        rw [← hd]
        refine Eq.trans ?_ (drain_go (i := inb gate p k early) hp hi).symm
        show drain (gate, ((k + 1 : Nat) : Int) + 1, p.take (k + 1), _) = drain (gate, (k : Int) + 1 + 1, p.take k ++ [early[i]], _)
        rw [hk', take_snoc hkl]
        rfl
      have hA0 := hA
      unfold asc at hA
      rw [split_at hi, List.pairwise_append] at hA
      obtain ⟨A1, A2, A3⟩ := hA
      rw [List.pairwise_cons] at A2
      have hA' : asc (early.take i ++ early.drop (i + 1)) := by
        unfold asc
        rw [List.pairwise_append]
        exact ⟨A1, A2.2, fun x hx y hy => A3 x hx y (List.mem_cons_of_mem _ hy)⟩
      have hall : ∀ e ∈ early.take i ++ early.drop (i + 1), ∃ k2, p[k2]? = some e ∧ k + 1 ≤ k2 := fun e he => by
        obtain ⟨k2, q1, q2⟩ := hE e ((hmem e).2 (.inl he))
        refine ⟨k2, q1, ?_⟩
        have q3 := (seq_at hc q1).2.2
        rcases List.mem_append.1 he with h | h
        · have := A3 e h early[i] (List.mem_cons_self ..); omega
        · have := A2.1 e h; omega
      rw [ih _ (k + 1) (by omega) (by omega) hall hA' G' early' hd' j]
      unfold Has
      constructor
      · rintro (h | ⟨e, he, hj⟩)
        · rcases Nat.lt_or_ge j k with h' | h'
          · exact .inl h'
          · have : j = k := by omega
            subst this
            exact .inr ⟨early[i], List.getElem_mem hi, hk⟩
        · exact .inr ⟨e, (hmem e).2 (.inl he), hj⟩
      · rintro (h | ⟨e, he, hj⟩)
        · exact .inl (by omega)
        · rcases (hmem e).1 he with h' | h'
          · exact .inr ⟨e, h', hj⟩
          · subst h'
            exact .inl (by have := at_inj hc hj hk; omega)
theorem recv_has (gate : Int) (p : Rds) (hc : consec p gate 1) (G : Nat) (early : Rds) (hG : G ≤ p.length) (hE : later p G early) (hA : asc early) {k : Nat} {r : Rd} (hr : p[k]? = some r) :
    ∃ G' early', recv (inb gate p G early) r = inb gate p G' early' ∧ G' ≤ p.length ∧ later p G' early' ∧ asc early' ∧ early'.length ≤ early.length + 1 ∧ ∀ j, Has p G' early' j ↔ Has p G early j ∨ j = k := by
  obtain ⟨hk, h1, h2⟩ := seq_at hc hr
  rw [recv]
  show ∃ G' early', (if r.1 ≠ gate ∨ r.2.1 < (G : Int) + 1 then inb gate p G early else if r.2.1 = (G : Int) + 1 then drain (gate, (G : Int) + 1 + 1, p.take G ++ [r], early) else if early.any (fun x => x.2.1 == r.2.1) = true then inb gate p G early else (gate, (G : Int) + 1, p.take G, insF r early)) = _ ∧ _
  by_cases c1 : r.2.1 < (G : Int) + 1
  · rw [if_pos (.inr c1)]
    refine ⟨G, early, rfl, hG, hE, hA, by omega, fun j => ⟨.inl, fun h => h.elim id fun e => ?_⟩⟩
    subst e
    exact .inl (by omega)
  · rw [if_neg (fun e => e.elim (fun e => e h1) c1)]
    by_cases c2 : r.2.1 = (G : Int) + 1
    · rw [if_pos c2]
      have hkG : k = G := by omega
      subst hkG
      have hr' : r = p[k] := by rw [List.getElem?_eq_getElem hk] at hr; injection hr with hr; exact hr.symm
      have hE' : ∀ e ∈ early, ∃ k2, p[k2]? = some e ∧ k + 1 ≤ k2 := fun e he => by obtain ⟨k2, q1, q2⟩ := hE e he; exact ⟨k2, q1, q2⟩
      obtain ⟨G', early', d1, d2, d3, d4, d5, d6⟩ := drain_ok gate p hc early.length early (k + 1) (Nat.le_refl _) (by omega) hE' hA
      have hd := drain_has gate p hc early.length early (k + 1) (Nat.le_refl _) (by omega) hE' hA G' early' d1
      refine ⟨G', early', ?_, d3, d4, d5, by omega, fun j => (hd j).trans ?_⟩
      · rw [← d1, hr', take_snoc hk]
        rfl
      · unfold Has
        constructor
        · rintro (h | h)
          · rcases Nat.lt_or_ge j k with h' | h'
            · exact .inl (.inl h')
            · exact .inr (by omega)
          · exact .inl (.inr h)
        · rintro ((h | h) | h)
          · exact .inl (by omega)
          · exact .inr h
          · exact .inl (by omega)
    · rw [if_neg c2]
      cases ha : early.any (fun x => x.2.1 == r.2.1) with
      | true =>
        rw [if_pos rfl]
        refine ⟨G, early, rfl, hG, hE, hA, by omega, fun j => ⟨.inl, fun h => h.elim id fun e => ?_⟩⟩
        subst e
        obtain ⟨x, hx, hs⟩ := List.any_eq_true.1 ha
        obtain ⟨k2, q1, q2⟩ := hE x hx
        have q3 := (seq_at hc q1).2.2
        have hs : x.2.1 = r.2.1 := by simpa using hs
        have : k2 = j := by omega
        subst this
        exact .inr ⟨x, hx, q1⟩
      | false =>
        rw [if_neg (by decide)]
        refine ⟨G, insF r early, rfl, hG, fun e he => ?_, insF_asc r early hA ha, by rw [insF_length]; exact Nat.le_refl _, fun j => ?_⟩
        · rcases insF_mem r early e he with rfl | he
          · exact ⟨k, hr, by omega⟩
          · exact hE e he
        · unfold Has
          constructor
          · rintro (h | ⟨e, he, hj⟩)
            · exact .inl (.inl h)
            · rcases (insF_mem_iff r early e).1 he with h' | h'
              · subst h'; exact .inr (at_inj hc hj hr)
              · exact .inl (.inr ⟨e, h', hj⟩)
          · rintro ((h | ⟨e, he, hj⟩) | h)
            · exact .inl h
            · exact .inr ⟨e, (insF_mem_iff r early e).2 (.inr he), hj⟩
            · subst h; exact .inr ⟨r, (insF_mem_iff r early r).2 (.inl rfl), hr⟩
theorem has_first {p : Rds} {gate : Int} (hc : consec p gate 1) {G : Nat} {early : Rds} (hE : later p G early) : ¬ Has p G early G := by
  rintro (h | ⟨e, he, hj⟩)
  · omega
  · obtain ⟨k, q1, q2⟩ := hE e he
    have := at_inj hc hj q1
    omega
end Go.Proofs.Ytbapfiaglcllnaa.D.Ul
end
