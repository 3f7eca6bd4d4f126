import Derived.Test.YtcfneiladppfnaaL30b
open Go Go.GD Go.Proofs
namespace Go.Proofs.Ytcfneiladppfnaa.D
abbrev World := Outb × Inb × Rds × List Int
def asc (l : Rds) : Prop := l.Pairwise fun x y => x.2.1 < y.2.1
def inb (gate : Int) (p : Rds) (G : Nat) (early : Rds) : Inb := (gate, (G : Int) + 1, p.take G, early)
def outb (gate : Int) (p : Rds) (a : Nat) : Outb := (gate, (p.length : Int) + 1, p.drop a)
def later (p : Rds) (G : Nat) (early : Rds) : Prop := ∀ e ∈ early, ∃ k, p[k]? = some e ∧ G < k
theorem seq_at {p : Rds} {gate : Int} (hc : consec p gate 1) {k : Nat} {e : Rd} (h : p[k]? = some e) : k < p.length ∧ e.1 = gate ∧ e.2.1 = 1 + (k : Int) := by
  obtain ⟨hk, he⟩ := List.getElem?_eq_some_iff.1 h
  have := hc k hk
  rw [he] at this
  exact ⟨hk, this⟩
theorem take_snoc {p : Rds} {G : Nat} (h : G < p.length) : p.take G ++ [p[G]] = p.take (G + 1) := by
  rw [List.take_append_getElem h]
theorem split_at {l : Rds} {i : Nat} (h : i < l.length) : l = l.take i ++ l[i] :: l.drop (i + 1) := by
  rw [← List.drop_eq_getElem_cons h, List.take_append_drop]
theorem drain_ok (gate : Int) (p : Rds) (hc : consec p gate 1) : ∀ (m : Nat) (early : Rds) (G : Nat), early.length ≤ m → G ≤ p.length → (∀ e ∈ early, ∃ k, p[k]? = some e ∧ G ≤ k) → asc early →
    ∃ G' early', drain (inb gate p G early) = inb gate p G' early' ∧ G ≤ G' ∧ G' ≤ p.length ∧ later p G' early' ∧ asc early' ∧ early'.length ≤ early.length := by
  intro m
  induction m with
  | zero =>
    intro early G hm hG hE hA
    have : early = [] := List.eq_nil_of_length_eq_zero (by omega)
    subst this
    exact ⟨G, [], drain_stop rfl, Nat.le_refl _, hG, (fun e he => by cases he), hA, Nat.le_refl _⟩
  | succ m ih =>
    intro early G hm hG hE hA
    rcases place_cases early ((G : Int) + 1) with ⟨hp, hn⟩ | ⟨i, hi, hp, hs⟩
    · refine ⟨G, early, drain_stop hp, Nat.le_refl _, hG, fun e he => ?_, hA, Nat.le_refl _⟩
      obtain ⟨k, hk, hle⟩ := hE e he
      refine ⟨k, hk, ?_⟩
      have h1 := (seq_at hc hk).2.2
      rw [List.any_eq_false] at hn
      have h2 := hn e he
      have : ¬ e.2.1 = (G : Int) + 1 := fun h => h2 (by simpa using h)
      omega
    · obtain ⟨k, hk, hle⟩ := hE early[i] (List.getElem_mem hi)
      have h1 := seq_at hc hk
      have h2 : early[i].2.1 = (G : Int) + 1 := by simpa using hs
      have h3 : k = G := by omega
      subst h3
      have hkl := h1.1
      have hk' : early[i] = p[k] := by rw [List.getElem?_eq_getElem hkl] at hk; injection hk with hk; exact hk.symm
      have hsp := split_at hi
      unfold asc at hA
      rw [hsp] at hA
      rw [List.pairwise_append] at hA
      obtain ⟨A1, A2, A3⟩ := hA
      rw [List.pairwise_cons] at A2
      have hA' : asc (early.take i ++ early.drop (i + 1)) := by
        unfold asc
        rw [List.pairwise_append]
        exact ⟨A1, A2.2, fun x hx y hy => A3 x hx y (List.mem_cons_of_mem _ hy)⟩
      have hlen : (early.take i ++ early.drop (i + 1)).length + 1 = early.length := by rw [List.length_append, List.length_take, List.length_drop]; omega
      obtain ⟨G', early', d1, d2, d3, d4, d5, d6⟩ := ih (early.take i ++ early.drop (i + 1)) (k + 1) (by omega) (by omega) (fun e he => by
        have hmem : e ∈ early := by
          rcases List.mem_append.1 he with h | h
          · exact List.mem_of_mem_take h
          · exact List.mem_of_mem_drop h
        obtain ⟨k2, q1, q2⟩ := hE e hmem
        refine ⟨k2, q1, ?_⟩
        have q3 := (seq_at hc q1).2.2
        rcases List.mem_append.1 he with h | h
        · have := A3 e h early[i] (List.mem_cons_self ..); omega
        · have := A2.1 e h; omega) hA'
      refine ⟨G', early', ?_, by omega, d3, d4, d5, by omega⟩
      rw [drain_go hp hi, ← d1]
      show drain (gate, (k : Int) + 1 + 1, p.take k ++ [early[i]], _) = drain (gate, ((k + 1 : Nat) : Int) + 1, p.take (k + 1), _)
      rw [hk', take_snoc hkl]
      rfl
theorem insF_mem (r : Rd) : ∀ (l : Rds) (e : Rd), e ∈ insF r l → e = r ∨ e ∈ l
  | [], e, h => .inl (by simpa [insF] using h)
  | x :: l, e, h => by
    rw [insF] at h
    cases hd : decide (x.2.1 > r.2.1) with
    | true => rw [hd, cond_true] at h; exact List.mem_cons.1 h
    | false =>
      rw [hd, cond_false] at h
      rcases List.mem_cons.1 h with h | h
      · exact .inr (h ▸ List.mem_cons_self ..)
      · exact (insF_mem r l e h).imp_right (List.mem_cons_of_mem _)
theorem insF_asc (r : Rd) : ∀ (l : Rds), asc l → l.any (fun x => x.2.1 == r.2.1) = false → asc (insF r l)
  | [], _, _ => by unfold asc; exact List.pairwise_singleton ..
  | x :: l, h, hn => by
    unfold asc at h
    rw [List.pairwise_cons] at h
    simp only [List.any_cons, Bool.or_eq_false_iff, beq_eq_false_iff_ne, ne_eq] at hn
    rw [insF]
    cases hd : decide (x.2.1 > r.2.1) with
    | true =>
      have hd : x.2.1 > r.2.1 := of_decide_eq_true hd
      unfold asc
      rw [cond_true, List.pairwise_cons, List.pairwise_cons]
      refine ⟨fun e he => ?_, h⟩
      rcases List.mem_cons.1 he with rfl | he
      · exact hd
      · have := h.1 e he; omega
    | false =>
      have hd : ¬ x.2.1 > r.2.1 := of_decide_eq_false hd
      unfold asc
      rw [cond_false, List.pairwise_cons]
      refine ⟨fun e he => ?_, insF_asc r l h.2 hn.2⟩
      rcases insF_mem r l e he with rfl | he
      · have := hn.1; omega
      · exact h.1 e he
/-- what arrives of the rides that were posted -/
theorem recv_ok (gate : Int) (p : Rds) (hc : consec p gate 1) (G : Nat) (early : Rds) (hG : G ≤ p.length) (hE : later p G early) (hA : asc early) {k : Nat} {r : Rd} (hr : p[k]? = some r) :
    ∃ G' early', recv (inb gate p G early) r = inb gate p G' early' ∧ G ≤ G' ∧ G' ≤ p.length ∧ later p G' early' ∧ asc early' ∧ early'.length ≤ early.length + 1 ∧ (k ≤ G → k < G') := by
  obtain ⟨hk, h1, h2⟩ := seq_at hc hr
  rw [recv]
  show ∃ G' early', (if r.1 ≠ gate ∨ r.2.1 < (G : Int) + 1 then inb gate p G early else if r.2.1 = (G : Int) + 1 then drain (gate, (G : Int) + 1 + 1, p.take G ++ [r], early) else if early.any (fun x => x.2.1 == r.2.1) = true then inb gate p G early else (gate, (G : Int) + 1, p.take G, insF r early)) = _ ∧ _
  by_cases c1 : r.2.1 < (G : Int) + 1
  · rw [if_pos (.inr c1)]
    exact ⟨G, early, rfl, Nat.le_refl _, hG, hE, hA, by omega, fun _ => by omega⟩
  · rw [if_neg (fun e => e.elim (fun e => e h1) c1)]
    by_cases c2 : r.2.1 = (G : Int) + 1
    · rw [if_pos c2]
      have hkG : k = G := by omega
      subst hkG
      have hr' : r = p[k] := by rw [List.getElem?_eq_getElem hk] at hr; injection hr with hr; exact hr.symm
      obtain ⟨G', early', d1, d2, d3, d4, d5, d6⟩ := drain_ok gate p hc early.length early (k + 1) (Nat.le_refl _) (by omega) (fun e he => by obtain ⟨k2, q1, q2⟩ := hE e he; exact ⟨k2, q1, q2⟩) hA
      refine ⟨G', early', ?_, by omega, d3, d4, d5, by omega, fun _ => by omega⟩
      rw [← d1, hr', take_snoc hk]
      rfl
    · rw [if_neg c2]
      cases ha : early.any (fun x => x.2.1 == r.2.1) with
      | true => rw [if_pos rfl]; exact ⟨G, early, rfl, Nat.le_refl _, hG, hE, hA, by omega, fun _ => by omega⟩
      | false =>
        rw [if_neg (by decide)]
        refine ⟨G, insF r early, rfl, Nat.le_refl _, hG, fun e he => ?_, insF_asc r early hA ha, by rw [insF_length]; exact Nat.le_refl _, fun _ => by omega⟩
        rcases insF_mem r early e he with rfl | he
        · exact ⟨k, hr, by omega⟩
        · exact hE e he
theorem recv_other (i : Inb) (r : Rd) (h : r.1 ≠ i.1) : recv i r = i := by rw [recv, if_pos (.inl h)]
theorem filt : ∀ (l : Rds) (f n : Int), (∀ k (h : k < l.length), l[k].2.1 = f + k) → (l.filter fun r => decide (r.2.1 > n)) = l.drop (n + 1 - f).toNat
  | [], _, _, _ => by rw [List.drop_nil]; rfl
  | x :: l, f, n, h => by
    have h0 : x.2.1 = f := by have := h 0 (by simp); simpa using this
    have ih := filt l (f + 1) n (fun k hk => by have := h (k + 1) (by simpa using hk); rw [List.getElem_cons_succ] at this; omega)
    by_cases hd : x.2.1 > n
    · rw [List.filter_cons_of_pos (by simpa using hd), ih, show (n + 1 - (f + 1)).toNat = 0 by omega, show (n + 1 - f).toNat = 0 by omega]; rfl
    · rw [List.filter_cons_of_neg (by simpa using hd), ih, show (n + 1 - f).toNat = (n + 1 - (f + 1)).toNat + 1 by omega]; rfl
theorem consec_drop {p : Rds} {gate : Int} (hc : consec p gate 1) (a : Nat) : consec (p.drop a) gate (1 + (a : Int)) := fun k hk => by
  rw [List.length_drop] at hk
  rw [List.getElem_drop]
  have := hc (a + k) (by omega)
  exact ⟨this.1, by have := this.2; omega⟩
theorem consec_take {p : Rds} {gate : Int} (hc : consec p gate 1) (a : Nat) : consec (p.take a) gate 1 := fun k hk => by
  rw [List.length_take] at hk
  rw [List.getElem_take]
  exact hc k (by omega)
theorem ack_drop {p : Rds} {gate : Int} (hc : consec p gate 1) (a : Nat) (n : Int) : ackF (outb gate p a) n = outb gate p (a + (n - a).toNat) := by
  show (gate, (p.length : Int) + 1, (p.drop a).filter fun r => decide (r.2.1 > n)) = _
  rw [filt (p.drop a) (1 + (a : Int)) n (fun k hk => (consec_drop hc a k hk).2), List.drop_drop, show n + 1 - (1 + (a : Int)) = n - a by omega]
  rfl

/-! the two ends and what lies between -/
structure Ok (gate : Int) (n b : Nat) (p : Rds) (a G : Nat) (early : Rds) (acks : List Int) : Prop where
  hp : p.length ≤ n
  hc : consec p gate 1
  ha : a ≤ G
  hG : G ≤ p.length
  hm : p.length - a ≤ 64
  hE : later p G early
  hA : asc early
  hL : early.length ≤ b
  hK : acks.length ≤ b
  hR : ∀ x ∈ acks, 0 ≤ x ∧ x ≤ (G : Int)
def mkW (gate : Int) (p : Rds) (a G : Nat) (early : Rds) (acks : List Int) : World := (outb gate p a, inb gate p G early, p, acks)
theorem ok_small {gate : Int} {n b : Nat} {p : Rds} {a G : Nat} {early : Rds} {acks : List Int} (h : Ok gate n b p a G early acks) (hn : n ≤ 1000) (hb : b ≤ 20000) : SmallR (inb gate p G early) := by
  have h1 := h.hG; have h2 := h.hp; have h3 := h.hL
  refine ⟨?_, ?_, ?_⟩
  · show (p.take G).length + early.length ≤ 40000; rw [List.length_take]; omega
  · show -1000000 ≤ (G : Int) + 1; omega
  · show (G : Int) + 1 + (early.length : Int) ≤ 1900000; omega
theorem deliver42 (w : World) (r : Rd) (h : SmallR w.2.1) (hk : w.2.2.2.length ≤ 100000) : D42 w r = some (w.1, recv w.2.1 r, w.2.2.1, w.2.2.2 ++ [(recv w.2.1 r).2.1 - 1]) := by
  rw [e42, recv21 _ _ h, bindS, limOk (by decide) (by simp; omega), condT, List.nil_append, limOk (by decide) (by simp only [List.length_singleton]; omega), condT]
/-- a posted ride arrives -/
theorem deliver_ok {gate : Int} {n b : Nat} {p : Rds} {a G : Nat} {early : Rds} {acks : List Int} (h : Ok gate n b p a G early acks) (hn : n ≤ 1000) (hb : b ≤ 20000) {k : Nat} {r : Rd} (hr : p[k]? = some r) :
    ∃ G' early' acks', D42 (mkW gate p a G early acks) r = some (mkW gate p a G' early' acks') ∧ Ok gate n (b + 1) p a G' early' acks' ∧ G ≤ G' ∧ (k ≤ G → k < G') := by
  obtain ⟨G', early', d1, d2, d3, d4, d5, d6, d7⟩ := recv_ok gate p h.hc G early h.hG h.hE h.hA hr
  have hL := h.hL; have hK := h.hK; have ha := h.ha
  refine ⟨G', early', acks ++ [(G' : Int)], ?_, ⟨h.hp, h.hc, by omega, d3, h.hm, d4, d5, by omega, ?_, ?_⟩, d2, d7⟩
  · rw [deliver42 _ _ (ok_small h hn hb) (by show acks.length ≤ 100000; omega)]
    show some (outb gate p a, recv (inb gate p G early) r, p, acks ++ [(recv (inb gate p G early) r).2.1 - 1]) = _
    rw [d1]
    show some (outb gate p a, inb gate p G' early', p, acks ++ [(G' : Int) + 1 - 1]) = _
    rw [Int.add_sub_cancel]; rfl
  · rw [List.length_append, List.length_singleton]; omega
  · intro x hx
    rcases List.mem_append.1 hx with hx | hx
    · have := h.hR x hx; omega
    · rw [List.mem_singleton.1 hx]; omega
/-- a ride of another gate arrives -/
theorem deliver_other {gate : Int} {n b : Nat} {p : Rds} {a G : Nat} {early : Rds} {acks : List Int} (h : Ok gate n b p a G early acks) (hn : n ≤ 1000) (hb : b ≤ 20000) {r : Rd} (hr : r.1 ≠ gate) :
    ∃ acks', D42 (mkW gate p a G early acks) r = some (mkW gate p a G early acks') ∧ Ok gate n (b + 1) p a G early acks' := by
  have hL := h.hL; have hK := h.hK
  refine ⟨acks ++ [(G : Int)], ?_, ⟨h.hp, h.hc, h.ha, h.hG, h.hm, h.hE, h.hA, by omega, ?_, ?_⟩⟩
  · rw [deliver42 _ _ (ok_small h hn hb) (by show acks.length ≤ 100000; omega)]
    show some (outb gate p a, recv (inb gate p G early) r, p, acks ++ [(recv (inb gate p G early) r).2.1 - 1]) = _
    rw [recv_other _ _ hr]
    show some (outb gate p a, inb gate p G early, p, acks ++ [(G : Int) + 1 - 1]) = _
    rw [Int.add_sub_cancel]; rfl
  · rw [List.length_append, List.length_singleton]; omega
  · intro x hx
    rcases List.mem_append.1 hx with hx | hx
    · have := h.hR x hx; omega
    · rw [List.mem_singleton.1 hx]; omega
theorem Ok.mono {gate : Int} {n b n' b' : Nat} {p : Rds} {a G : Nat} {early : Rds} {acks : List Int} (h : Ok gate n b p a G early acks) (hn : n ≤ n') (hb : b ≤ b') : Ok gate n' b' p a G early acks :=
  ⟨Nat.le_trans h.hp hn, h.hc, h.ha, h.hG, h.hm, h.hE, h.hA, Nat.le_trans h.hL hb, Nat.le_trans h.hK hb, h.hR⟩
/-- all that waits is delivered -/
theorem all_ok {gate : Int} {n b : Nat} {p : Rds} {a G : Nat} {early : Rds} {acks : List Int} (v : World) (h : Ok gate n b p a G early acks) (hn : n ≤ 1000) (hb : b ≤ 10000) :
    ∃ early' acks', lp25_17 big (mkW gate p a G early acks) v (p.drop a) 0 = some (mkW gate p a p.length early' acks') ∧ Ok gate n (b + 64) p a p.length early' acks' := by
  have hm := h.hm
  have hlen : (p.drop a).length = p.length - a := List.length_drop ..
  rw [f25_17 _ _ _ (by rw [maxLen_val, hlen]; omega)]
  have key : ∀ (ys pre : Rds) (G : Nat) (early : Rds) (acks : List Int), p.drop a = pre ++ ys → Ok gate n (b + pre.length) p a G early acks → a + pre.length ≤ G →
      ∃ early' acks', forI (fun ix el (w1 : World) K => (bif decide ((ix : Int) < 100) then (D42 w1 el).bind fun r1 => K r1 else some w1 : Option World)) (fun (w1 : World) => (some w1 : Option World)) pre.length ys (mkW gate p a G early acks) = some (mkW gate p a p.length early' acks') ∧ Ok gate n (b + 64) p a p.length early' acks' := by
    intro ys
    induction ys with
    | nil =>
      intro pre G early acks e hO hle
      rw [List.append_nil] at e
      have h1 := hO.hG; have h2 := hO.ha
      rw [e] at hlen
      have : G = p.length := by omega
      subst this
      exact ⟨early, acks, rfl, hO.mono (Nat.le_refl _) (by omega)⟩
    | cons y ys ih =>
      intro pre G early acks e hO hle
      have hk : pre.length < (p.drop a).length := by rw [e]; simp
      have hx : (p.drop a)[pre.length]? = some y := by rw [e]; simp
      rw [List.getElem?_drop] at hx
      obtain ⟨G', early', acks', d1, d2, d3, d4⟩ := deliver_ok hO hn (by omega) hx
      rw [forI, decide_eq_true (show (pre.length : Int) < 100 by omega), condT, d1, bindS]
      have := ih (pre ++ [y]) G' early' acks' (by rw [e]; simp) (by rw [List.length_append, List.length_singleton]; exact d2) (by
        rw [List.length_append, List.length_singleton]
        by_cases hq : a + pre.length ≤ G
        · have := d4 hq; omega
        · omega)
      rwa [List.length_append, List.length_singleton] at this
  exact key (p.drop a) [] G early acks rfl h h.ha
theorem post_ok {gate : Int} {n b : Nat} {p : Rds} {a G : Nat} {early : Rds} {acks : List Int} (h : Ok gate n b p a G early acks) (s : Int) (hm : p.length - a < 64) : Ok gate (n + 1) b (p ++ [(gate, (p.length : Int) + 1, s, 0, 0, 0, 0)]) a G early acks := by
  have hp := h.hp; have hG := h.hG; have ha := h.ha
  refine ⟨by rw [List.length_append, List.length_singleton]; omega, fun k hk => ?_, ha, by rw [List.length_append]; omega, by rw [List.length_append, List.length_singleton]; omega, fun e he => ?_, h.hA, h.hL, h.hK, h.hR⟩
  · by_cases hlt : k < p.length
    · rw [List.getElem_append_left hlt]; exact h.hc k hlt
    · rw [List.length_append, List.length_singleton] at hk
      have : k = p.length := by omega
      subst this
      rw [List.getElem_concat_length rfl]
      exact ⟨rfl, Int.add_comm _ _⟩
  · obtain ⟨k, h1, h2⟩ := h.hE e he
    exact ⟨k, by rw [List.getElem?_append_left (seq_at h.hc h1).1]; exact h1, h2⟩
theorem wrap_other {gate : Int} (hg : -9223372036854775808 ≤ gate ∧ gate ≤ 9223372036854775807) : IntKind.i64.wrap (gate - 1) ≠ gate ∧ IntKind.i64.wrap (gate + 1) ≠ gate := by
  constructor
  · by_cases h : gate = -9223372036854775808
    · subst h; decide
    · rw [wrap_i64 (by omega) (by omega)]; omega
  · by_cases h : gate = 9223372036854775807
    · subst h; decide
    · rw [wrap_i64 (by omega) (by omega)]; omega
theorem pend18 (o : Outb) (h : o.2.2.length ≤ 100000) : D18 o = some o.2.2 := by rw [e18, clone27 _ h, bindS]
theorem act3 {gate : Int} {n b : Nat} {p : Rds} {a G : Nat} {early : Rds} {acks : List Int} (h : Ok gate n b p a G early acks) (hn : n ≤ 1000) (hb : b ≤ 10000) (v : Int) :
    ∃ early' acks', D25 (mkW gate p a G early acks) (3, v) = some (mkW gate p a p.length early' acks') ∧ Ok gate n (b + 64) p a p.length early' acks' := by
  have hm := h.hm
  rw [e25]
  simp only [show ((3 : Int) == 0) = false from rfl, show ((3 : Int) == 1) = false from rfl, show ((3 : Int) == 2) = false from rfl, show ((3 : Int) == 3) = true from rfl, condF, condT]
  rw [pend18 _ (by show (p.drop a).length ≤ _; rw [List.length_drop]; omega), bindS]
  exact all_ok _ h hn hb
theorem act_ok {gate : Int} (hg : -9223372036854775808 ≤ gate ∧ gate ≤ 9223372036854775807) {n b : Nat} {p : Rds} {a G : Nat} {early : Rds} {acks : List Int} (h : Ok gate n b p a G early acks) (hn : n ≤ 500) (hb : b ≤ 10000) (op : Int × Int) :
    ∃ p' a' G' early' acks', D25 (mkW gate p a G early acks) op = some (mkW gate p' a' G' early' acks') ∧ Ok gate (n + 1) (b + 64) p' a' G' early' acks' := by
  obtain ⟨c, v⟩ := op
  have hp := h.hp; have hm := h.hm; have hK := h.hK; have hG := h.hG; have ha := h.ha
  have stay : ∃ p' a' G' early' acks', some (mkW gate p a G early acks) = some (mkW gate p' a' G' early' acks') ∧ Ok gate (n + 1) (b + 64) p' a' G' early' acks' := ⟨p, a, G, early, acks, rfl, h.mono (by omega) (by omega)⟩
  by_cases c3 : c = 3
  · subst c3
    obtain ⟨early', acks', d1, d2⟩ := act3 h (by omega) hb v
    exact ⟨p, a, p.length, early', acks', d1, d2.mono (by omega) (Nat.le_refl _)⟩
  rw [e25]
  by_cases c0 : c = 0
  · subst c0
    simp only [show ((0 : Int) == 0) = true from rfl, condT]
    show ∃ p' a' G' early' acks', ((D13 (outb gate p a) (gate, IntKind.i64.wrap ((p.length : Int) + 1), v, 0, 0, 0, 0)).bind fun r => _) = _ ∧ _
    have hw : IntKind.i64.wrap ((p.length : Int) + 1) = (p.length : Int) + 1 := wrap_i64 (by omega) (by omega)
    have hpf : postF (outb gate p a) (gate, (p.length : Int) + 1, v, 0, 0, 0, 0) = if 64 ≤ p.length - a then ((0, 0, []), 9) else ((gate, (p.length : Int) + 1 + 1, p.drop a ++ [(gate, (p.length : Int) + 1, v, 0, 0, 0, 0)]), 0) := by
      rw [postF]
      show (if gate ≠ gate then _ else if (p.length : Int) + 1 ≠ (p.length : Int) + 1 then _ else if 64 ≤ (p.drop a).length ∨ 1000000 ≤ (p.length : Int) + 1 then _ else _) = _
      rw [if_neg (by simp), if_neg (by simp), List.length_drop]
      by_cases hf : 64 ≤ p.length - a
      · rw [if_pos (.inl hf), if_pos hf]
      · rw [if_neg (by omega), if_neg hf]; rfl
    rw [hw, post13 _ _ (by show -9223372036854775808 ≤ (p.length : Int) + 1; omega), bindS, hpf]
    by_cases hf : 64 ≤ p.length - a
    · rw [if_pos hf]; exact stay
    · rw [if_neg hf]
      simp only [show ((0 : Int) == 0) = true from rfl, condT]
      refine ⟨p ++ [(gate, (p.length : Int) + 1, v, 0, 0, 0, 0)], a, G, early, acks, ?_, (post_ok h v (by omega)).mono (by omega) (by omega)⟩
      show (bif (Nat.ble ((List.length ([] : Rds) + p.length) * 56) appendLimit && Nat.ble (List.length ([] : Rds) + p.length) 9223372036854775807) then (bif (Nat.ble ((List.length (([] : Rds) ++ p) + List.length [((gate, IntKind.i64.wrap ((p.length : Int) + 1), v, 0, 0, 0, 0) : Rd)]) * 56) appendLimit && Nat.ble (List.length (([] : Rds) ++ p) + List.length [((gate, IntKind.i64.wrap ((p.length : Int) + 1), v, 0, 0, 0, 0) : Rd)]) 9223372036854775807) then some ((gate, (p.length : Int) + 1 + 1, p.drop a ++ [(gate, (p.length : Int) + 1, v, 0, 0, 0, 0)]), inb gate p G early, (([] : Rds) ++ p) ++ [(gate, IntKind.i64.wrap ((p.length : Int) + 1), v, 0, 0, 0, 0)], acks) else none) else none : Option World) = _
      rw [limOk (by decide) (by simp; omega), condT, List.nil_append, limOk (by decide) (by simp only [List.length_singleton]; omega), condT, hw]
      unfold mkW outb inb
      rw [List.length_append, List.length_singleton, List.drop_append_of_le_length (by omega), List.take_append_of_le_length (by omega)]
      rfl
  by_cases c1 : c = 1
  · subst c1
    simp only [show ((1 : Int) == 0) = false from rfl, show ((1 : Int) == 1) = true from rfl, show ((1 : Int) == 2) = false from rfl, show ((1 : Int) == 3) = false from rfl, show ((1 : Int) == 4) = false from rfl, condF, condT]
    by_cases hv : v ≥ 0
    · rw [decide_eq_true hv, condT]
      show ∃ p' a' G' early' acks', (bif decide (v < (p.length : Int)) then ((idx p v).bind fun e => _) else _) = _ ∧ _
      by_cases hv2 : v < (p.length : Int)
      · obtain ⟨k, rfl⟩ : ∃ k : Nat, v = (k : Int) := ⟨v.toNat, by omega⟩
        rw [decide_eq_true hv2, condT, idx_get (by omega), bindS]
        obtain ⟨G', early', acks', d1, d2, _⟩ := deliver_ok h (by omega) (by omega) (List.getElem?_eq_getElem (show k < p.length by omega))
        rw [d1, bindS]
        exact ⟨p, a, G', early', acks', rfl, d2.mono (by omega) (by omega)⟩
      · rw [decide_eq_false hv2]; exact stay
    · rw [decide_eq_false hv]; exact stay
  by_cases c2 : c = 2
  · subst c2
    simp only [show ((2 : Int) == 0) = false from rfl, show ((2 : Int) == 1) = false from rfl, show ((2 : Int) == 2) = true from rfl, show ((2 : Int) == 3) = false from rfl, show ((2 : Int) == 4) = false from rfl, condF, condT]
    by_cases hv : v ≥ 0
    · rw [decide_eq_true hv, condT]
      show ∃ p' a' G' early' acks', (bif decide (v < (acks.length : Int)) then ((idx acks v).bind fun e => (D19 (outb gate p a) e).bind fun r => some (r, inb gate p G early, p, acks)) else _) = _ ∧ _
      by_cases hv2 : v < (acks.length : Int)
      · obtain ⟨k, rfl⟩ : ∃ k : Nat, v = (k : Int) := ⟨v.toNat, by omega⟩
        have hk : k < acks.length := by omega
        have hx := h.hR acks[k] (List.getElem_mem hk)
        rw [decide_eq_true hv2, condT, idx_get hk, bindS, ack19 _ _ (by show (p.drop a).length ≤ _; rw [List.length_drop]; omega), bindS, ack_drop h.hc]
        exact ⟨p, a + (acks[k] - a).toNat, G, early, acks, rfl, ⟨by omega, h.hc, by omega, hG, by omega, h.hE, h.hA, by have := h.hL; omega, by omega, h.hR⟩⟩
      · rw [decide_eq_false hv2]; exact stay
    · rw [decide_eq_false hv]; exact stay
  by_cases c4 : c = 4
  · subst c4
    simp only [show ((4 : Int) == 0) = false from rfl, show ((4 : Int) == 1) = false from rfl, show ((4 : Int) == 2) = false from rfl, show ((4 : Int) == 3) = false from rfl, show ((4 : Int) == 4) = true from rfl, condF, condT]
    obtain ⟨acks', d1, d2⟩ := deliver_other h (by omega) (by omega) (r := (IntKind.i64.wrap (gate - 1), v, 0, 0, 0, 0, 0)) (wrap_other hg).1
    show ∃ p' a' G' early' acks', ((D42 (mkW gate p a G early acks) (IntKind.i64.wrap (gate - 1), v, 0, 0, 0, 0, 0)).bind fun r => some r) = _ ∧ _
    rw [d1, bindS]
    exact ⟨p, a, G, early, acks', rfl, d2.mono (by omega) (by omega)⟩
  · simp only [show (c == 0) = false by simpa using c0, show (c == 1) = false by simpa using c1, show (c == 2) = false by simpa using c2, show (c == 3) = false by simpa using c3, show (c == 4) = false by simpa using c4, condF]
    exact stay
/-- the two ends stand right -/
theorem right_ok {gate : Int} {n b : Nat} {p : Rds} {a G : Nat} {early : Rds} {acks : List Int} (h : Ok gate n b p a G early acks) (hn : n ≤ 1000) (hb : b ≤ 20000) : D23 (outb gate p a) (inb gate p G early) = some true := by
  have hp := h.hp; have hm := h.hm; have hL := h.hL; have hG := h.hG; have ha := h.ha
  have hdl : (p.drop a).length = p.length - a := List.length_drop ..
  have htl : (p.take G).length = G := by rw [List.length_take]; omega
  have hf : (p.length : Int) + 1 - ((p.length - a : Nat) : Int) = 1 + (a : Int) := by omega
  rw [e23]
  show (bif (gate != gate) then some false else bif decide ((p.length : Int) + 1 < 1) then some false else bif decide ((p.length : Int) + 1 > 1000000) then some false else bif decide (((p.drop a).length : Int) > IntKind.i64.wrap ((p.length : Int) + 1 - 1)) then some false
    else (D40 (p.drop a) gate (IntKind.i64.wrap ((p.length : Int) + 1 - ((p.drop a).length : Int)))).bind fun r => bif (!r) then some false
    else bif decide ((G : Int) + 1 < IntKind.i64.wrap ((p.length : Int) + 1 - ((p.drop a).length : Int))) then some false
    else bif decide ((G : Int) + 1 > (p.length : Int) + 1) then some false
    else bif (((p.take G).length : Int) != IntKind.i64.wrap ((G : Int) + 1 - 1)) then some false
    else (D40 (p.take G) gate 1).bind fun r1 => bif (!r1) then some false
    else lp23_1 big (outb gate p a) (IntKind.i64.wrap ((p.length : Int) + 1 - ((p.drop a).length : Int))) ((G : Int) + 1) early (early.length : Int) 0 : Option Bool) = some true
  rw [hdl, htl, hf, bne_self_eq_false, condF, decide_eq_false (by omega), condF, decide_eq_false (by omega), condF, wrap_i64 (n := (p.length : Int) + 1 - 1) (by omega) (by omega), decide_eq_false (by omega), condF, wrap_i64 (n := 1 + (a : Int)) (by omega) (by omega), wrap_i64 (n := (G : Int) + 1 - 1) (by omega) (by omega)]
  rcases cons40 (p.drop a) gate (1 + (a : Int)) (by omega) (by omega) with ⟨_, h1⟩ | ⟨h1, _⟩
  · rw [h1, bindS, Bool.not_true, condF, decide_eq_false (by omega), condF, decide_eq_false (by omega), condF, show ((G : Int) != (G : Int) + 1 - 1) = false by simp, condF]
    rcases cons40 (p.take G) gate 1 (by omega) (by omega) with ⟨_, h2⟩ | ⟨h2, _⟩
    · rw [h2, bindS, Bool.not_true, condF, lpE23 _ _ _ _ (by omega)]
      have key : ∀ (ys : Rds) (last : Int), later p G ys → asc ys → (∀ e ∈ ys, last < e.2.1) → forE (bod23 (outb gate p a) (1 + (a : Int))) (fun _ => some true) ys last = some true := by
        intro ys
        induction ys with
        | nil => intro _ _ _ _; rfl
        | cons y ys ih =>
          intro last q1 q2 q3
          obtain ⟨k, hk, hk2⟩ := q1 y (List.mem_cons_self ..)
          have hs := seq_at h.hc hk
          have hlt := q3 y (List.mem_cons_self ..)
          unfold asc at q2
          rw [List.pairwise_cons] at q2
          rw [forE, bod23, decide_eq_false (by omega), condF]
          show (bif decide (y.2.1 ≥ (p.length : Int) + 1) then some false else (idx (p.drop a) (IntKind.i64.wrap (y.2.1 - (1 + (a : Int))))).bind _) = _
          rw [decide_eq_false (by omega), condF, wrap_i64 (by omega) (by omega), show y.2.1 - (1 + (a : Int)) = ((k - a : Nat) : Int) by omega, idx_nat, List.getElem?_drop, show a + (k - a) = k by omega, hk, bindS, rdEq_iff.2 rfl, Bool.not_true, condF]
          exact ih _ (fun e he => q1 e (List.mem_cons_of_mem _ he)) q2.2 (fun e he => q2.1 e he)
      exact key early _ h.hE h.hA (fun e he => by obtain ⟨k, hk, hk2⟩ := h.hE e he; have := (seq_at h.hc hk).2.2; omega)
    · exact absurd (consec_take h.hc G) h2
  · exact absurd (consec_drop h.hc a) h1
end Go.Proofs.Ytcfneiladppfnaa.D
