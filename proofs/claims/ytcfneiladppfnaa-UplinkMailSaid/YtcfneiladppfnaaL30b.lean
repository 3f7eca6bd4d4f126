import Derived.Test.YtcfneiladppfnaaL30
open Go Go.GD Go.Proofs
namespace Go.Proofs.Ytcfneiladppfnaa.D
def rdEq (a b : Rd) : Bool := ((a.1 == b.1) && ((a.2.1 == b.2.1) && ((a.2.2.1 == b.2.2.1) && ((a.2.2.2.1 == b.2.2.2.1) && ((a.2.2.2.2.1 == b.2.2.2.2.1) && ((a.2.2.2.2.2.1 == b.2.2.2.2.2.1) && (a.2.2.2.2.2.2 == b.2.2.2.2.2.2)))))))
theorem rdEq_iff {a b : Rd} : rdEq a b = true ↔ a = b := by
  obtain ⟨a1, a2, a3, a4, a5, a6, a7⟩ := a
  obtain ⟨b1, b2, b3, b4, b5, b6, b7⟩ := b
  simp [rdEq]
theorem has41 (l : Rds) (r : Rd) (h : l.length ≤ 100000) : D41 l r = some (l.any fun x => rdEq x r) := by
  rw [e41, f41_1 _ _ (by rw [maxLen_val]; omega)]
  refine (forE_any (fun x => rdEq x r) true (fun _ => some false) l ()).trans ?_
  cases l.any fun x => rdEq x r <;> rfl
def consec (l : Rds) (gate first : Int) : Prop := ∀ k (h : k < l.length), l[k].1 = gate ∧ l[k].2.1 = first + k
theorem wrapF {n : Int} {k : Nat} (h : -9000000000000000000 ≤ n ∧ n ≤ 9000000000000000000) (hk : k ≤ 100000) : IntKind.i64.wrap (n + (k : Int)) = n + k := wrap_i64 (by omega) (by omega)
/-- the loop over rides in order: it goes on, or ends with false -/
theorem consec_loop {fin : Unit → Option Bool} (l : Rds) (gate first : Int) (hf : -9000000000000000000 ≤ first ∧ first ≤ 9000000000000000000) (hl : l.length ≤ 100000) :
    (consec l gate first ∧ forI (fun ix el (_ : Unit) K => (bif (el.1 != gate) then some false else bif (el.2.1 != IntKind.i64.wrap (first + (ix : Int))) then some false else K () : Option Bool)) fin 0 l () = fin ()) ∨
    (¬ consec l gate first ∧ forI (fun ix el (_ : Unit) K => (bif (el.1 != gate) then some false else bif (el.2.1 != IntKind.i64.wrap (first + (ix : Int))) then some false else K () : Option Bool)) fin 0 l () = some false) := by
  have key : ∀ (ys pre : Rds), l = pre ++ ys → consec pre gate first → 
    (consec l gate first ∧ forI (fun ix el (_ : Unit) K => (bif (el.1 != gate) then some false else bif (el.2.1 != IntKind.i64.wrap (first + (ix : Int))) then some false else K () : Option Bool)) fin pre.length ys () = fin ()) ∨
    (¬ consec l gate first ∧ forI (fun ix el (_ : Unit) K => (bif (el.1 != gate) then some false else bif (el.2.1 != IntKind.i64.wrap (first + (ix : Int))) then some false else K () : Option Bool)) fin pre.length ys () = some false) := by
    intro ys
    induction ys with
    | nil =>
      intro pre e hp
      rw [List.append_nil] at e
      subst e
      exact .inl ⟨hp, rfl⟩
    | cons y ys ih =>
      intro pre e hp
      have hk : pre.length < l.length := by rw [e]; simp
      have hx : l[pre.length] = y := by simp [e]
      rw [forI, wrapF hf (by omega)]
      by_cases h1 : y.1 = gate
      · rw [show (y.1 != gate) = false by simpa using h1, condF]
        by_cases h2 : y.2.1 = first + (pre.length : Int)
        · rw [show (y.2.1 != first + (pre.length : Int)) = false by simpa using h2, condF]
          have := ih (pre ++ [y]) (by rw [e]; simp) (fun k hk => by
            rw [List.length_append, List.length_singleton] at hk
            by_cases hlt : k < pre.length
            · rw [List.getElem_append_left hlt]; exact hp k hlt
            · have : k = pre.length := by omega
              subst this
              rw [List.getElem_concat_length rfl]; exact ⟨h1, h2⟩)
          rwa [List.length_append, List.length_singleton] at this
        · rw [show (y.2.1 != first + (pre.length : Int)) = true by simpa using h2]
          exact .inr ⟨fun hc => h2 (by have := (hc _ hk).2; rwa [hx] at this), rfl⟩
      · rw [show (y.1 != gate) = true by simpa using h1]
        exact .inr ⟨fun hc => h1 (by have := (hc _ hk).1; rwa [hx] at this), rfl⟩
  exact key l [] rfl (fun k hk => by cases hk)
theorem cons40 (l : Rds) (gate first : Int) (hf : -9000000000000000000 ≤ first ∧ first ≤ 9000000000000000000) (hl : l.length ≤ 100000) : (consec l gate first ∧ D40 l gate first = some true) ∨ (¬ consec l gate first ∧ D40 l gate first = some false) := by
  rw [e40, f40_1 _ _ _ (by rw [maxLen_val]; omega)]
  exact consec_loop (fin := fun _ => some true) l gate first hf hl
def bod23 (o : Outb) (first : Int) (el : Rd) (last : Int) (K : Int → Option Bool) : Option Bool :=
  bif decide (el.2.1 ≤ last) then some false
  else bif decide (el.2.1 ≥ o.2.1) then some false
  else (idx o.2.2 (IntKind.i64.wrap (el.2.1 - first))).bind fun e1 =>
  bif (!rdEq el e1) then some false
  else K el.2.1
noncomputable def bod24 (o : Outb) (i : Inb) (ix : Nat) (el : Rd) (_ : Unit) (K : Unit → Option Bool) : Option Bool :=
  bif decide (el.2.1 ≤ i.2.1) then some false
  else bif decide ((ix : Int) > 0) then (
    (idx i.2.2.2 (IntKind.i64.wrap ((ix : Int) - 1))).bind fun e2 =>
    bif decide (el.2.1 ≤ e2.2.1) then some false
    else (D41 o.2.2 el).bind fun r =>
    bif (!r) then some false
    else K ())
  else (D41 o.2.2 el).bind fun r =>
  bif (!r) then some false
  else K ()
theorem lpE23 (o : Outb) (first last : Int) (v : Rds) (h : v.length ≤ 100000) : lp23_1 big o first last v (v.length : Int) 0 = forE (bod23 o first) (fun _ => some true) v last := f23_1 _ _ _ _ (by rw [maxLen_val]; omega)
theorem lpE24 (o : Outb) (i : Inb) (h : i.2.2.2.length ≤ 100000) : lp24_1 big o i 0 = forI (bod24 o i) (fun _ => some true) 0 i.2.2.2 () := f24_1 _ _ (by rw [maxLen_val]; omega)
/-- the rides that came early, one after the other: both checks -/
theorem early_loops (o : Outb) (i : Inb) (first : Int) (hm : o.2.2.length ≤ 200) (he : i.2.2.2.length ≤ 200) (hfirst : first = o.2.1 - o.2.2.length) (hc : consec o.2.2 o.1 first) (h1 : first ≤ i.2.1) :
    ∃ b, lp23_1 big o first i.2.1 i.2.2.2 (i.2.2.2.length : Int) 0 = some b ∧ lp24_1 big o i 0 = some b := by
  rw [lpE23 _ _ _ _ (by omega), lpE24 _ _ (by omega)]
  have key : ∀ (ys pre : Rds) (last : Int), i.2.2.2 = pre ++ ys → i.2.1 ≤ last → (∀ (h : pre.length ≠ 0), ∃ p, i.2.2.2[pre.length - 1]? = some p ∧ last = p.2.1) → (pre.length = 0 → last = i.2.1) →
      ∃ b, forE (bod23 o first) (fun _ => some true) ys last = some b ∧ forI (bod24 o i) (fun _ => some true) pre.length ys () = some b := by
    intro ys
    induction ys with
    | nil => intro pre last _ _ _ _; exact ⟨true, rfl, rfl⟩
    | cons y ys ih =>
      intro pre last e hlast hp hp0
      have hk : pre.length < i.2.2.2.length := by rw [e]; simp
      have hx : i.2.2.2[pre.length] = y := by simp [e]
      rw [forE, forI, bod23, bod24]
      have go : ¬ y.2.1 ≤ last → ∃ b, (bif decide (y.2.1 ≥ o.2.1) then some false else (idx o.2.2 (IntKind.i64.wrap (y.2.1 - first))).bind fun e1 => bif (!rdEq y e1) then some false else forE (bod23 o first) (fun _ => some true) ys y.2.1) = some b ∧
          ((D41 o.2.2 y).bind fun r => bif (!r) then some false else forI (bod24 o i) (fun _ => some true) (pre.length + 1) ys ()) = some b := fun hgt => by
        rw [has41 _ _ (by omega), bindS]
        by_cases hge : y.2.1 ≥ o.2.1
        · rw [decide_eq_true hge]
          have : (o.2.2.any fun x => rdEq x y) = false := by
            rw [List.any_eq_false]
            intro x hx' he'
            obtain ⟨k, hk', rfl⟩ := List.getElem_of_mem hx'
            have := (hc k hk').2
            rw [rdEq_iff.1 he'] at this
            omega
          rw [this]
          exact ⟨false, rfl, rfl⟩
        · obtain ⟨k, hk'⟩ : ∃ k : Nat, y.2.1 - first = (k : Int) := ⟨(y.2.1 - first).toNat, by omega⟩
          have hkl : k < o.2.2.length := by omega
          rw [decide_eq_false hge, condF, wrap_i64 (by omega) (by omega), hk', idx_get hkl, bindS]
          by_cases heq : o.2.2[k] = y
          · have ha : (o.2.2.any fun x => rdEq x y) = true := List.any_eq_true.2 ⟨_, List.getElem_mem hkl, rdEq_iff.2 heq⟩
            rw [rdEq_iff.2 heq.symm, ha, Bool.not_true, condF, condF]
            have := ih (pre ++ [y]) y.2.1 (by rw [e]; simp) (by omega) (fun _ => ⟨y, by rw [List.length_append, List.length_singleton, Nat.add_sub_cancel, List.getElem?_eq_getElem hk, hx], rfl⟩) (fun h => by simp at h)
            rwa [List.length_append, List.length_singleton] at this
          · have hb : rdEq y o.2.2[k] = false := by
              rw [Bool.eq_false_iff]; exact fun h => heq (rdEq_iff.1 h).symm
            have ha : (o.2.2.any fun x => rdEq x y) = false := by
              rw [List.any_eq_false]
              intro x hx' he'
              obtain ⟨k2, hk2, rfl⟩ := List.getElem_of_mem hx'
              have h3 := (hc k2 hk2).2
              rw [rdEq_iff.1 he'] at h3
              have : k2 = k := by omega
              subst this
              exact heq (rdEq_iff.1 he')
            rw [hb, ha]
            exact ⟨false, rfl, rfl⟩
      by_cases hle : y.2.1 ≤ last
      · rw [decide_eq_true hle, condT]
        refine ⟨false, rfl, ?_⟩
        by_cases h0 : pre.length = 0
        · have := hp0 h0
          rw [decide_eq_true (show y.2.1 ≤ i.2.1 by omega)]; rfl
        · by_cases h3 : y.2.1 ≤ i.2.1
          · rw [decide_eq_true h3]; rfl
          · obtain ⟨p, hp1, hp2⟩ := hp h0
            rw [decide_eq_false h3, condF, decide_eq_true (show (pre.length : Int) > 0 by omega), condT, wrap_i64 (by omega) (by omega), show (pre.length : Int) - 1 = ((pre.length - 1 : Nat) : Int) by omega, idx_nat, hp1, bindS, decide_eq_true (show y.2.1 ≤ p.2.1 by omega)]
            rfl
      · rw [decide_eq_false hle, condF, decide_eq_false (show ¬ y.2.1 ≤ i.2.1 by omega), condF]
        obtain ⟨b, hb1, hb2⟩ := go hle
        refine ⟨b, hb1, ?_⟩
        by_cases h0 : pre.length = 0
        · rw [decide_eq_false (show ¬ (pre.length : Int) > 0 by omega), condF]; exact hb2
        · obtain ⟨p, hp1, hp2⟩ := hp h0
          rw [decide_eq_true (show (pre.length : Int) > 0 by omega), condT, wrap_i64 (by omega) (by omega), show (pre.length : Int) - 1 = ((pre.length - 1 : Nat) : Int) by omega, idx_nat, hp1, bindS, decide_eq_false (show ¬ y.2.1 ≤ p.2.1 by omega), condF]
          exact hb2
  exact key i.2.2.2 [] i.2.1 rfl (Int.le_refl _) (fun h => absurd rfl h) (fun _ => rfl)
theorem both (o : Outb) (i : Inb) (hm : o.2.2.length ≤ 200) (hg : i.2.2.1.length ≤ 200) (he : i.2.2.2.length ≤ 200) : ∃ b, D23 o i = some b ∧ D24 o i = some b := by
  rw [e23, e24]
  by_cases c1 : o.1 = i.1
  · rw [show (o.1 != i.1) = false by simpa using c1, condF, condF]
    by_cases c2 : o.2.1 < 1
    · rw [decide_eq_true c2]; exact ⟨false, rfl, rfl⟩
    · rw [decide_eq_false c2, condF, condF]
      by_cases c3 : o.2.1 > 1000000
      · rw [decide_eq_true c3]; exact ⟨false, rfl, rfl⟩
      · rw [decide_eq_false c3, condF, condF, wrap_i64 (n := o.2.1 - 1) (by omega) (by omega)]
        by_cases c4 : (o.2.2.length : Int) > o.2.1 - 1
        · rw [decide_eq_true c4]; exact ⟨false, rfl, rfl⟩
        · rw [decide_eq_false c4, condF, condF, wrap_i64 (n := o.2.1 - (o.2.2.length : Int)) (by omega) (by omega), f24_5 _ _ _ (by rw [maxLen_val]; omega)]
          rcases consec_loop (fin := fun _ => (bif decide (i.2.1 < 1) then some false else bif decide (i.2.1 > o.2.1) then some false else bif decide (i.2.1 < o.2.1 - (o.2.2.length : Int)) then some false else bif ((i.2.2.1.length : Int) != IntKind.i64.wrap (i.2.1 - 1)) then some false else lp24_3 big o i 0 : Option Bool)) o.2.2 o.1 (o.2.1 - (o.2.2.length : Int)) (by omega) (by omega) with ⟨hc, h5⟩ | ⟨hc, h5⟩
          · rw [h5]
            rcases cons40 o.2.2 o.1 (o.2.1 - (o.2.2.length : Int)) (by omega) (by omega) with ⟨_, h6⟩ | ⟨hc', _⟩
            · rw [h6, bindS, Bool.not_true, condF]
              by_cases c5 : i.2.1 < o.2.1 - (o.2.2.length : Int)
              · rw [decide_eq_true c5]
                refine ⟨false, rfl, ?_⟩
                cases decide (i.2.1 < 1) <;> cases decide (i.2.1 > o.2.1) <;> rfl
              · rw [decide_eq_false c5, condF, decide_eq_false (show ¬ i.2.1 < 1 by omega), condF]
                by_cases c6 : i.2.1 > o.2.1
                · rw [decide_eq_true c6]; exact ⟨false, rfl, rfl⟩
                · rw [decide_eq_false c6, condF, condF, condF]
                  cases c7 : ((i.2.2.1.length : Int) != IntKind.i64.wrap (i.2.1 - 1)) with
                  | true => exact ⟨false, rfl, rfl⟩
                  | false =>
                    rw [condF, condF, f24_3 _ _ (by rw [maxLen_val]; omega)]
                    have ew : ∀ ix : Nat, IntKind.i64.wrap ((ix : Int) + 1) = IntKind.i64.wrap (1 + (ix : Int)) := fun ix => by rw [Int.add_comm]
                    simp only [ew]
                    rcases consec_loop (fin := fun _ => (lp24_1 big o i 0 : Option Bool)) i.2.2.1 i.1 1 (by omega) (by omega) with ⟨hc2, h8⟩ | ⟨hc2, h8⟩
                    · rw [h8]
                      rcases cons40 i.2.2.1 i.1 1 (by omega) (by omega) with ⟨_, h9⟩ | ⟨hc', _⟩
                      · rw [h9, bindS, Bool.not_true, condF]
                        exact early_loops o i _ hm he rfl hc (by omega)
                      · exact absurd hc2 hc'
                    · rw [h8]
                      rcases cons40 i.2.2.1 i.1 1 (by omega) (by omega) with ⟨hc', _⟩ | ⟨_, h9⟩
                      · exact absurd hc' hc2
                      · rw [h9]; exact ⟨false, rfl, rfl⟩
            · exact absurd hc hc'
          · rw [h5]
            rcases cons40 o.2.2 o.1 (o.2.1 - (o.2.2.length : Int)) (by omega) (by omega) with ⟨hc', _⟩ | ⟨_, h6⟩
            · exact absurd hc' hc
            · rw [h6]; exact ⟨false, rfl, rfl⟩
  · rw [show (o.1 != i.1) = true by simpa using c1]; exact ⟨false, rfl, rfl⟩
theorem rights5 (o : Outb) (i : Inb) : D5 o i = some true := by
  rw [e5, aliveD, e10, e10, e10]
  simp only [bindS, Bool.not_true, condF]
  by_cases h1 : (o.2.2.length : Int) ≤ 200
  · by_cases h2 : (i.2.2.1.length : Int) ≤ 200
    · by_cases h3 : (i.2.2.2.length : Int) ≤ 200
      · rw [decide_eq_true h1, decide_eq_true h2, decide_eq_true h3]
        obtain ⟨b, hb1, hb2⟩ := both o i (by omega) (by omega) (by omega)
        rw [hb1, hb2]
        cases b <;> rfl
      · rw [decide_eq_true h1, decide_eq_true h2, decide_eq_false h3]; rfl
    · rw [decide_eq_true h1, decide_eq_false h2]; rfl
  · rw [decide_eq_false h1]; rfl
theorem law5 (x : (pk ps5).den) (_ : Valid (pk ps5) x) : d5 x = some true := rights5 x.1 x.2
end Go.Proofs.Ytcfneiladppfnaa.D
