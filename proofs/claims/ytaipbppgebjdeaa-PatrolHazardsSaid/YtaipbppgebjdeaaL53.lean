import Derived.Test.YtaipbppgebjdeaaE53
open Go Go.GD Go.Proofs
namespace Go.Proofs.Ytaipbppgebjdeaa.D
abbrev Sg := Int × Int × Int
abbrev Ck := List Int × Int × List Sg
abbrev Rl := Int × Ck
abbrev Pt := List Rl × List Sg

theorem forN_any {α ρ : Type} (p : α → Bool) (r : ρ) (xs : List α) (fin : Unit → Option ρ) (m : Nat) (hm : m ≤ xs.length) :
    forN (fun ix (_ : Unit) K => (idx xs (ix : Int)).bind fun e => bif p e then some r else K ()) fin 0 m () = bif (xs.take m).any p then some r else fin () := by
  suffices h : ∀ (j k : Nat), k + j ≤ xs.length → forN (fun ix (_ : Unit) K => (idx xs (ix : Int)).bind fun e => bif p e then some r else K ()) fin k j () = bif ((xs.drop k).take j).any p then some r else fin () from by
    have := h m 0 (by omega)
    rwa [List.drop_zero] at this
  intro j
  induction j with
  | zero => intro k _; rfl
  | succ j ih =>
    intro k hk
    have hkl : k < xs.length := by omega
    rw [List.drop_eq_getElem_cons hkl, List.take_succ_cons, List.any_cons, forN, idx_get hkl, bindS]
    cases p xs[k] with
    | true => rfl
    | false => exact ih (k + 1) (by omega)

theorem has53 (l : List Int) (n : Int) (hl : l.length ≤ maxLen) : D53 l n = some (l.any (· == n)) := by
  rw [e53, f53_1 l n hl, forE_any]
  cases l.any (· == n) <;> rfl
theorem cont47 (s : List Int) (v : Int) (hl : s.length ≤ maxLen) : D47 s v = some (s.any (· == v)) := by
  rw [e47, e60, f60_1 s v hl]
  have : (fun (x : Int) => v == x) = (· == v) := by funext x; exact beq_sym v x
  rw [forI_find (fun x => v == x) s 0 ()]
  simp only [bindS]
  rw [findI_ge, this]
theorem in52 (n lo hi : Int) : D52 n lo hi = some (bif decide (n < lo) then false else !decide (n > hi)) := by
  rw [e52]
  by_cases h : n < lo
  · have h1 : decide (n < lo) = true := decide_eq_true h
    have h2 : decide (n ≥ lo) = false := decide_eq_false (by omega)
    rw [h1, h2]; rfl
  · have h1 : decide (n < lo) = false := decide_eq_false h
    have h2 : decide (n ≥ lo) = true := decide_eq_true (by omega)
    rw [h1, h2]
    by_cases h' : n > hi
    · have h3 : decide (n > hi) = true := decide_eq_true h'
      have h4 : decide (n ≤ hi) = false := decide_eq_false (by omega)
      rw [h3, h4]; rfl
    · have h3 : decide (n > hi) = false := decide_eq_false h'
      have h4 : decide (n ≤ hi) = true := decide_eq_true (by omega)
      rw [h3, h4]; rfl
theorem right19 (l : Ck) : D32 l = D35 l ∧ Tot (D32 l) := by
  rw [e32, e35]
  cases h1 : decide ((l.1.length : Int) > 64) with
  | true => exact ⟨rfl, tot_some _⟩
  | false =>
  cases h2 : decide ((l.2.2.length : Int) > 200) with
  | true => exact ⟨rfl, tot_some _⟩
  | false =>
  simp only [decide_eq_false_iff_not] at h1 h2
  rw [f32_3 l l.1 (by rw [maxLen_val]; omega), f35_3 l (by rw [maxLen_val]; omega), f32_1 l l.2.2 (by rw [maxLen_val]; omega), f35_1 l (by rw [maxLen_val]; omega)]
  simp only [condF, in52, bindS]
  have e1 : ∀ (u : Unit), forI (fun ix el (_ : Unit) K => ((D47 l.1 el.1).bind fun r => bif (!r) then some 8 else bif decide (el.2.1 < 1) then some 17 else bif decide (el.2.1 > 9999) then some 17 else bif decide (el.2.2 < 0) then some 2
        else bif decide (el.2.2 > 20000000) then some 2 else bif decide ((ix : Int) > 0) then ((idx l.2.2 (IntKind.i64.wrap ((ix : Int) - 1))).bind fun e1 => bif decide (el.2.2 < e1.2.2) then some 11 else K ()) else K () : Option Int)) (fun (_ : Unit) => some 0) 0 l.2.2 u =
      forI (fun ix el (_ : Unit) K => ((D53 l.1 el.1).bind fun r1 => bif (!r1) then some 8 else bif (!(bif decide (el.2.1 < 1) then false else !decide (el.2.1 > 9999))) then some 17 else bif (!(bif decide (el.2.2 < 0) then false else !decide (el.2.2 > 20000000))) then some 2
        else bif decide ((ix : Int) > 0) then ((idx l.2.2 (IntKind.i64.wrap ((ix : Int) - 1))).bind fun e1 => bif decide (el.2.2 < e1.2.2) then some 11 else K ()) else K () : Option Int)) (fun (_ : Unit) => some 0) 0 l.2.2 u := fun u => by
    refine forI_congr _ _ (fun i h s K => ?_) (fun _ => rfl) u
    rw [has53 _ _ (by rw [maxLen_val]; omega), cont47 _ _ (by rw [maxLen_val]; omega)]
    simp only [bindS]
    cases decide ((l.2.2[i]).2.1 < 1) <;> cases decide ((l.2.2[i]).2.1 > 9999) <;> cases decide ((l.2.2[i]).2.2 < 0) <;> cases decide ((l.2.2[i]).2.2 > 20000000) <;> rfl
  have t1 : ∀ u, Tot (forI (fun ix el (_ : Unit) K => ((D47 l.1 el.1).bind fun r => bif (!r) then some 8 else bif decide (el.2.1 < 1) then some 17 else bif decide (el.2.1 > 9999) then some 17 else bif decide (el.2.2 < 0) then some 2
        else bif decide (el.2.2 > 20000000) then some 2 else bif decide ((ix : Int) > 0) then ((idx l.2.2 (IntKind.i64.wrap ((ix : Int) - 1))).bind fun e1 => bif decide (el.2.2 < e1.2.2) then some 11 else K ()) else K () : Option Int)) (fun (_ : Unit) => some 0) 0 l.2.2 u) := fun u => by
    refine tot_forI (fun _ => tot_some _) _ 0 (fun i h s K hK => ?_) u
    rw [cont47 _ _ (by rw [maxLen_val]; omega), bindS]
    refine tot_bif (fun _ => tot_some _) fun _ => tot_bif (fun _ => tot_some _) fun _ => tot_bif (fun _ => tot_some _) fun _ => tot_bif (fun _ => tot_some _) fun _ => tot_bif (fun _ => tot_some _) fun _ => tot_bif (fun hi => ?_) fun _ => hK _
    simp only [Nat.zero_add, decide_eq_true_eq] at hi
    rw [Nat.zero_add, wrap_i64 (by omega) (by omega)]
    exact tot_bind (tot_idx (by omega) (by omega)) fun x _ => tot_bif (fun _ => tot_some _) fun _ => hK _
  cases h3 : decide (l.2.1 < 1) with
  | true => exact ⟨rfl, tot_some _⟩
  | false =>
  cases h4 : decide (l.2.1 > 604800) with
  | true => exact ⟨rfl, tot_some _⟩
  | false =>
  simp only [condF, Bool.not_false, Bool.not_true]
  constructor
  · refine forI_congr _ _ (fun i h s K => ?_) (fun _ => e1 ()) ()
    have hlt : (List.drop (Int.toNat 0) (List.take (Int.toNat ((0 + i : Nat) : Int)) l.1)).length ≤ maxLen := by rw [maxLen_val]; simp; omega
    rw [has53 _ _ hlt, cont47 _ _ hlt]
    simp only [bindS]
    cases decide (l.1[i] < 1) <;> cases decide (l.1[i] > 9999) <;> rfl
  · refine tot_forI (fun _ => t1 ()) _ 0 (fun i h s K hK => ?_) ()
    have hlt : (List.drop (Int.toNat 0) (List.take (Int.toNat ((0 + i : Nat) : Int)) l.1)).length ≤ maxLen := by rw [maxLen_val]; simp; omega
    rw [cont47 _ _ hlt]
    refine tot_bif (fun _ => tot_some _) fun _ => tot_bif (fun _ => tot_some _) fun _ => ?_
    have hc : (decide (0 ≤ (0 : Int)) && (decide ((0 : Int) ≤ ((0 + i : Nat) : Int)) && decide (((0 + i : Nat) : Int) ≤ (l.1.length : Int)))) = true := by
      simp only [Bool.and_eq_true, decide_eq_true_eq]; omega
    rw [hc, condT, bindS]
    exact tot_bif (fun _ => tot_some _) fun _ => hK _

/-! indices -/
def runAt (p : Pt) (run : Int) : Int := findI (fun (l : Rl) => l.1 == run) 0 p.1
def hazAt (l : List Sg) (id : Int) : Int := findI (fun (h : Sg) => h.1 == id) 0 l
theorem list34 (p : Pt) (run : Int) (h : p.1.length ≤ maxLen) : D34 p run = some (runAt p run) := by
  rw [e34, e50, f50_1 _ _ h]
  simp only [e51, bindS]
  rw [forI_find (fun (l : Rl) => l.1 == run) p.1 0 (), bindS]
  rfl
theorem at36 (p : Pt) (run : Int) (h : p.1.length ≤ maxLen) : D36 p run = some (runAt p run) := by
  rw [e36, f36_1 _ _ h, forI_find (fun (l : Rl) => l.1 == run) p.1 0 ()]
  rfl
theorem haz33 (l : List Sg) (id : Int) (h : l.length ≤ maxLen) : D33 l id = some (hazAt l id) := by
  rw [e33, e48, f48_1 _ _ h]
  simp only [e49, bindS]
  rw [forI_find (fun (h : Sg) => h.1 == id) l 0 (), bindS]
  rfl
theorem hazAt_ge (l : List Sg) (id : Int) : decide (hazAt l id ≥ 0) = l.any (fun h => h.1 == id) := findI_ge _ _ _

theorem right53 (p : Pt) : D12 p = D13 p ∧ Tot (D12 p) := by
  rw [e12, e13]
  cases h1 : decide ((p.1.length : Int) > 64) with
  | true => exact ⟨rfl, tot_some _⟩
  | false =>
  cases h2 : decide ((p.2.length : Int) > 200) with
  | true => exact ⟨rfl, tot_some _⟩
  | false =>
  simp only [decide_eq_false_iff_not] at h1 h2
  have m1 : p.1.length ≤ maxLen := by rw [maxLen_val]; omega
  have m2 : p.2.length ≤ maxLen := by rw [maxLen_val]; omega
  simp only [condF]
  rw [f12_3 p p.1 m1, f12_1 p p.2 m2, f13_4 p m1]
  have hin : lp13_3 big p 0 = forI (fun ix el (_ : Unit) K => (bif decide (el.1 < 1) then some 2 else bif decide (el.1 > 9999) then some 2 else bif decide (el.2.2 < 0) then some 2 else bif decide (el.2.2 > 20000000) then some 2
      else bif (p.2.take ix).any (fun h => h.1 == el.1) then some 7 else (D36 p el.2.1).bind fun r => bif decide (r < 0) then some 8 else K () : Option Int)) (fun (_ : Unit) => some 0) 0 p.2 () := by
    unfold lp13_3
    refine iter_forI p.2 (fun ix (_ : Unit) => (p, (ix : Int))) _ _ (fun F k h _ => ?_) (fun F _ => ?_) (len_lt_big m2) ()
    · simp only [dec_lt h, condT, idx_get h, bindS]
      rw [f13_1 F p (k : Int) p.2[k] (by omega), Int.toNat_natCast, forN_any (fun (e : Sg) => e.1 == (p.2[k]).1) 7 p.2 _ k (by omega), wrap_succ h m2]
    · simp only [dec_end, condF]
  rw [hin]
  have e1 : forI (fun ix el (_ : Unit) K => (bif decide (el.1 < 1) then some 2 else bif decide (el.1 > 9999) then some 2 else bif decide (el.2.2 < 0) then some 2 else bif decide (el.2.2 > 20000000) then some 2
        else bif (decide (0 ≤ (0 : Int)) && (decide ((0 : Int) ≤ (ix : Int)) && decide (((ix : Int) : Int) ≤ (List.length p.2 : Int)))) then ((D33 (List.drop (Int.toNat 0) (List.take (Int.toNat (ix : Int)) p.2)) el.1).bind fun r => bif decide (r ≥ 0) then some 7
          else (D34 p el.2.1).bind fun r1 => bif decide (r1 < 0) then some 8 else K ()) else none : Option Int)) (fun (_ : Unit) => some 0) 0 p.2 () =
      forI (fun ix el (_ : Unit) K => (bif decide (el.1 < 1) then some 2 else bif decide (el.1 > 9999) then some 2 else bif decide (el.2.2 < 0) then some 2 else bif decide (el.2.2 > 20000000) then some 2
        else bif (p.2.take ix).any (fun h => h.1 == el.1) then some 7 else (D36 p el.2.1).bind fun r => bif decide (r < 0) then some 8 else K () : Option Int)) (fun (_ : Unit) => some 0) 0 p.2 () := by
    refine forI_congr _ _ (fun i h s K => ?_) (fun _ => rfl) ()
    have hc : (decide (0 ≤ (0 : Int)) && (decide ((0 : Int) ≤ ((0 + i : Nat) : Int)) && decide (((0 + i : Nat) : Int) ≤ (p.2.length : Int)))) = true := by
      simp only [Bool.and_eq_true, decide_eq_true_eq]; omega
    have hlt : (List.drop (Int.toNat 0) (List.take (Int.toNat ((0 + i : Nat) : Int)) p.2)).length ≤ maxLen := by rw [maxLen_val]; simp; omega
    rw [hc, condT, haz33 _ _ hlt, bindS, hazAt_ge, list34 _ _ m1, at36 _ _ m1]
    rfl
  have t1 : Tot (forI (fun ix el (_ : Unit) K => (bif decide (el.1 < 1) then some 2 else bif decide (el.1 > 9999) then some 2 else bif decide (el.2.2 < 0) then some 2 else bif decide (el.2.2 > 20000000) then some 2
        else bif (p.2.take ix).any (fun h => h.1 == el.1) then some 7 else (D36 p el.2.1).bind fun r => bif decide (r < 0) then some 8 else K () : Option Int)) (fun (_ : Unit) => some 0) 0 p.2 ()) := by
    refine tot_forI (fun _ => tot_some _) _ 0 (fun i h s K hK => ?_) ()
    rw [at36 _ _ m1, bindS]
    exact tot_bif (fun _ => tot_some _) fun _ => tot_bif (fun _ => tot_some _) fun _ => tot_bif (fun _ => tot_some _) fun _ => tot_bif (fun _ => tot_some _) fun _ => tot_bif (fun _ => tot_some _) fun _ => tot_bif (fun _ => tot_some _) fun _ => hK _
  rw [e1]
  constructor
  · refine forI_congr _ _ (fun i h s K => ?_) (fun _ => rfl) ()
    rw [(right19 (p.1[i]).2).1]
  · refine tot_forI (fun _ => t1) _ 0 (fun i h s K hK => ?_) ()
    refine tot_bif (fun _ => tot_some _) fun _ => tot_bif (fun _ => tot_some _) fun _ => tot_bif (fun hi => ?_) fun _ => tot_bind (right19 _).2 fun _ _ => tot_bif (fun _ => tot_some _) fun _ => hK _
    simp only [Nat.zero_add, decide_eq_true_eq] at hi
    rw [Nat.zero_add, wrap_i64 (by omega) (by omega)]
    exact tot_bind (tot_idx (by omega) (by omega)) fun x _ => tot_bif (fun _ => tot_some _) fun _ => tot_bind (right19 _).2 fun _ _ => tot_bif (fun _ => tot_some _) fun _ => hK _

theorem small11 (p : Pt) (h : p.1.length ≤ maxLen) : ∃ b, D11 p = some b ∧ (b = true → p.1.length ≤ 70 ∧ p.2.length ≤ 210 ∧ ∀ r, r ∈ p.1 → r.2.1.length ≤ 70 ∧ r.2.2.2.length ≤ 210) := by
  rw [e11, f11_1 p h]
  have hfin : ∃ b, (bif decide ((p.1.length : Int) ≤ 70) then some (decide ((p.2.length : Int) ≤ 210)) else some false) = some b ∧ (b = true → p.1.length ≤ 70 ∧ p.2.length ≤ 210) := by
    by_cases h1 : (p.1.length : Int) ≤ 70
    · rw [decide_eq_true h1]
      refine ⟨_, rfl, fun e => ?_⟩
      have := of_decide_eq_true e
      omega
    · rw [decide_eq_false h1]
      exact ⟨_, rfl, fun e => by cases e⟩
  suffices key : ∀ (ys pre : List Rl), p.1 = pre ++ ys → (∀ r, r ∈ pre → r.2.1.length ≤ 70 ∧ r.2.2.2.length ≤ 210) → ∃ b, forI _ _ pre.length ys () = some b ∧ (b = true → p.1.length ≤ 70 ∧ p.2.length ≤ 210 ∧ ∀ r, r ∈ p.1 → r.2.1.length ≤ 70 ∧ r.2.2.2.length ≤ 210) from
    key p.1 [] rfl (fun r hr => by cases hr)
  intro ys
  induction ys with
  | nil =>
    intro pre e hp
    rw [List.append_nil] at e
    obtain ⟨b, hb, hs⟩ := hfin
    exact ⟨b, hb, fun hb => ⟨(hs hb).1, (hs hb).2, fun r hr => hp r (e ▸ hr)⟩⟩
  | cons y ys ih =>
    intro pre e hp
    rw [forI]
    by_cases h71 : (pre.length : Int) < 71
    · simp only [decide_eq_true h71, condT]
      by_cases h1 : (y.2.1.length : Int) > 70
      · rw [decide_eq_true h1]; exact ⟨false, rfl, fun e => by cases e⟩
      by_cases h2 : (y.2.2.2.length : Int) > 210
      · rw [decide_eq_false h1, decide_eq_true h2]; exact ⟨false, rfl, fun e => by cases e⟩
      rw [decide_eq_false h1, decide_eq_false h2, condF, condF]
      have := ih (pre ++ [y]) (by rw [e]; simp) (fun r hr => by
        rcases List.mem_append.1 hr with hr | hr
        · exact hp r hr
        · rw [List.mem_singleton.1 hr]; omega)
      rwa [List.length_append, List.length_singleton] at this
    · simp only [decide_eq_false h71, condF]
      obtain ⟨b, hb, hs⟩ := hfin
      have hl : p.1.length = pre.length + (ys.length + 1) := by rw [e]; simp
      exact ⟨b, hb, fun hb => by have := (hs hb).1; omega⟩

theorem right3 (p : Pt) (h : p.1.length ≤ maxLen) : D3 p = some true := by
  obtain ⟨b, hb, _⟩ := small11 p h
  obtain ⟨r, hr⟩ := (right53 p).2
  rw [e3, aliveD, hb, ← (right53 p).1, hr]
  simp only [bindS, Bool.not_true, condF, beq_self_eq_true]
  cases b <;> rfl
theorem law3 (x : (pk ps3).den) (h : Valid (pk ps3) x) : d3 x = some true := right3 x h.1.1
end Go.Proofs.Ytaipbppgebjdeaa.D
