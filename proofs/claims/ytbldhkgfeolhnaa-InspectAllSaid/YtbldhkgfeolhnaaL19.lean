import Derived.Test.YtbldhkgfeolhnaaE19
open Go Go.GD Go.Proofs
namespace Go.Proofs.Ytbldhkgfeolhnaa.D
abbrev Ck := List Int × Int × List Sg
theorem hasR (l : List Int) (n : Int) (hl : l.length ≤ maxLen) : D30 l n = some (l.any (· == n)) := by
  rw [e30, f30_1 l n hl, forE_any]
  cases l.any (· == n) <;> rfl
theorem contI (s : List Int) (v : Int) (hl : s.length ≤ maxLen) : D28 s v = some (s.any (· == v)) := by
  rw [e28, e37, f37_1 s v hl]
  have : (fun (x : Int) => v == x) = (· == v) := by funext x; exact beq_sym v x
  rw [forI_find (fun x => v == x) s 0 ()]
  simp only [bindS]
  rw [findI_ge, this]
theorem inR (n lo hi : Int) : D29 n lo hi = some (bif decide (n < lo) then false else !decide (n > hi)) := by
  rw [e29]
  by_cases h : n < lo
  · have h1 : decide (n < lo) = true := decide_eq_true h
    have h2 : decide (n ≥ lo) = false := decide_eq_false (by omega)
    rw [h1, h2]; rfl
  · have h1 : decide (n < lo) = false := decide_eq_false h
    have h2 : decide (n ≥ lo) = true := decide_eq_true (by omega)
    rw [h1, h2]
    by_cases h' : n > hi
    · have h3 : decide (n > hi) = true := decide_eq_true h'
      have h4 : decide (n ≤ hi) = false := decide_eq_false (by omega)
      rw [h3, h4]; rfl
    · have h3 : decide (n > hi) = false := decide_eq_false h'
      have h4 : decide (n ≤ hi) = true := decide_eq_true (by omega)
      rw [h3, h4]; rfl
theorem rightIR (l : Ck) : D12 l = D13 l ∧ Tot (D12 l) := by
  rw [e12, e13]
  cases h1 : decide ((l.1.length : Int) > 64) with
  | true => exact ⟨rfl, tot_some _⟩
  | false =>
  cases h2 : decide ((l.2.2.length : Int) > 200) with
  | true => exact ⟨rfl, tot_some _⟩
  | false =>
  simp only [decide_eq_false_iff_not] at h1 h2
  rw [f12_3 l l.1 (by rw [maxLen_val]; omega), f13_3 l (by rw [maxLen_val]; omega), f12_1 l l.2.2 (by rw [maxLen_val]; omega), f13_1 l (by rw [maxLen_val]; omega)]
  simp only [condF, inR, bindS]
  have e1 : ∀ (u : Unit), forI (fun ix el (_ : Unit) K => ((D28 l.1 el.1).bind fun r => bif (!r) then some 8 else bif decide (el.2.1 < 1) then some 17 else bif decide (el.2.1 > 9999) then some 17 else bif decide (el.2.2 < 0) then some 2
        else bif decide (el.2.2 > 20000000) then some 2 else bif decide ((ix : Int) > 0) then ((idx l.2.2 (IntKind.i64.wrap ((ix : Int) - 1))).bind fun e1 => bif decide (el.2.2 < e1.2.2) then some 11 else K ()) else K () : Option Int)) (fun (_ : Unit) => some 0) 0 l.2.2 u =
      forI (fun ix el (_ : Unit) K => ((D30 l.1 el.1).bind fun r1 => bif (!r1) then some 8 else bif (!(bif decide (el.2.1 < 1) then false else !decide (el.2.1 > 9999))) then some 17 else bif (!(bif decide (el.2.2 < 0) then false else !decide (el.2.2 > 20000000))) then some 2
        else bif decide ((ix : Int) > 0) then ((idx l.2.2 (IntKind.i64.wrap ((ix : Int) - 1))).bind fun e1 => bif decide (el.2.2 < e1.2.2) then some 11 else K ()) else K () : Option Int)) (fun (_ : Unit) => some 0) 0 l.2.2 u := fun u => by
    refine forI_congr _ _ (fun i h s K => ?_) (fun _ => rfl) u
    rw [hasR _ _ (by rw [maxLen_val]; omega), contI _ _ (by rw [maxLen_val]; omega)]
    simp only [bindS]
    cases decide ((l.2.2[i]).2.1 < 1) <;> cases decide ((l.2.2[i]).2.1 > 9999) <;> cases decide ((l.2.2[i]).2.2 < 0) <;> cases decide ((l.2.2[i]).2.2 > 20000000) <;> rfl
  have t1 : ∀ u, Tot (forI (fun ix el (_ : Unit) K => ((D28 l.1 el.1).bind fun r => bif (!r) then some 8 else bif decide (el.2.1 < 1) then some 17 else bif decide (el.2.1 > 9999) then some 17 else bif decide (el.2.2 < 0) then some 2
        else bif decide (el.2.2 > 20000000) then some 2 else bif decide ((ix : Int) > 0) then ((idx l.2.2 (IntKind.i64.wrap ((ix : Int) - 1))).bind fun e1 => bif decide (el.2.2 < e1.2.2) then some 11 else K ()) else K () : Option Int)) (fun (_ : Unit) => some 0) 0 l.2.2 u) := fun u => by
    refine tot_forI (fun _ => tot_some _) _ 0 (fun i h s K hK => ?_) u
    rw [contI _ _ (by rw [maxLen_val]; omega), bindS]
    refine tot_bif (fun _ => tot_some _) fun _ => tot_bif (fun _ => tot_some _) fun _ => tot_bif (fun _ => tot_some _) fun _ => tot_bif (fun _ => tot_some _) fun _ => tot_bif (fun _ => tot_some _) fun _ => tot_bif (fun hi => ?_) fun _ => hK _
    simp only [Nat.zero_add, decide_eq_true_eq] at hi
    rw [Nat.zero_add, wrap_i64 (by omega) (by omega)]
    exact tot_bind (tot_idx (by omega) (by omega)) fun x _ => tot_bif (fun _ => tot_some _) fun _ => hK _
  cases h3 : decide (l.2.1 < 1) with
  | true => exact ⟨rfl, tot_some _⟩
  | false =>
  cases h4 : decide (l.2.1 > 604800) with
  | true => exact ⟨rfl, tot_some _⟩
  | false =>
  simp only [condF, Bool.not_false, Bool.not_true]
  constructor
  · refine forI_congr _ _ (fun i h s K => ?_) (fun _ => e1 ()) ()
    have hlt : (List.drop (Int.toNat 0) (List.take (Int.toNat ((0 + i : Nat) : Int)) l.1)).length ≤ maxLen := by rw [maxLen_val]; simp; omega
    rw [hasR _ _ hlt, contI _ _ hlt]
    simp only [bindS]
    cases decide (l.1[i] < 1) <;> cases decide (l.1[i] > 9999) <;> rfl
  · refine tot_forI (fun _ => t1 ()) _ 0 (fun i h s K hK => ?_) ()
    have hlt : (List.drop (Int.toNat 0) (List.take (Int.toNat ((0 + i : Nat) : Int)) l.1)).length ≤ maxLen := by rw [maxLen_val]; simp; omega
    rw [contI _ _ hlt]
    refine tot_bif (fun _ => tot_some _) fun _ => tot_bif (fun _ => tot_some _) fun _ => ?_
    have hc : (decide (0 ≤ (0 : Int)) && (decide ((0 : Int) ≤ ((0 + i : Nat) : Int)) && decide (((0 + i : Nat) : Int) ≤ (l.1.length : Int)))) = true := by
      simp only [Bool.and_eq_true, decide_eq_true_eq]; omega
    rw [hc, condT, bindS]
    exact tot_bif (fun _ => tot_some _) fun _ => hK _

theorem limOk {a b k : Nat} (hb : 0 < k) (h : (a + b) * k ≤ 1000000000) : (Nat.ble ((a + b) * k) appendLimit && Nat.ble (a + b) 9223372036854775807) = true :=
  grows (Nat.le_trans h (by decide)) hb
def SmC (l : Ck) : Prop := l.1.length ≤ 1000 ∧ l.2.2.length ≤ 1000
theorem cloneI (s : List Int) (h : s.length ≤ 1000) : D31 s = some s := by
  rw [e31, limOk (by decide) (by simp; omega)]; rfl
theorem sameInts (l : List Int) (h : l.length ≤ 1000) : D19 l l = some true := by
  rw [e19, bne_self_eq_false, condF, f19_1 l l (by rw [maxLen_val]; omega)]
  refine forI_inv (fun _ => ()) (fun r => r = some true) l (fun pre x post e K hK => ?_) rfl rfl
  have hk : pre.length < l.length := by rw [e]; simp
  have hx : l[pre.length] = x := by simp [e]
  rw [idx_get hk, hx]
  simp only [bindS, bne_self_eq_false, condF]
  exact hK
theorem sameC (l : Ck) (h : SmC l) : D16 l l = some true := by
  rw [e16, bne_self_eq_false, condF, bne_self_eq_false, condF, sameInts _ h.1, bindS, Bool.not_true, condF, f16_1 l l (by have := h.2; rw [maxLen_val]; omega)]
  refine forI_inv (fun _ => ()) (fun r => r = some true) l.2.2 (fun pre x post e K hK => ?_) rfl rfl
  have hk : pre.length < l.2.2.length := by rw [e]; simp
  have hx : l.2.2[pre.length] = x := by simp [e]
  rw [idx_get hk, hx]
  simp only [bindS, beq_self_eq_true, Bool.and_self, Bool.not_true, condF]
  exact hK
def signed (l : Ck) (item by_ t : Int) : Ck := (l.1, l.2.1, l.2.2.filter (fun g => g.1 != item) ++ [(item, by_, t)])
theorem signed_sm {l : Ck} (item by_ t : Int) (h : l.1.length ≤ 900 ∧ l.2.2.length ≤ 900) : SmC (signed l item by_ t) := by
  have := List.length_filter_le (fun (g : Sg) => g.1 != item) l.2.2
  refine ⟨by show l.1.length ≤ 1000; omega, ?_⟩
  simp only [signed, List.length_append, List.length_singleton]
  omega
theorem signI (l : Ck) (item by_ t : Int) (h : l.1.length ≤ 900 ∧ l.2.2.length ≤ 900) :
    D14 l item by_ t = (D12 (signed l item by_ t)).bind fun r1 => bif (r1 != 0) then some (([], 0, []), r1) else some (signed l item by_ t, 0) := by
  rw [e14, cloneI _ (by omega), bindS, f14_1 _ _ _ _ _ _ (by rw [maxLen_val]; omega)]
  refine forE_inv (fun pre => (l.1, l.2.1, pre.filter (fun g => g.1 != item))) (fun r => r = _) l.2.2 (fun pre x post e K hK => ?_) ?_ rfl
  · have hl : pre.length + 1 + post.length = l.2.2.length := by rw [e]; simp; omega
    have := List.length_filter_le (fun (g : Sg) => g.1 != item) pre
    rw [List.filter_append] at hK
    cases hx : x.1 != item with
    | true =>
      rw [condT, limOk (by decide) (by simp only [List.length_singleton]; omega), condT]
      simp only [List.filter_cons, hx, if_true, List.filter_nil] at hK
      exact hK
    | false =>
      simp only [List.filter_cons, hx, Bool.false_eq_true, if_false, List.filter_nil, List.append_nil] at hK
      rw [condF]
      exact hK
  · have := List.length_filter_le (fun (g : Sg) => g.1 != item) l.2.2
    rw [limOk (by decide) (by simp only [List.length_singleton]; omega)]
    rfl
theorem signR (l : Ck) (item by_ t : Int) (h : l.1.length ≤ 900 ∧ l.2.2.length ≤ 900) :
    D15 l item by_ t = (D13 (signed l item by_ t)).bind fun r1 => bif (r1 != 0) then some (([], 0, []), r1) else some (signed l item by_ t, 0) := by
  rw [e15, f15_3 _ _ _ _ _ _ (by rw [maxLen_val]; omega)]
  have hin : lp15_1 big item by_ t l ([], 0, []) (l.1, l.2.1, []) 0 = (D13 (signed l item by_ t)).bind fun r1 => bif (r1 != 0) then some (([], 0, []), r1) else some (signed l item by_ t, 0) := by
    rw [f15_1 _ _ _ _ _ _ (by rw [maxLen_val]; omega)]
    refine forE_inv (fun pre => (l.1, l.2.1, pre.filter (fun g => g.1 != item))) (fun r => r = _) l.2.2 (fun pre x post e K hK => ?_) ?_ rfl
    · have hl : pre.length + 1 + post.length = l.2.2.length := by rw [e]; simp; omega
      have := List.length_filter_le (fun (g : Sg) => g.1 != item) pre
      rw [List.filter_append] at hK
      cases hx : x.1 != item with
      | true =>
        rw [condT, limOk (by decide) (by simp only [List.length_singleton]; omega), condT]
        simp only [List.filter_cons, hx, if_true, List.filter_nil] at hK
        exact hK
      | false =>
        simp only [List.filter_cons, hx, Bool.false_eq_true, if_false, List.filter_nil, List.append_nil] at hK
        rw [condF]
        exact hK
    · have := List.length_filter_le (fun (g : Sg) => g.1 != item) l.2.2
      rw [limOk (by decide) (by simp only [List.length_singleton]; omega)]
      rfl
  refine forE_inv (fun pre => (pre, l.2.1, ([] : List Sg))) (fun r => r = _) l.1 (fun pre x post e K hK => ?_) hin rfl
  have hl : pre.length + 1 + post.length = l.1.length := by rw [e]; simp; omega
  rw [limOk (by decide) (by simp only [List.length_singleton]; omega), condT]
  exact hK

theorem forI_pass {α ρ : Type} {body : Nat → α → Unit → (Unit → Option ρ) → Option ρ} {fin : Unit → Option ρ} {r : ρ} (good : Nat → α → Prop) : ∀ (xs : List α) (k : Nat),
    (∀ i (h : i < xs.length) K, body (k + i) xs[i] () K = some r → good (k + i) xs[i] ∧ K () = some r) → forI body fin k xs () = some r → (∀ i (h : i < xs.length), good (k + i) xs[i]) ∧ fin () = some r
  | [], _, _, h => ⟨fun i hi => by simp at hi, h⟩
  | x :: xs, k, hb, h => by
    have h0 := hb 0 (by simp) _ h
    have hr := forI_pass good xs (k + 1) (fun i hi K hK => by
      have := hb (i + 1) (by simpa using hi) K (by rw [show k + (i + 1) = k + 1 + i by omega]; simpa using hK)
      rw [show k + (i + 1) = k + 1 + i by omega] at this
      simpa using this) h0.2
    refine ⟨fun i hi => ?_, hr.2⟩
    cases i with
    | zero => exact h0.1
    | succ i =>
      have := hr.1 i (by simpa using hi)
      rw [show k + 1 + i = k + (i + 1) by omega] at this
      simpa using this
theorem pass_bif {ρ : Type} {c : Bool} {a r : ρ} {b : Option ρ} (h : (bif c then some a else b) = some r) (hne : a ≠ r) : c = false ∧ b = some r := by
  cases c with
  | true => exact absurd (Option.some.inj h) hne
  | false => exact ⟨rfl, h⟩
def Rng (l : Ck) : Prop := l.1.length ≤ 64 ∧ l.2.2.length ≤ 200 ∧ 1 ≤ l.2.1 ∧ l.2.1 ≤ 604800 ∧ ∀ g, g ∈ l.2.2 → 0 ≤ g.2.2 ∧ g.2.2 ≤ 20000000
theorem in_rng {n lo hi : Int} (h : (!(bif decide (n < lo) then false else !decide (n > hi))) = false) : lo ≤ n ∧ n ≤ hi := by
  cases h1 : decide (n < lo) with
  | true => rw [h1] at h; cases h
  | false =>
    cases h2 : decide (n > hi) with
    | true => rw [h1, h2] at h; cases h
    | false => simp only [decide_eq_false_iff_not] at h1 h2; omega
theorem rng_of (l : Ck) (h : D13 l = some 0) : Rng l := by
  rw [e13] at h
  obtain ⟨h1, h⟩ := pass_bif h (by decide)
  obtain ⟨h2, h⟩ := pass_bif h (by decide)
  simp only [decide_eq_false_iff_not] at h1 h2
  rw [inR, bindS] at h
  obtain ⟨h3, h⟩ := pass_bif h (by decide)
  have h3 := in_rng h3
  rw [f13_3 l (by rw [maxLen_val]; omega)] at h
  obtain ⟨_, h⟩ := forI_pass (fun _ _ => True) l.1 0 (fun i hi K hK => by
    rw [inR, bindS] at hK
    obtain ⟨_, hK⟩ := pass_bif hK (by decide)
    refine ⟨trivial, ?_⟩
    have hlt : (List.drop (Int.toNat 0) (List.take (Int.toNat ((0 + i : Nat) : Int)) l.1)).length ≤ maxLen := by rw [maxLen_val]; simp; omega
    rw [hasR _ _ hlt, bindS] at hK
    cases hc : (decide (0 ≤ (0 : Int)) && (decide ((0 : Int) ≤ ((0 + i : Nat) : Int)) && decide (((0 + i : Nat) : Int) ≤ (l.1.length : Int)))) with
    | false => rw [hc] at hK; cases hK
    | true =>
      rw [hc, condT] at hK
      exact (pass_bif hK (by decide)).2) h
  rw [f13_1 l (by rw [maxLen_val]; omega)] at h
  obtain ⟨g, _⟩ := forI_pass (fun _ (x : Sg) => 0 ≤ x.2.2 ∧ x.2.2 ≤ 20000000) l.2.2 0 (fun i hi K hK => by
    rw [hasR _ _ (by rw [maxLen_val]; omega), bindS] at hK
    obtain ⟨_, hK⟩ := pass_bif hK (by decide)
    rw [inR, bindS] at hK
    obtain ⟨_, hK⟩ := pass_bif hK (by decide)
    rw [inR, bindS] at hK
    obtain ⟨hg, hK⟩ := pass_bif hK (by decide)
    refine ⟨in_rng hg, ?_⟩
    cases hd : decide (((0 + i : Nat) : Int) > 0) with
    | false => rw [hd, condF] at hK; exact hK
    | true =>
      rw [hd, condT] at hK
      cases hx : idx l.2.2 (IntKind.i64.wrap (((0 + i : Nat) : Int) - 1)) with
      | none => rw [hx] at hK; cases hK
      | some e =>
        rw [hx, bindS] at hK
        exact (pass_bif hK (by decide)).2) h
  refine ⟨by omega, by omega, h3.1, h3.2, fun r hr => ?_⟩
  obtain ⟨i, hi, rfl⟩ := List.getElem_of_mem hr
  exact g i hi

def valid (l : Ck) (item t : Int) (g : Sg) : Bool := bif g.1 == item then (bif decide (g.2.2 ≤ t) then decide (t < g.2.2 + l.2.1) else false) else false
theorem validI (l : Ck) (item t : Int) (g : Sg) (h : Rng l) (hg : g ∈ l.2.2) : D33 g item t l = some (valid l item t g) := by
  obtain ⟨_, _, h1, h2, h3⟩ := h
  have := h3 g hg
  rw [e33, wrap_i64 (by omega) (by omega), valid]
  cases g.1 == item <;> cases decide (g.2.2 ≤ t) <;> rfl
theorem anyI (s : List Sg) (f : Sg → Option Bool) (b : Sg → Bool) (hf : ∀ x, x ∈ s → f x = some (b x)) (hl : s.length ≤ maxLen) : D34 s f = some (s.any b) := by
  rw [e34, e39, f39_1 s f hl]
  have := forI_congr (body := fun ix el (_ : Unit) K => ((f el).bind fun r => bif r then some (ix : Int) else K () : Option Int)) (body' := fun ix el (s : Unit) K => bif b el then some (ix : Int) else K s) (fin := fun (_ : Unit) => some (-1)) (fin' := fun _ => some (-1)) s 0
    (fun i h u K => by rw [hf _ (List.getElem_mem h), bindS]) (fun _ => rfl) ()
  rw [this, forI_find b s 0 (), bindS, findI_ge]
theorem endR (l : Ck) (item t : Int) (h : Rng l) : ∃ r, D35 l item t = some r ∧ (r == t) = !l.2.2.any (valid l item t) := by
  obtain ⟨_, hl, h1, h2, h3⟩ := h
  rw [e35, f35_1 _ _ _ _ (by rw [maxLen_val]; omega)]
  suffices key : ∀ (ys : List Sg), (∀ g, g ∈ ys → 0 ≤ g.2.2 ∧ g.2.2 ≤ 20000000) → ∀ out, t ≤ out → ∃ r, forE _ _ ys out = some r ∧ (r == t) = ((out == t) && !ys.any (valid l item t)) from by
    obtain ⟨r, hr, he⟩ := key l.2.2 h3 t (Int.le_refl _)
    exact ⟨r, hr, by rw [he, beq_self_eq_true, Bool.true_and]⟩
  intro ys
  induction ys with
  | nil => intro _ out ho; exact ⟨out, rfl, by simp⟩
  | cons g ys ih =>
    intro hg out ho
    have hgr := hg g (List.mem_cons_self ..)
    have ih := ih (fun x hx => hg x (List.mem_cons_of_mem _ hx))
    rw [forE, wrap_i64 (n := g.2.2 + l.2.1) (by omega) (by omega), List.any_cons]
    cases c1 : g.1 == item with
    | false =>
      have hv : valid l item t g = false := by rw [valid, c1]; rfl
      rw [hv, Bool.false_or]
      exact ih out ho
    | true =>
      cases c2 : decide (g.2.2 ≤ t) with
      | false =>
        have hv : valid l item t g = false := by rw [valid, c1, c2]; rfl
        rw [hv, Bool.false_or]
        exact ih out ho
      | true =>
        cases c3 : decide (t < g.2.2 + l.2.1) with
        | false =>
          have hv : valid l item t g = false := by rw [valid, c1, c2, c3]; rfl
          rw [hv, Bool.false_or]
          exact ih out ho
        | true =>
          have hv : valid l item t g = true := by rw [valid, c1, c2, c3]; rfl
          have hlt := of_decide_eq_true c3
          rw [hv, Bool.true_or, Bool.not_true, Bool.and_false]
          have hne : ∀ o : Int, t < o → (o == t) = false := fun o ho => by simp; omega
          cases c4 : decide (g.2.2 + l.2.1 > out) with
          | true =>
            obtain ⟨r, hr, he⟩ := ih (g.2.2 + l.2.1) (by omega)
            exact ⟨r, hr, by rw [he, hne _ hlt, Bool.false_and]⟩
          | false =>
            simp only [decide_eq_false_iff_not] at c4
            obtain ⟨r, hr, he⟩ := ih out ho
            exact ⟨r, hr, by rw [he, hne out (by omega), Bool.false_and]⟩
def openC (l : Ck) (t : Int) : List Int := l.1.filter fun it => !l.2.2.any (valid l it t)
theorem openI (l : Ck) (t : Int) (h : Rng l) : D20 l t = some (openC l t) := by
  have hl := h.1
  have hl2 := h.2.1
  rw [e20, f20_1 _ _ _ _ (by rw [maxLen_val]; omega)]
  refine forE_inv (fun pre => pre.filter fun it => !l.2.2.any (valid l it t)) (fun r => r = _) l.1 (fun pre x post e K hK => ?_) rfl rfl
  have hlen : pre.length + 1 + post.length = l.1.length := by rw [e]; simp; omega
  have := List.length_filter_le (fun it => !l.2.2.any (valid l it t)) pre
  rw [anyI _ _ (valid l x t) (fun g hg => validI l x t g h hg) (by rw [maxLen_val]; omega), bindS]
  rw [List.filter_append] at hK
  cases hx : !l.2.2.any (valid l x t) with
  | true =>
    rw [condT, limOk (by decide) (by simp only [List.length_singleton]; omega), condT]
    simp only [List.filter_cons, hx, if_true, List.filter_nil] at hK
    exact hK
  | false =>
    simp only [List.filter_cons, hx, Bool.false_eq_true, if_false, List.filter_nil, List.append_nil] at hK
    rw [condF]
    exact hK
theorem openR (l : Ck) (t : Int) (h : Rng l) : D21 l t = some (openC l t) := by
  have hl := h.1
  rw [e21, f21_1 _ _ _ (by rw [maxLen_val]; omega)]
  refine forE_inv (fun pre => pre.filter fun it => !l.2.2.any (valid l it t)) (fun r => r = _) l.1 (fun pre x post e K hK => ?_) rfl rfl
  have hlen : pre.length + 1 + post.length = l.1.length := by rw [e]; simp; omega
  have := List.length_filter_le (fun it => !l.2.2.any (valid l it t)) pre
  obtain ⟨r, hr, he⟩ := endR l x t h
  rw [hr, bindS, he]
  rw [List.filter_append] at hK
  cases hx : !l.2.2.any (valid l x t) with
  | true =>
    rw [condT, limOk (by decide) (by simp only [List.length_singleton]; omega), condT]
    simp only [List.filter_cons, hx, if_true, List.filter_nil] at hK
    exact hK
  | false =>
    simp only [List.filter_cons, hx, Bool.false_eq_true, if_false, List.filter_nil, List.append_nil] at hK
    rw [condF]
    exact hK
def doneC (l : Ck) (t : Int) : Bool := ((openC l t).length : Int) == 0
theorem doneI (l : Ck) (t : Int) (h : Rng l) : D22 l t = some (doneC l t) := by rw [e22, openI l t h, bindS]; rfl
theorem doneR (l : Ck) (t : Int) (h : Rng l) : D23 l t = some (doneC l t) := by rw [e23, openR l t h, bindS]; rfl

theorem done_iff (l : Ck) (t : Int) : doneC l t = true ↔ ∀ it, it ∈ l.1 → l.2.2.any (valid l it t) = true := by
  unfold doneC openC
  constructor
  · intro h it hit
    have h : (l.1.filter fun it => !l.2.2.any (valid l it t)) = [] := List.eq_nil_of_length_eq_zero (by simpa using h)
    have := List.filter_eq_nil_iff.1 h it hit
    simpa using this
  · intro h
    have : (l.1.filter fun it => !l.2.2.any (valid l it t)) = [] := List.filter_eq_nil_iff.2 fun it hit => by simp [h it hit]
    rw [this]; rfl
theorem done_signed (l : Ck) (a b c t : Int) (hc : c ≤ t) (hlate : ∀ g, g ∈ l.2.2 → g.2.2 ≤ c) (h : doneC l t = true) : doneC (signed l a b c) t = true := by
  rw [done_iff] at h ⊢
  intro it hit
  have := h it hit
  obtain ⟨g, hg, hv⟩ := List.any_eq_true.1 this
  have hgc := hlate g hg
  unfold valid at hv
  cases h1 : g.1 == it with
  | false => rw [h1] at hv; cases hv
  | true =>
  cases h2 : decide (g.2.2 ≤ t) with
  | false => rw [h1, h2] at hv; cases hv
  | true =>
    rw [h1, h2] at hv
    have hv := of_decide_eq_true hv
    refine List.any_eq_true.2 ?_
    by_cases hq : it = a
    · refine ⟨(a, b, c), List.mem_append_right _ (List.mem_singleton.2 rfl), ?_⟩
      subst hq
      unfold valid
      rw [show ((it, b, c) : Sg).1 = it from rfl, beq_self_eq_true, decide_eq_true (show ((it, b, c) : Sg).2.2 ≤ t from hc)]
      exact decide_eq_true (show t < c + l.2.1 by omega)
    · refine ⟨g, List.mem_append_left _ (List.mem_filter.2 ⟨hg, ?_⟩), ?_⟩
      · rw [beq_iff_eq] at h1
        rw [h1]; simpa using hq
      · unfold valid
        rw [h1, h2]
        exact decide_eq_true hv
end Go.Proofs.Ytbldhkgfeolhnaa.D
