import Derived.Test.YtpgfogmbcfminaaE41
open Go Go.GD Go.Proofs
namespace Go.Proofs.Ytpgfogmbcfminaa.D
abbrev Pump := Int × Int × Int

/-! lists of numbers -/
def hasI (l : List Int) (n : Int) : Bool := l.any (· == n)
theorem has26 (l : List Int) (n : Int) (hl : l.length ≤ maxLen) : D26 l n = some (hasI l n) := by
  rw [e26, f26_1 l n hl, forE_any]
  unfold hasI
  cases l.any (· == n) <;> rfl
theorem cont25 (s : List Int) (v : Int) (hl : s.length ≤ maxLen) : D25 s v = some (hasI s v) := by
  rw [e25, e28, f28_1 s v hl]
  have : (fun (x : Int) => v == x) = (· == v) := by funext x; exact beq_sym v x
  rw [forI_find (fun x => v == x) s 0 (), bindS, findI_ge, this]
  rfl

/-! sums over a choice -/
def sumP (p : Nat → Bool) (f : Pump → Int) : Nat → List Pump → Int
  | _, [] => 0
  | k, x :: xs => (if p k then f x else 0) + sumP p f (k + 1) xs
/-- the same as the program computes it -/
def sumW (p : Nat → Bool) (f : Pump → Int) : Nat → List Pump → Int → Int
  | _, [], s => s
  | k, x :: xs, s => sumW p f (k + 1) xs (if p k then IntKind.i64.wrap (s + f x) else s)
theorem forI_sumW (p : Nat → Bool) (f : Pump → Int) : ∀ (l : List Pump) (k : Nat) (s : Int),
    forI (fun ix el (s : Int) K => bif p ix then K (IntKind.i64.wrap (s + f el)) else K s) (fun s => some s) k l s = some (sumW p f k l s)
  | [], _, _ => rfl
  | x :: xs, k, s => by
    simp only [forI, sumW]
    cases p k with
    | true => exact forI_sumW p f xs (k + 1) _
    | false => exact forI_sumW p f xs (k + 1) _
def hasN (c : List Int) (k : Nat) : Bool := hasI c (k : Int)
theorem flow16 (l : List Pump) (c : List Int) (hl : l.length ≤ maxLen) (hc : c.length ≤ maxLen) : D16 l c = some (sumW (hasN c) (·.2.1) 0 l 0) := by
  rw [e16, f16_1 c 0 l hl]
  simp only [cont25 c _ hc, bindS]
  exact forI_sumW (hasN c) (·.2.1) l 0 0
theorem flow17 (l : List Pump) (c : List Int) (hl : l.length ≤ maxLen) (hc : c.length ≤ maxLen) : D17 l c = some (sumW (hasN c) (·.2.1) 0 l 0) := by
  rw [e17, f17_1 l c 0 hl]
  simp only [has26 c _ hc, bindS]
  exact forI_sumW (hasN c) (·.2.1) l 0 0
theorem power18 (l : List Pump) (c : List Int) (hl : l.length ≤ maxLen) (hc : c.length ≤ maxLen) : D18 l c = some (sumW (hasN c) (·.2.2) 0 l 0) := by
  rw [e18, f18_1 c 0 l hl]
  simp only [cont25 c _ hc, bindS]
  exact forI_sumW (hasN c) (·.2.2) l 0 0
theorem power19 (l : List Pump) (c : List Int) (hl : l.length ≤ maxLen) (hc : c.length ≤ maxLen) : D19 l c = some (sumW (hasN c) (·.2.2) 0 l 0) := by
  rw [e19, f19_1 l c 0 hl]
  simp only [has26 c _ hc, bindS]
  exact forI_sumW (hasN c) (·.2.2) l 0 0
theorem sumW_eq (p : Nat → Bool) (f : Pump → Int) : ∀ (l : List Pump) (k : Nat) (s : Int), (∀ x, x ∈ l → 0 ≤ f x ∧ f x ≤ 100000000) → 0 ≤ s → s + 100000000 * l.length ≤ 1000000000000 →
    sumW p f k l s = s + sumP p f k l
  | [], _, _, _, _, _ => by simp [sumW, sumP]
  | x :: xs, k, s, h, h0, h1 => by
    have hx := h x (List.mem_cons_self ..)
    simp only [List.length_cons] at h1
    simp only [sumW, sumP]
    cases p k with
    | true =>
      simp only [if_true]
      rw [wrap_i64 (by omega) (by omega), sumW_eq p f xs (k + 1) (s + f x) (fun y hy => h y (List.mem_cons_of_mem _ hy)) (by omega) (by omega)]
      omega
    | false =>
      simp only [Bool.false_eq_true, if_false]
      rw [sumW_eq p f xs (k + 1) s (fun y hy => h y (List.mem_cons_of_mem _ hy)) h0 (by omega)]
      omega

/-! the pumps' check -/
def badP (x : Pump) : Bool := decide (x.1 < 1) || (decide (x.1 > 9999) || (decide (x.2.1 < 1) || (decide (x.2.1 > 1000000) || (decide (x.2.2 < 1) || decide (x.2.2 > 100000000)))))
def chk : List Pump → List Pump → Int
  | _, [] => 0
  | pre, x :: xs => if badP x then 2 else if pre.any (fun y => y.1 == x.1) then 7 else chk (pre ++ [x]) xs
theorem bad_chain {ρ : Type} (x : Pump) (r : ρ) (K : Option ρ) :
    (bif decide (x.1 < 1) then some r else bif decide (x.1 > 9999) then some r else bif decide (x.2.1 < 1) then some r else bif decide (x.2.1 > 1000000) then some r
      else bif decide (x.2.2 < 1) then some r else bif decide (x.2.2 > 100000000) then some r else K) = bif badP x then some r else K := by
  unfold badP
  cases decide (x.1 < 1) <;> cases decide (x.1 > 9999) <;> cases decide (x.2.1 < 1) <;> cases decide (x.2.1 > 1000000) <;> cases decide (x.2.2 < 1) <;> cases decide (x.2.2 > 100000000) <;> rfl

theorem mget_mset (v : List (Int × Bool)) (k k' : Int) (b : Bool) : mget (mset v k b) k' = if k' = k then some b else mget v k' := by
  induction v with
  | nil =>
    simp only [mset, mget]
    by_cases h : k' = k
    · simp [h]
    · have : (k' == k) = false := by simpa using h
      simp [h, this]
  | cons p l ih =>
    simp only [mset]
    by_cases h : k = p.1
    · subst h
      by_cases h' : k' = p.1
      · simp [mget, h']
      · have : (k' == p.1) = false := by simpa using h'
        simp [mget, h', this]
    · have : (k == p.1) = false := by simpa using h
      rw [this]
      simp only [cond, mget, ih]
      by_cases h' : k' = p.1
      · have : ¬ p.1 = k := fun e => h e.symm
        simp [h', this]
      · have : (k' == p.1) = false := by simpa using h'
        rw [this]

theorem right11 (l : List Pump) : D11 l = some (if l.length > 8 then 4 else chk [] l) := by
  rw [e11]
  by_cases h : l.length > 8
  · have : decide ((l.length : Int) > 8) = true := decide_eq_true (by omega)
    rw [this, if_pos h]; rfl
  have c : decide ((l.length : Int) > 8) = false := decide_eq_false (by omega)
  rw [c, if_neg h, condF, f11_1 [] l (by rw [maxLen_val]; omega)]
  simp only [bad_chain]
  suffices hs : ∀ (xs pre : List Pump) (v : List (Int × Bool)), (∀ i, Option.getD (mget v i) false = pre.any (fun y => y.1 == i)) → forE _ _ xs v = some (chk pre xs) from
    hs l [] [] (fun i => rfl)
  intro xs
  induction xs with
  | nil => intro pre v _; rfl
  | cons x xs ih =>
    intro pre v hv
    simp only [forE, chk, hv]
    cases badP x with
    | true => rfl
    | false =>
      simp only [cond_false, Bool.false_eq_true, if_false]
      cases hp : pre.any (fun y => y.1 == x.1) with
      | true => rfl
      | false =>
        simp only [cond_false, Bool.false_eq_true, if_false]
        refine ih (pre ++ [x]) _ fun i => ?_
        rw [mget_mset, List.any_append, ← hv i]
        by_cases hi : i = x.1
        · simp [hi]
        · have : (x.1 == i) = false := by simp only [beq_eq_false_iff_ne]; exact fun e => hi e.symm
          simp [hi, this]

theorem inner12 (F : List Pump × Int → Option Int) (l pre post : List Pump) (x : Pump) (hl : l = pre ++ x :: post) (hn : l.length ≤ 8) :
    lp12_1 big F l (pre.length : Int) x 0 = bif pre.any (fun y => y.1 == x.1) then some 7 else F (l, ((pre.length + 1 : Nat) : Int)) := by
  have hlen : pre.length < l.length := by rw [hl]; simp
  rw [f12_1 F l _ x (by omega), Int.toNat_natCast]
  have hw : IntKind.i64.wrap ((pre.length : Int) + 1) = ((pre.length + 1 : Nat) : Int) := wrap_succ hlen (by rw [maxLen_val]; omega)
  rw [hw]
  suffices h : ∀ (j k : Nat), k + j = pre.length → forN (fun ix (_ : Unit) K => ((idx l (ix : Int)).bind fun e1 => bif (e1.1 == x.1) then some 7 else K () : Option Int)) (fun _ => F (l, ((pre.length + 1 : Nat) : Int))) k j () =
      bif (pre.drop k).any (fun y => y.1 == x.1) then some 7 else F (l, ((pre.length + 1 : Nat) : Int)) from by
    have := h pre.length 0 (by omega)
    rwa [List.drop_zero] at this
  intro j
  induction j with
  | zero =>
    intro k hk
    rw [List.drop_eq_nil_of_le (by omega)]
    rfl
  | succ j ih =>
    intro k hk
    have hkp : k < pre.length := by omega
    have hkl : k < l.length := by omega
    have hg : l[k] = pre[k] := by simp only [hl]; rw [List.getElem_append_left hkp]
    rw [List.drop_eq_getElem_cons hkp]
    simp only [forN, idx_get hkl, bindS, hg, List.any_cons]
    cases hx : (pre[k].1 == x.1) with
    | true => rfl
    | false =>
      simp only [cond_false, Bool.false_or]
      exact ih (k + 1) (by omega)

theorem right12 (l : List Pump) : D12 l = some (if l.length > 8 then 4 else chk [] l) := by
  rw [e12]
  by_cases h : l.length > 8
  · have : decide ((l.length : Int) > 8) = true := decide_eq_true (by omega)
    rw [this, if_pos h]; rfl
  have c : decide ((l.length : Int) > 8) = false := decide_eq_false (by omega)
  rw [c, if_neg h, condF]
  unfold lp12_3
  refine (iter_nat l.length (fun k (_ : Unit) => (l, (k : Int))) (fun k _ => k ≤ l.length) (fun k _ => chk (l.take k) (l.drop k)) ?_ ?_ (by unfold big; omega) () (Nat.zero_le _)).trans (by rw [List.take_zero, List.drop_zero])
  · intro F k hk s hI hF
    have hw := hF () (by omega)
    obtain ⟨pre, hpre⟩ : ∃ p, p = l.take k := ⟨_, rfl⟩
    have hpl : pre.length = k := by rw [hpre, List.length_take]; omega
    have hd : l.drop k = l[k] :: l.drop (k + 1) := List.drop_eq_getElem_cons hk
    have hsplit : l = pre ++ l[k] :: l.drop (k + 1) := by rw [hpre, ← hd, List.take_append_drop]
    have htk : l.take (k + 1) = pre ++ [l[k]] := by rw [hpre, List.take_add_one, List.getElem?_eq_getElem hk]; rfl
    have hin := inner12 F l pre (l.drop (k + 1)) l[k] hsplit (by omega)
    rw [hpl] at hin
    simp only [dec_lt hk, condT, idx_get hk, bindS, bad_chain, hin, hw]
    rw [hd, ← hpre, htk]
    simp only [chk]
    cases badP l[k] with
    | true => rfl
    | false => cases pre.any (fun y => y.1 == l[k].1) <;> rfl
  · intro F s hI
    simp only [dec_end, condF]
    rw [List.drop_length]
    rfl

theorem law3' (l : List Pump) : D3 l = some true := by
  rw [e3, aliveD]
  simp only [bindS, Bool.not_true, condF, right11, right12, beq_self_eq_true]
  cases decide ((l.length : Int) > 30) <;> rfl
theorem law3 (x : (pk ps3).den) (_ : Valid (pk ps3) x) : d3 x = some true := law3' x

theorem chk_good : ∀ (xs pre : List Pump), chk pre xs = 0 → ∀ x, x ∈ xs → badP x = false
  | [], _, _, x, hx => by cases hx
  | y :: xs, pre, h, x, hx => by
    simp only [chk] at h
    cases hb : badP y with
    | true => rw [hb] at h; simp at h
    | false =>
      rw [hb] at h
      simp only [Bool.false_eq_true, if_false] at h
      split at h
      · simp at h
      · rcases List.mem_cons.1 hx with rfl | hx
        · exact hb
        · exact chk_good xs _ h x hx
theorem badP_false {x : Pump} (h : badP x = false) : 1 ≤ x.2.1 ∧ x.2.1 ≤ 1000000 ∧ 1 ≤ x.2.2 ∧ x.2.2 ≤ 100000000 := by
  unfold badP at h
  simp only [Bool.or_eq_false_iff, decide_eq_false_iff_not] at h
  omega

theorem law5' (l : List Pump) (c : List Int) : D5 l c = some true := by
  rw [e5, aliveD]
  simp only [bindS, Bool.not_true, condF, right12]
  by_cases h0 : (if l.length > 8 then 4 else chk [] l : Int) = 0
  · have hn : l.length ≤ 8 := by
      by_cases h : l.length > 8
      · rw [if_pos h] at h0; cases h0
      · omega
    rw [h0]
    simp only [bne_self_eq_false, condF]
    by_cases hc : c.length > 60
    · have : decide ((c.length : Int) > 60) = true := decide_eq_true (by omega)
      rw [this, condT]
    · have : decide ((c.length : Int) > 60) = false := decide_eq_false (by omega)
      have h1 : l.length ≤ maxLen := by rw [maxLen_val]; omega
      have h2 : c.length ≤ maxLen := by rw [maxLen_val]; omega
      rw [this, condF, flow16 l c h1 h2, flow17 l c h1 h2, power18 l c h1 h2, power19 l c h1 h2]
      simp
  · have : ((if l.length > 8 then 4 else chk [] l : Int) != 0) = true := by simpa using h0
    rw [this, condT]
theorem law5 (x : (pk ps5).den) (_ : Valid (pk ps5) x) : d5 x = some true := law5' x.1 x.2
end Go.Proofs.Ytpgfogmbcfminaa.D
