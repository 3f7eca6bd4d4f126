import Derived.Test.YtchgholmoclbhaaE58
open Go Go.GD Go.Proofs
namespace Go.Proofs.Ytchgholmoclbhaa.D
abbrev M := Int × Int × List Int
abbrev Net := List Int × List M
abbrev Op := Int × Int × Int × List Int × List Int
def zM : M := (0, 0, [])
def zN : Net := ([], [])

/-! what the calls compute -/
def site (n : Net) (a : Int) : Bool := bif decide (a ≥ 0) then decide (a < (n.1.length : Int)) else false
def part (n : Net) (a : Int) : Int := n.1.getD a.toNat 0
def can (n : Net) (a b : Int) : Bool := bif site n a then (bif site n b then part n a == part n b else false) else false
def msgE (n : Net) (f t : Int) (b : List Int) : Int := bif !site n f then 8 else bif !site n t then 8 else bif f == t then 1 else bif decide ((b.length : Int) > 2000) then 4 else 0
def send (n : Net) (f t : Int) (b : List Int) : Net × Int := bif msgE n f t b != 0 then (zN, msgE n f t b) else bif decide ((n.2.length : Int) ≥ 256) then (zN, 9) else ((n.1, n.2 ++ [(f, t, b)]), 0)
def at_ (n : Net) (i : Int) : M := n.2.getD i.toNat zM
def gone (n : Net) (i : Int) : Net := (n.1, n.2.take i.toNat ++ n.2.drop (i.toNat + 1))
def deliver (n : Net) (i : Int) : Net × M × Int := bif decide (i < 0) then (zN, zM, 8) else bif decide (i ≥ (n.2.length : Int)) then (zN, zM, 8) else bif !can n (at_ n i).1 (at_ n i).2.1 then (zN, zM, 13) else (gone n i, at_ n i, 0)
def lose (n : Net) (i : Int) : Net × Int := bif decide (i < 0) then (zN, 8) else bif decide (i ≥ (n.2.length : Int)) then (zN, 8) else (gone n i, 0)
def copy (n : Net) (i : Int) : Net × Int := bif decide (i < 0) then (zN, 8) else bif decide (i ≥ (n.2.length : Int)) then (zN, 8) else bif decide ((n.2.length : Int) ≥ 256) then (zN, 9) else ((n.1, n.2 ++ [at_ n i]), 0)
def okP (l : List Int) : Bool := l.all fun x => bif decide (x < 0) then false else !decide (x > 16)
def split (n : Net) (l : List Int) : Net × Int := bif (l.length : Int) != (n.1.length : Int) then (zN, 1) else bif !okP l then (zN, 1) else ((l, n.2), 0)
def step (n : Net) (o : Op) : Net × M × Int :=
  bif o.1 == 0 then ((send n o.2.1 o.2.2.1 o.2.2.2.1).1, zM, (send n o.2.1 o.2.2.1 o.2.2.2.1).2)
  else bif o.1 == 1 then deliver n o.2.1
  else bif o.1 == 2 then ((lose n o.2.1).1, zM, (lose n o.2.1).2)
  else bif o.1 == 3 then ((copy n o.2.1).1, zM, (copy n o.2.1).2)
  else ((split n o.2.2.2.2).1, zM, (split n o.2.2.2.2).2)

/-- networks within the bounds of the statements -/
def Sm (n : Net) : Prop := n.1.length ≤ 1000 ∧ n.2.length ≤ 1000 ∧ ∀ m, m ∈ n.2 → m.2.2.length ≤ 3000
def SmO (o : Op) : Prop := o.2.2.2.1.length ≤ 3000 ∧ o.2.2.2.2.length ≤ 40

theorem idx_at {α : Type} (z : α) (l : List α) (i : Int) (h0 : 0 ≤ i) (h : i < l.length) : idx l i = some (l.getD i.toNat z) := by
  obtain ⟨k, rfl⟩ := Int.eq_ofNat_of_zero_le h0
  have hk : k < l.length := by omega
  rw [idx_get hk]
  simp [List.getD, hk]

theorem limOk {a b k : Nat} (hb : 0 < k) (h : (a + b) * k ≤ 1000000000) : (Nat.ble ((a + b) * k) appendLimit && Nat.ble (a + b) 9223372036854775807) = true :=
  grows (Nat.le_trans h (by decide)) hb

theorem s32 (n : Net) (a : Int) : D32 n a = some (site n a) := by
  rw [e32, site]; cases decide (a ≥ 0) <;> rfl
theorem s44 (n : Net) (a : Int) : D44 n a = some (site n a) := by
  rw [e44, site]; cases decide (a ≥ 0) <;> rfl
theorem site_idx {n : Net} {a : Int} (h : site n a = true) : idx n.1 a = some (part n a) := by
  unfold site at h
  cases h0 : decide (a ≥ 0) with
  | false => rw [h0] at h; cases h
  | true =>
    rw [h0] at h
    simp only [cond_true, decide_eq_true_eq] at h h0
    exact idx_at 0 n.1 a h0 h
theorem can18 (n : Net) (a b : Int) : D18 n a b = some (can n a b) := by
  rw [e18, s32, s32, can]
  simp only [bindS]
  cases ha : site n a with
  | false => rfl
  | true =>
    cases hb : site n b with
    | false => rfl
    | true => simp only [condT, site_idx ha, site_idx hb, bindS]
theorem can42 (n : Net) (a b : Int) : D42 n a b = some (can n a b) := by
  rw [e42, s44, s44, can]
  simp only [bindS]
  cases ha : site n a with
  | false => rfl
  | true =>
    cases hb : site n b with
    | false => rfl
    | true => simp only [condT, site_idx ha, site_idx hb, bindS]
theorem m36 (n : Net) (f t : Int) (b : List Int) : D36 n f t b = some (msgE n f t b) := by
  rw [e36, s32, s32, msgE]
  simp only [bindS]
  cases site n f <;> cases site n t <;> cases f == t <;> cases decide ((b.length : Int) > 2000) <;> rfl
theorem m38 (n : Net) (m : M) : D38 n m = some (msgE n m.1 m.2.1 m.2.2) := by
  rw [e38, s44, s44, msgE]
  simp only [bindS]
  cases site n m.1 <;> cases site n m.2.1 <;> cases m.1 == m.2.1 <;> cases decide ((m.2.2.length : Int) > 2000) <;> rfl
theorem cl39 (s : List Int) (h : s.length ≤ 3000) : D39 s = some s := by
  rw [e39, limOk (by decide) (by simp; omega)]
  cases s with
  | nil => simp
  | cons a s => rfl
theorem cl40 (s : List Int) (h : s.length ≤ 3000) : D40 s = some s := by
  rw [e40, limOk (by decide) (by simp; omega)]
  cases s with
  | nil => simp
  | cons a s => rfl
theorem cp33 (n : Net) (h : Sm n) : D33 n = some n := by
  obtain ⟨h1, h2, h3⟩ := h
  have hw : IntKind.i64.wrap ((n.2.length : Int) + 1) = (n.2.length : Int) + 1 := wrap_i64 (by omega) (by omega)
  rw [e33, hw]
  have hc : (decide (0 ≤ (0 : Int)) && (decide ((0 : Int) ≤ (n.2.length : Int) + 1) && (decide (40 * ((n.2.length : Int) + 1) ≤ (appendLimit : Int)) && decide ((n.2.length : Int) + 1 ≤ 9223372036854775807)))) = true := by
    have : (appendLimit : Int) = 140737488355328 := rfl
    rw [this]
    simp only [Bool.and_eq_true, decide_eq_true_eq]
    omega
  rw [hc, condT, f33_1 _ _ _ _ (by rw [maxLen_val]; omega)]
  refine forE_inv (fun pre => pre) (· = some n) n.2 (fun pre x post e K hK => ?_) ?_ rfl
  · have hx : x ∈ n.2 := by rw [e]; simp
    have hl : pre.length + 1 + post.length = n.2.length := by rw [e]; simp; omega
    simp only [cl39 _ (h3 x hx), bindS]
    rw [limOk (by decide) (by simp; omega), condT]
    exact hK
  · simp only [cl40 _ (Nat.le_trans h1 (by decide)), bindS]
theorem del34 (l : List M) (i : Int) (h0 : 0 ≤ i) (h : i < l.length) (hl : l.length ≤ 1000) : D34 l i (IntKind.i64.wrap (i + 1)) = some (l.take i.toNat ++ l.drop (i.toNat + 1)) := by
  rw [wrap_i64 (by omega) (by omega)]
  show delD (.pair (.int .i64) (.pair (.int .i64) (.sl (.int .u8)))) (l, i, i + 1) = _
  unfold delD
  rw [if_pos ⟨h0, by show i ≤ i + 1; omega, by show i + 1 ≤ (l.length : Int); omega⟩]
  show some (l.take i.toNat ++ l.drop (i + 1).toNat) = _
  rw [show (i + 1).toNat = i.toNat + 1 by omega]
theorem add41 (n : Net) (m : M) (h : Sm n) (hm : m.2.2.length ≤ 3000) : D41 n m = some (n.1, n.2 ++ [m]) := by
  obtain ⟨h1, h2, h3⟩ := h
  rw [e41, limOk (by decide) (by simp; omega), limOk (by decide) (by simp; omega), limOk (by decide) (by simp; omega)]
  rfl
theorem wo43 (n : Net) (i : Int) (h : Sm n) (h0 : 0 ≤ i) (hi : i < n.2.length) : D43 n i = some (gone n i) := by
  obtain ⟨h1, h2, h3⟩ := h
  rw [e43, wrap_i64 (by omega) (by omega)]
  rw [limOk (by decide) (by simp; omega), limOk (by decide) (by simp; omega)]
  have c1 : (decide (0 ≤ (0 : Int)) && (decide ((0 : Int) ≤ i) && decide (i ≤ (n.2.length : Int)))) = true := by simp; omega
  have c2 : (decide (0 ≤ i + 1) && (decide (i + 1 ≤ (n.2.length : Int)) && decide ((n.2.length : Int) ≤ (n.2.length : Int)))) = true := by simp; omega
  rw [c1, c2]
  simp only [condT, Int.toNat_natCast, List.take_length, Int.toNat_zero, List.drop_zero, List.nil_append]
  rw [show (i + 1).toNat = i.toNat + 1 by omega]
  rfl

theorem ok35 (l : List Int) (h : l.length ≤ 1000) : D35 l = some (okP l) := by
  rw [e35, f35_1 l (by rw [maxLen_val]; omega)]
  have : ∀ (el : Int) (u : Unit) (K : Unit → Option Bool), (bif decide (el < 0) then some false else bif decide (el > 16) then some false else K ()) = (bif (bif decide (el < 0) then false else !decide (el > 16)) then K u else some false) := by
    intro el u K
    cases decide (el < 0) <;> cases decide (el > 16) <;> rfl
  rw [forE_congr _ (fun x _ s K => this x s K) (fun _ => rfl), forE_all]
  unfold okP
  cases l.all fun x => bif decide (x < 0) then false else !decide (x > 16) <;> rfl
theorem ok37 (l : List Int) (h : l.length ≤ 1000) : D37 l = some (okP l) := by
  rw [e37, f37_1 l (by rw [maxLen_val]; omega)]
  have : ∀ (el : Int) (u : Unit) (K : Unit → Option Bool), (bif decide (el < 0) then some false else bif decide (el > 16) then some false else K ()) = (bif (bif decide (el < 0) then false else !decide (el > 16)) then K u else some false) := by
    intro el u K
    cases decide (el < 0) <;> cases decide (el > 16) <;> rfl
  rw [forE_congr _ (fun x _ s K => this x s K) (fun _ => rfl), forE_all]
  unfold okP
  cases l.all fun x => bif decide (x < 0) then false else !decide (x > 16) <;> rfl

theorem at_idx {n : Net} {i : Int} (h0 : decide (i < 0) = false) (h1 : decide (i ≥ (n.2.length : Int)) = false) : idx n.2 i = some (at_ n i) ∧ 0 ≤ i ∧ i < n.2.length := by
  simp only [decide_eq_false_iff_not] at h0 h1
  exact ⟨idx_at zM n.2 i (by omega) (by omega), by omega, by omega⟩
theorem at_mem {n : Net} {i : Int} (h : 0 ≤ i ∧ i < n.2.length) : at_ n i ∈ n.2 := by
  have hk : i.toNat < n.2.length := by omega
  simp only [at_, List.getD, List.getElem?_eq_getElem hk, Option.getD_some]
  exact List.getElem_mem hk

theorem send23 (n : Net) (f t : Int) (b : List Int) (h : Sm n) (hb : b.length ≤ 3000) : D23 n f t b = some (send n f t b) := by
  obtain ⟨h1, h2, h3⟩ := id h
  rw [e23, m36, send]
  simp only [bindS]
  cases msgE n f t b != 0 with
  | true => rfl
  | false =>
    cases decide ((n.2.length : Int) ≥ 256) with
    | true => rfl
    | false =>
      simp only [condF, cp33 n h, cl39 b hb, bindS]
      rw [limOk (by decide) (by simp; omega)]
      rfl
theorem send27 (n : Net) (f t : Int) (b : List Int) (h : Sm n) (hb : b.length ≤ 3000) : D27 n f t b = some (send n f t b) := by
  rw [e27, m38, send]
  simp only [bindS]
  cases msgE n f t b != 0 with
  | true => rfl
  | false =>
    cases decide ((n.2.length : Int) ≥ 256) with
    | true => rfl
    | false => simp only [condF, add41 n (f, t, b) h hb, bindS]
theorem del19 (n : Net) (i : Int) (h : Sm n) : D19 n i = some (deliver n i) := by
  rw [e19, deliver]
  cases h0 : decide (i < 0) with
  | true => rfl
  | false =>
    cases h1 : decide (i ≥ (n.2.length : Int)) with
    | true => rfl
    | false =>
      obtain ⟨hi, ha, hb⟩ := at_idx h0 h1
      simp only [condF, hi, bindS, can18]
      cases !can n (at_ n i).1 (at_ n i).2.1 with
      | true => rfl
      | false =>
        simp only [condF, cp33 n h, hi, bindS]
        rw [del34 n.2 i ha hb h.2.1]
        rfl
theorem del28 (n : Net) (i : Int) (h : Sm n) : D28 n i = some (deliver n i) := by
  rw [e28, deliver]
  cases h0 : decide (i < 0) with
  | true => rfl
  | false =>
    cases h1 : decide (i ≥ (n.2.length : Int)) with
    | true => rfl
    | false =>
      obtain ⟨hi, ha, hb⟩ := at_idx h0 h1
      simp only [condF, hi, bindS, can42]
      cases !can n (at_ n i).1 (at_ n i).2.1 with
      | true => rfl
      | false => simp only [condF, wo43 n i h ha hb, bindS]
theorem lose26 (n : Net) (i : Int) (h : Sm n) : D26 n i = some (lose n i) := by
  rw [e26, lose]
  cases h0 : decide (i < 0) with
  | true => rfl
  | false =>
    cases h1 : decide (i ≥ (n.2.length : Int)) with
    | true => rfl
    | false =>
      obtain ⟨hi, ha, hb⟩ := at_idx h0 h1
      simp only [condF, cp33 n h, bindS]
      rw [del34 n.2 i ha hb h.2.1]
      rfl
theorem lose29 (n : Net) (i : Int) (h : Sm n) : D29 n i = some (lose n i) := by
  rw [e29, lose]
  cases h0 : decide (i < 0) with
  | true => rfl
  | false =>
    cases h1 : decide (i ≥ (n.2.length : Int)) with
    | true => rfl
    | false =>
      obtain ⟨hi, ha, hb⟩ := at_idx h0 h1
      simp only [condF, wo43 n i h ha hb, bindS]
theorem copy25 (n : Net) (i : Int) (h : Sm n) : D25 n i = some (copy n i) := by
  obtain ⟨_, h2, h3⟩ := id h
  rw [e25, copy]
  cases h0 : decide (i < 0) with
  | true => rfl
  | false =>
    cases h1 : decide (i ≥ (n.2.length : Int)) with
    | true => rfl
    | false =>
      obtain ⟨hi, hab⟩ := at_idx h0 h1
      cases decide ((n.2.length : Int) ≥ 256) with
      | true => rfl
      | false =>
        simp only [condF, cp33 n h, hi, bindS, cl39 _ (h3 _ (at_mem hab))]
        rw [limOk (by decide) (by simp; omega)]
        rfl
theorem copy30 (n : Net) (i : Int) (h : Sm n) : D30 n i = some (copy n i) := by
  obtain ⟨_, h2, h3⟩ := id h
  rw [e30, copy]
  cases h0 : decide (i < 0) with
  | true => rfl
  | false =>
    cases h1 : decide (i ≥ (n.2.length : Int)) with
    | true => rfl
    | false =>
      obtain ⟨hi, hab⟩ := at_idx h0 h1
      cases decide ((n.2.length : Int) ≥ 256) with
      | true => rfl
      | false => simp only [condF, hi, bindS, add41 n _ h (h3 _ (at_mem hab))]
theorem split24 (n : Net) (l : List Int) (h : Sm n) (hl : l.length ≤ 40) : D24 n l = some (split n l) := by
  rw [e24, split, ok35 l (by omega)]
  cases (l.length : Int) != (n.1.length : Int) with
  | true => rfl
  | false =>
    simp only [condF, bindS]
    cases !okP l with
    | true => rfl
    | false => simp only [condF, cp33 n h, bindS, cl40 l (by omega)]
theorem split31 (n : Net) (l : List Int) (hl : l.length ≤ 40) : D31 n l = some (split n l) := by
  rw [e31, split, ok37 l (by omega), limOk (by decide) (by simp; omega)]
  cases (l.length : Int) != (n.1.length : Int) with
  | true => rfl
  | false =>
    simp only [condF, bindS]
    cases !okP l with
    | true => rfl
    | false => rfl
theorem step12 (n : Net) (o : Op) (h : Sm n) (ho : SmO o) : D12 n o = some (step n o) := by
  rw [e12, step, send23 _ _ _ _ h ho.1, del19 _ _ h, lose26 _ _ h, copy25 _ _ h, split24 _ _ h ho.2]
  simp only [bindS]
  cases o.1 == 0 <;> cases o.1 == 1 <;> cases o.1 == 2 <;> cases o.1 == 3 <;> rfl
theorem step13 (n : Net) (o : Op) (h : Sm n) (ho : SmO o) : D13 n o = some (step n o) := by
  rw [e13, step, send27 _ _ _ _ h ho.1, del28 _ _ h, lose29 _ _ h, copy30 _ _ h, split31 _ _ ho.2]
  simp only [bindS]
  cases o.1 == 0 <;> cases o.1 == 1 <;> cases o.1 == 2 <;> cases o.1 == 3 <;> rfl

/-! equal networks -/
theorem same15 (m : M) : D15 m m = some true := by
  rw [e15]
  simp
theorem same14 (n : Net) (h : n.1.length ≤ 1000 ∧ n.2.length ≤ 1000) : D14 n n = some true := by
  rw [e14]
  simp only [bne_self_eq_false, condF]
  rw [f14_3 n n (by rw [maxLen_val]; omega)]
  have h2 : lp14_1 big n n 0 = some true := by
    rw [f14_1 n n (by rw [maxLen_val]; omega)]
    refine forI_inv (fun _ => ()) (· = some true) n.2 (fun pre x post e K hK => ?_) rfl rfl
    have hk : pre.length < n.2.length := by rw [e]; simp
    have hx : n.2[pre.length] = x := by simp [e]
    rw [idx_get hk, hx]
    simp only [bindS, same15, Bool.not_true, condF]
    exact hK
  rw [h2]
  refine forI_inv (fun _ => ()) (· = some true) n.1 (fun pre x post e K hK => ?_) rfl rfl
  have hk : pre.length < n.1.length := by rw [e]; simp
  have hx : n.1[pre.length] = x := by simp [e]
  rw [idx_get hk, hx]
  simp only [bindS, bne_self_eq_false, condF]
  exact hK

/-! the bounds last -/
def Mail (n : Net) : Prop := n.1.length ≤ 40 ∧ n.2.length ≤ 256 ∧ ∀ m, m ∈ n.2 → m.2.2.length ≤ 3000
theorem Mail.sm {n : Net} (h : Mail n) : Sm n := ⟨Nat.le_trans h.1 (by decide), Nat.le_trans h.2.1 (by decide), h.2.2⟩
theorem zN_mail : Mail zN := ⟨by decide, by decide, fun m hm => by cases hm⟩
theorem gone_mail {n : Net} (i : Int) (h : Mail n) : Mail (gone n i) := by
  refine ⟨h.1, ?_, fun m hm => ?_⟩
  · have := h.2.1
    simp only [gone, List.length_append, List.length_take, List.length_drop]
    omega
  · rcases List.mem_append.1 hm with hm | hm
    · exact h.2.2 m (List.mem_of_mem_take hm)
    · exact h.2.2 m (List.mem_of_mem_drop hm)
theorem snoc_mail {n : Net} {m : M} (h : Mail n) (hl : ¬ (n.2.length : Int) ≥ 256) (hm : m.2.2.length ≤ 3000) : Mail (n.1, n.2 ++ [m]) := by
  refine ⟨h.1, ?_, fun x hx => ?_⟩
  · simp only [List.length_append, List.length_singleton]; omega
  · rcases List.mem_append.1 hx with hx | hx
    · exact h.2.2 x hx
    · rw [List.mem_singleton.1 hx]; exact hm
theorem step_mail (n : Net) (o : Op) (h : Mail n) (ho : SmO o) : Mail (step n o).1 := by
  unfold step
  cases o.1 == 0 with
  | true =>
    show Mail (send n _ _ _).1
    unfold send
    cases msgE n o.2.1 o.2.2.1 o.2.2.2.1 != 0 with
    | true => exact zN_mail
    | false =>
      cases hl : decide ((n.2.length : Int) ≥ 256) with
      | true => exact zN_mail
      | false => exact snoc_mail h (of_decide_eq_false hl) ho.1
  | false =>
  cases o.1 == 1 with
  | true =>
    show Mail (deliver n _).1
    unfold deliver
    cases decide (o.2.1 < 0) with
    | true => exact zN_mail
    | false =>
      cases decide (o.2.1 ≥ (n.2.length : Int)) with
      | true => exact zN_mail
      | false =>
        cases !can n (at_ n o.2.1).1 (at_ n o.2.1).2.1 with
        | true => exact zN_mail
        | false => exact gone_mail _ h
  | false =>
  cases o.1 == 2 with
  | true =>
    show Mail (lose n _).1
    unfold lose
    cases decide (o.2.1 < 0) with
    | true => exact zN_mail
    | false =>
      cases decide (o.2.1 ≥ (n.2.length : Int)) with
      | true => exact zN_mail
      | false => exact gone_mail _ h
  | false =>
  cases o.1 == 3 with
  | true =>
    show Mail (copy n _).1
    unfold copy
    cases h0 : decide (o.2.1 < 0) with
    | true => exact zN_mail
    | false =>
      cases h1 : decide (o.2.1 ≥ (n.2.length : Int)) with
      | true => exact zN_mail
      | false =>
        obtain ⟨_, hab⟩ := at_idx h0 h1
        cases hl : decide ((n.2.length : Int) ≥ 256) with
        | true => exact zN_mail
        | false => exact snoc_mail h (of_decide_eq_false hl) (h.2.2 _ (at_mem hab))
  | false =>
    show Mail (split n _).1
    unfold split
    cases (o.2.2.2.2.length : Int) != (n.1.length : Int) with
    | true => exact zN_mail
    | false =>
      cases !okP o.2.2.2.2 with
      | true => exact zN_mail
      | false => exact ⟨ho.2, h.2⟩

/-! New, small -/
def newD (sites : Int) : Net × Int := bif decide (sites < 1) then (zN, 2) else bif decide (sites > 16) then (zN, 2) else ((List.replicate sites.toNat 0, []), 0)
theorem new10 (sites : Int) : D10 sites = some (newD sites) := by
  rw [e10, newD]
  cases h0 : decide (sites < 1) with
  | true => rfl
  | false =>
    cases h1 : decide (sites > 16) with
    | true => rfl
    | false =>
      simp only [decide_eq_false_iff_not] at h0 h1
      have hc : (decide (0 ≤ sites) && (decide (sites ≤ sites) && (decide (8 * sites ≤ (appendLimit : Int)) && decide (sites ≤ 9223372036854775807)))) = true := by
        have : (appendLimit : Int) = 140737488355328 := rfl
        rw [this]
        simp only [Bool.and_eq_true, decide_eq_true_eq]
        omega
      rw [hc]
      rfl
theorem new16 (sites : Int) : D16 sites = some (newD sites) := by
  rw [← new10, e16, e10]
theorem new_mail (sites : Int) : Mail (newD sites).1 := by
  unfold newD
  cases h0 : decide (sites < 1) with
  | true => exact zN_mail
  | false =>
    cases h1 : decide (sites > 16) with
    | true => exact zN_mail
    | false =>
      simp only [decide_eq_false_iff_not] at h0 h1
      refine ⟨?_, Nat.zero_le _, fun m hm => by cases hm⟩
      show (List.replicate sites.toNat (0 : Int)).length ≤ 40
      rw [List.length_replicate]; omega
theorem small11 (l : List Op) (hl : l.length ≤ maxLen) : ∃ b, D11 l = some b ∧ (b = true → l.length ≤ 40 ∧ ∀ o, o ∈ l → SmO o) := by
  rw [e11, f11_1 l hl]
  have : ∀ (el : Op) (u : Unit) (K : Unit → Option Bool), (bif decide ((el.2.2.2.1.length : Int) > 3000) then some false else bif decide ((el.2.2.2.2.length : Int) > 40) then some false else K ()) = (bif (!decide ((el.2.2.2.1.length : Int) > 3000) && !decide ((el.2.2.2.2.length : Int) > 40)) then K u else some false) := by
    intro el u K
    cases decide ((el.2.2.2.1.length : Int) > 3000) <;> cases decide ((el.2.2.2.2.length : Int) > 40) <;> rfl
  rw [forE_congr _ (fun x _ s K => this x s K) (fun _ => rfl), forE_all]
  cases hd : decide ((l.length : Int) > 40) with
  | true => exact ⟨false, rfl, fun e => by cases e⟩
  | false =>
    cases ha : l.all fun el => !decide ((el.2.2.2.1.length : Int) > 3000) && !decide ((el.2.2.2.2.length : Int) > 40) with
    | false => exact ⟨false, rfl, fun e => by cases e⟩
    | true =>
      refine ⟨true, rfl, fun _ => ⟨?_, fun o ho => ?_⟩⟩
      · simp only [decide_eq_false_iff_not] at hd; omega
      · have := List.all_eq_true.1 ha o ho
        simp only [Bool.and_eq_true, Bool.not_eq_true', decide_eq_false_iff_not] at this
        exact ⟨by omega, by omega⟩

theorem plays (sites : Int) (l : List Op) (hl : l.length ≤ maxLen) : D3 sites l = some true := by
  obtain ⟨b, hb, hs⟩ := small11 l hl
  rw [e3, aliveD, new10, hb]
  simp only [bindS, Bool.not_true, condF]
  cases b with
  | false => rfl
  | true =>
    obtain ⟨h40, hsm⟩ := hs rfl
    simp only [Bool.not_true, condF]
    cases hn : (newD sites).2 != 0 with
    | true => rfl
    | false =>
      rw [condF, f3_1 l _ hl]
      suffices h : ∀ (ys : List Op), (∀ o, o ∈ ys → SmO o) → ∀ n, Mail n → forE _ _ ys n = some true from h l hsm _ (new_mail sites)
      intro ys
      induction ys with
      | nil => intro _ n _; rfl
      | cons o ys ih =>
        intro hys n hn
        have ho := hys o (List.mem_cons_self ..)
        have hm := step_mail n o hn ho
        rw [forE]
        simp only [step12 n o hn.sm ho, step13 n o hn.sm ho, bindS, bne_self_eq_false, condF, same15, Bool.not_true]
        rw [same14 _ ⟨hm.sm.1, hm.sm.2.1⟩]
        simp only [bindS, Bool.not_true, condF]
        cases (step n o).2.2 == 0 with
        | true => exact ih (fun x hx => hys x (List.mem_cons_of_mem _ hx)) _ hm
        | false => exact ih (fun x hx => hys x (List.mem_cons_of_mem _ hx)) _ hn
end Go.Proofs.Ytchgholmoclbhaa.D
