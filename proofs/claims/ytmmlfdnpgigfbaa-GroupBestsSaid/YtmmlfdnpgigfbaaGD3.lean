import Derived.Test.YtmmlfdnpgigfbaaGD2
namespace Go.GD
open Go

variable {P : Program}

/-! ### parts of data -/

theorem getAt_base {t : Ty} {x : t.den} {off : Nat} {b : Ty} {y : b.den} (ht : ∀ l r, t ≠ .pair l r) (h : getAt t x off b = some y) : off = 0 ∧ ∃ e : t = b, y = e ▸ x := by
  cases t <;> first
    | exact absurd rfl (ht _ _)
    | (unfold getAt at h
       split at h
       · rename_i hb
         injection h with h
         have hb' := Bool.and_eq_true_iff.1 hb
         exact ⟨Nat.eq_of_beq_eq_true hb'.1, Ty.eq_of_beq hb'.2, h.symm⟩
       · cases h)

theorem getAt_pair {l r : Ty} {x : (Ty.pair l r).den} {off : Nat} {b : Ty} {y : b.den} (h : getAt (.pair l r) x off b = some y) :
    (off = 0 ∧ ∃ e : Ty.pair l r = b, y = e ▸ x) ∨ (off < l.size ∧ getAt l x.1 off b = some y) ∨ (l.size ≤ off ∧ getAt r x.2 (off - l.size) b = some y) := by
  unfold getAt at h
  split at h
  · rename_i hb
    injection h with h
    have hb' := Bool.and_eq_true_iff.1 hb
    exact .inl ⟨Nat.eq_of_beq_eq_true hb'.1, Ty.eq_of_beq hb'.2, h.symm⟩
  · split at h
    · rename_i hlt
      exact .inr (.inl ⟨by simpa [Nat.blt_eq] using hlt, h⟩)
    · rename_i hlt
      exact .inr (.inr ⟨by simpa [Nat.blt_eq] using hlt, h⟩)

theorem getAt_repX {w : World} {Sh : Nat → Prop} {cl : Nat → Mk → Claim} : (t : Ty) → ∀ {c : Nat} {cs : List Value} {x : t.den} {ms : List Mk} {off : Nat} {b : Ty} {y : b.den},
    RepX P w Sh cl t c cs x ms → getAt t x off b = some y → off + b.size ≤ t.size ∧ RepX P w Sh cl b (c + off) ((cs.drop off).take b.size) y ((ms.drop off).take b.size) := by
  intro t
  induction t with
  | pair l r ihl ihr =>
    intro c cs x ms off b y h hg
    have hlen := RepX.length _ h
    rcases getAt_pair hg with ⟨rfl, e, he⟩ | ⟨hlt, hg⟩ | ⟨hle, hg⟩
    · subst e; subst he
      refine ⟨by simp, ?_⟩
      rw [List.drop_zero, List.drop_zero, List.take_of_length_le (by omega), List.take_of_length_le (by omega)]
      exact h
    · obtain ⟨c1, c2, m1, m2, rfl, rfl, h1, h2⟩ := h
      have l1 := RepX.length _ h1
      obtain ⟨hs, hr⟩ := ihl h1 hg
      refine ⟨by simp only [Ty.size]; omega, ?_⟩
      rw [List.drop_append_of_le_length (by omega), List.drop_append_of_le_length (by omega), List.take_append_of_le_length (by rw [List.length_drop]; omega),
        List.take_append_of_le_length (by rw [List.length_drop]; omega)]
      exact hr
    · obtain ⟨c1, c2, m1, m2, rfl, rfl, h1, h2⟩ := h
      have l1 := RepX.length _ h1
      obtain ⟨hs, hr⟩ := ihr h2 hg
      refine ⟨by simp only [Ty.size]; omega, ?_⟩
      rw [show (c1 ++ c2).drop off = c2.drop (off - l.size) by rw [List.drop_append, List.drop_eq_nil_of_le (by omega), List.nil_append, l1.1],
        show (m1 ++ m2).drop off = m2.drop (off - l.size) by rw [List.drop_append, List.drop_eq_nil_of_le (by omega), List.nil_append, l1.2]]
      have : c + l.size + (off - l.size) = c + off := by omega
      rwa [this] at hr
  | _ =>
    intro c cs x ms off b y h hg
    have hlen := RepX.length _ h
    obtain ⟨rfl, e, he⟩ := getAt_base (by intro l r hh; cases hh) hg
    subst e; subst he
    refine ⟨by simp, ?_⟩
    rw [List.drop_zero, List.drop_zero, List.take_of_length_le (by omega), List.take_of_length_le (by omega)]
    exact h

def splice {α : Type} (cs : List α) (off : Nat) (ys : List α) : List α := cs.take off ++ ys ++ cs.drop (off + ys.length)

theorem splice_all {α : Type} (cs ys : List α) (h : cs.length = ys.length) : splice cs 0 ys = ys := by
  unfold splice
  rw [List.take_zero, List.nil_append, List.drop_eq_nil_of_le (by omega), List.append_nil]

theorem splice_left {α : Type} (c1 c2 ys : List α) (off : Nat) (h : off + ys.length ≤ c1.length) : splice (c1 ++ c2) off ys = splice c1 off ys ++ c2 := by
  unfold splice
  rw [List.take_append_of_le_length (by omega), List.drop_append_of_le_length (by omega)]
  simp

theorem splice_right {α : Type} (c1 c2 ys : List α) (off : Nat) (h : c1.length ≤ off) : splice (c1 ++ c2) off ys = c1 ++ splice c2 (off - c1.length) ys := by
  unfold splice
  rw [List.take_append, List.take_of_length_le h, List.drop_append, List.drop_eq_nil_of_le (by omega), List.nil_append]
  rw [show off + ys.length - c1.length = off - c1.length + ys.length by omega]
  simp

theorem splice_length {α : Type} (cs ys : List α) (off : Nat) (h : off + ys.length ≤ cs.length) : (splice cs off ys).length = cs.length := by
  unfold splice
  simp only [List.length_append, List.length_take, List.length_drop]
  omega

theorem setMarkL_splice : (ms : List Mk) → (i : Nat) → (m : Mk) → i < ms.length → setMarkL ms i m = splice ms i [m]
  | [], _, _, h => by simp at h
  | a :: l, 0, m, _ => by simp [setMarkL, splice]
  | a :: l, i + 1, m, h => by
    have := setMarkL_splice l i m (by simpa using h)
    rw [setMarkL, this]
    simp only [splice, List.length_singleton]
    simp

theorem setMarks_splice : (ns : List Mk) → (ms : List Mk) → (i : Nat) → i + ns.length ≤ ms.length → setMarks ms i ns = splice ms i ns
  | [], ms, i, _ => by simp [setMarks, splice]
  | n :: ns, ms, i, h => by
    simp only [List.length_cons] at h
    rw [setMarks, setMarkL_splice _ _ _ (by omega), setMarks_splice ns _ _ (by rw [splice_length _ _ _ (by simp; omega)]; omega)]
    simp only [splice, List.length_nil, List.length_cons, Nat.zero_add]
    have h1 : (ms.take i).length = i := by rw [List.length_take]; omega
    rw [List.append_assoc (ms.take i), List.take_append, h1, List.take_of_length_le (by omega), show i + 1 - i = 1 by omega]
    simp only [List.singleton_append, List.take_succ_cons, List.take_zero]
    rw [show i + 1 + ns.length = (ms.take i).length + (1 + ns.length) by omega, List.drop_length_add_append]
    rw [show 1 + ns.length = ns.length + 1 by omega, List.drop_succ_cons, List.drop_drop, show i + 1 + ns.length = i + (ns.length + 1) by omega]
    simp

theorem setAt_base {t : Ty} {x : t.den} {off : Nat} {b : Ty} {y : b.den} {z : t.den} (ht : ∀ l r, t ≠ .pair l r) (h : setAt t x off b y = some z) : off = 0 ∧ ∃ e : b = t, z = e ▸ y := by
  cases t <;> first
    | exact absurd rfl (ht _ _)
    | (unfold setAt at h
       split at h
       · rename_i hb
         injection h with h
         have hb' := Bool.and_eq_true_iff.1 hb
         exact ⟨Nat.eq_of_beq_eq_true hb'.1, Ty.eq_of_beq hb'.2, h.symm⟩
       · cases h)

theorem setAt_pair {l r : Ty} {x : (Ty.pair l r).den} {off : Nat} {b : Ty} {y : b.den} {z : (Ty.pair l r).den} (h : setAt (.pair l r) x off b y = some z) :
    (off = 0 ∧ ∃ e : b = Ty.pair l r, z = e ▸ y) ∨ (off < l.size ∧ ∃ u, setAt l x.1 off b y = some u ∧ z = (u, x.2)) ∨
      (l.size ≤ off ∧ ∃ u, setAt r x.2 (off - l.size) b y = some u ∧ z = (x.1, u)) := by
  unfold setAt at h
  split at h
  · rename_i hb
    injection h with h
    have hb' := Bool.and_eq_true_iff.1 hb
    exact .inl ⟨Nat.eq_of_beq_eq_true hb'.1, Ty.eq_of_beq hb'.2, h.symm⟩
  · split at h
    · rename_i hlt
      obtain ⟨u, hu, hz⟩ := Option.map_eq_some_iff.1 h
      exact .inr (.inl ⟨by simpa [Nat.blt_eq] using hlt, u, hu, hz.symm⟩)
    · rename_i hlt
      obtain ⟨u, hu, hz⟩ := Option.map_eq_some_iff.1 h
      exact .inr (.inr ⟨by simpa [Nat.blt_eq] using hlt, u, hu, hz.symm⟩)

theorem setAt_repX {w : World} {Sh : Nat → Prop} {cl : Nat → Mk → Claim} : (t : Ty) → ∀ {c : Nat} {cs : List Value} {x : t.den} {ms : List Mk} {off : Nat} {b : Ty} {y : b.den} {z : t.den} {ys : List Value} {ns : List Mk},
    RepX P w Sh cl t c cs x ms → RepX P w Sh cl b (c + off) ys y ns → setAt t x off b y = some z →
    off + b.size ≤ t.size ∧ RepX P w Sh cl t c (splice cs off ys) z (splice ms off ns) := by
  intro t
  induction t with
  | pair l r ihl ihr =>
    intro c cs x ms off b y z ys ns h hy hg
    have hlen := RepX.length _ h
    have hyl := RepX.length _ hy
    rcases setAt_pair hg with ⟨rfl, e, he⟩ | ⟨hlt, u, hg, hz⟩ | ⟨hle, u, hg, hz⟩
    · subst e; subst he
      rw [splice_all _ _ (by omega), splice_all _ _ (by omega)]
      exact ⟨by simp, hy⟩
    · obtain ⟨c1, c2, m1, m2, rfl, rfl, h1, h2⟩ := h
      have l1 := RepX.length _ h1
      obtain ⟨hs, hr⟩ := ihl h1 hy hg
      subst hz
      refine ⟨by simp only [Ty.size]; omega, ?_⟩
      rw [splice_left _ _ _ _ (by omega), splice_left _ _ _ _ (by omega)]
      exact ⟨_, _, _, _, rfl, rfl, hr, h2⟩
    · obtain ⟨c1, c2, m1, m2, rfl, rfl, h1, h2⟩ := h
      have l1 := RepX.length _ h1
      have hy' : RepX P w Sh cl b (c + l.size + (off - l.size)) ys y ns := by rwa [show c + l.size + (off - l.size) = c + off by omega]
      obtain ⟨hs, hr⟩ := ihr h2 hy' hg
      subst hz
      refine ⟨by simp only [Ty.size]; omega, ?_⟩
      rw [splice_right _ _ _ _ (by omega), splice_right _ _ _ _ (by omega), l1.1, l1.2]
      exact ⟨_, _, _, _, rfl, rfl, h1, hr⟩
  | _ =>
    intro c cs x ms off b y z ys ns h hy hg
    have hlen := RepX.length _ h
    have hyl := RepX.length _ hy
    obtain ⟨rfl, e, he⟩ := setAt_base (by intro l r hh; cases hh) hg
    subst e; subst he
    rw [splice_all _ _ (by omega), splice_all _ _ (by omega)]
    exact ⟨by simp, hy⟩

/-! ### data that are shared throughout -/

theorem shrMarks_length : (t : Ty) → (shrMarks t).length = t.size
  | .unit => rfl
  | .pair a b => by simp [shrMarks, Ty.size, shrMarks_length a, shrMarks_length b]
  | .int _ | .bool | .str | .sl _ | .ptr _ | .fn _ _ => rfl

theorem ownMarks_length : (t : Ty) → (ownMarks t).length = t.size
  | .unit => rfl
  | .pair a b => by simp [ownMarks, Ty.size, ownMarks_length a, ownMarks_length b]
  | .int _ | .bool | .str | .sl _ | .ptr _ | .fn _ _ => rfl

def shareAll : Nat → Mk → Claim := fun _ _ => .share false

theorem repX_of_repC {w : World} {Sh : Nat → Prop} : (t : Ty) → ∀ {c : Nat} {cs : List Value} {x : t.den} {ms : List Mk}, RepC P t w Sh cs x → ms.length = t.size → RepX P w Sh shareAll t c cs x ms
  | .unit, _, _, _, ms, h, hl => ⟨h, List.eq_nil_of_length_eq_zero hl⟩
  | .int _, _, _, _, [m], h, _ => ⟨m, rfl, h⟩
  | .bool, _, _, _, [m], h, _ => ⟨m, rfl, h⟩
  | .str, _, _, _, [m], h, _ => ⟨m, rfl, h⟩
  | .ptr _, _, _, _, [m], h, _ => ⟨m, rfl, h⟩
  | .sl _, _, _, _, [m], h, _ => by
    obtain ⟨a, len, cap, e, h⟩ := h
    exact ⟨a, len, cap, m, e, rfl, h, by simp⟩
  | .fn a b, _, _, _, [m], h, _ => by
    obtain ⟨f, first, caps, e, h⟩ := h
    subst e
    exact ⟨_, m, rfl, rfl, ⟨rfl, rfl⟩, fun _ => RepC.mono (.fn a b) ⟨Nat.le_refl _, fun b _ hb => ⟨rfl, .inl hb⟩⟩ ⟨f, first, caps, rfl, h⟩⟩
  | .pair a b, _, _, _, ms, h, hl => by
    obtain ⟨c1, c2, e, h1, h2⟩ := h
    simp only [Ty.size] at hl
    exact ⟨c1, c2, ms.take a.size, ms.drop a.size, e, (List.take_append_drop _ _).symm, repX_of_repC a h1 (by rw [List.length_take]; omega), repX_of_repC b h2 (by rw [List.length_drop]; omega)⟩

theorem repC_of_repX {w : World} {Sh : Nat → Prop} : (t : Ty) → ∀ {c : Nat} {cs : List Value} {x : t.den} {ms : List Mk}, RepX P w Sh shareAll t c cs x ms → RepC P t w Sh cs x
  | .unit, _, _, _, _, h => by obtain ⟨h1, _⟩ := h; exact h1
  | .int _, _, _, _, _, h => by obtain ⟨_, _, h1⟩ := h; exact h1
  | .bool, _, _, _, _, h => by obtain ⟨_, _, h1⟩ := h; exact h1
  | .str, _, _, _, _, h => by obtain ⟨_, _, h1⟩ := h; exact h1
  | .ptr _, _, _, _, _, h => by obtain ⟨_, _, h1⟩ := h; exact h1
  | .sl _, _, _, _, _, h => by
    obtain ⟨a, len, cap, m, e, _, h, _⟩ := h
    exact ⟨a, len, cap, e, h⟩
  | .fn a b, _, _, _, _, h => by
    obtain ⟨v, m, e, _, _, h⟩ := h
    exact RepC.mono (.fn a b) ⟨Nat.le_refl _, fun b _ hb => ⟨rfl, hb.resolve_right (by simp [shareAll, Claim.blocks])⟩⟩ (h (by simp [shareAll]))
  | .pair a b, _, _, _, _, h => by
    obtain ⟨c1, c2, m1, m2, e, _, h1, h2⟩ := h
    exact ⟨c1, c2, e, repC_of_repX a h1, repC_of_repX b h2⟩

theorem getAt_repC {w : World} {Sh : Nat → Prop} {t : Ty} {cs : List Value} {x : t.den} {off : Nat} {b : Ty} {y : b.den}
    (h : RepC P t w Sh cs x) (hg : getAt t x off b = some y) : off + b.size ≤ t.size ∧ RepC P b w Sh ((cs.drop off).take b.size) y := by
  have := getAt_repX t (repX_of_repC (c := 0) (ms := shrMarks t) t h (shrMarks_length t)) hg
  exact ⟨this.1, repC_of_repX b this.2⟩

theorem setAt_repC {w : World} {Sh : Nat → Prop} {t : Ty} {cs : List Value} {x : t.den} {off : Nat} {b : Ty} {y : b.den} {z : t.den} {ys : List Value}
    (h : RepC P t w Sh cs x) (hy : RepC P b w Sh ys y) (hg : setAt t x off b y = some z) : off + b.size ≤ t.size ∧ RepC P t w Sh (splice cs off ys) z := by
  have := setAt_repX t (repX_of_repC (c := 0) (ms := shrMarks t) t h (shrMarks_length t)) (repX_of_repC (c := 0 + off) (ms := shrMarks b) b hy (shrMarks_length b)) hg
  exact ⟨this.1, repC_of_repX t this.2⟩

theorem mkV_cells {t : Ty} {cs : List Value} {w : World} {Sh : Nat → Prop} {cl : Nat → Mk → Claim} {c : Nat} {x : t.den} {ms : List Mk} (h : RepX P w Sh cl t c cs x ms) : (mkV t cs).cells = cs.toArray := by
  unfold mkV
  cases t with
  | unit => rfl
  | pair a b => rfl
  | int k => obtain ⟨m, _, h⟩ := h; rw [show cs = _ from h]; rfl
  | bool => obtain ⟨m, _, h⟩ := h; rw [show cs = _ from h]; rfl
  | str => obtain ⟨m, _, h⟩ := h; rw [show cs = _ from h]; rfl
  | sl t => obtain ⟨_, _, _, _, e, _⟩ := h; rw [e]; rfl
  | ptr t => obtain ⟨m, _, _, e, _⟩ := h; rw [e]; rfl
  | fn a b =>
    obtain ⟨v, m, e, _, hv, _⟩ := h
    rw [e]; exact hv.1

end Go.GD
