import Derived.Test.YtmmlfdnpgigfbaaGD1
import Derived.Calls
import Derived.Laws.World
import Derived.Laws.Sem
import Derived.Laws.Cells
import Derived.Laws.Rows
namespace Go.GD
open Go

theorem castO_some {a b : Ty} {x : a.den} {y : b.den} (h : castO a b x = some y) : ∃ e : a = b, y = e ▸ x := by
  unfold castO at h
  split at h
  · rename_i hb
    injection h with h
    exact ⟨Ty.eq_of_beq hb, h.symm⟩
  · cases h

theorem castD_eq {a b : Ty} (h : a.beq b = true) (x : a.den) : ∃ e : a = b, castD h x = e ▸ x := ⟨Ty.eq_of_beq h, rfl⟩

theorem Ty.beq_refl : (t : Ty) → t.beq t = true
  | .unit => rfl
  | .int k => by cases k <;> rfl
  | .bool => rfl
  | .str => rfl
  | .pair a b => by simp [Ty.beq, a.beq_refl, b.beq_refl]
  | .sl a => by simp [Ty.beq, a.beq_refl]
  | .ptr a => by simp [Ty.beq, a.beq_refl]
  | .fn a b => by simp [Ty.beq, a.beq_refl, b.beq_refl]

theorem castO_refl {a : Ty} (x : a.den) : castO a a x = some x := by
  unfold castO castD
  rw [dif_pos a.beq_refl]

/-! ### values in memory -/

/-- what a call may not touch but memory -/
def SameIO (w w' : World) : Prop := w'.os = w.os ∧ w'.tape = w.tape ∧ w'.output = w.output

def Callable (P : Program) (f : Nat) : Prop := ∃ fn, P.funcs[f]? = some fn ∧ fn.body.isNone = false ∧ (fn.name == "runtime.NumGoroutine") = false

/-- the value of a typed datum, from its cells -/
def mkV (t : Ty) (cs : List Value) : Value := if t.isAgg then .agg cs.toArray else cs.headD undef

def Mono (w : World) (Ok : Nat → Prop) (w' : World) (Ok' : Nat → Prop) : Prop :=
  w.heap.size ≤ w'.heap.size ∧ ∀ b, b < w.heap.size → Ok b → w'.heap[b]? = w.heap[b]? ∧ Ok' b

theorem Mono.refl (w : World) (Ok : Nat → Prop) : Mono w Ok w Ok := ⟨Nat.le_refl _, fun _ _ h => ⟨rfl, h⟩⟩

theorem Mono.trans {w w1 w2 : World} {A B C : Nat → Prop} (h : Mono w A w1 B) (h' : Mono w1 B w2 C) : Mono w A w2 C :=
  ⟨Nat.le_trans h.1 h'.1, fun b hb ha => by
    have h1 := h.2 b hb ha
    have h2 := h'.2 b (Nat.lt_of_lt_of_le hb h.1) h1.2
    exact ⟨h2.1.trans h1.1, h2.2⟩⟩

def Rows {α : Type} (size : Nat) (w : World) (R : List Value → α → Prop) (ad : Addr) (xs : List α) : Prop :=
  ∀ i (h : i < xs.length), ∃ cs : List Value, cs.length = size ∧ (∀ j, j < size → w.cell? ⟨ad.block, ad.off + i * size + j, none⟩ = cs[j]?) ∧ R cs xs[i]

def ShareS {α : Type} (size : Nat) (w : World) (B : Nat → Prop) (R : List Value → α → Prop) (a : Option Addr) (len cap : Nat) (xs : List α) : Prop :=
  xs.length = len ∧ len ≤ cap ∧ (len = 0 ∨ ∃ ad : Addr, a = some ad ∧ ad.spot = none ∧ ad.block < w.heap.size ∧ B ad.block ∧ Rows size w R ad xs)

def MemAt {α : Type} (size : Nat) (w : World) (B : Nat → Prop) (R : List Value → α → Prop) (ad : Addr) (x : α) : Prop :=
  ad.block < w.heap.size ∧ B ad.block ∧ ∃ cs : List Value, cs.length = size ∧ (∀ j, j < size → w.cell? ⟨ad.block, ad.off + j, none⟩ = cs[j]?) ∧ R cs x

/-- how data lie in memory, read through the allowed blocks -/
def RepC (P : Program) : (t : Ty) → World → (Nat → Prop) → List Value → t.den → Prop
  | .unit, _, _, cs, _ => cs = []
  | .int k, _, _, cs, n => cs = [.int k n]
  | .bool, _, _, cs, b => cs = [.bool b]
  | .str, _, _, cs, l => cs = [.string ⟨⟨l⟩⟩]
  | .pair a b, w, Ok, cs, x => ∃ c1 c2, cs = c1 ++ c2 ∧ RepC P a w Ok c1 x.1 ∧ RepC P b w Ok c2 x.2
  | .sl t, w, Ok, cs, xs => ∃ a len cap, cs = [.slice a len cap] ∧ ShareS t.size w Ok (RepC P t w Ok) a len cap xs
  | .ptr t, w, Ok, cs, x => ∃ ad : Addr, cs = [.pointer (some ad)] ∧ ad.spot = none ∧ MemAt t.size w Ok (RepC P t w Ok) ad x
  | .fn a b, w, Ok, cs, g => ∃ f first caps, cs = [.func (.func f) first caps] ∧ Callable P f ∧
      ∀ w', w.heap.size ≤ w'.heap.size → (∀ c, c < w.heap.size → Ok c → w'.heap[c]? = w.heap[c]?) →
        ∀ vs x y, RepC P a w' (fun _ => True) vs x → g x = some y →
          Calls P f (first ++ #[mkV a vs] ++ caps) w' fun e w'' => ∃ us, e = .returned (mkV b us) ∧ RepC P b w'' (fun _ => True) us y ∧
            w'.heap.size ≤ w''.heap.size ∧ (∀ c, c < w'.heap.size → w''.heap[c]? = w'.heap[c]?) ∧ SameIO w' w''

theorem cell_congr {w w' : World} {b o : Nat} (h : w'.heap[b]? = w.heap[b]?) : w'.cell? ⟨b, o, none⟩ = w.cell? ⟨b, o, none⟩ := by
  simp [World.cell?, h]

theorem frozen_congr {w w' : World} {b o : Nat} (h : w'.heap[b]? = w.heap[b]?) : w'.frozen? ⟨b, o, none⟩ = w.frozen? ⟨b, o, none⟩ := by
  simp [World.frozen?, h]

theorem Rows.mono {α : Type} {size : Nat} {w w' : World} {R R' : List Value → α → Prop} {ad : Addr} {xs : List α}
    (hs : w'.heap[ad.block]? = w.heap[ad.block]?) (hR : ∀ cs x, R cs x → R' cs x) (h : Rows size w R ad xs) : Rows size w' R' ad xs := by
  intro i hi
  obtain ⟨cs, hl, hc, hr⟩ := h i hi
  exact ⟨cs, hl, fun j hj => by rw [cell_congr hs]; exact hc j hj, hR _ _ hr⟩

theorem ShareS.mono {α : Type} {size : Nat} {w w' : World} {B B' : Nat → Prop} {R R' : List Value → α → Prop} {a : Option Addr} {len cap : Nat} {xs : List α}
    (hm : Mono w B w' B') (hR : ∀ cs x, R cs x → R' cs x) (h : ShareS size w B R a len cap xs) : ShareS size w' B' R' a len cap xs := by
  obtain ⟨h1, h2, h3⟩ := h
  refine ⟨h1, h2, h3.imp id ?_⟩
  rintro ⟨ad, e, sp, hl, hb, hr⟩
  have := hm.2 _ hl hb
  exact ⟨ad, e, sp, Nat.lt_of_lt_of_le hl hm.1, this.2, hr.mono this.1 hR⟩

theorem MemAt.mono {α : Type} {size : Nat} {w w' : World} {B B' : Nat → Prop} {R R' : List Value → α → Prop} {ad : Addr} {x : α}
    (hm : Mono w B w' B') (hR : ∀ cs x, R cs x → R' cs x) (h : MemAt size w B R ad x) : MemAt size w' B' R' ad x := by
  obtain ⟨hl, hb, cs, h1, h2, h3⟩ := h
  have := hm.2 _ hl hb
  exact ⟨Nat.lt_of_lt_of_le hl hm.1, this.2, cs, h1, fun j hj => by rw [cell_congr this.1]; exact h2 j hj, hR _ _ h3⟩

theorem RepC.mono {P : Program} : (t : Ty) → ∀ {w w' : World} {Ok Ok' : Nat → Prop} {cs : List Value} {x : t.den}, Mono w Ok w' Ok' → RepC P t w Ok cs x → RepC P t w' Ok' cs x
  | .unit, _, _, _, _, _, _, _, h => h
  | .int _, _, _, _, _, _, _, _, h => h
  | .bool, _, _, _, _, _, _, _, h => h
  | .str, _, _, _, _, _, _, _, h => h
  | .pair a b, _, _, _, _, _, _, m, h => by
    obtain ⟨c1, c2, e, h1, h2⟩ := h
    exact ⟨c1, c2, e, RepC.mono a m h1, RepC.mono b m h2⟩
  | .sl t, _, _, _, _, _, _, m, h => by
    obtain ⟨a, len, cap, e, h1⟩ := h
    exact ⟨a, len, cap, e, h1.mono m fun cs x => RepC.mono t m⟩
  | .ptr t, w, w', _, _, _, _, m, h => by
    obtain ⟨ad, e, sp, h1⟩ := h
    exact ⟨ad, e, sp, h1.mono m fun cs x => RepC.mono t m⟩
  | .fn a b, _, _, _, _, _, _, m, h => by
    obtain ⟨f, first, caps, e, hcl, h1⟩ := h
    refine ⟨f, first, caps, e, hcl, fun w'' hs hc => h1 w'' (Nat.le_trans m.1 hs) fun c hcl hok => ?_⟩
    have := m.2 c hcl hok
    exact (hc c (Nat.lt_of_lt_of_le hcl m.1) this.2).trans this.1

theorem RepC.length {P : Program} : (t : Ty) → ∀ {w : World} {Ok : Nat → Prop} {cs : List Value} {x : t.den}, RepC P t w Ok cs x → cs.length = t.size
  | .unit, _, _, _, _, h => by rw [show _ = _ from h]; rfl
  | .int _, _, _, _, _, h => by rw [show _ = _ from h]; rfl
  | .bool, _, _, _, _, h => by rw [show _ = _ from h]; rfl
  | .str, _, _, _, _, h => by rw [show _ = _ from h]; rfl
  | .pair a b, _, _, _, _, h => by
    obtain ⟨c1, c2, e, h1, h2⟩ := h
    rw [e, List.length_append, RepC.length a h1, RepC.length b h2]; rfl
  | .sl _, _, _, _, _, h => by obtain ⟨_, _, _, e, _⟩ := h; rw [e]; rfl
  | .ptr _, _, _, _, _, h => by obtain ⟨_, e, _⟩ := h; rw [e]; rfl
  | .fn _ _, _, _, _, _, h => by obtain ⟨_, _, _, e, _⟩ := h; rw [e]; rfl

/-- data without slices do not lean on memory -/
theorem RepC.scalar {P : Program} : (t : Ty) → t.scalar = true → ∀ {w w' : World} {Ok Ok' : Nat → Prop} {cs : List Value} {x : t.den}, RepC P t w Ok cs x → RepC P t w' Ok' cs x
  | .unit, _, _, _, _, _, _, _, h => h
  | .int _, _, _, _, _, _, _, _, h => h
  | .bool, _, _, _, _, _, _, _, h => h
  | .str, _, _, _, _, _, _, _, h => h
  | .pair a b, hs, _, _, _, _, _, _, h => by
    simp [Ty.scalar] at hs
    obtain ⟨c1, c2, e, h1, h2⟩ := h
    exact ⟨c1, c2, e, RepC.scalar a hs.1 h1, RepC.scalar b hs.2 h2⟩
  | .sl _, hs, _, _, _, _, _, _, _ => by simp [Ty.scalar] at hs
  | .ptr _, hs, _, _, _, _, _, _, _ => by simp [Ty.scalar] at hs
  | .fn _ _, hs, _, _, _, _, _, _, _ => by simp [Ty.scalar] at hs

/-! ### claims: what a mark says of a slice -/

inductive Claim where
  | skip
  | nilc
  | share (nn : Bool)
  | hold (B : Nat → Prop) (V : Value → Prop)

def HoldS {α : Type} (size : Nat) (w : World) (B : Nat → Prop) (R : List Value → α → Prop) (a : Option Addr) (len cap : Nat) (xs : List α) : Prop :=
  xs.length = len ∧ len ≤ cap ∧ (cap = 0 ∨ ∃ ad : Addr, a = some ad ∧ ad.spot = none ∧ B ad.block ∧
    (∃ vs e, w.heap[ad.block]? = some (.cells vs e (0, 0)) ∧ ad.off + cap * size ≤ vs.size) ∧ Rows size w R ad xs)

def Claim.says {α : Type} (size : Nat) (w : World) (Sh : Nat → Prop) (R : List Value → α → Prop) (a : Option Addr) (len cap : Nat) (xs : List α) : Claim → Prop
  | .skip => True
  | .nilc => a = none ∧ len = 0 ∧ cap = 0 ∧ xs = []
  | .share nn => ShareS size w Sh R a len cap xs ∧ (nn = true → a ≠ none)
  | .hold B V => HoldS size w B R a len cap xs ∧ V (.slice a len cap)

def Claim.blocks : Claim → Nat → Prop
  | .hold B _, b => B b
  | _, _ => False

/-- cells with claims -/
def RepX (P : Program) (w : World) (Sh : Nat → Prop) (cl : Nat → Mk → Claim) : (t : Ty) → Nat → List Value → t.den → List Mk → Prop
  | .pair a b, c, cs, x, ms => ∃ c1 c2 m1 m2, cs = c1 ++ c2 ∧ ms = m1 ++ m2 ∧ RepX P w Sh cl a c c1 x.1 m1 ∧ RepX P w Sh cl b (c + a.size) c2 x.2 m2
  | .unit, _, cs, _, ms => cs = [] ∧ ms = []
  | .sl t, c, cs, xs, ms => ∃ a len cap m, cs = [.slice a len cap] ∧ ms = [m] ∧ (cl c m).says t.size w Sh (RepC P t w Sh) a len cap xs
  | .fn a b, c, cs, g, ms => ∃ v m, cs = [v] ∧ ms = [m] ∧ (v.cells = #[v] ∧ v.oneCell' = true) ∧ (cl c m ≠ .skip → RepC P (.fn a b) w (fun k => Sh k ∨ (cl c m).blocks k) cs g)
  | .int k, _, cs, x, ms => ∃ m, ms = [m] ∧ RepC P (.int k) w Sh cs x
  | .bool, _, cs, x, ms => ∃ m, ms = [m] ∧ RepC P .bool w Sh cs x
  | .str, _, cs, x, ms => ∃ m, ms = [m] ∧ RepC P .str w Sh cs x
  | .ptr t, _, cs, x, ms => ∃ m, ms = [m] ∧ RepC P (.ptr t) w Sh cs x

theorem RepX.length {P : Program} {w : World} {Sh : Nat → Prop} {cl : Nat → Mk → Claim} : (t : Ty) → ∀ {c : Nat} {cs : List Value} {x : t.den} {ms : List Mk},
    RepX P w Sh cl t c cs x ms → cs.length = t.size ∧ ms.length = t.size
  | .unit, _, _, _, _, h => by rw [h.1, h.2]; exact ⟨rfl, rfl⟩
  | .int _, _, _, _, _, h => by obtain ⟨m, e, h⟩ := h; rw [e]; exact ⟨RepC.length _ h, rfl⟩
  | .bool, _, _, _, _, h => by obtain ⟨m, e, h⟩ := h; rw [e]; exact ⟨RepC.length _ h, rfl⟩
  | .str, _, _, _, _, h => by obtain ⟨m, e, h⟩ := h; rw [e]; exact ⟨RepC.length _ h, rfl⟩
  | .ptr _, _, _, _, _, h => by obtain ⟨m, e, h⟩ := h; rw [e]; exact ⟨RepC.length _ h, rfl⟩
  | .pair a b, _, _, _, _, h => by
    obtain ⟨c1, c2, m1, m2, e, e', h1, h2⟩ := h
    have := RepX.length a h1
    have := RepX.length b h2
    rw [e, e', List.length_append, List.length_append]
    simp only [Ty.size]
    omega
  | .sl _, _, _, _, _, h => by obtain ⟨_, _, _, _, e, e', _⟩ := h; rw [e, e']; exact ⟨rfl, rfl⟩
  | .fn _ _, _, _, _, _, h => by obtain ⟨_, _, e, e', _, _⟩ := h; rw [e, e']; exact ⟨rfl, rfl⟩

/-- one claim gives another, in a later world -/
inductive CLe (w : World) (w' : World) (Sh' : Nat → Prop) : Claim → Claim → Prop where
  | skip (c : Claim) : CLe w w' Sh' c .skip
  | nil : CLe w w' Sh' .nilc .nilc
  | nil_hold (B : Nat → Prop) (V : Value → Prop) (h : V (.slice none 0 0)) : CLe w w' Sh' .nilc (.hold B V)
  | nil_share : CLe w w' Sh' .nilc (.share false)
  | share (n : Bool) : CLe w w' Sh' (.share n) (.share n)
  | share_weak (n : Bool) : CLe w w' Sh' (.share n) (.share false)
  | hold (B B' : Nat → Prop) (V V' : Value → Prop) (h : Mono w B w' B') (hv : ∀ v, V v → V' v) : CLe w w' Sh' (.hold B V) (.hold B' V')
  | hold_share (B : Nat → Prop) (V : Value → Prop) (h : Mono w B w' Sh') : CLe w w' Sh' (.hold B V) (.share false)

theorem HoldS.share {α : Type} {size : Nat} {w w' : World} {B B' : Nat → Prop} {R R' : List Value → α → Prop} {a : Option Addr} {len cap : Nat} {xs : List α}
    (hm : Mono w B w' B') (hR : ∀ cs x, R cs x → R' cs x) (h : HoldS size w B R a len cap xs) : ShareS size w' B' R' a len cap xs := by
  obtain ⟨h1, h2, h3⟩ := h
  refine ⟨h1, h2, ?_⟩
  rcases h3 with h3 | ⟨ad, e, sp, hb, ⟨vs, et, hh, hc⟩, hr⟩
  · left; omega
  · right
    have hl : ad.block < w.heap.size := by
      rcases Nat.lt_or_ge ad.block w.heap.size with h | h
      · exact h
      · rw [Array.getElem?_eq_none h] at hh; cases hh
    have := hm.2 _ hl hb
    exact ⟨ad, e, sp, Nat.lt_of_lt_of_le hl hm.1, this.2, hr.mono this.1 hR⟩

theorem HoldS.mono {α : Type} {size : Nat} {w w' : World} {B B' : Nat → Prop} {R R' : List Value → α → Prop} {a : Option Addr} {len cap : Nat} {xs : List α}
    (hm : Mono w B w' B') (hR : ∀ cs x, R cs x → R' cs x) (h : HoldS size w B R a len cap xs) : HoldS size w' B' R' a len cap xs := by
  obtain ⟨h1, h2, h3⟩ := h
  refine ⟨h1, h2, h3.imp id ?_⟩
  rintro ⟨ad, e, sp, hb, ⟨vs, et, hh, hc⟩, hr⟩
  have hl : ad.block < w.heap.size := by
    rcases Nat.lt_or_ge ad.block w.heap.size with h | h
    · exact h
    · rw [Array.getElem?_eq_none h] at hh; cases hh
  have := hm.2 _ hl hb
  exact ⟨ad, e, sp, this.2, ⟨vs, et, this.1.trans hh, hc⟩, hr.mono this.1 hR⟩

theorem CLe.says {α : Type} {size : Nat} {w w' : World} {Sh Sh' : Nat → Prop} {R R' : List Value → α → Prop} {a : Option Addr} {len cap : Nat} {xs : List α} {c c' : Claim}
    (h : CLe w w' Sh' c c') (hm : Mono w Sh w' Sh') (hR : ∀ cs x, R cs x → R' cs x) (hc : c.says size w Sh R a len cap xs) : c'.says size w' Sh' R' a len cap xs := by
  cases h with
  | skip => trivial
  | nil => exact hc
  | nil_hold B V hv =>
    obtain ⟨rfl, rfl, rfl, rfl⟩ := hc
    exact ⟨⟨rfl, Nat.le_refl _, .inl rfl⟩, hv⟩
  | nil_share =>
    obtain ⟨rfl, rfl, rfl, rfl⟩ := hc
    exact ⟨⟨rfl, Nat.le_refl _, .inl rfl⟩, by simp⟩
  | share n => exact ⟨hc.1.mono hm hR, hc.2⟩
  | share_weak n => exact ⟨hc.1.mono hm hR, by simp⟩
  | hold B B' V V' hb hv => exact ⟨hc.1.mono hb hR, hv _ hc.2⟩
  | hold_share B V hb => exact ⟨hc.1.share hb hR, by simp⟩

theorem CLe.notSkip {w w' : World} {Sh' : Nat → Prop} {c c' : Claim} (h : CLe w w' Sh' c c') (hn : c' ≠ .skip) : c ≠ .skip := by
  cases h <;> simp_all

theorem CLe.blocks {w w' : World} {Sh Sh' : Nat → Prop} {c c' : Claim} (h : CLe w w' Sh' c c') (hn : c' ≠ .skip) (hm : Mono w Sh w' Sh') :
    Mono w (fun k => Sh k ∨ c.blocks k) w' (fun k => Sh' k ∨ c'.blocks k) := by
  refine ⟨hm.1, fun b hb hk => ?_⟩
  rcases hk with hk | hk
  · have := hm.2 b hb hk; exact ⟨this.1, .inl this.2⟩
  · cases h with
    | skip => exact absurd rfl hn
    | hold B B' V V' h hv => have := h.2 b hb hk; exact ⟨this.1, .inr this.2⟩
    | hold_share B V h => have := h.2 b hb hk; exact ⟨this.1, .inl this.2⟩
    | _ => exact hk.elim

theorem markAt_append_left : (l m : List Mk) → (i : Nat) → i < l.length → markAt (l ++ m) i = markAt l i
  | [], _, _, h => by simp at h
  | _ :: _, _, 0, _ => rfl
  | _ :: l, m, i + 1, h => markAt_append_left l m i (by simpa using h)

theorem markAt_append_right : (l m : List Mk) → (i : Nat) → markAt (l ++ m) (l.length + i) = markAt m i
  | [], _, i => by simp
  | a :: l, m, i => by
    have : (a :: l).length + i = (l.length + i) + 1 := by simp; omega
    rw [this]
    exact markAt_append_right l m i

/-- cells with claims, carried on -/
theorem RepX.trans {P : Program} {w w' : World} {Sh Sh' : Nat → Prop} {cl cl' : Nat → Mk → Claim} (hm : Mono w Sh w' Sh') :
    (t : Ty) → ∀ {c c' : Nat} {cs : List Value} {x : t.den} {ms ms' : List Mk}, RepX P w Sh cl t c cs x ms → ms'.length = ms.length →
    (∀ i, i < t.size → CLe w w' Sh' (cl (c + i) (markAt ms i)) (cl' (c' + i) (markAt ms' i))) → RepX P w' Sh' cl' t c' cs x ms'
  | .unit, _, _, _, _, _, _, h, hl, _ => ⟨h.1, by rw [h.2] at hl; simpa using hl⟩
  | .int _, _, _, _, _, ms, ms', h, hl, _ => by
    obtain ⟨m, e, h⟩ := h
    subst e
    match ms', hl with
    | [m'], _ => exact ⟨m', rfl, RepC.mono _ hm h⟩
  | .bool, _, _, _, _, ms, ms', h, hl, _ => by
    obtain ⟨m, e, h⟩ := h
    subst e
    match ms', hl with
    | [m'], _ => exact ⟨m', rfl, RepC.mono _ hm h⟩
  | .str, _, _, _, _, ms, ms', h, hl, _ => by
    obtain ⟨m, e, h⟩ := h
    subst e
    match ms', hl with
    | [m'], _ => exact ⟨m', rfl, RepC.mono _ hm h⟩
  | .ptr _, _, _, _, _, ms, ms', h, hl, _ => by
    obtain ⟨m, e, h⟩ := h
    subst e
    match ms', hl with
    | [m'], _ => exact ⟨m', rfl, RepC.mono _ hm h⟩
  | .sl t, c, c', _, _, ms, ms', h, hl, hc => by
    obtain ⟨a, len, cap, m, e, e', h⟩ := h
    subst e'
    match ms', hl with
    | [m'], _ =>
      have := hc 0 (by simp [Ty.size])
      exact ⟨a, len, cap, m', e, rfl, CLe.says this hm (fun _ _ => RepC.mono t hm) h⟩
  | .fn a b, c, c', _, _, ms, ms', h, hl, hc => by
    obtain ⟨v, m, e, e', hv, h⟩ := h
    subst e'
    match ms', hl with
    | [m'], _ =>
      have := hc 0 (by simp [Ty.size])
      exact ⟨v, m', e, rfl, hv, fun hn => RepC.mono (.fn a b) (this.blocks hn hm) (h (this.notSkip hn))⟩
  | .pair a b, c, c', cs, x, ms, ms', h, hl, hc => by
    obtain ⟨c1, c2, m1, m2, e, e', h1, h2⟩ := h
    subst e'
    have l1 := RepX.length a h1
    have l2 := RepX.length b h2
    rw [List.length_append] at hl
    have htd : ms' = ms'.take a.size ++ ms'.drop a.size := (List.take_append_drop _ _).symm
    have hlt : (ms'.take a.size).length = a.size := by rw [List.length_take]; omega
    refine ⟨c1, c2, ms'.take a.size, ms'.drop a.size, e, htd, RepX.trans hm a h1 (by omega) fun i hi => ?_, RepX.trans hm b h2 (by rw [List.length_drop]; omega) fun i hi => ?_⟩
    · have := hc i (by simp only [Ty.size]; omega)
      rw [htd, markAt_append_left _ _ _ (by omega), markAt_append_left _ _ _ (by omega)] at this
      exact this
    · have := hc (a.size + i) (by simp only [Ty.size]; omega)
      rw [htd] at this
      have e1 : a.size + i = m1.length + i := by omega
      have e2 : a.size + i = (ms'.take a.size).length + i := by omega
      rw [show markAt (m1 ++ m2) (a.size + i) = markAt m2 i by rw [e1]; exact markAt_append_right _ _ _,
        show markAt (ms'.take a.size ++ ms'.drop a.size) (a.size + i) = markAt (ms'.drop a.size) i by
          conv => lhs; rw [e2]
          exact markAt_append_right _ _ _, ← Nat.add_assoc, ← Nat.add_assoc] at this
      exact this

theorem markBeq_eq {a b : Mk} (h : markBeq a b = true) : a = b := by
  cases a <;> cases b <;> simp [markBeq] at h <;> simp [h]

theorem marksBeq_eq : {a b : List Mk} → marksBeq a b = true → a = b
  | [], [], _ => rfl
  | [], _ :: _, h => by simp [marksBeq] at h
  | _ :: _, [], h => by simp [marksBeq] at h
  | a :: l, b :: m, h => by
    simp only [marksBeq, Bool.and_eq_true] at h
    rw [markBeq_eq h.1, marksBeq_eq h.2]

end Go.GD
