import Derived.Test.YtmmlfdnpgigfbaaGD3
namespace Go.GD
open Go

/-! ### slots -/

theorem listSet_length : (σ : List Slot) → (s : Nat) → (v : Slot) → (listSet σ s v).length = σ.length
  | [], _, _ => rfl
  | _ :: _, 0, _ => rfl
  | _ :: l, s + 1, v => by simp [listSet, listSet_length l s v]

theorem listGet_set_same : (σ : List Slot) → (s : Nat) → (v : Slot) → s < σ.length → listGet (listSet σ s v) s = v
  | [], _, _, h => by simp at h
  | _ :: _, 0, _, _ => rfl
  | _ :: l, s + 1, v, h => listGet_set_same l s v (by simpa using h)

theorem listGet_set_other : (σ : List Slot) → (s t : Nat) → (v : Slot) → t ≠ s → listGet (listSet σ s v) t = listGet σ t
  | [], _, _, _, _ => rfl
  | _ :: _, 0, 0, _, h => absurd rfl h
  | _ :: _, 0, _ + 1, _, _ => rfl
  | _ :: _, _ + 1, 0, _, _ => rfl
  | _ :: l, s + 1, t + 1, v, h => listGet_set_other l s t v (by omega)

theorem listSet_out : (σ : List Slot) → (s : Nat) → (v : Slot) → σ.length ≤ s → listSet σ s v = σ
  | [], _, _, _ => rfl
  | _ :: _, 0, _, h => by simp at h
  | _ :: l, s + 1, v, h => by rw [listSet, listSet_out l s v (by simpa using h)]

theorem listGet_out : (σ : List Slot) → (s : Nat) → σ.length ≤ s → listGet σ s = ⟨.top, 0, 0⟩
  | [], _, _ => rfl
  | _ :: _, 0, h => by simp at h
  | _ :: l, s + 1, h => listGet_out l s (by simpa using h)

def validB (σ : St) (s c g : Nat) : Bool := Nat.beq (listGet σ s).gen g && ((listGet σ s).a.mark c).isOwn

def borOk1 (σ : St) (s g : Nat) (cs : List Nat) : Bool := Nat.beq (listGet σ s).gen g && ((listGet σ s).a.isBox && (listGet σ s).a.owns cs)

def borOk (σ : St) : List (Nat × Nat × List Nat) → Bool
  | [] => true
  | (s, g, cs) :: l => borOk1 σ s g cs && borOk σ l

abbrev Own := Nat → Option (Nat × Option Nat)

def borBlocks (g : Own) (q : List (Nat × Nat × List Nat)) (b : Nat) : Prop :=
  ∃ s gn cs, (s, gn, cs) ∈ q ∧ (g b = some (s, none) ∨ ∃ c, c ∈ cs ∧ g b = some (s, some c))

/-- what a mark in cell c of slot s says -/
def clm (σ : St) (g : Own) (pv : Nat → Nat → Option Value) (s : Nat) : Nat → Mk → Claim
  | c, .own => .hold (fun b => g b = some (s, some c)) (fun _ => True)
  | _, .shr => .share false
  | _, .nn => .share true
  | _, .nil => .nilc
  | _, .dead => .skip
  | _, .ref s' c' g' => cond (validB σ s' c' g') (.hold (fun b => g b = some (s', some c')) (fun v => pv s' c' = some v)) .skip
  | _, .sub s' c' g' => cond (validB σ s' c' g') (.hold (fun b => g b = some (s', some c')) (fun _ => True)) .skip
  | _, .bor q => cond (borOk σ q) (.hold (borBlocks g q) (fun _ => True)) .skip

def tupCells : Value → List Value
  | .tuple vs => vs.toList.flatMap fun v => v.cells.toList
  | _ => []

/-- the cell at a place -/
def placeV (σ : St) (tm : Array Value) (w : World) (s c : Nat) : Option Value :=
  match (listGet σ s).a with
  | .val _ => (tm.getD s undef).cells.toList[c]?
  | .tup _ => (tupCells (tm.getD s undef))[c]?
  | .box _ => match tm.getD s undef with
    | .pointer (some ad) => w.cell? ⟨ad.block, ad.off + c, none⟩
    | _ => none
  | _ => none

def bndM (σ : St) : Mk → Prop
  | .ref s _ g | .sub s _ g => g ≤ (listGet σ s).gen
  | .bor q => ∀ s g cs, (s, g, cs) ∈ q → g ≤ (listGet σ s).gen
  | _ => True

def bndA (σ : St) : A → Prop
  | .val v | .box v => ∀ m, m ∈ v.ms → bndM σ m
  | .tup vs => ∀ v, v ∈ vs → ∀ m, m ∈ v.ms → bndM σ m
  | .bptr s _ id => id ≤ (listGet σ s).id
  | .eptr s _ g _ _ _ _ => g ≤ (listGet σ s).gen
  | .cptr _ _ (some (s, _, g)) => g ≤ (listGet σ s).gen
  | .mref s id => id ≤ (listGet σ s).id
  | _ => True

theorem SameIO.refl (w : World) : SameIO w w := ⟨rfl, rfl, rfl⟩

theorem SameIO.trans {a b c : World} (h : SameIO a b) (h' : SameIO b c) : SameIO a c := ⟨h'.1.trans h.1, h'.2.1.trans h.2.1, h'.2.2.trans h.2.2⟩

structure Ctx where
  P : Program
  base : Nat
  /-- the elder blocks that may be read -/
  Ok0 : Nat → Prop
  /-- the elder blocks that are handed over -/
  G : Nat → Prop
  h0 : Array Obj
  w0 : World
  /-- slots that point to a variable of the caller's, and their values -/
  pin : Nat → Option Value := fun _ => none

def Shd (C : Ctx) (g : Own) : Nat → Prop := fun b => (C.base ≤ b ∨ C.Ok0 b ∨ C.G b) ∧ g b = none

section
variable (C : Ctx) (g : Own) (σ : St) (tm : Array Value) (w : World)

abbrev cl (s : Nat) : Nat → Mk → Claim := clm σ g (placeV σ tm w) s

def ValRep (s c : Nat) (v : Value) (tv : TV) : Prop := ∃ cs, v = mkV tv.t cs ∧ RepX C.P w (Shd C g) (cl g σ tm w s) tv.t c cs tv.x tv.ms

def TupRep (s : Nat) : Nat → List Value → List TV → Prop
  | _, [], [] => True
  | c, v :: vs, tv :: l => ValRep C g σ tm w s c v tv ∧ TupRep s (c + tv.ms.length) vs l
  | _, _, _ => False

def atomV : (t : Ty) → t.den → Value
  | .int k, n => .int k n
  | .bool, b => .bool b
  | _, _ => undef

/-- a map's entries -/
def MapRep {t : Ty} (es : List MapEntry) (ks : List (Int × t.den)) : Prop := es.map (fun e => (e.key, e.val)) = ks.map fun p => (Value.int .i64 p.1, atomV t p.2)

def SlotRep (s : Nat) (v : Value) : A → Prop
  | .top => True
  | .val tv => ValRep C g σ tm w s 0 v tv
  | .tup vs => ∃ vals : List Value, v = .tuple vals.toArray ∧ TupRep C g σ tm w s 0 vals vs
  | .box tv => ∃ b e, ∃ cs : List Value, v = .pointer (some ⟨b, 0, none⟩) ∧ g b = some (s, none) ∧ w.heap[b]? = some (.cells cs.toArray e (0, 0)) ∧
      RepX C.P w (Shd C g) (cl g σ tm w s) tv.t 0 cs tv.x tv.ms
  | .bptr s' off id => (listGet σ s').id = id → ∀ b, tm.getD s' undef = .pointer (some ⟨b, 0, none⟩) → v = .pointer (some ⟨b, off, none⟩)
  | .eptr s' c' g' i t x off => validB σ s' c' g' = true → ∃ ad : Addr, ∃ len cap, placeV σ tm w s' c' = some (.slice (some ad) len cap) ∧ ad.spot = none ∧ i < len ∧
      v = .pointer (some ⟨ad.block, ad.off + i * t.size + off, none⟩) ∧
      MemAt t.size w (fun b => g b = some (s', some c')) (RepC C.P t w (Shd C g)) ⟨ad.block, ad.off + i * t.size, none⟩ x
  | .cptr t x none => ∃ ad : Addr, v = .pointer (some ad) ∧ ad.spot = none ∧ MemAt t.size w (Shd C g) (RepC C.P t w (Shd C g)) ad x
  | .cptr t x (some (s', c', g')) => validB σ s' c' g' = true → ∃ ad : Addr, v = .pointer (some ad) ∧ ad.spot = none ∧
      MemAt t.size w (fun b => g b = some (s', some c')) (RepC C.P t w (Shd C g)) ad x
  | .mp t ks => ∃ b clock, ∃ es : Array MapEntry, v = .map (some b) ∧ g b = some (s, none) ∧ w.heap[b]? = some (.map es clock) ∧ MapRep (t := t) es.toList ks
  | .mref s' id => (listGet σ s').id = id → v = tm.getD s' undef

structure SRep : Prop where
  len : tm.size = σ.length
  slots : ∀ s, s < σ.length → SlotRep C g σ tm w s (tm.getD s undef) (listGet σ s).a
  bnd : ∀ s, s < σ.length → bndA σ (listGet σ s).a
  gok : ∀ b, g b ≠ none → b < w.heap.size ∧ (C.base ≤ b ∨ C.G b)
  frame : ∀ b, b < C.base → ¬ C.G b → w.heap[b]? = C.h0[b]?
  size : C.base ≤ w.heap.size
  io : SameIO C.w0 w
  pin : ∀ s v, C.pin s = some v → (listGet σ s).a.isBox = true → tm.getD s undef = v

end

theorem heap_lt {w : World} {b : Nat} {o : Obj} (h : w.heap[b]? = some o) : b < w.heap.size := by
  rcases Nat.lt_or_ge b w.heap.size with h' | h'
  · exact h'
  · rw [Array.getElem?_eq_none h'] at h; cases h

/-- what must be so that a slot's reading is carried into a later state -/
structure Carry (C : Ctx) (g : Own) (σ : St) (tm : Array Value) (w : World) (g' : Own) (σ' : St) (tm' : Array Value) (w' : World) (s : Nat) : Prop where
  sh : Mono w (Shd C g) w' (Shd C g')
  own : ∀ c, ((listGet σ s).a.mark c).isOwn = true → Mono w (fun b => g b = some (s, some c)) w' (fun b => g' b = some (s, some c))
  box : Mono w (fun b => g b = some (s, none)) w' (fun b => g' b = some (s, none))
  ref : ∀ s' c' g0, validB σ' s' c' g0 = true → g0 ≤ (listGet σ s').gen → validB σ s' c' g0 = true ∧
    Mono w (fun b => g b = some (s', some c')) w' (fun b => g' b = some (s', some c')) ∧ placeV σ' tm' w' s' c' = placeV σ tm w s' c'
  bor : ∀ s' g0 cs, borOk1 σ' s' g0 cs = true → g0 ≤ (listGet σ s').gen → borOk1 σ s' g0 cs = true ∧
    Mono w (fun b => g b = some (s', none)) w' (fun b => g' b = some (s', none)) ∧
    ∀ c, c ∈ cs → Mono w (fun b => g b = some (s', some c)) w' (fun b => g' b = some (s', some c))
  id : ∀ s' id, (listGet σ' s').id = id → id ≤ (listGet σ s').id → (listGet σ s').id = id ∧ tm'.getD s' undef = tm.getD s' undef

theorem Carry.borOks {C : Ctx} {g : Own} {σ : St} {tm : Array Value} {w : World} {g' : Own} {σ' : St} {tm' : Array Value} {w' : World} {s : Nat}
    (h : Carry C g σ tm w g' σ' tm' w' s) : (q : List (Nat × Nat × List Nat)) → (∀ s g cs, (s, g, cs) ∈ q → g ≤ (listGet σ s).gen) → borOk σ' q = true → borOk σ q = true ∧ Mono w (borBlocks g q) w' (borBlocks g' q)
  | [], _, _ => ⟨rfl, h.sh.1, fun b _ hb => by obtain ⟨_, _, _, hm, _⟩ := hb; cases hm⟩
  | (s', g0, cs) :: l, hq, ho => by
    simp only [GD.borOk, Bool.and_eq_true] at ho
    obtain ⟨h1, h2⟩ := Carry.borOks h l (fun s g cs hm => hq s g cs (List.mem_cons_of_mem _ hm)) ho.2
    obtain ⟨h3, h4, h5⟩ := h.bor s' g0 cs ho.1 (hq s' g0 cs (List.mem_cons_self ..))
    refine ⟨by simp [GD.borOk, h3, h1], h.sh.1, fun b hb hk => ?_⟩
    obtain ⟨t, gn, ds, hm, hor⟩ := hk
    rcases List.mem_cons.1 hm with he | hm
    · injection he with e1 e2; injection e2 with e2 e3
      subst e1; subst e2; subst e3
      rcases hor with hor | ⟨c, hc, hor⟩
      · have := h4.2 b hb hor
        exact ⟨this.1, _, _, _, List.mem_cons_self .., .inl this.2⟩
      · have := (h5 c hc).2 b hb hor
        exact ⟨this.1, _, _, _, List.mem_cons_self .., .inr ⟨c, hc, this.2⟩⟩
    · have := h2.2 b hb ⟨t, gn, ds, hm, hor⟩
      obtain ⟨e, t', gn', ds', hm', hor'⟩ := this
      exact ⟨e, t', gn', ds', List.mem_cons_of_mem _ hm', hor'⟩

/-- a claim carried on -/
theorem Carry.cle {C : Ctx} {g : Own} {σ : St} {tm : Array Value} {w : World} {g' : Own} {σ' : St} {tm' : Array Value} {w' : World} {s : Nat}
    (h : Carry C g σ tm w g' σ' tm' w' s) (c : Nat) (m : Mk) (hb : bndM σ m) (ho : m = .own → ((listGet σ s).a.mark c).isOwn = true) :
    CLe w w' (Shd C g') (cl g σ tm w s c m) (cl g' σ' tm' w' s c m) := by
  cases m with
  | shr => exact .share _
  | nn => exact .share _
  | nil => exact .nil
  | dead => exact .skip _
  | own => exact .hold _ _ _ _ (h.own c (ho rfl)) (fun _ h => h)
  | ref s' c' g0 =>
    simp only [clm]
    cases hv : validB σ' s' c' g0 with
    | false => exact .skip _
    | true =>
      obtain ⟨h1, h2, h3⟩ := h.ref s' c' g0 hv hb
      rw [h1]
      exact .hold _ _ _ _ h2 (fun v hv => h3.trans hv)
  | sub s' c' g0 =>
    simp only [clm]
    cases hv : validB σ' s' c' g0 with
    | false => exact .skip _
    | true =>
      obtain ⟨h1, h2, h3⟩ := h.ref s' c' g0 hv hb
      rw [h1]
      exact .hold _ _ _ _ h2 (fun v hv => hv)
  | bor q =>
    simp only [clm]
    cases hv : borOk σ' q with
    | false => exact .skip _
    | true =>
      obtain ⟨h1, h2⟩ := h.borOks q hb hv
      rw [h1]
      exact .hold _ _ _ _ h2 (fun v hv => hv)

theorem mem_of_markAt : (ms : List Mk) → (i : Nat) → i < ms.length → markAt ms i ∈ ms
  | [], _, h => by simp at h
  | _ :: _, 0, _ => List.mem_cons_self ..
  | _ :: l, i + 1, h => List.mem_cons_of_mem _ (mem_of_markAt l i (by simpa using h))

/-- a value carried on; its cells stand at place c of the slot -/
theorem Carry.valRep {C : Ctx} {g : Own} {σ : St} {tm : Array Value} {w : World} {g' : Own} {σ' : St} {tm' : Array Value} {w' : World} {s : Nat}
    (h : Carry C g σ tm w g' σ' tm' w' s) {c : Nat} {cs : List Value} {tv : TV} (hb : ∀ m, m ∈ tv.ms → bndM σ m)
    (ho : ∀ i, markAt tv.ms i = .own → ((listGet σ s).a.mark (c + i)).isOwn = true)
    (hr : RepX C.P w (Shd C g) (cl g σ tm w s) tv.t c cs tv.x tv.ms) : RepX C.P w' (Shd C g') (cl g' σ' tm' w' s) tv.t c cs tv.x tv.ms := by
  have hl := RepX.length _ hr
  exact RepX.trans h.sh tv.t hr rfl fun i hi => h.cle (c + i) _ (hb _ (mem_of_markAt _ _ (by omega))) (fun e => ho i e)

theorem Carry.tupRep {C : Ctx} {g : Own} {σ : St} {tm : Array Value} {w : World} {g' : Own} {σ' : St} {tm' : Array Value} {w' : World} {s : Nat}
    (h : Carry C g σ tm w g' σ' tm' w' s) : (vs : List TV) → (c : Nat) → (vals : List Value) → (∀ v, v ∈ vs → ∀ m, m ∈ v.ms → bndM σ m) →
    (∀ i, (markTup vs i).isOwn = true → ((listGet σ s).a.mark (c + i)).isOwn = true) → TupRep C g σ tm w s c vals vs → TupRep C g' σ' tm' w' s c vals vs
  | [], _, [], _, _, _ => trivial
  | [], _, _ :: _, _, _, hr => hr
  | _ :: _, _, [], _, _, hr => hr
  | tv :: l, c, v :: vals, hb, ho, hr => by
    obtain ⟨⟨cs, e, h1⟩, h2⟩ := hr
    have hl := RepX.length _ h1
    refine ⟨⟨cs, e, h.valRep (hb tv (List.mem_cons_self ..)) (fun i hi => ?_) h1⟩, Carry.tupRep h l _ vals (fun v hv => hb v (List.mem_cons_of_mem _ hv)) (fun i hi => ?_) h2⟩
    · refine ho i ?_
      have hlt : i < tv.ms.length := by
        rcases Nat.lt_or_ge i tv.ms.length with h | h
        · exact h
        · have : markAt tv.ms i = .dead := by
            clear h1 h2 ho hb hl
            generalize tv.ms = ms at *
            induction ms generalizing i with
            | nil => rfl
            | cons a l ih =>
              cases i with
              | zero => simp at h
              | succ i => exact ih i hi (by simpa using h)
          rw [this] at hi; cases hi
      simp [markTup, hlt, Nat.blt_eq, hi, Mk.isOwn]
    · have := ho (tv.ms.length + i) (by
        have : ¬ tv.ms.length + i < tv.ms.length := by omega
        simp only [markTup, Nat.blt_eq, this, ↓reduceIte]
        rw [show tv.ms.length + i - tv.ms.length = i by omega]; exact hi)
      rwa [← Nat.add_assoc] at this

theorem Carry.slotRep' {C : Ctx} {g : Own} {σ : St} {tm : Array Value} {w : World} {g' : Own} {σ' : St} {tm' : Array Value} {w' : World} {s : Nat}
    (h : Carry C g σ tm w g' σ' tm' w' s) {v : Value} {a : A} (hown : ∀ i, (a.mark i).isOwn = true → ((listGet σ s).a.mark i).isOwn = true)
    (hb : bndA σ a) (hr : SlotRep C g σ tm w s v a) : SlotRep C g' σ' tm' w' s v a := by
  cases a with
  | top => trivial
  | val tv =>
    obtain ⟨cs, e, hr⟩ := hr
    exact ⟨cs, e, h.valRep hb (fun i hi => by rw [Nat.zero_add]; exact hown i (by simp [A.mark, hi, Mk.isOwn])) hr⟩
  | tup vs =>
    obtain ⟨vals, e, hr⟩ := hr
    exact ⟨vals, e, h.tupRep vs 0 vals hb (fun i hi => by rw [Nat.zero_add]; exact hown i (by simpa [A.mark] using hi)) hr⟩
  | box tv =>
    obtain ⟨b, e, cs, hv, hg, hh, hr⟩ := hr
    have := h.box.2 b (heap_lt hh) hg
    exact ⟨b, e, cs, hv, this.2, this.1.trans hh, h.valRep hb (fun i hi => by rw [Nat.zero_add]; exact hown i (by simp [A.mark, hi, Mk.isOwn])) hr⟩
  | bptr s' off id =>
    intro hid b ht
    have := h.id s' id hid hb
    exact hr this.1 b (this.2 ▸ ht)
  | eptr s' c' g0 i t x off =>
    intro hv
    obtain ⟨h1, h2, h3⟩ := h.ref s' c' g0 hv hb
    obtain ⟨ad, len, cap, hp, hsp, hi, hvv, hm⟩ := hr h1
    exact ⟨ad, len, cap, h3.trans hp, hsp, hi, hvv, hm.mono h2 fun _ _ => RepC.mono t h.sh⟩
  | mp t ks =>
    obtain ⟨b, clock, es, hv, hg, hh, hr⟩ := hr
    have := h.box.2 b (heap_lt hh) hg
    exact ⟨b, clock, es, hv, this.2, this.1.trans hh, hr⟩
  | mref s' id =>
    intro hid
    have := h.id s' id hid hb
    rw [this.2]; exact hr this.1
  | cptr t x bor =>
    cases bor with
    | none =>
      obtain ⟨ad, e, sp, hm⟩ := hr
      exact ⟨ad, e, sp, hm.mono h.sh fun _ _ => RepC.mono t h.sh⟩
    | some m =>
      obtain ⟨s', c', g0⟩ := m
      intro hv
      obtain ⟨h1, h2, h3⟩ := h.ref s' c' g0 hv hb
      obtain ⟨ad, e, sp, hm⟩ := hr h1
      exact ⟨ad, e, sp, hm.mono h2 fun _ _ => RepC.mono t h.sh⟩

theorem Carry.slotRep {C : Ctx} {g : Own} {σ : St} {tm : Array Value} {w : World} {g' : Own} {σ' : St} {tm' : Array Value} {w' : World} {s : Nat}
    (h : Carry C g σ tm w g' σ' tm' w' s) {v : Value} (hb : bndA σ (listGet σ s).a) (hr : SlotRep C g σ tm w s v (listGet σ s).a) :
    SlotRep C g' σ' tm' w' s v (listGet σ s).a := h.slotRep' (fun _ h => h) hb hr
end Go.GD
