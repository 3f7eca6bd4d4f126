import Derived.Test.YtbapfiaglcllnaaGD22
import Derived.ProofKit
import Derived.Deep.Slices
import Derived.HandedShaped
import Derived.OpenShut
namespace Go.GD
open Go
def readList (rd : TypeId → Ty → Bool) : List (TypeId × Nat) → Nat → Ty → Bool
  | [], _, .unit => true
  | [(T, o)], off, t => Nat.beq o off && rd T t
  | (T, o) :: l, off, .pair a b => Nat.beq o off && (rd T a && readList rd l (off + a.size) b)
  | _, _, _ => false
def readOK (P : Program) : Nat → TypeId → Ty → Bool
  | 0, _, _ => false
  | n + 1, T, t => Nat.beq (P.cellsOf T) t.size && match P.underlying T with
    | some (.int k) => t.beq (.int k)
    | some .bool => t.beq .bool
    | some .string => t.beq .str
    | some (.slice e) => match t with
      | .sl t' => readOK P n e t' && !Nat.beq t'.size 0
      | _ => false
    | some (.struct fs) => t.isAgg && readList (readOK P n) (fs.toList.map fun f => (f.type, f.offset)) 0 t
    | some (.array k e) => t.isAgg && readList (readOK P n) ((List.range k).map fun i => (e, i * P.cellsOf e)) 0 t
    | _ => false
def Valid : (t : Ty) → t.den → Prop
  | .unit, _ => True
  | .int k, n => (Lit.int k n).wf = true
  | .bool, _ => True
  | .str, l => l.length ≤ maxLen
  | .pair a b, x => Valid a x.1 ∧ Valid b x.2
  | .sl t, xs => xs.length ≤ maxLen ∧ ∀ x, x ∈ xs → Valid t x
  | .ptr t, x => Valid t x
  | .fn _ _, _ => True
theorem exists_list {α : Type} {p : Nat → α → Prop} : (n : Nat) → (∀ i, i < n → ∃ y, p i y) → ∃ ys : List α, ys.length = n ∧ ∀ i (h : i < ys.length), p i ys[i]
  | 0, _ => ⟨[], rfl, fun i h => by simp at h⟩
  | n + 1, h => by
    obtain ⟨ys, h1, h2⟩ := exists_list n fun i hi => h i (by omega)
    obtain ⟨y, hy⟩ := h n (by omega)
    refine ⟨ys ++ [y], by simp [h1], fun i hi => ?_⟩
    rcases Nat.lt_or_ge i ys.length with hl | hl
    · rw [List.getElem_append_left hl]; exact h2 i hl
    · have : i = n := by simp at hi; omega
      subst this
      rw [List.getElem_append_right hl]
      simpa using hy
section
variable {H : Type} {enc : TypeId × Value → H} {P : Program} {w : World} {base : Nat} {sp : Nat → Bool} {held : Bool}
theorem readList_rep {rd : TypeId → Ty → Bool} {cs : List Value} (hrd : ∀ T t off, rd T t = true → (∃ x, x = T ∧ ∃ fuel y, DataW.trod enc P w base sp held fuel T ((cs.drop off).take (P.cellsOf T)) = some y) →
      ∃ y, RepC P t w (fun _ => True) ((cs.drop off).take t.size) y ∧ Valid t y) :
    (l : List (TypeId × Nat)) → (off : Nat) → (t : Ty) → readList rd l off t = true → (∀ T o, (T, o) ∈ l → ∃ fuel y, DataW.trod enc P w base sp held fuel T ((cs.drop o).take (P.cellsOf T)) = some y) →
    off + t.size ≤ cs.length → ∃ y, RepC P t w (fun _ => True) ((cs.drop off).take t.size) y ∧ Valid t y
  | [], off, t, h, _, _ => by
    cases t with
    | unit => exact ⟨(), by show List.take 0 _ = []; simp, trivial⟩
    | _ => simp [readList] at h
  | [(T, o)], off, t, h, ht, _ => by
    simp only [readList, Bool.and_eq_true] at h
    have e := Nat.eq_of_beq_eq_true h.1
    subst e
    exact hrd T t o h.2 ⟨T, rfl, ht T o (List.mem_cons_self ..)⟩
  | (T, o) :: q :: l, off, t, h, ht, hlen => by
    cases t with
    | pair a b =>
      simp only [readList, Bool.and_eq_true] at h
      have e := Nat.eq_of_beq_eq_true h.1
      subst e
      simp only [Ty.size] at hlen
      obtain ⟨y1, h1, v1⟩ := hrd T a o h.2.1 ⟨T, rfl, ht T o (List.mem_cons_self ..)⟩
      obtain ⟨y2, h2, v2⟩ := readList_rep hrd (q :: l) (o + a.size) b h.2.2 (fun T' o' hm => ht T' o' (List.mem_cons_of_mem _ hm)) (by omega)
      refine ⟨(y1, y2), ⟨_, _, ?_, h1, h2⟩, v1, v2⟩
      simp only [Ty.size]
      rw [← List.drop_drop, ← List.take_add]
    | _ => simp [readList] at h
theorem trod_rep : (n : Nat) → ∀ {T : TypeId} {t : Ty} {fuel : Nat} {cs : List Value} {x : DataW H × List MemPlace}, readOK P n T t = true → DataW.trod enc P w base sp held fuel T cs = some x →
    ∃ y, RepC P t w (fun _ => True) cs y ∧ Valid t y
  | 0, _, _, _, _, _, h, _ => by simp [readOK] at h
  | n + 1, T, t, fuel, cs, x, h, hx => by
    simp only [readOK, Bool.and_eq_true] at h
    obtain ⟨hc, h⟩ := h
    have hc := Nat.eq_of_beq_eq_true hc
    cases hu : P.underlying T with
    | none => rw [hu] at h; cases h
    | some d =>
      rw [hu] at h
      have agg : ∀ (l : List (TypeId × Nat)), readList (readOK P n) l 0 t = true → cs.length = P.cellsOf T → (∀ T o, (T, o) ∈ l → ∃ fuel y, DataW.trod enc P w base sp held fuel T ((cs.drop o).take (P.cellsOf T)) = some y) →
          ∃ y, RepC P t w (fun _ => True) cs y ∧ Valid t y := by
        intro l hl hlen ht
        have := readList_rep (cs := cs) (rd := readOK P n) (fun T' t' off hr hex => by
          obtain ⟨_, _, fuel', y', hy'⟩ := hex
          obtain ⟨y, h1, h2⟩ := trod_rep n hr hy'
          have e : P.cellsOf T' = t'.size := by
            cases n with
            | zero => simp [readOK] at hr
            | succ n => simp only [readOK, Bool.and_eq_true] at hr; exact Nat.eq_of_beq_eq_true hr.1
          rw [e] at h1
          exact ⟨y, h1, h2⟩) l 0 t hl ht (by omega)
        rw [List.drop_zero, List.take_of_length_le (by omega)] at this
        exact this
      cases d with
      | int k =>
        have := Ty.eq_of_beq h
        subst this
        obtain ⟨m, e, _, hwf⟩ := DataW.trod_int hu hx
        exact ⟨m, e, hwf⟩
      | bool =>
        have := Ty.eq_of_beq h
        subst this
        obtain ⟨b, e, _⟩ := DataW.trod_bool hu hx
        exact ⟨b, e, trivial⟩
      | string =>
        have := Ty.eq_of_beq h
        subst this
        obtain ⟨s, e, _, hs⟩ := DataW.trod_string hu hx
        exact ⟨s.data.toList, e, by show s.data.toList.length ≤ maxLen; rw [Array.length_toList]; exact hs⟩
      | slice e =>
        cases t with
        | sl t' =>
          simp only [Bool.and_eq_true, Bool.not_eq_true'] at h
          have hsz : t'.size ≠ 0 := fun e0 => by rw [e0] at h; simp at h
          have hce : P.cellsOf e = t'.size := by
            cases n with
            | zero => simp [readOK] at h
            | succ n => have := h.1; simp only [readOK, Bool.and_eq_true] at this; exact Nat.eq_of_beq_eq_true this.1
          rcases Deep.open_slice hu hx with ⟨ecs, _⟩ | ⟨a, len, cap, m, n', D, Pl, ecs, hb, hl, hm, hmm, _, hi⟩
          · exact ⟨[], ⟨none, 0, 0, ecs, rfl, Nat.le_refl _, .inl rfl⟩, Nat.zero_le _, fun _ h => by cases h⟩
          · have hlm : len ≤ m := by rw [hmm]; split <;> omega
            have key : ∀ i, i < len → ∃ y : t'.den, (∃ cs' : List Value, cs'.length = t'.size ∧ (∀ j, j < t'.size → w.cell? ((a.add (i * t'.size)).add j) = cs'[j]?) ∧ RepC P t' w (fun _ => True) cs' y) ∧ Valid t' y := by
              intro i hil
              obtain ⟨cs', hcs, htr⟩ := hi i (by omega)
              obtain ⟨y, h1, h2⟩ := trod_rep n h.1 htr
              obtain ⟨_, q1, q2⟩ := World.cells?_some hcs
              rw [hce] at q1 q2
              exact ⟨y, ⟨cs', q1, q2, h1⟩, h2⟩
            obtain ⟨ys, hyl, hys⟩ := exists_list len key
            have hyv : ∀ y, y ∈ ys → Valid t' y := fun y hy => by
              obtain ⟨i, hi', e'⟩ := List.mem_iff_getElem.1 hy
              rw [← e']; exact (hys i hi').2
            refine ⟨ys, ⟨some a, len, cap, ecs, hyl, hl, ?_⟩, by show ys.length ≤ maxLen; omega, hyv⟩
            rcases Nat.eq_zero_or_pos len with h0 | h0
            · exact .inl h0
            · right
              have hfirst : ∃ v, w.cell? a = some v := by
                obtain ⟨_, ⟨cs', q1, q2, _⟩, _⟩ := key 0 h0
                have := q2 0 (by omega)
                rw [Nat.zero_mul] at this
                have e0 : (a.add 0).add 0 = a := by simp [Addr.add]
                rw [e0, List.getElem?_eq_getElem (by omega)] at this
                exact ⟨_, this⟩
              obtain ⟨v, hv⟩ := hfirst
              have hsp : a.spot = none := by
                unfold World.cell? at hv
                split at hv
                · cases hs : a.spot with
                  | none => rfl
                  | some _ => rw [hs] at hv; simp at hv
                · cases hv
              refine ⟨a, rfl, hsp, World.block_lt_of_cell? w a hv, trivial, fun i hi' => ?_⟩
              obtain ⟨cs', q1, q2, q3⟩ := (hys i hi').1
              refine ⟨cs', q1, fun j hj => ?_, q3⟩
              have := q2 j hj
              rw [addr_add hsp, addr_add (ad := ⟨a.block, a.off + i * t'.size, none⟩) rfl] at this
              exact this
        | _ => cases h
      | struct fs =>
        simp only [Bool.and_eq_true] at h
        obtain ⟨xs, n', _, _, hlen, hxl, hf⟩ := DataW.trod_struct hu hx
        refine agg _ h.2 hlen fun T' o hm => ?_
        obtain ⟨f, hfm, e⟩ := List.mem_map.1 hm
        injection e with e1 e2
        subst e1; subst e2
        obtain ⟨i, hil, e'⟩ := List.mem_iff_getElem.1 hfm
        have hfi : fs[i]? = some f := by rw [← e']; simp at hil ⊢
        have := hf i f hfi
        rw [List.getElem?_eq_getElem (by simp at hil; omega)] at this
        exact ⟨n', _, this⟩
      | array k e =>
        simp only [Bool.and_eq_true] at h
        obtain ⟨xs, n', _, _, hlen, hxl, hf⟩ := DataW.trod_array hu hx
        refine agg _ h.2 hlen fun T' o hm => ?_
        obtain ⟨i, him, e'⟩ := List.mem_map.1 hm
        injection e' with e1 e2
        subst e1; subst e2
        have hik := List.mem_range.1 him
        have := hf i hik
        rw [List.getElem?_eq_getElem (by omega)] at this
        exact ⟨n', _, this⟩
      | _ => cases h
end
end Go.GD
