import Derived.Test.YtbapfiaglcllnaaGDcc
import Derived.ProofKit
import Derived.Deep.Slices
import Derived.HandedShaped
import Derived.OpenShut
import Derived.ChangeCalls
import Derived.IntWalk
import Derived.DataShut
section
namespace Go.GD
open Go
def readList (rd : TypeId → Ty → Bool) : List (TypeId × Nat) → Nat → Ty → Bool
  | [], _, .unit => true
  | [(T, o)], off, t => Nat.beq o off && rd T t
  | (T, o) :: l, off, .pair a b => Nat.beq o off && (rd T a && readList rd l (off + a.size) b)
  | _, _, _ => false
def readOK (P : Program) : Nat → TypeId → Ty → Bool
  | 0, _, _ => false
  | n + 1, T, t => Nat.beq (P.cellsOf T) t.size && match P.underlying T with
    | some (.int k) => t.beq (.int k)
    | some .bool => t.beq .bool
    | some .string => t.beq .str
    | some (.slice e) => match t with
      | .sl t' => readOK P n e t' && !Nat.beq t'.size 0
      | _ => false
    | some (.struct fs) => t.isAgg && readList (readOK P n) (fs.toList.map fun f => (f.type, f.offset)) 0 t
    | some (.array k e) => t.isAgg && readList (readOK P n) ((List.range k).map fun i => (e, i * P.cellsOf e)) 0 t
    | _ => false
def Valid : (t : Ty) → t.den → Prop
  | .unit, _ => True
  | .int k, n => (Lit.int k n).wf = true
  | .bool, _ => True
  | .str, l => l.length ≤ maxLen
  | .pair a b, x => Valid a x.1 ∧ Valid b x.2
  | .sl t, xs => xs.length ≤ maxLen ∧ ∀ x, x ∈ xs → Valid t x
  | .ptr t, x => Valid t x
  | .fn _ _, _ => True
theorem exists_list {α : Type} {p : Nat → α → Prop} : (n : Nat) → (∀ i, i < n → ∃ y, p i y) → ∃ ys : List α, ys.length = n ∧ ∀ i (h : i < ys.length), p i ys[i]
  | 0, _ => ⟨[], rfl, fun i h => by simp at h⟩
  | n + 1, h => by
    obtain ⟨ys, h1, h2⟩ := exists_list n fun i hi => h i (by omega)
    obtain ⟨y, hy⟩ := h n (by omega)
    refine ⟨ys ++ [y], by simp [h1], fun i hi => ?_⟩
    rcases Nat.lt_or_ge i ys.length with hl | hl
    · rw [List.getElem_append_left hl]; exact h2 i hl
    · have : i = n := by simp at hi; omega
      subst this
      rw [List.getElem_append_right hl]
      simpa using hy
section
variable {H : Type} {enc : TypeId × Value → H} {P : Program} {w : World} {base : Nat} {sp : Nat → Bool} {held : Bool}
theorem readList_rep {rd : TypeId → Ty → Bool} {cs : List Value} (hrd : ∀ T t off, rd T t = true → (∃ x, x = T ∧ ∃ fuel y, DataW.trod enc P w base sp held fuel T ((cs.drop off).take (P.cellsOf T)) = some y) →
      ∃ y, RepC P t w (fun _ => True) ((cs.drop off).take t.size) y ∧ Valid t y) :
    (l : List (TypeId × Nat)) → (off : Nat) → (t : Ty) → readList rd l off t = true → (∀ T o, (T, o) ∈ l → ∃ fuel y, DataW.trod enc P w base sp held fuel T ((cs.drop o).take (P.cellsOf T)) = some y) →
    off + t.size ≤ cs.length → ∃ y, RepC P t w (fun _ => True) ((cs.drop off).take t.size) y ∧ Valid t y
  | [], off, t, h, _, _ => by
    cases t with
    | unit => exact ⟨(), by show List.take 0 _ = []; simp, trivial⟩
    | _ => simp [readList] at h
  | [(T, o)], off, t, h, ht, _ => by
    simp only [readList, Bool.and_eq_true] at h
    have e := Nat.eq_of_beq_eq_true h.1
    subst e
    exact hrd T t o h.2 ⟨T, rfl, ht T o (List.mem_cons_self ..)⟩
  | (T, o) :: q :: l, off, t, h, ht, hlen => by
    cases t with
    | pair a b =>
      simp only [readList, Bool.and_eq_true] at h
      have e := Nat.eq_of_beq_eq_true h.1
      subst e
      simp only [Ty.size] at hlen
      obtain ⟨y1, h1, v1⟩ := hrd T a o h.2.1 ⟨T, rfl, ht T o (List.mem_cons_self ..)⟩
      obtain ⟨y2, h2, v2⟩ := readList_rep hrd (q :: l) (o + a.size) b h.2.2 (fun T' o' hm => ht T' o' (List.mem_cons_of_mem _ hm)) (by omega)
      refine ⟨(y1, y2), ⟨_, _, ?_, h1, h2⟩, v1, v2⟩
      simp only [Ty.size]
      rw [← List.drop_drop, ← List.take_add]
    | _ => simp [readList] at h
theorem trod_rep : (n : Nat) → ∀ {T : TypeId} {t : Ty} {fuel : Nat} {cs : List Value} {x : DataW H × List MemPlace}, readOK P n T t = true → DataW.trod enc P w base sp held fuel T cs = some x →
    ∃ y, RepC P t w (fun _ => True) cs y ∧ Valid t y
  | 0, _, _, _, _, _, h, _ => by simp [readOK] at h
  | n + 1, T, t, fuel, cs, x, h, hx => by
    simp only [readOK, Bool.and_eq_true] at h
    obtain ⟨hc, h⟩ := h
    have hc := Nat.eq_of_beq_eq_true hc
    cases hu : P.underlying T with
    | none => rw [hu] at h; cases h
    | some d =>
      rw [hu] at h
      have agg : ∀ (l : List (TypeId × Nat)), readList (readOK P n) l 0 t = true → cs.length = P.cellsOf T → (∀ T o, (T, o) ∈ l → ∃ fuel y, DataW.trod enc P w base sp held fuel T ((cs.drop o).take (P.cellsOf T)) = some y) →
          ∃ y, RepC P t w (fun _ => True) cs y ∧ Valid t y := by
        intro l hl hlen ht
        have := readList_rep (cs := cs) (rd := readOK P n) (fun T' t' off hr hex => by
          obtain ⟨_, _, fuel', y', hy'⟩ := hex
          obtain ⟨y, h1, h2⟩ := trod_rep n hr hy'
          have e : P.cellsOf T' = t'.size := by
            cases n with
            | zero => simp [readOK] at hr
            | succ n => simp only [readOK, Bool.and_eq_true] at hr; exact Nat.eq_of_beq_eq_true hr.1
          rw [e] at h1
          exact ⟨y, h1, h2⟩) l 0 t hl ht (by omega)
        rw [List.drop_zero, List.take_of_length_le (by omega)] at this
        exact this
      cases d with
      | int k =>
        have := Ty.eq_of_beq h
        subst this
        obtain ⟨m, e, _, hwf⟩ := DataW.trod_int hu hx
        exact ⟨m, e, hwf⟩
      | bool =>
        have := Ty.eq_of_beq h
        subst this
        obtain ⟨b, e, _⟩ := DataW.trod_bool hu hx
        exact ⟨b, e, trivial⟩
      | string =>
        have := Ty.eq_of_beq h
        subst this
        obtain ⟨s, e, _, hs⟩ := DataW.trod_string hu hx
        exact ⟨s.data.toList, e, by show s.data.toList.length ≤ maxLen; rw [Array.length_toList]; exact hs⟩
      | slice e =>
        cases t with
        | sl t' =>
          simp only [Bool.and_eq_true, Bool.not_eq_true'] at h
          have hsz : t'.size ≠ 0 := fun e0 => by rw [e0] at h; simp at h
          have hce : P.cellsOf e = t'.size := by
            cases n with
            | zero => simp [readOK] at h
            | succ n => have := h.1; simp only [readOK, Bool.and_eq_true] at this; exact Nat.eq_of_beq_eq_true this.1
          rcases Deep.open_slice hu hx with ⟨ecs, _⟩ | ⟨a, len, cap, m, n', D, Pl, ecs, hb, hl, hm, hmm, _, hi⟩
          · exact ⟨[], ⟨none, 0, 0, ecs, rfl, Nat.le_refl _, .inl rfl⟩, Nat.zero_le _, fun _ h => by cases h⟩
          · have hlm : len ≤ m := by rw [hmm]; split <;> omega
            have key : ∀ i, i < len → ∃ y : t'.den, (∃ cs' : List Value, cs'.length = t'.size ∧ (∀ j, j < t'.size → w.cell? ((a.add (i * t'.size)).add j) = cs'[j]?) ∧ RepC P t' w (fun _ => True) cs' y) ∧ Valid t' y := by
              intro i hil
              obtain ⟨cs', hcs, htr⟩ := hi i (by omega)
              obtain ⟨y, h1, h2⟩ := trod_rep n h.1 htr
              obtain ⟨_, q1, q2⟩ := World.cells?_some hcs
              rw [hce] at q1 q2
              exact ⟨y, ⟨cs', q1, q2, h1⟩, h2⟩
            obtain ⟨ys, hyl, hys⟩ := exists_list len key
            have hyv : ∀ y, y ∈ ys → Valid t' y := fun y hy => by
              obtain ⟨i, hi', e'⟩ := List.mem_iff_getElem.1 hy
              rw [← e']; exact (hys i hi').2
            refine ⟨ys, ⟨some a, len, cap, ecs, hyl, hl, ?_⟩, by show ys.length ≤ maxLen; omega, hyv⟩
            rcases Nat.eq_zero_or_pos len with h0 | h0
            · exact .inl h0
            · right
              have hfirst : ∃ v, w.cell? a = some v := by
                obtain ⟨_, ⟨cs', q1, q2, _⟩, _⟩ := key 0 h0
                have := q2 0 (by omega)
                rw [Nat.zero_mul] at this
                have e0 : (a.add 0).add 0 = a := by simp [Addr.add]
                rw [e0, List.getElem?_eq_getElem (by omega)] at this
                exact ⟨_, this⟩
              obtain ⟨v, hv⟩ := hfirst
              have hsp : a.spot = none := by
                unfold World.cell? at hv
                split at hv
                · cases hs : a.spot with
                  | none => rfl
                  | some _ => rw [hs] at hv; simp at hv
                · cases hv
              refine ⟨a, rfl, hsp, World.block_lt_of_cell? w a hv, trivial, fun i hi' => ?_⟩
              obtain ⟨cs', q1, q2, q3⟩ := (hys i hi').1
              refine ⟨cs', q1, fun j hj => ?_, q3⟩
              have := q2 j hj
              rw [addr_add hsp, addr_add (ad := ⟨a.block, a.off + i * t'.size, none⟩) rfl] at this
              exact this
        | _ => cases h
      | struct fs =>
        simp only [Bool.and_eq_true] at h
        obtain ⟨xs, n', _, _, hlen, hxl, hf⟩ := DataW.trod_struct hu hx
        refine agg _ h.2 hlen fun T' o hm => ?_
        obtain ⟨f, hfm, e⟩ := List.mem_map.1 hm
        injection e with e1 e2
        subst e1; subst e2
        obtain ⟨i, hil, e'⟩ := List.mem_iff_getElem.1 hfm
        have hfi : fs[i]? = some f := by rw [← e']; simp at hil ⊢
        have := hf i f hfi
        rw [List.getElem?_eq_getElem (by simp at hil; omega)] at this
        exact ⟨n', _, this⟩
      | array k e =>
        simp only [Bool.and_eq_true] at h
        obtain ⟨xs, n', _, _, hlen, hxl, hf⟩ := DataW.trod_array hu hx
        refine agg _ h.2 hlen fun T' o hm => ?_
        obtain ⟨i, him, e'⟩ := List.mem_map.1 hm
        injection e' with e1 e2
        subst e1; subst e2
        have hik := List.mem_range.1 him
        have := hf i hik
        rw [List.getElem?_eq_getElem (by omega)] at this
        exact ⟨n', _, this⟩
      | _ => cases h
end
end Go.GD
end

section
namespace Go.GD
open Go Go.ChangeShapes Go.WideShapes Go.RowKit
theorem Contract.of {P : Program} {f : Nat} {ps rs : List Ty} {own : Bool} {φ : (pk ps).den → Option (pk rs).den} (hc : Callable P f) (h : Does P f ps rs own φ) : Contract P f { ps, rs, own, φ } := ⟨hc, fun _ => h, fun e => by cases e⟩
section
variable {H : Type} {enc : TypeId × Value → H} {P : Program} {w : World} {base : Nat} {sp : Nat → Bool} {held : Bool}
theorem okWide_mkV {n : Nat} {T : TypeId} {t : Ty} {v : Value} {r : Reach} (h : readOK P n T t = true) (hv : Value.okWide P w r base T v) : v = mkV t v.cells.toList := by
  cases n with
  | zero => simp [readOK] at h
  | succ n =>
    simp only [readOK, Bool.and_eq_true] at h
    obtain ⟨_, h⟩ := h
    cases hu : P.underlying T with
    | none => rw [hu] at h; cases h
    | some d =>
      rw [hu] at h
      cases d with
      | int k => have := Ty.eq_of_beq h; subst this; obtain ⟨m, rfl⟩ := okWide_int hu hv; rfl
      | bool => have := Ty.eq_of_beq h; subst this; obtain ⟨m, rfl⟩ := okWide_bool hu hv; rfl
      | string => have := Ty.eq_of_beq h; subst this; obtain ⟨m, rfl⟩ := okWide_string hu hv; rfl
      | slice e =>
        cases t with
        | sl t' => obtain ⟨a, len, cap, rfl⟩ := okWide_slice hu hv; rfl
        | _ => cases h
      | struct fs =>
        simp only [Bool.and_eq_true] at h
        simp only [Value.okWide, hu] at hv
        obtain ⟨cs, rfl, _⟩ := hv
        simp [mkV, h.1, Value.cells]
      | array k e =>
        simp only [Bool.and_eq_true] at h
        simp only [Value.okWide, hu] at hv
        obtain ⟨cs, rfl, _⟩ := hv
        simp [mkV, h.1, Value.cells]
      | _ => cases h
def readParams (P : Program) (n : Nat) : List TypeId → List Ty → Bool
  | [], [] => true
  | T :: Ts, t :: ts => readOK P n T t && readParams P n Ts ts
  | _, _ => false
theorem args_rep {n b' : Nat} {r : Reach} : (Ts : List TypeId) → (ts : List Ty) → ∀ {vs : List Value} {ds : List (DataW H)} {ps : List MemPlace}, readParams P n Ts ts = true → DataW.TrodAll enc P w base sp held Ts vs ds ps →
    (∀ (j : Nat) T v, Ts[j]? = some T → vs[j]? = some v → Value.okWide P w r b' T v) → ∃ cs x, vs = argVals ts cs ∧ RepC P (pk ts) w (fun _ => True) cs x ∧ Valid (pk ts) x
  | [], [], vs, ds, ps, _, h, _ => by
    obtain ⟨rfl, _⟩ := trodAll_nil h
    exact ⟨[], (), rfl, rfl, trivial⟩
  | [], _ :: _, _, _, _, h, _, _ => by simp [readParams] at h
  | _ :: _, [], _, _, _, h, _, _ => by simp [readParams] at h
  | T :: Ts, t :: ts, vs, ds, ps, h, ht, hok => by
    simp only [readParams, Bool.and_eq_true] at h
    obtain ⟨v, vs', d, ds', p, q, rfl, rfl, rfl, ⟨fuel, h1⟩, h2⟩ := trodAll_cons ht
    obtain ⟨y, hy, hval⟩ := trod_rep n h.1 h1
    have hv := okWide_mkV h.1 (hok 0 T v rfl rfl)
    have hl := RepC.length t hy
    obtain ⟨cs, x, e, hx, hvx⟩ := args_rep Ts ts h.2 h2 (fun j T v h1 h2 => hok (j + 1) T v h1 h2)
    have e1 : (v.cells.toList ++ cs).take t.size = v.cells.toList := by rw [List.take_append_of_le_length (by omega), take_all hl]
    have e2 : (v.cells.toList ++ cs).drop t.size = cs := by rw [← hl, List.drop_left]
    cases ts with
    | nil =>
      refine ⟨v.cells.toList, y, ?_, hy, hval⟩
      rw [e]
      show v :: [] = mkV t (v.cells.toList.take t.size) :: []
      rw [take_all hl, ← hv]
    | cons t' ts =>
      refine ⟨v.cells.toList ++ cs, (y, x), ?_, ⟨_, _, rfl, hy, hx⟩, hval, hvx⟩
      show v :: vs' = mkV t ((v.cells.toList ++ cs).take t.size) :: argVals (t' :: ts) ((v.cells.toList ++ cs).drop t.size)
      rw [e1, e2, ← hv, e]
theorem trodAll_kept {w' : World} (hl : laidOutB P = true) (hb : Below w.heap.size w w') : (Ts : List TypeId) → ∀ {vs : List Value} {ds : List (DataW H)} {ps : List MemPlace},
    (∀ t, t ∈ Ts → P.readableRec t = true ∧ t < P.types.size) → DataW.TrodAll enc P w 0 (fun _ => true) true Ts vs ds ps → DataW.TrodAll enc P w' 0 (fun b => decide (b < w.heap.size)) true Ts vs ds ps
  | [], vs, ds, ps, _, h => by
    obtain ⟨rfl, rfl, rfl⟩ := trodAll_nil h
    exact trodAll_mk0
  | T :: Ts, vs, ds, ps, hT, h => by
    have hlt := DataW.TrodAll.lt h
    obtain ⟨v, vs', d, ds', p, q, rfl, rfl, rfl, h1, h2⟩ := trodAll_cons h
    have hT0 := hT T (List.mem_cons_self ..)
    exact ⟨p, q, Below.trod hl hT0.1 hT0.2 h1 hb (fun x hx => hlt x (List.mem_append_left _ hx)), trodAll_kept hl hb Ts (fun t ht => hT t (List.mem_cons_of_mem _ ht)) h2, rfl⟩
end
theorem law_lifted {a : Assume} {C : Checked} {os : Os} {f : FuncId} {fn : Func} {s : ChangeSpec} {conds : List PathCond} {apart fresh handsOn own : Bool} {H : Type} {enc : TypeId × Value → H} {ps : List Ty} {φ : (pk ps).den → Option Bool} {n : Nat} {Tb : TypeId}
    (hown : ownKnob C.prog.godebug = none) (started : os.Started) (noInit : C.prog.inits.idxOf? f = none) (hfn : C.prog.funcs[f]? = some fn)
    (witness : ∃ (w : World) (tape : Tape) (i : Input), w.os = os ∧ (w.forCall tape i).Shaped C.prog ∧ i.vars = [] ∧ Input.okWide C.prog (w.forCall tape i) .any w.heap.size f i ∧
      s.pre6 enc C.prog fn conds apart (w.forCall tape i).memory i.args ∧ a.holds C.prog (lone (Frame.enter C.prog f i.args .normal) [] (w.forCall tape i)))
    (hs : s.vars = []) (hspec : ∀ ds : List (DataW H), ds.length = fn.params.toList.length → s.fn H ds = { results := [.lit (.bool true)], args := ds })
    (hres : fn.resultTypes = #[Tb]) (hTb : C.prog.underlying Tb = some .bool) (hlaid : laidOutB C.prog = true)
    (hread : (fn.params.toList.all fun t => C.prog.readableRec t && decide (t < C.prog.types.size)) = true) (hok : readParams C.prog n fn.params.toList ps = true)
    (hd : Does C.prog f ps [.bool] own φ) (law : ∀ x, Valid (pk ps) x → φ x = some true) :
    ReturnsInHanded a C os f .any (s.pre6 enc C.prog fn conds apart) (s.post enc C.prog fn apart fresh handsOn false) := by
  refine returnsInHanded_of_change hown started noInit hfn witness ?_
  intro W base args ds gs before hval hW _ _
  have hW' := hW
  obtain ⟨p, q, hA, hV, rfl, _, _⟩ := hW
  rw [hs] at hV
  obtain ⟨rfl, rfl⟩ := trodVars_none hV
  obtain ⟨cs, x, hvs, hx, hvx⟩ := args_rep fn.params.toList ps hok hA (fun j T v h1 h2 => hval j T v (by simpa using h1) (by simpa using h2))
  have eargs : args = (argVals ps cs).toArray := by rw [← hvs]
  rw [eargs]
  refine (hd W (fun _ => True) cs x true hx (law x hvx)).mono fun e W' hh => ?_
  obtain ⟨us, g', rfl, hrep, hsz, hH, _, hio⟩ := hh
  have hb : Below W.heap.size W W' := ⟨hio.1, hio.2.1, hio.2.2.1, hsz, hH⟩
  have hv : resV [.bool] us = .bool true := by
    obtain ⟨m, _, hc⟩ := hrep
    rw [show us = [.bool true] from hc]; rfl
  refine ⟨_, rfl, ?_⟩
  rw [hv, ← eargs]
  have hlen := (trodAll_length hA).2
  have hsp := hspec (ds ++ []) (by rw [List.append_nil]; exact hlen)
  refine ⟨ds, [], _, [], p, [], hW', ?_, ?_, ?_, hb.frame _, fun h => by cases h⟩
  · rw [hsp, hres]
    exact trodAll_mk1 (shut_bool hTb true)
  · rw [hsp, List.append_nil]
    refine trodAll_kept hlaid hb _ (fun t ht => ?_) hA
    have := List.all_eq_true.1 hread t ht
    simpa using this
  · rw [hsp, hs]
    rfl
end Go.GD
end

section
namespace Go.GD
open Go
theorem iter_rule {S ρ : Type} {step : (S → Option ρ) → S → Option ρ} (I : S → Prop) (μ : S → Nat) (Q : S → ρ → Prop)
    (h : ∀ F s, I s → (∀ s', I s' → μ s' < μ s → ∃ r, F s' = some r ∧ Q s' r) → ∃ r, step F s = some r ∧ Q s r) :
    ∀ (n : Nat) (s : S), I s → μ s < n → ∃ r, iter step n s = some r ∧ Q s r
  | 0, _, _, hn => absurd hn (Nat.not_lt_zero _)
  | n + 1, s, hI, hn => h (iter step n) s hI fun s' hI' hlt => iter_rule I μ Q h n s' hI' (by omega)
theorem iter_eq {S ρ : Type} {step : (S → Option ρ) → S → Option ρ} (I : S → Prop) (μ : S → Nat) (f : S → ρ)
    (h : ∀ F s, I s → (∀ s', I s' → μ s' < μ s → F s' = some (f s')) → step F s = some (f s)) (n : Nat) (s : S) (hI : I s) (hn : μ s < n) : iter step n s = some (f s) := by
  obtain ⟨r, h1, h2⟩ := iter_rule I μ (fun s r => r = f s) (fun F s hI hF => ⟨f s, h F s hI fun s' hI' hl => by
    obtain ⟨r, q1, q2⟩ := hF s' hI' hl
    rw [q1, q2], rfl⟩) n s hI hn
  rw [h1, h2]
theorem idx_nat {α : Type} (xs : List α) (i : Nat) : idx xs (i : Int) = xs[i]? := by
  unfold idx
  rw [show decide (0 ≤ (i : Int)) = true by simp]
  simp
theorem idx_get {α : Type} {xs : List α} {i : Nat} (h : i < xs.length) : idx xs (i : Int) = some xs[i] := by
  rw [idx_nat, List.getElem?_eq_getElem h]
theorem wrap_i64 {n : Int} (h1 : -9223372036854775808 ≤ n) (h2 : n ≤ 9223372036854775807) : IntKind.i64.wrap n = n := IntWalk.i64_in n ⟨h1, h2⟩
end Go.GD
end

section
namespace Go.GD
open Go
def forE {α σ ρ : Type} (body : α → σ → (σ → Option ρ) → Option ρ) (fin : σ → Option ρ) : List α → σ → Option ρ
  | [], s => fin s
  | x :: xs, s => body x s (forE body fin xs)
def forI {α σ ρ : Type} (body : Nat → α → σ → (σ → Option ρ) → Option ρ) (fin : σ → Option ρ) : Nat → List α → σ → Option ρ
  | _, [], s => fin s
  | k, x :: xs, s => body k x s (forI body fin (k + 1) xs)
def forN {σ ρ : Type} (body : Nat → σ → (σ → Option ρ) → Option ρ) (fin : σ → Option ρ) : Nat → Nat → σ → Option ρ
  | _, 0, s => fin s
  | k, m + 1, s => body k s (forN body fin (k + 1) m)
theorem iter_forI {S ρ σ α : Type} {step : (S → Option ρ) → S → Option ρ} (xs : List α) (enc : Nat → σ → S) (body : Nat → α → σ → (σ → Option ρ) → Option ρ) (fin : σ → Option ρ)
    (hb : ∀ (F : S → Option ρ) (k : Nat) (h : k < xs.length) (s : σ), step F (enc k s) = body k xs[k] s (fun s' => F (enc (k + 1) s')))
    (hf : ∀ (F : S → Option ρ) (s : σ), step F (enc xs.length s) = fin s) {n : Nat} (hn : xs.length < n) (s : σ) : iter step n (enc 0 s) = forI body fin 0 xs s := by
  have key : ∀ (m : Nat) (ys : List α) (k n : Nat) (s : σ), ys.length = m → xs.drop k = ys → k + ys.length = xs.length → m < n → iter step n (enc k s) = forI body fin k ys s := by
    intro m
    induction m with
    | zero =>
      intro ys k n s hm hd hl hn
      cases ys with
      | cons => simp at hm
      | nil =>
        cases n with
        | zero => omega
        | succ n =>
          have : k = xs.length := by simpa using hl
          subst this
          exact hf _ s
    | succ m ih =>
      intro ys k n s hm hd hl hn
      cases ys with
      | nil => simp at hm
      | cons y ys =>
        cases n with
        | zero => omega
        | succ n =>
          have hk : k < xs.length := by simp at hl; omega
          have hy : xs[k] = y := by
            rw [List.drop_eq_getElem_cons hk] at hd
            exact (List.cons.inj hd).1
          have hd' : xs.drop (k + 1) = ys := by
            rw [List.drop_eq_getElem_cons hk] at hd
            exact (List.cons.inj hd).2
          show step (iter step n) (enc k s) = body k y s (forI body fin (k + 1) ys)
          rw [hb (iter step n) k hk s, hy]
          congr 1
          funext s'
          exact ih ys (k + 1) n s' (by simpa using hm) hd' (by simp at hl; omega) (by omega)
  exact key xs.length xs 0 n s rfl rfl (by simp) hn
theorem iter_forI_from {S ρ σ α : Type} {step : (S → Option ρ) → S → Option ρ} (xs : List α) (enc : Nat → σ → S) (body : Nat → α → σ → (σ → Option ρ) → Option ρ) (fin : σ → Option ρ)
    (hb : ∀ (F : S → Option ρ) (k : Nat) (h : k < xs.length) (s : σ), step F (enc k s) = body k xs[k] s (fun s' => F (enc (k + 1) s')))
    (hf : ∀ (F : S → Option ρ) (s : σ), step F (enc xs.length s) = fin s) {k : Nat} (hk : k ≤ xs.length) {n : Nat} (hn : xs.length < n) (s : σ) : iter step n (enc k s) = forI body fin k (xs.drop k) s := by
  have := iter_forI (step := step) (xs.drop k) (fun j s => enc (k + j) s) (fun j x s K => body (k + j) x s K) fin (fun F j hj s => by
    rw [List.length_drop] at hj
    have := hb F (k + j) (by omega) s
    rw [this]
    simp [Nat.add_assoc]) (fun F s => by
    rw [List.length_drop, show k + (xs.length - k) = xs.length by omega]; exact hf F s) (n := n) (by rw [List.length_drop]; omega) s
  refine this.trans ?_
  clear this
  generalize xs.drop k = ys
  suffices h : ∀ (ys : List α) (j : Nat) (s : σ), forI (fun j x s K => body (k + j) x s K) fin j ys s = forI body fin (k + j) ys s from h ys 0 s
  intro ys
  induction ys with
  | nil => intro j s; rfl
  | cons y ys ih =>
    intro j s
    show body (k + j) y s _ = body (k + j) y s _
    congr 1
    funext s'
    exact ih (j + 1) s'
theorem forI_forE {α σ ρ : Type} (body : α → σ → (σ → Option ρ) → Option ρ) (fin : σ → Option ρ) : ∀ (xs : List α) (k : Nat) (s : σ), forI (fun _ => body) fin k xs s = forE body fin xs s
  | [], _, _ => rfl
  | x :: xs, k, s => by
    show body x s _ = body x s _
    congr 1
    funext s'
    exact forI_forE body fin xs (k + 1) s'
theorem iter_forE {S ρ σ α : Type} {step : (S → Option ρ) → S → Option ρ} (xs : List α) (enc : Nat → σ → S) (body : α → σ → (σ → Option ρ) → Option ρ) (fin : σ → Option ρ)
    (hb : ∀ (F : S → Option ρ) (k : Nat) (h : k < xs.length) (s : σ), step F (enc k s) = body xs[k] s (fun s' => F (enc (k + 1) s')))
    (hf : ∀ (F : S → Option ρ) (s : σ), step F (enc xs.length s) = fin s) {n : Nat} (hn : xs.length < n) (s : σ) : iter step n (enc 0 s) = forE body fin xs s :=
  (iter_forI xs enc (fun _ => body) fin hb hf hn s).trans (forI_forE body fin xs 0 s)
theorem bindS {α β : Type} (a : α) (f : α → Option β) : (some a).bind f = f a := by rw [Option.bind_some]
theorem condT {α : Type} (a b : α) : (bif true then a else b) = a := by rw [cond_true]
theorem condF {α : Type} (a b : α) : (bif false then a else b) = b := by rw [cond_false]
theorem dec_lt {k n : Nat} (h : k < n) : decide ((k : Int) < (n : Int)) = true := decide_eq_true (by omega)
theorem dec_end (n : Nat) : decide ((n : Int) < (n : Int)) = false := decide_eq_false (by omega)
theorem wrap_succ {k n : Nat} (h : k < n) (hn : n ≤ maxLen) : IntKind.i64.wrap ((k : Int) + 1) = ((k + 1 : Nat) : Int) := by
  rw [show maxLen = 9223372036854775807 from rfl] at hn
  rw [wrap_i64 (by omega) (by omega)]; rfl
theorem len_lt_big {n : Nat} (h : n ≤ maxLen) : n < 18446744073709551616 := by
  rw [show maxLen = 9223372036854775807 from rfl] at h; omega
theorem grows {n m b : Nat} (h : (n + m) * b ≤ appendLimit) (hb : 0 < b) : (Nat.ble ((n + m) * b) appendLimit && Nat.ble (n + m) 9223372036854775807) = true := by
  simp only [Bool.and_eq_true, Nat.ble_eq]
  refine ⟨h, ?_⟩
  have : n + m ≤ (n + m) * b := Nat.le_mul_of_pos_right _ hb
  unfold appendLimit at h
  omega
end Go.GD
end

section
namespace Go.GD
open Go
def findI {α : Type} (p : α → Bool) : Nat → List α → Int
  | _, [] => -1
  | k, x :: xs => bif p x then (k : Int) else findI p (k + 1) xs
theorem forI_find {α σ : Type} (p : α → Bool) : ∀ (xs : List α) (k : Nat) (s : σ), forI (fun k x s K => bif p x then some (k : Int) else K s) (fun _ => some (-1)) k xs s = some (findI p k xs)
  | [], _, _ => rfl
  | x :: xs, k, s => by
    simp only [forI, findI]
    cases p x with
    | true => rfl
    | false => exact forI_find p xs (k + 1) s
theorem findI_neg {α : Type} (p : α → Bool) : ∀ (xs : List α) (k : Nat), xs.any p = false → findI p k xs = -1
  | [], _, _ => rfl
  | x :: xs, k, h => by
    simp only [List.any_cons, Bool.or_eq_false_iff] at h
    simp only [findI, h.1, cond_false]
    exact findI_neg p xs (k + 1) h.2
theorem findI_pos {α : Type} (p : α → Bool) : ∀ (xs : List α) (k : Nat), xs.any p = true → ∃ i : Nat, ∃ h : i < xs.length, findI p k xs = ((k + i : Nat) : Int) ∧ p xs[i] = true ∧ ∀ j (h : j < xs.length), j < i → p xs[j] = false
  | [], _, h => by simp at h
  | x :: xs, k, h => by
    simp only [findI]
    cases hx : p x with
    | true => exact ⟨0, by simp, by simp, hx, fun j _ hj => by omega⟩
    | false =>
      rw [List.any_cons, hx, Bool.false_or] at h
      obtain ⟨i, hi, h1, h2, h3⟩ := findI_pos p xs (k + 1) h
      refine ⟨i + 1, by simp; omega, ?_, by simpa using h2, fun j hj hlt => ?_⟩
      · simp only [cond_false, h1]; omega
      · cases j with
        | zero => exact hx
        | succ j => exact h3 j (by simpa using hj) (by omega)
theorem findI_ge {α : Type} (p : α → Bool) (xs : List α) (k : Nat) : decide (findI p k xs ≥ 0) = xs.any p := by
  cases h : xs.any p with
  | false => rw [findI_neg p xs k h]; rfl
  | true =>
    obtain ⟨i, _, h1, _⟩ := findI_pos p xs k h
    rw [h1]
    exact decide_eq_true (by omega)
theorem forE_foldl {α σ ρ : Type} (f : σ → α → σ) (fin : σ → Option ρ) : ∀ (xs : List α) (s : σ), forE (fun x s K => K (f s x)) fin xs s = fin (xs.foldl f s)
  | [], _ => rfl
  | x :: xs, s => forE_foldl f fin xs (f s x)
theorem forI_congr {α σ ρ : Type} {body body' : Nat → α → σ → (σ → Option ρ) → Option ρ} {fin fin' : σ → Option ρ} (xs : List α) (k : Nat)
    (hb : ∀ i (h : i < xs.length), ∀ s K, body (k + i) xs[i] s K = body' (k + i) xs[i] s K) (hf : ∀ s, fin s = fin' s) (s : σ) : forI body fin k xs s = forI body' fin' k xs s := by
  induction xs generalizing s k with
  | nil => exact hf s
  | cons x xs ih =>
    simp only [forI]
    have := hb 0 (by simp) s
    simp only [Nat.add_zero, List.getElem_cons_zero] at this
    rw [this]
    congr 1
    funext s'
    exact ih (k + 1) (fun i hi s K => by
      have := hb (i + 1) (by simpa using hi) s K
      rw [show k + (i + 1) = k + 1 + i by omega] at this
      simpa using this) s'
theorem maxLen_val : maxLen = 9223372036854775807 := rfl
end Go.GD
end

section
namespace Go.GD
open Go
def Tot {ρ : Type} (o : Option ρ) : Prop := ∃ r, o = some r
end Go.GD
end

section
namespace Go.GD
open Go
theorem forE_rule {α σ ρ : Type} {body : α → σ → (σ → Option ρ) → Option ρ} {fin : σ → Option ρ} (I : List α → σ → Prop) (Q : Option ρ → Prop) (xs : List α)
    (hb : ∀ pre x post, xs = pre ++ x :: post → ∀ s, I pre s → ∀ K, (∀ s', I (pre ++ [x]) s' → Q (K s')) → Q (body x s K)) (hf : ∀ s, I xs s → Q (fin s)) {s : σ} (h0 : I [] s) : Q (forE body fin xs s) := by
  suffices h : ∀ (ys pre : List α) (s : σ), xs = pre ++ ys → I pre s → Q (forE body fin ys s) from h xs [] s rfl h0
  intro ys
  induction ys with
  | nil => intro pre s e hI; rw [List.append_nil] at e; subst e; exact hf s hI
  | cons y ys ih => intro pre s e hI; exact hb pre y ys e s hI _ fun s' hs' => ih (pre ++ [y]) s' (by rw [e]; simp) hs'
theorem forI_rule {α σ ρ : Type} {body : Nat → α → σ → (σ → Option ρ) → Option ρ} {fin : σ → Option ρ} (I : List α → σ → Prop) (Q : Option ρ → Prop) (xs : List α)
    (hb : ∀ pre x post, xs = pre ++ x :: post → ∀ s, I pre s → ∀ K, (∀ s', I (pre ++ [x]) s' → Q (K s')) → Q (body pre.length x s K)) (hf : ∀ s, I xs s → Q (fin s)) {s : σ} (h0 : I [] s) : Q (forI body fin 0 xs s) := by
  suffices h : ∀ (ys pre : List α) (s : σ), xs = pre ++ ys → I pre s → Q (forI body fin pre.length ys s) from h xs [] s rfl h0
  intro ys
  induction ys with
  | nil => intro pre s e hI; rw [List.append_nil] at e; subst e; exact hf s hI
  | cons y ys ih =>
    intro pre s e hI
    refine hb pre y ys e s hI _ fun s' hs' => ?_
    have := ih (pre ++ [y]) s' (by rw [e]; simp) hs'
    rwa [List.length_append, List.length_singleton] at this
def lexLt : List Int → List Int → Bool
  | [], [] => false
  | [], _ :: _ => true
  | _ :: _, [] => false
  | a :: as, b :: bs => if a = b then lexLt as bs else decide (a < b)
end Go.GD
end
