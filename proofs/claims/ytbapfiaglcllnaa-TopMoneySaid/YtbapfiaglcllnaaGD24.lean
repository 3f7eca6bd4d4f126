import Derived.Test.YtbapfiaglcllnaaGD23
import Derived.ChangeCalls
namespace Go.GD
open Go Go.ChangeShapes Go.WideShapes Go.RowKit
theorem Contract.of {P : Program} {f : Nat} {ps rs : List Ty} {own : Bool} {φ : (pk ps).den → Option (pk rs).den} (hc : Callable P f) (h : Does P f ps rs own φ) : Contract P f { ps, rs, own, φ } := ⟨hc, fun _ => h, fun e => by cases e⟩
section
variable {H : Type} {enc : TypeId × Value → H} {P : Program} {w : World} {base : Nat} {sp : Nat → Bool} {held : Bool}
theorem okWide_mkV {n : Nat} {T : TypeId} {t : Ty} {v : Value} {r : Reach} (h : readOK P n T t = true) (hv : Value.okWide P w r base T v) : v = mkV t v.cells.toList := by
  cases n with
  | zero => simp [readOK] at h
  | succ n =>
    simp only [readOK, Bool.and_eq_true] at h
    obtain ⟨_, h⟩ := h
    cases hu : P.underlying T with
    | none => rw [hu] at h; cases h
    | some d =>
      rw [hu] at h
      cases d with
      | int k => have := Ty.eq_of_beq h; subst this; obtain ⟨m, rfl⟩ := okWide_int hu hv; rfl
      | bool => have := Ty.eq_of_beq h; subst this; obtain ⟨m, rfl⟩ := okWide_bool hu hv; rfl
      | string => have := Ty.eq_of_beq h; subst this; obtain ⟨m, rfl⟩ := okWide_string hu hv; rfl
      | slice e =>
        cases t with
        | sl t' => obtain ⟨a, len, cap, rfl⟩ := okWide_slice hu hv; rfl
        | _ => cases h
      | struct fs =>
        simp only [Bool.and_eq_true] at h
        simp only [Value.okWide, hu] at hv
        obtain ⟨cs, rfl, _⟩ := hv
        simp [mkV, h.1, Value.cells]
      | array k e =>
        simp only [Bool.and_eq_true] at h
        simp only [Value.okWide, hu] at hv
        obtain ⟨cs, rfl, _⟩ := hv
        simp [mkV, h.1, Value.cells]
      | _ => cases h
def readParams (P : Program) (n : Nat) : List TypeId → List Ty → Bool
  | [], [] => true
  | T :: Ts, t :: ts => readOK P n T t && readParams P n Ts ts
  | _, _ => false
theorem args_rep {n b' : Nat} {r : Reach} : (Ts : List TypeId) → (ts : List Ty) → ∀ {vs : List Value} {ds : List (DataW H)} {ps : List MemPlace}, readParams P n Ts ts = true → DataW.TrodAll enc P w base sp held Ts vs ds ps →
    (∀ (j : Nat) T v, Ts[j]? = some T → vs[j]? = some v → Value.okWide P w r b' T v) → ∃ cs x, vs = argVals ts cs ∧ RepC P (pk ts) w (fun _ => True) cs x ∧ Valid (pk ts) x
  | [], [], vs, ds, ps, _, h, _ => by
    obtain ⟨rfl, _⟩ := trodAll_nil h
    exact ⟨[], (), rfl, rfl, trivial⟩
  | [], _ :: _, _, _, _, h, _, _ => by simp [readParams] at h
  | _ :: _, [], _, _, _, h, _, _ => by simp [readParams] at h
  | T :: Ts, t :: ts, vs, ds, ps, h, ht, hok => by
    simp only [readParams, Bool.and_eq_true] at h
    obtain ⟨v, vs', d, ds', p, q, rfl, rfl, rfl, ⟨fuel, h1⟩, h2⟩ := trodAll_cons ht
    obtain ⟨y, hy, hval⟩ := trod_rep n h.1 h1
    have hv := okWide_mkV h.1 (hok 0 T v rfl rfl)
    have hl := RepC.length t hy
    obtain ⟨cs, x, e, hx, hvx⟩ := args_rep Ts ts h.2 h2 (fun j T v h1 h2 => hok (j + 1) T v h1 h2)
    have e1 : (v.cells.toList ++ cs).take t.size = v.cells.toList := by rw [List.take_append_of_le_length (by omega), take_all hl]
    have e2 : (v.cells.toList ++ cs).drop t.size = cs := by rw [← hl, List.drop_left]
    cases ts with
    | nil =>
      refine ⟨v.cells.toList, y, ?_, hy, hval⟩
      rw [e]
      show v :: [] = mkV t (v.cells.toList.take t.size) :: []
      rw [take_all hl, ← hv]
    | cons t' ts =>
      refine ⟨v.cells.toList ++ cs, (y, x), ?_, ⟨_, _, rfl, hy, hx⟩, hval, hvx⟩
      show v :: vs' = mkV t ((v.cells.toList ++ cs).take t.size) :: argVals (t' :: ts) ((v.cells.toList ++ cs).drop t.size)
      rw [e1, e2, ← hv, e]
theorem trodAll_kept {w' : World} (hl : laidOutB P = true) (hb : Below w.heap.size w w') : (Ts : List TypeId) → ∀ {vs : List Value} {ds : List (DataW H)} {ps : List MemPlace},
    (∀ t, t ∈ Ts → P.readableRec t = true ∧ t < P.types.size) → DataW.TrodAll enc P w 0 (fun _ => true) true Ts vs ds ps → DataW.TrodAll enc P w' 0 (fun b => decide (b < w.heap.size)) true Ts vs ds ps
  | [], vs, ds, ps, _, h => by
    obtain ⟨rfl, rfl, rfl⟩ := trodAll_nil h
    exact trodAll_mk0
  | T :: Ts, vs, ds, ps, hT, h => by
    have hlt := DataW.TrodAll.lt h
    obtain ⟨v, vs', d, ds', p, q, rfl, rfl, rfl, h1, h2⟩ := trodAll_cons h
    have hT0 := hT T (List.mem_cons_self ..)
    exact ⟨p, q, Below.trod hl hT0.1 hT0.2 h1 hb (fun x hx => hlt x (List.mem_append_left _ hx)), trodAll_kept hl hb Ts (fun t ht => hT t (List.mem_cons_of_mem _ ht)) h2, rfl⟩
end
theorem law_lifted {a : Assume} {C : Checked} {os : Os} {f : FuncId} {fn : Func} {s : ChangeSpec} {conds : List PathCond} {apart fresh handsOn own : Bool} {H : Type} {enc : TypeId × Value → H} {ps : List Ty} {φ : (pk ps).den → Option Bool} {n : Nat} {Tb : TypeId}
    (hown : ownKnob C.prog.godebug = none) (started : os.Started) (noInit : C.prog.inits.idxOf? f = none) (hfn : C.prog.funcs[f]? = some fn)
    (witness : ∃ (w : World) (tape : Tape) (i : Input), w.os = os ∧ (w.forCall tape i).Shaped C.prog ∧ i.vars = [] ∧ Input.okWide C.prog (w.forCall tape i) .any w.heap.size f i ∧
      s.pre6 enc C.prog fn conds apart (w.forCall tape i).memory i.args ∧ a.holds C.prog (lone (Frame.enter C.prog f i.args .normal) [] (w.forCall tape i)))
    (hs : s.vars = []) (hspec : ∀ ds : List (DataW H), ds.length = fn.params.toList.length → s.fn H ds = { results := [.lit (.bool true)], args := ds })
    (hres : fn.resultTypes = #[Tb]) (hTb : C.prog.underlying Tb = some .bool) (hlaid : laidOutB C.prog = true)
    (hread : (fn.params.toList.all fun t => C.prog.readableRec t && decide (t < C.prog.types.size)) = true) (hok : readParams C.prog n fn.params.toList ps = true)
    (hd : Does C.prog f ps [.bool] own φ) (law : ∀ x, Valid (pk ps) x → φ x = some true) :
    ReturnsInHanded a C os f .any (s.pre6 enc C.prog fn conds apart) (s.post enc C.prog fn apart fresh handsOn false) := by
  refine returnsInHanded_of_change hown started noInit hfn witness ?_
  intro W base args ds gs before hval hW _ _
  have hW' := hW
  obtain ⟨p, q, hA, hV, rfl, _, _⟩ := hW
  rw [hs] at hV
  obtain ⟨rfl, rfl⟩ := trodVars_none hV
  obtain ⟨cs, x, hvs, hx, hvx⟩ := args_rep fn.params.toList ps hok hA (fun j T v h1 h2 => hval j T v (by simpa using h1) (by simpa using h2))
  have eargs : args = (argVals ps cs).toArray := by rw [← hvs]
  rw [eargs]
  refine (hd W (fun _ => True) cs x true hx (law x hvx)).mono fun e W' hh => ?_
  obtain ⟨us, g', rfl, hrep, hsz, hH, _, hio⟩ := hh
  have hb : Below W.heap.size W W' := ⟨hio.1, hio.2.1, hio.2.2.1, hsz, hH⟩
  have hv : resV [.bool] us = .bool true := by
    obtain ⟨m, _, hc⟩ := hrep
    rw [show us = [.bool true] from hc]; rfl
  refine ⟨_, rfl, ?_⟩
  rw [hv, ← eargs]
  have hlen := (trodAll_length hA).2
  have hsp := hspec (ds ++ []) (by rw [List.append_nil]; exact hlen)
  refine ⟨ds, [], _, [], p, [], hW', ?_, ?_, ?_, hb.frame _, fun h => by cases h⟩
  · rw [hsp, hres]
    exact trodAll_mk1 (shut_bool hTb true)
  · rw [hsp, List.append_nil]
    refine trodAll_kept hlaid hb _ (fun t ht => ?_) hA
    have := List.all_eq_true.1 hread t ht
    simpa using this
  · rw [hsp, hs]
    rfl
end Go.GD
