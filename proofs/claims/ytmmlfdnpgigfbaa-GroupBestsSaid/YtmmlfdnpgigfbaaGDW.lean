import Derived.Test.YtmmlfdnpgigfbaaGD24
import Derived.SizedLaws
namespace Go.GD
open Go Go.ChangeShapes Go.WideShapes Go.RowKit

/-! ### rows: how much memory an argument's own slice takes -/

def Light1 (P : Program) (T : TypeId) : (t : Ty) → t.den → Prop
  | .sl _, xs => ∀ e, P.underlying T = some (.slice e) → xs.length * P.bytesOf e ≤ reachBytes
  | _, _ => True

def Light (P : Program) : List TypeId → (ts : List Ty) → (pk ts).den → Prop
  | T :: _, [t], x => Light1 P T t x
  | T :: Ts, t :: t' :: ts, x => Light1 P T t x.1 ∧ Light P Ts (t' :: ts) x.2
  | _, _, _ => True

section
variable {H : Type} {enc : TypeId × Value → H} {P : Program} {w : World} {base : Nat} {sp : Nat → Bool} {held : Bool}

theorem light_of {T : TypeId} {t : Ty} {fuel : Nat} {cs : List Value} {x : DataW H × List MemPlace} {y : t.den} (ht : DataW.trod enc P w base sp held fuel T cs = some x) (hr : RepC P t w (fun _ => True) cs y)
    (hw : (x.1.weights P T).all (· ≤ reachBytes) = true) : Light1 P T t y := by
  cases t with
  | sl t' =>
    intro e hu
    obtain ⟨a, len, cap, rfl, hl, _⟩ := hr
    rcases Deep.open_slice hu ht with ⟨ecs, _⟩ | ⟨a', len', cap', m, n', D, Pl, ecs, hb, hl', hm, hmm, hx, hi⟩
    · simp only [List.cons.injEq, Value.slice.injEq, and_true] at ecs
      rw [hl, ecs.2.1]; simp
    · simp only [List.cons.injEq, Value.slice.injEq, and_true] at ecs
      rw [hx] at hw
      unfold DataW.weights at hw
      rw [hu] at hw
      simp only [List.all_cons, Bool.and_eq_true, decide_eq_true_eq, List.length_map, List.length_range] at hw
      refine Nat.le_trans (Nat.mul_le_mul_right _ ?_) hw.1
      rw [hl, ecs.2.1]; omega
  | _ => trivial

theorem args_rep_w {n b' : Nat} {r : Reach} : (Ts : List TypeId) → (ts : List Ty) → ∀ {vs : List Value} {ds : List (DataW H)} {ps : List MemPlace}, readParams P n Ts ts = true → DataW.TrodAll enc P w base sp held Ts vs ds ps →
    (DataW.weightsEach P Ts ds).all (· ≤ reachBytes) = true →
    (∀ (j : Nat) T v, Ts[j]? = some T → vs[j]? = some v → Value.okWide P w r b' T v) → ∃ cs x, vs = argVals ts cs ∧ RepC P (pk ts) w (fun _ => True) cs x ∧ Valid (pk ts) x ∧ Light P Ts ts x
  | [], [], vs, ds, ps, _, h, _, _ => by
    obtain ⟨rfl, _⟩ := trodAll_nil h
    exact ⟨[], (), rfl, rfl, trivial, trivial⟩
  | [], _ :: _, _, _, _, h, _, _, _ => by simp [readParams] at h
  | _ :: _, [], _, _, _, h, _, _, _ => by simp [readParams] at h
  | T :: Ts, t :: ts, vs, ds, ps, h, ht, hwt, hok => by
    simp only [readParams, Bool.and_eq_true] at h
    obtain ⟨v, vs', d, ds', p, q, rfl, rfl, rfl, ⟨fuel, h1⟩, h2⟩ := trodAll_cons ht
    simp only [DataW.weightsEach, List.all_append, Bool.and_eq_true] at hwt
    obtain ⟨y, hy, hval⟩ := trod_rep n h.1 h1
    have hlight := light_of h1 hy hwt.1
    have hv := okWide_mkV h.1 (hok 0 T v rfl rfl)
    have hl := RepC.length t hy
    obtain ⟨cs, x, e, hx, hvx, hlx⟩ := args_rep_w Ts ts h.2 h2 hwt.2 (fun j T v h1 h2 => hok (j + 1) T v h1 h2)
    have e1 : (v.cells.toList ++ cs).take t.size = v.cells.toList := by rw [List.take_append_of_le_length (by omega), take_all hl]
    have e2 : (v.cells.toList ++ cs).drop t.size = cs := by rw [← hl, List.drop_left]
    cases ts with
    | nil =>
      refine ⟨v.cells.toList, y, ?_, hy, hval, hlight⟩
      rw [e]
      show v :: [] = mkV t (v.cells.toList.take t.size) :: []
      rw [take_all hl, ← hv]
    | cons t' ts =>
      refine ⟨v.cells.toList ++ cs, (y, x), ?_, ⟨_, _, rfl, hy, hx⟩, ⟨hval, hvx⟩, hlight, hlx⟩
      show v :: vs' = mkV t ((v.cells.toList ++ cs).take t.size) :: argVals (t' :: ts) ((v.cells.toList ++ cs).drop t.size)
      rw [e1, e2, ← hv, e]
end

/-- a row 'for every input the law returns true', the arguments' weight known -/
theorem law_lifted_w {a : Assume} {C : Checked} {os : Os} {f : FuncId} {fn : Func} {s : ChangeSpec} {conds : List PathCond} {apart fresh handsOn own : Bool} {H : Type} {enc : TypeId × Value → H} {ps : List Ty} {φ : (pk ps).den → Option Bool} {n : Nat} {Tb : TypeId}
    (hown : ownKnob C.prog.godebug = none) (started : os.Started) (noInit : C.prog.inits.idxOf? f = none) (hfn : C.prog.funcs[f]? = some fn)
    (witness : ∃ (w : World) (tape : Tape) (i : Input), w.os = os ∧ (w.forCall tape i).Shaped C.prog ∧ i.vars = [] ∧ Input.okWide C.prog (w.forCall tape i) .any w.heap.size f i ∧
      s.pre6 enc C.prog fn conds apart (w.forCall tape i).memory i.args ∧ a.holds C.prog (lone (Frame.enter C.prog f i.args .normal) [] (w.forCall tape i)))
    (hs : s.vars = []) (hvt : s.plain.varTypes C.prog = []) (hspec : ∀ ds : List (DataW H), ds.length = fn.params.toList.length → s.fn H ds = { results := [.lit (.bool true)], args := ds })
    (hres : fn.resultTypes = #[Tb]) (hTb : C.prog.underlying Tb = some .bool) (hlaid : laidOutB C.prog = true)
    (hread : (fn.params.toList.all fun t => C.prog.readableRec t && decide (t < C.prog.types.size)) = true) (hok : readParams C.prog n fn.params.toList ps = true)
    (hd : Does C.prog f ps [.bool] own φ) (law : ∀ x, Valid (pk ps) x → Light C.prog fn.params.toList ps x → φ x = some true) :
    ReturnsInHanded a C os f .any (s.pre6 enc C.prog fn conds apart) (s.post enc C.prog fn apart fresh handsOn false) := by
  refine returnsInHanded_of_change_sized hown started noInit hfn witness ?_
  intro W base args ds gs before hval hW _ hwt _
  have hW' := hW
  obtain ⟨p, q, hA, hV, rfl, _, _⟩ := hW
  rw [hs] at hV
  obtain ⟨rfl, rfl⟩ := trodVars_none hV
  rw [hvt, List.append_nil, List.append_nil] at hwt
  obtain ⟨cs, x, hvs, hx, hvx, hlx⟩ := args_rep_w fn.params.toList ps hok hA hwt (fun j T v h1 h2 => hval j T v (by simpa using h1) (by simpa using h2))
  have eargs : args = (argVals ps cs).toArray := by rw [← hvs]
  rw [eargs]
  refine (hd W (fun _ => True) cs x true hx (law x hvx hlx)).mono fun e W' hh => ?_
  obtain ⟨us, g', rfl, hrep, hsz, hH, _, hio⟩ := hh
  have hb : Below W.heap.size W W' := ⟨hio.1, hio.2.1, hio.2.2, hsz, hH⟩
  have hv : resV [.bool] us = .bool true := by
    obtain ⟨m, _, hc⟩ := hrep
    rw [show us = [.bool true] from hc]; rfl
  refine ⟨_, rfl, ?_⟩
  rw [hv, ← eargs]
  have hlen := (trodAll_length hA).2
  have hsp := hspec (ds ++ []) (by rw [List.append_nil]; exact hlen)
  refine ⟨ds, [], _, [], p, [], hW', ?_, ?_, ?_, hb.frame _, fun h => by cases h⟩
  · rw [hsp, hres]
    exact trodAll_mk1 (shut_bool hTb true)
  · rw [hsp, List.append_nil]
    refine trodAll_kept hlaid hb _ (fun t ht => ?_) hA
    have := List.all_eq_true.1 hread t ht
    simpa using this
  · rw [hsp, hs]
    rfl
end Go.GD
