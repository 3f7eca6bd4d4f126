import Derived.Test.YtbapfiaglcllnaaGDC
import Derived.Test.YtbapfiaglcllnaaGDX
namespace Go.GD
open Go
section
variable {C : Ctx} {g : Own} {σ : St} {tm : Array Value} {w : World} {E : Env} {o : Oper} {ρ : Type} {K : St → Option ρ} {r : ρ} {ds : List Deferred}
  {next : Act → World → Prop} {Q : Exit → Act → World → Prop}
theorem op_call {c : Call} (hE : TabOK C.P E.tab) (hfn : EnvOK C E) (ho : o.op = .call c) (h : SRep C g σ tm w)
    (hr : (opP E o).run σ K = some r) (hK : Good C K r ds next) : o.wp C.P ⟨tm, ds⟩ w next Q := by
  cases hc : c.callee with
  | value x =>
    cases x with
    | func f => exact op_callF ho hc hfn h hr hK
    | tmp s => exact op_callV hfn ho hc h hr hK
    | _ => unfold opP at hr; rw [ho] at hr; simp only [hc] at hr; simp [Prog.run] at hr
  | builtin b =>
    have hr' := hr
    unfold opP at hr
    rw [ho] at hr
    simp only [hc] at hr
    cases b with
    | len => exact op_len hE ho hc h hr' hK
    | append => exact op_append hE ho hc h hr' hK
    | copy => exact op_copy hE ho hc h hr' hK
    | min =>
      simp only at hr
      split at hr
      · rename_i x y ha; exact op_min ho hc ha h hr' hK
      · simp [Prog.run] at hr
    | max =>
      simp only at hr
      split at hr
      · rename_i x y ha; exact op_max ho hc ha h hr' hK
      · simp [Prog.run] at hr
    | _ => simp [Prog.run] at hr
  | invoke _ _ => unfold opP at hr; rw [ho] at hr; simp only [hc] at hr; simp [Prog.run] at hr
theorem op_sound (hE : TabOK C.P E.tab) (hfn : EnvOK C E) (h : SRep C g σ tm w)
    (hr : (opP E o).run σ K = some r) (hK : Good C K r ds next) : o.wp C.P ⟨tm, ds⟩ w next Q := by
  cases ho : o.op with
  | move => exact op_move ho h hr hK
  | assign => exact op_assign ho h hr hK
  | pick => exact op_pick ho h hr hK
  | alloc => exact op_alloc hfn.pins hE ho h hr hK
  | box => exact op_box hfn.pins ho h hr hK
  | build => exact op_build hE ho h hr hK
  | buildSlice => exact op_buildSlice hE ho h hr hK
  | load => exact op_load hE ho h hr hK
  | store => exact op_store hE ho h hr hK
  | binOp => exact op_binOp hE ho h hr hK
  | unOp => exact op_unOp ho h hr hK
  | convert => exact op_convert hE ho h hr hK
  | makeSlice => exact op_makeSlice hE ho h hr hK
  | slice T x lo hi mx =>
    cases mx with
    | none => exact op_slice hE ho h hr hK
    | some m => unfold opP at hr; rw [ho] at hr; simp [Prog.run] at hr
  | fieldAddr => exact op_fieldAddr hE ho h hr hK
  | indexAddr => exact op_indexAddr hE ho h hr hK
  | extract => exact op_extract ho h hr hK
  | makeFunc fn fst caps =>
    cases fn with
    | func f => exact op_makeFunc hfn ho h hr hK
    | _ => unfold opP at hr; rw [ho] at hr; simp [Prog.run] at hr
  | makeMap T rs =>
    cases rs with
    | none => exact op_makeMap ho h hr hK
    | some m => unfold opP at hr; rw [ho] at hr; simp [Prog.run] at hr
  | lookup T x i ok =>
    cases ok with
    | false => exact op_lookup hE ho h hr hK
    | true => unfold opP at hr; rw [ho] at hr; simp [Prog.run] at hr
  | mapUpdate => exact op_mapUpdate hE ho h hr hK
  | nilCheck => exact op_nilCheck ho h hr hK
  | index => exact op_index hE ho h hr hK
  | call c => exact op_call hE hfn ho h hr hK
  | _ => unfold opP at hr; rw [ho] at hr; simp [Prog.run] at hr
theorem listSet_self : (σ : List Slot) → (s : Nat) → listSet σ s (listGet σ s) = σ
  | [], _ => rfl
  | _ :: _, 0 => rfl
  | a :: l, s + 1 => by simp only [listSet, listGet]; rw [listSet_self l s]
theorem guard_sound {ops : Array Oper} (hE : TabOK C.P E.tab) (hfn : EnvOK C E) (h : SRep C g σ tm w)
    (hr : (guardP ops.toList o (opP E o)).run σ K = some r) (hK : Good C K r ds next) :
    if Region.wanted o (yielded ops tm) then o.wp C.P ⟨tm, ds⟩ w next Q else next ((⟨tm, ds⟩ : Act).put o.dst undef) w := by
  have skip : (putA o.dst (.tup []) .fin).run σ K = some r → next ((⟨tm, ds⟩ : Act).put o.dst undef) w := by
    intro hr
    obtain ⟨σ', h1, h2, h3⟩ := put_sound (a0 := .tup []) (v := undef) (ds := ds) h (.refl h) (fun d _ _ σ' tm' hv => ⟨⟨[], rfl, trivial⟩, fun _ h => by cases h⟩) hr
    exact hK _ _ _ _ h1 h3 h2
  unfold guardP at hr
  cases hg : o.guard with
  | none =>
    rw [hg] at hr
    rw [if_pos (by simp [Region.wanted, hg])]
    exact op_sound hE hfn h hr hK
  | some jw =>
    obtain ⟨j, want⟩ := jw
    rw [hg] at hr
    simp only at hr
    split at hr
    case h_2 => simp [Prog.run] at hr
    rename_i s hs
    simp only [Prog.run] at hr
    split at hr
    case h_3 => cases hr
    case h_2 =>
      rename_i i gn hsl
      have hlt := h.lt (s := s) (by rw [hsl]; intro e; cases e)
      have hv := h.slots s hlt
      rw [hsl] at hv
      obtain ⟨vals, e, hvs⟩ := hv
      have hnil : vals = [] := by
        cases vals with
        | nil => rfl
        | cons => exact hvs.elim
      have hb : tm.getD s undef = undef := by rw [e, hnil]; rfl
      have hy : yielded ops tm j = none := by
        have hs' : (ops[j]?).bind (·.dst) = some s := by rw [← hs]; simp
        have hsz : s < tm.size := by rw [h.len]; exact hlt
        have : tm[s]? = some undef := by
          rw [Array.getD_eq_getD_getElem?, Array.getElem?_eq_getElem hsz] at hb
          rw [Array.getElem?_eq_getElem hsz]
          exact congrArg some hb
        simp [yielded, hs', this, undef]
      have hwant : Region.wanted o (yielded ops tm) = false := by
        simp [Region.wanted, hg, hy]
      rw [hwant, if_neg (by simp)]
      exact skip hr
    rename_i b ms i gn hsl
    have hlt := h.lt (s := s) (by rw [hsl]; intro e; cases e)
    have hv := h.slots s hlt
    rw [hsl] at hv
    obtain ⟨cs, e, m, _, hcs⟩ := hv
    have hb : tm.getD s undef = .bool b := by rw [e, show cs = _ from hcs]; rfl
    have hy : yielded ops tm j = some b := by
      have hs' : (ops[j]?).bind (·.dst) = some s := by rw [← hs]; simp
      have hsz : s < tm.size := by rw [h.len]; exact hlt
      have : tm[s]? = some (.bool b) := by
        rw [Array.getD_eq_getD_getElem?, Array.getElem?_eq_getElem hsz] at hb
        rw [Array.getElem?_eq_getElem hsz]
        exact congrArg some hb
      simp [yielded, hs', this]
    have hwant : Region.wanted o (yielded ops tm) = (b == want) := by
      simp [Region.wanted, hg, hy]
    rw [hwant]
    have e1 : listSet σ s ⟨.val ⟨.bool, b, ms⟩, i, gn⟩ = σ := by rw [← hsl]; exact listSet_self _ _
    cases b <;> cases want <;> simp only [cond, e1] at hr
    · rw [show (false == false) = true from rfl, if_pos rfl]; exact op_sound hE hfn h hr hK
    · rw [show (false == true) = false from rfl, if_neg (by simp)]; exact skip hr
    · rw [show (true == false) = false from rfl, if_neg (by simp)]; exact skip hr
    · rw [show (true == true) = true from rfl, if_pos rfl]; exact op_sound hE hfn h hr hK
theorem region_sound {ops : Array Oper} (hE : TabOK C.P E.tab) (hfn : EnvOK C E) (hQ : Good C K r ds (Q .normal)) :
    ∀ (l : List Oper) (j : Nat) (g : Own) (σ : St) (tm : Array Value) (w : World), ops.toList.drop j = l → SRep C g σ tm w → regC E ops.toList l σ K = some r →
      wpOps C.P ops Q ((List.range ops.size).drop j) ⟨tm, ds⟩ w
  | [], j, g, σ, tm, w, hd, h, hr => by
    have hj : ops.size ≤ j := by
      have := congrArg List.length hd
      simp only [List.length_drop, Array.length_toList, List.length_nil] at this
      omega
    rw [List.drop_eq_nil_of_le (by simpa using hj)]
    exact hQ _ _ _ _ h rfl hr
  | o :: l, j, g, σ, tm, w, hd, h, hr => by
    have hj : j < ops.size := by
      have := congrArg List.length hd
      simp only [List.length_drop, Array.length_toList, List.length_cons] at this
      omega
    have hoj : ops[j]? = some o := by
      have := congrArg (fun l => l[0]?) hd
      simpa [List.getElem?_drop] using this
    rw [List.drop_eq_getElem_cons (by simpa using hj)]
    simp only [List.getElem_range, wpOps, hoj]
    simp only [regC] at hr
    have := guard_sound (ops := ops) (Q := Q) (next := wpOps C.P ops Q ((List.range ops.size).drop (j + 1))) hE hfn h hr (fun g' σ' a' w' h' hd' hk' => by
      obtain ⟨tm', ds'⟩ := a'
      simp only at hd'
      subst hd'
      refine region_sound hE hfn hQ l (j + 1) g' σ' tm' w' ?_ h' hk'
      rw [← List.drop_drop, hd]; rfl)
    split
    · rename_i hw; rw [if_pos hw] at this; exact .inl this
    · rename_i hw; rw [if_neg hw] at this; exact this
end
end Go.GD
