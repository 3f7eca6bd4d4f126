import Derived.Test.YtbapfiaglcllnaaGDbb
namespace Go.GD
open Go
def kvOf {t : Ty} (p : Int × t.den) : Value × Value := (.int .i64 p.1, atomV t p.2)
theorem find_rep {t : Ty} (k : Int) (v : t.den) (kd : IntKind) : (ks : List (Int × t.den)) → (es : List MapEntry) → (i : Nat) → es.map (fun e => (e.key, e.val)) = ks.map kvOf →
    (mget ks k = none ∧ Instr.findNow (.int kd) (.int .i64 k) es i = some none ∧ mset ks k v = ks ++ [(k, v)]) ∨
    (∃ j x, mget ks k = some x ∧ Instr.findNow (.int kd) (.int .i64 k) es i = some (some (i + j, atomV t x)) ∧ (∃ e, es[j]? = some e ∧ e.key = .int .i64 k) ∧
      (es.modify j fun e => { e with key := .int .i64 k, val := atomV t v }).map (fun e => (e.key, e.val)) = (mset ks k v).map kvOf)
  | [], es, i, h => by
    cases es with
    | nil => exact .inl ⟨rfl, rfl, rfl⟩
    | cons => simp at h
  | p :: ks, es, i, h => by
    cases es with
    | nil => simp at h
    | cons e es =>
      simp only [List.map_cons, List.cons.injEq] at h
      obtain ⟨h1, h2⟩ := h
      have hk : e.key = .int .i64 p.1 := congrArg Prod.fst h1
      have hx : e.val = atomV t p.2 := congrArg Prod.snd h1
      simp only [mget, mset, Instr.findNow, hk, Instr.sameNow, if_true]
      cases hb : (k == p.1) with
      | true =>
        have : k = p.1 := by simpa using hb
        refine .inr ⟨0, p.2, rfl, by simp [hx], ⟨e, rfl, by rw [hk, this]⟩, ?_⟩
        simp only [cond, List.modify_zero_cons, List.map_cons, h2, kvOf]
      | false =>
        simp only [cond]
        rcases find_rep k v kd ks es (i + 1) h2 with ⟨q1, q2, q3⟩ | ⟨j, x, q1, q2, ⟨e', q3, q4⟩, q5⟩
        · exact .inl ⟨q1, q2, by rw [q3]; rfl⟩
        · refine .inr ⟨j + 1, x, q1, by rw [q2]; congr 3; omega, ⟨e', by simpa using q3, q4⟩, ?_⟩
          simp only [List.modify_succ_cons, List.map_cons, q5, h1]
section
variable {C : Ctx} {g : Own} {σ : St} {tm : Array Value} {w : World} {E : Env} {o : Oper} {ρ : Type} {K : St → Option ρ} {r : ρ} {ds : List Deferred}
  {next : Act → World → Prop} {Q : Exit → Act → World → Prop}
theorem op_makeMap {T : Nat} (ho : o.op = .makeMap T none) (h : SRep C g σ tm w) (hr : (opP E o).run σ K = some r) (hK : Good C K r ds next) : o.wp C.P ⟨tm, ds⟩ w next Q := by
  unfold opP at hr
  rw [ho] at hr
  simp only at hr
  split at hr
  case h_2 => simp [Prog.run] at hr
  split at hr
  case h_2 => simp [Prog.run] at hr
  rename_i t hT
  split at hr
  case isFalse => simp [Prog.run] at hr
  refine new_sound h (Grow.alloc h (.refl h) rfl (.map #[] 0) (o.dst.getD 0, none)) (v := .map (some w.heap.size)) (w0 := w) ?_ (fun d hd hl σ' tm' hv => ?_) hr hK
  · simp [execOp, ho, Instr.makeMap]
  · rw [hd]
    exact ⟨⟨w.heap.size, 0, #[], rfl, withNew_new, heap_alloc_new w _, rfl⟩, trivial⟩
theorem rdMap_inv {x : Operand} {k : Nat → Nat → Prog} (h : SRep C g σ tm w) (hr : (rdMap x k).run σ K = some r) :
    ∃ s id, (k s id).run σ K = some r ∧ ((listGet σ s).id = id → Act.eval ⟨tm, ds⟩ x = tm.getD s undef) := by
  cases x with
  | tmp s =>
    simp only [rdMap, Prog.run] at hr
    split at hr
    · exact ⟨s, _, hr, fun _ => rfl⟩
    · rename_i s' id ha
      have hl := h.lt (s := s) (by rw [ha]; intro e; cases e)
      have hs := h.slots s hl
      rw [ha] at hs
      exact ⟨s', id, hr, fun hid => hs hid⟩
    · simp [Prog.run] at hr
  | _ => simp [rdMap, Prog.run] at hr
theorem mapP_inv {t : Ty} {s id : Nat} {k : Slot → List (Int × t.den) → Prog} (h : SRep C g σ tm w) (hr : (mapP t s id k).run σ K = some r) :
    (listGet σ s).id = id ∧ ∃ ks : List (Int × t.den), (listGet σ s).a = .mp t ks ∧ s < σ.length ∧ (k (listGet σ s) ks).run σ K = some r ∧
      ∃ b clock, ∃ es : Array MapEntry, tm.getD s undef = .map (some b) ∧ g b = some (s, none) ∧ w.heap[b]? = some (.map es clock) ∧ MapRep (t := t) es.toList ks := by
  simp only [mapP, Prog.run] at hr
  split at hr
  case h_2 => simp [Prog.run] at hr
  rename_i hid
  split at hr
  case h_2 => simp [Prog.run] at hr
  rename_i t' ks ha
  split at hr
  case h_2 => simp [Prog.run] at hr
  rename_i ks' hc
  obtain ⟨e, rfl⟩ := castO_some hc
  simp only [mapTy, Ty.sl.injEq, Ty.pair.injEq, true_and] at e
  subst e
  have hl := h.lt (s := s) (by rw [ha]; intro e; cases e)
  have hs := h.slots s hl
  rw [ha] at hs
  exact ⟨Nat.eq_of_beq_eq_true hid, ks, ha, hl, hr, hs⟩
theorem getObj_map {P : Program} {b : Nat} {es : Array MapEntry} {clock : Nat} (h : w.heap[b]? = some (.map es clock)) : (getObj b).run P w = .ok (.map es clock) w := by
  have hl := heap_lt h
  simp [getObj, Sem.run, h]
theorem setObj_map {P : Program} {b : Nat} {es : Array MapEntry} {clock : Nat} (h : w.heap[b]? = some (.map es clock)) (ob : Obj) : (setObj b ob).run P w = .ok () { w with heap := w.heap.setIfInBounds b ob } := by
  simp [setObj, Sem.run, h]
theorem checkKey_int {P : Program} {K : Nat} (hK : P.underlying K = some (.int .i64)) (em : Bool) (n : Int) : (Instr.checkKey em 10000 K (.int .i64 n)).run P w = .ok () w := by
  unfold Instr.checkKey
  simp [run_underlying hK]
theorem findKey_int {P : Program} {K : Nat} (hK : P.underlying K = some (.int .i64)) {v : Value} {es : List MapEntry} {x : Option (Nat × Value)} (h : Instr.findNow (.int .i64) v es 0 = some x) :
    (Instr.findKey K v es).run P w = .ok x w := by
  unfold Instr.findKey
  simp [run_underlying hK, h]
theorem atom_val {t : Ty} (ha : t.atom = true) (x : t.den) : Val C g σ tm w (atomV t x) ⟨t, x, [.shr]⟩ := by
  cases t with
  | int k => exact Val.int k x
  | bool => exact Val.bool x
  | _ => cases ha
theorem atom_mkV {t : Ty} (ha : t.atom = true) {Ok : Nat → Prop} {cs : List Value} {x : t.den} (h : RepC C.P t w Ok cs x) : mkV t cs = atomV t x := by
  cases t with
  | int k => rw [show cs = _ from h]; rfl
  | bool => rw [show cs = _ from h]; rfl
  | _ => cases ha
theorem op_lookup {T : Nat} {x i : Operand} (hE : TabOK C.P E.tab) (ho : o.op = .lookup T x i false) (h : SRep C g σ tm w) (hr : (opP E o).run σ K = some r) (hK : Good C K r ds next) : o.wp C.P ⟨tm, ds⟩ w next Q := by
  unfold opP at hr
  rw [ho] at hr
  simp only at hr
  split at hr
  case h_2 => simp [Prog.run] at hr
  rename_i Kt V hm
  split at hr
  case h_2 => simp [Prog.run] at hr
  rename_i t hT
  split at hr
  case isFalse => simp [Prog.run] at hr
  rename_i hat
  split at hr
  case h_2 => simp [Prog.run] at hr
  rename_i z hz
  obtain ⟨s, id, hr, hx⟩ := rdMap_inv (ds := ds) h hr
  obtain ⟨kd, n, hi, hr⟩ := rdInt_inv (ds := ds) h hr
  split at hr
  case isFalse => simp [Prog.run] at hr
  rename_i hkd
  have hkd := kindBeq_eq hkd
  subst hkd
  obtain ⟨hid, ks, ha, hl, hr, b, clock, es, hv, hg, hh, hrep⟩ := mapP_inv h hr
  have hx := hx hid
  rw [hv] at hx
  obtain ⟨hu, huk⟩ := hE.map hm
  obtain ⟨e, he, hte⟩ := Env.ty_some hT
  subst hte
  obtain ⟨cs, hzv, hcl, hcells, hzc⟩ := (hE.find he).zero hz w
  have hz0 : mkV e.ty cs = atomV e.ty z := atom_mkV (C := C) (w := w) (Ok := fun _ => True) hat (zeroC_repC hzc hcl hz)
  refine out_val h ?_ (atom_val hat _) hr hK
  have hgo := getObj_map (P := C.P) hh
  have hck := checkKey_int (P := C.P) (w := w) huk es.isEmpty n
  rcases find_rep (t := e.ty) n z .i64 ks es.toList 0 hrep with ⟨q1, q2, _⟩ | ⟨j, y, q1, q2, _⟩
  · have hf := findKey_int (P := C.P) (w := w) huk q2
    simp [execOp, ho, hx, hi, Instr.lookup, run_underlying hu, hgo, hck, hf, hzv, hz0, q1]
  · have hf := findKey_int (P := C.P) (w := w) huk q2
    simp [execOp, ho, hx, hi, Instr.lookup, run_underlying hu, hgo, hck, hf, q1]
theorem op_mapUpdate {T : Nat} {x i y : Operand} (hE : TabOK C.P E.tab) (ho : o.op = .mapUpdate T x i y) (h : SRep C g σ tm w) (hr : (opP E o).run σ K = some r) (hK : Good C K r ds next) : o.wp C.P ⟨tm, ds⟩ w next Q := by
  unfold opP at hr
  rw [ho] at hr
  simp only at hr
  split at hr
  case h_2 => simp [Prog.run] at hr
  rename_i Kt V hm
  split at hr
  case h_2 => simp [Prog.run] at hr
  rename_i t hT
  split at hr
  case isFalse => simp [Prog.run] at hr
  rename_i hat
  obtain ⟨tv, hv, _, hr⟩ := rdV_inv (ds := ds) h hr
  split at hr
  case h_2 => simp [Prog.run] at hr
  rename_i u hu
  obtain ⟨ety, rfl⟩ := castO_some hu
  subst ety
  obtain ⟨s, id, hr, hx⟩ := rdMap_inv (ds := ds) h hr
  obtain ⟨kd, n, hi, hr⟩ := rdInt_inv (ds := ds) h hr
  split at hr
  case isFalse => simp [Prog.run] at hr
  rename_i hkd
  have hkd := kindBeq_eq hkd
  subst hkd
  obtain ⟨hid, ks, ha, hl, hr, b, clock, es, htm, hg, hh, hrep⟩ := mapP_inv h hr
  have hx := hx hid
  rw [htm] at hx
  obtain ⟨hu, huk⟩ := hE.map hm
  have hyv : Act.eval ⟨tm, ds⟩ y = atomV tv.t tv.x := by
    obtain ⟨cs, e, hrx, _, _⟩ := hv
    rw [e]
    refine atom_mkV (C := C) (w := w) (Ok := Shd C g) hat ?_
    obtain ⟨tt, xx, mm⟩ := tv
    cases tt with
    | int k => obtain ⟨_, _, hc⟩ := hrx; exact hc
    | bool => obtain ⟨_, _, hc⟩ := hrx; exact hc
    | _ => cases hat
  simp only [Prog.run] at hr
  have hgo := getObj_map (P := C.P) hh
  have hck := checkKey_int (P := C.P) (w := w) huk false n
  have hbl := heap_lt hh
  have fin : ∀ ob : Obj, (execOp (Act.eval ⟨tm, ds⟩) o).run C.P w = .ok .skip { w with heap := w.heap.setIfInBounds b ob } →
      (∃ clock', ∃ es' : Array MapEntry, ob = .map es' clock' ∧ MapRep (t := tv.t) es'.toList (mset ks n tv.x)) → o.wp C.P ⟨tm, ds⟩ w next Q := by
    intro ob hex hob
    obtain ⟨clock', es', rfl, hrep'⟩ := hob
    have hother : ∀ b', b' ≠ b → (w.heap.setIfInBounds b (.map es' clock'))[b']? = w.heap[b']? := fun b' hb' => by rw [Array.getElem?_setIfInBounds, if_neg (fun e => hb' e.symm)]
    have st : Step C g σ tm w g tm { w with heap := w.heap.setIfInBounds b (.map es' clock') } s (.mp tv.t (mset ks n tv.x)) (listGet σ s).id ((listGet σ s).gen + 1) :=
      ⟨by simp, fun b' _ hb' => hother b' (fun e => hb' none (e ▸ hg)), fun b' _ hb' => hb', fun b' _ s' c' _ _ hb' => hb', fun b' _ s' _ hb' => hb',
        fun b' hb' => by simpa using h.gok b' hb', rfl, fun _ _ => rfl, by omega, .inl ⟨rfl, rfl⟩, ⟨rfl, rfl, rfl, by first | exact Nat.le_refl _ | exact Nat.le_succ _ | (simp; done) | (simp; omega)⟩, fun _ _ hb => by cases hb⟩
    have hS := h.replace st (fun _ => ⟨⟨b, clock', es', htm, hg, by simp [hbl], hrep'⟩, trivial⟩)
    exact done_sound hex hS hr hK
  rcases find_rep (t := tv.t) n tv.x .i64 ks es.toList 0 hrep with ⟨q1, q2, q3⟩ | ⟨j, z, q1, q2, ⟨e', q3, q4⟩, q5⟩
  · have hf := findKey_int (P := C.P) (w := w) huk q2
    refine fin (.map (es.push { key := .int .i64 n, val := atomV tv.t tv.x, born := clock }) (clock + 1)) ?_ ⟨_, _, rfl, ?_⟩
    · simp [execOp, ho, hx, hi, hyv, Instr.mapUpdate, run_underlying hu, hgo, hck, hf, setObj_map hh]
    · unfold MapRep at *
      rw [q3, Array.toList_push, List.map_append, hrep, List.map_append]; rfl
  · have hf := findKey_int (P := C.P) (w := w) huk q2
    rw [Nat.zero_add] at hf
    have hej : es[j]? = some e' := by rw [← Array.getElem?_toList]; exact q3
    refine fin (.map (es.modify j fun e => { e with key := .int .i64 n, val := atomV tv.t tv.x }) clock) ?_ ⟨_, _, rfl, ?_⟩
    · have hks : (Instr.keyThatStays (.int .i64 n) (.int .i64 n)).run C.P w = .ok (.int .i64 n) w := by
        unfold Instr.keyThatStays
        simp [Instr.sameBits]
      simp [execOp, ho, hx, hi, hyv, Instr.mapUpdate, run_underlying hu, hgo, hck, hf, hej, q4, hks, setObj_map hh]
    · unfold MapRep
      rw [Array.toList_modify]; exact q5
end
end Go.GD
