import Derived.Test.YtbapfiaglcllnaaGDbb
import Derived.Laws.BytesString
import Derived.Lib.ConvBytes
section
namespace Go.GD
open Go
theorem entV_atom {t : Ty} (ha : t.atom = true) (p : Int × t.den) : entV t p = (.int .i64 p.1, atomV t p.2) := by
  cases t with
  | int k => rfl
  | bool => rfl
  | _ => cases ha
theorem find_rep {t : Ty} (ha : t.atom = true) (k : Int) (v : t.den) (kd : IntKind) : (ks : List (Int × t.den)) → (es : List MapEntry) → (i : Nat) → es.map (fun e => (e.key, e.val)) = ks.map (entV t) →
    (mget ks k = none ∧ Instr.findNow (.int kd) (.int .i64 k) es i = some none ∧ mset ks k v = ks ++ [(k, v)]) ∨
    (∃ j x, mget ks k = some x ∧ Instr.findNow (.int kd) (.int .i64 k) es i = some (some (i + j, atomV t x)) ∧ (∃ e, es[j]? = some e ∧ e.key = .int .i64 k) ∧
      (es.modify j fun e => { e with key := .int .i64 k, val := atomV t v }).map (fun e => (e.key, e.val)) = (mset ks k v).map (entV t))
  | [], es, i, h => by
    cases es with
    | nil => exact .inl ⟨rfl, rfl, rfl⟩
    | cons => simp at h
  | p :: ks, es, i, h => by
    cases es with
    | nil => simp at h
    | cons e es =>
      simp only [List.map_cons, List.cons.injEq] at h
      obtain ⟨h1, h2⟩ := h
      rw [entV_atom ha] at h1
      have hk : e.key = .int .i64 p.1 := congrArg Prod.fst h1
      have hx : e.val = atomV t p.2 := congrArg Prod.snd h1
      simp only [mget, mset, Instr.findNow, hk, Instr.sameNow, if_true]
      cases hb : (k == p.1) with
      | true =>
        have : k = p.1 := by simpa using hb
        refine .inr ⟨0, p.2, rfl, by simp [hx], ⟨e, rfl, by rw [hk, this]⟩, ?_⟩
        simp only [cond, List.modify_zero_cons, List.map_cons, h2, entV_atom ha]
      | false =>
        simp only [cond]
        rcases find_rep ha k v kd ks es (i + 1) h2 with ⟨q1, q2, q3⟩ | ⟨j, x, q1, q2, ⟨e', q3, q4⟩, q5⟩
        · exact .inl ⟨q1, q2, by rw [q3]; rfl⟩
        · refine .inr ⟨j + 1, x, q1, by rw [q2]; congr 3; omega, ⟨e', by simpa using q3, q4⟩, ?_⟩
          simp only [List.modify_succ_cons, List.map_cons, q5, h1, entV_atom ha]
theorem repC_flat {P : Program} : (t : Ty) → t.scalar = true → ∀ {w : World} {Ok : Nat → Prop} {cs : List Value} {x : t.den}, RepC P t w Ok cs x → cs = flatC t x
  | .unit, _, _, _, _, _, h => h
  | .int _, _, _, _, _, _, h => h
  | .bool, _, _, _, _, _, h => h
  | .str, _, _, _, _, _, h => h
  | .pair a b, hs, _, _, _, _, h => by
    simp only [Ty.scalar, Bool.and_eq_true] at hs
    obtain ⟨c1, c2, e, h1, h2⟩ := h
    rw [e, repC_flat a hs.1 h1, repC_flat b hs.2 h2]; rfl
  | .sl _, hs, _, _, _, _, _ => by cases hs
  | .ptr _, hs, _, _, _, _, _ => by cases hs
  | .fn _ _, hs, _, _, _, _, _ => by cases hs
theorem flat_repC {P : Program} {w : World} {Ok : Nat → Prop} : (t : Ty) → t.scalar = true → ∀ x : t.den, RepC P t w Ok (flatC t x) x
  | .unit, _, _ => rfl
  | .int _, _, _ => rfl
  | .bool, _, _ => rfl
  | .str, _, _ => rfl
  | .pair a b, hs, x => by
    simp only [Ty.scalar, Bool.and_eq_true] at hs
    exact ⟨_, _, rfl, flat_repC a hs.1 x.1, flat_repC b hs.2 x.2⟩
  | .sl _, hs, _ => by cases hs
  | .ptr _, hs, _ => by cases hs
  | .fn _ _, hs, _ => by cases hs
theorem eqTy_true : (t : Ty) → t.scalar = true → ∀ {x y : t.den}, eqTy t x y = some true → x = y
  | .unit, _, _, _, _ => rfl
  | .int _, _, x, y, h => by
    have h : ((show Int from x) == (show Int from y)) = true := by simpa only [eqTy, Option.some.injEq] using h
    exact eq_of_beq h
  | .bool, _, x, y, h => by
    have h : ((show Bool from x) == (show Bool from y)) = true := by simpa only [eqTy, Option.some.injEq] using h
    exact eq_of_beq h
  | .str, _, x, y, h => by
    have h : ((show List UInt8 from x) == (show List UInt8 from y)) = true := by simpa only [eqTy, Option.some.injEq] using h
    exact eq_of_beq h
  | .pair a b, hs, x, y, h => by
    simp only [Ty.scalar, Bool.and_eq_true] at hs
    simp only [eqTy] at h
    split at h
    · rename_i p q e1 e2
      simp only [Option.some.injEq, Bool.and_eq_true] at h
      obtain ⟨rfl, rfl⟩ := h
      exact Prod.ext (eqTy_true a hs.1 e1) (eqTy_true b hs.2 e2)
    · cases h
  | .sl _, hs, _, _, _ => by cases hs
  | .ptr _, hs, _, _, _ => by cases hs
  | .fn _ _, hs, _, _, _ => by cases hs
theorem ck_sc {P : Program} {w : World} {T : Nat} {t : Ty} (h : eqSc P T t = true) (em : Bool) (n : Nat) (v : Value) : (Instr.checkKey em (n + 1) T v).run P w = .ok () w := by
  unfold Instr.checkKey
  cases t with
  | bool => simp only [eqSc] at h; split at h <;> first | (rename_i hu; simp [run_underlying hu]) | cases h
  | int k => simp only [eqSc] at h; split at h <;> first | (rename_i hu; simp [run_underlying hu]) | cases h
  | str => simp only [eqSc] at h; split at h <;> first | (rename_i hu; simp [run_underlying hu]) | cases h
  | _ => simp [eqSc] at h
theorem eqOK_struct {P : Program} {T : Nat} {t : Ty} (h : eqOK P T t = true) (ha : t.isAgg = true) :
    ∃ fs, P.underlying T = some (.struct fs) ∧ P.stoodInHeld T = false ∧ eqFld P fs.toList 0 t = true := by
  simp only [eqOK, Bool.or_eq_true] at h
  rcases h with h | h
  · cases t <;> simp [Ty.isAgg] at ha <;> simp [eqSc] at h
  · split at h
    · rename_i fs hu
      simp only [Bool.and_eq_true, Bool.not_eq_true'] at h
      exact ⟨fs, hu, h.1, h.2.2.2⟩
    · cases h
theorem ck_struct {P : Program} {w : World} {Ok : Nat → Prop} {T : Nat} {fs : Array Field} {t : Ty} {c : List Value} {x : t.den} (hu : P.underlying T = some (.struct fs)) (h : eqFld P fs.toList 0 t = true)
    (hx : RepC P t w Ok c x) (em : Bool) (n : Nat) : (Instr.checkKey em (n + 2) T (.agg c.toArray)).run P w = .ok () w := by
  rw [Instr.checkKey]
  simp only [Sem.run_bind, run_underlying hu, Result.andThen_ok]
  rw [← Array.forIn_toList]
  have hc : ∀ i u, c[i]? = some u → c.toArray[0 + i]? = some u := fun i u hu => by simpa using hu
  revert h hx hc
  generalize c.toArray = xs
  generalize (0 : Nat) = off
  generalize fs.toList = L
  revert off t c x
  induction L with
  | nil => intro t c x off h _ _; simp [eqFld] at h
  | cons f L ih =>
    intro t c x off h hx hc
    cases L with
    | nil =>
      simp only [eqFld, Bool.and_eq_true, bne_iff_ne] at h
      obtain ⟨h1, h2, h3⟩ := h
      obtain ⟨u, v, b, rfl, _, _, _, _, _, ha⟩ := eqSc_run (w := w) h3 hx hx 0
      have e1 := Nat.eq_of_beq_eq_true h1
      have p1 := part_cell (cs := xs) (off := f.offset) ha (by rw [e1]; exact hc 0 u rfl)
      have p2 := ck_sc (w := w) h3 em n u
      simp only [List.forIn_cons, Sem.run_bind, h2, ne_eq, not_false_eq_true, if_true, Result.andThen_ok, p1, p2, Sem.run_pure, List.forIn_nil]
    | cons f' L =>
      cases t with
      | pair a b =>
        simp only [eqFld, Bool.and_eq_true, bne_iff_ne] at h
        obtain ⟨h1, h2, h3, h4⟩ := h
        obtain ⟨c1, c2, rfl, hx1, hx2⟩ := hx
        obtain ⟨u, v, b', rfl, _, _, _, _, _, ha⟩ := eqSc_run (w := w) h3 hx1 hx1 0
        have e1 := Nat.eq_of_beq_eq_true h1
        have p1 := part_cell (cs := xs) (off := f.offset) ha (by rw [e1]; exact hc 0 u rfl)
        have p2 := ck_sc (w := w) h3 em n u
        rw [List.forIn_cons]
        simp only [Sem.run_bind, h2, ne_eq, not_false_eq_true, if_true, Result.andThen_ok, p1, p2, Sem.run_pure]
        exact ih (off + 1) h4 hx2 (fun i u hu => by have := hc (i + 1) u (by simpa using hu); rwa [show off + 1 + i = off + (i + 1) by omega])
      | _ => simp [eqFld] at h
theorem equal_struct {P : Program} {w : World} {T : Nat} {t : Ty} (h : eqOK P T t = true) (ha : t.isAgg = true) (hs : t.scalar = true) (x y : t.den) :
    (Op.equal T (mkV t (flatC t x)) (mkV t (flatC t y))).run P w = .ok (eqB t x y) w := by
  obtain ⟨fs, hu, h1, h4⟩ := eqOK_struct h ha
  have hf : P.underlying T = some (.struct (P.fieldsOf T)) := by simp [Program.fieldsOf, hu]
  have hff : P.fieldsOf T = fs := by simp [Program.fieldsOf, hu]
  obtain ⟨b, hr, he⟩ := eqFld_run (P := P) (Ok := fun _ => True) 9998 (flatC t x).toArray (flatC t y).toArray fs.toList 0 t _ _ x y h4 (flat_repC t hs x) (flat_repC t hs y) (fun i u hu => by simpa using hu) (fun i u hu => by simpa using hu)
  have hq : (Op.equalIn 10000 T (.agg (flatC t x).toArray) (.agg (flatC t y).toArray)).run P w = .ok b w := by
    rw [run_equalIn_struct w 9999 T _ _ hf h1, hff]; exact hr
  rw [show eqB t x y = b by unfold eqB; rw [he]; rfl]
  simp only [mkV, ha, if_true]
  exact hq
theorem findKey_ask {P : Program} {w : World} {T : Nat} {fs : Array Field} (hu : P.underlying T = some (.struct fs)) (v : Value) (es : List MapEntry) :
    (Instr.findKey T v es).run P w = (Instr.findAsking T v es 0).run P w := by
  cases es with
  | nil => simp [Instr.findKey, run_underlying hu, Instr.findNow, Instr.findAsking]
  | cons e es => simp [Instr.findKey, run_underlying hu, Instr.findNow, Instr.sameNow]
theorem find_ask {P : Program} {w : World} {T : Nat} {kt vt : Ty} (hs : kt.scalar = true)
    (heq : ∀ x y : kt.den, (Op.equal T (mkV kt (flatC kt x)) (mkV kt (flatC kt y))).run P w = .ok (eqB kt x y) w) (k : kt.den) (v : vt.den) :
    (ks : List (Int × (kt.den × vt.den))) → (es : List MapEntry) → (i : Nat) → es.map (fun e => (e.key, e.val)) = ks.map (entV (.pair kt vt)) →
    (pget kt vt ks k = none ∧ (Instr.findAsking T (mkV kt (flatC kt k)) es i).run P w = .ok none w ∧ pset kt vt ks k v = ks ++ [(0, (k, v))]) ∨
    (∃ j x, pget kt vt ks k = some x ∧ (Instr.findAsking T (mkV kt (flatC kt k)) es i).run P w = .ok (some (i + j, mkV vt (flatC vt x))) w ∧ (∃ e, es[j]? = some e ∧ e.key = mkV kt (flatC kt k)) ∧
      (es.modify j fun e => { e with key := mkV kt (flatC kt k), val := mkV vt (flatC vt v) }).map (fun e => (e.key, e.val)) = (pset kt vt ks k v).map (entV (.pair kt vt)))
  | [], es, i, h => by
    cases es with
    | nil => exact .inl ⟨rfl, by simp [Instr.findAsking], rfl⟩
    | cons => simp at h
  | p :: ks, es, i, h => by
    cases es with
    | nil => simp at h
    | cons e es =>
      simp only [List.map_cons, List.cons.injEq] at h
      obtain ⟨h1, h2⟩ := h
      have hk : e.key = mkV kt (flatC kt p.2.1) := congrArg Prod.fst h1
      have hx : e.val = mkV vt (flatC vt p.2.2) := congrArg Prod.snd h1
      simp only [pget, pset, Instr.findAsking, hk, Sem.run_bind, heq, Result.andThen_ok]
      cases hb : eqB kt k p.2.1 with
      | true =>
        have he : k = p.2.1 := by
          refine eqTy_true kt hs ?_
          unfold eqB at hb
          cases q : eqTy kt k p.2.1 with
          | none => rw [q] at hb; cases hb
          | some b => rw [q] at hb; rw [show b = true from hb]
        refine .inr ⟨0, p.2.2, rfl, by simp [hx], ⟨e, rfl, by rw [hk, he]⟩, ?_⟩
        simp only [cond, List.modify_zero_cons, List.map_cons, h2, entV]
      | false =>
        simp only [cond]
        rcases find_ask hs heq k v ks es (i + 1) h2 with ⟨q1, q2, q3⟩ | ⟨j, x, q1, q2, ⟨e', q3, q4⟩, q5⟩
        · exact .inl ⟨q1, by simpa using q2, by rw [q3]; rfl⟩
        · refine .inr ⟨j + 1, x, q1, ?_, ⟨e', by simpa using q3, q4⟩, ?_⟩
          · rw [show i + (j + 1) = i + 1 + j by omega]; simpa using q2
          · simp only [List.modify_succ_cons, List.map_cons, q5, h1]
theorem sameBits_flat (n : Nat) : (t : Ty) → (x : t.den) → ∀ v, v ∈ flatC t x → Instr.sameBits n v v = true
  | .unit, _, _, h => by cases h
  | .int k, x, v, h => by
    have : v = .int k x := by simpa [flatC] using h
    rw [this]; simp [Instr.sameBits]
  | .bool, x, v, h => by
    have : v = .bool x := by simpa [flatC] using h
    rw [this]; simp [Instr.sameBits]
  | .str, x, v, h => by
    have : v = .string ⟨⟨x⟩⟩ := by simpa [flatC] using h
    rw [this]; simp only [Instr.sameBits]
    show ((⟨x⟩ : Array UInt8) == ⟨x⟩) = true
    simp
  | .pair a b, x, v, h => by
    simp only [flatC, List.mem_append] at h
    exact h.elim (sameBits_flat n a x.1 v) (sameBits_flat n b x.2 v)
  | .sl _, _, _, h => by cases h
  | .ptr _, _, _, h => by cases h
  | .fn _ _, _, _, h => by cases h
theorem stays_struct {P : Program} {w : World} {t : Ty} (ha : t.isAgg = true) (x : t.den) : (Instr.keyThatStays (mkV t (flatC t x)) (mkV t (flatC t x))).run P w = .ok (mkV t (flatC t x)) w := by
  have : Instr.sameBits 10000 (mkV t (flatC t x)) (mkV t (flatC t x)) = true := by
    simp only [mkV, ha, if_true, Instr.sameBits, beq_self_eq_true, Bool.true_and, List.all_eq_true]
    intro p hp
    have : ∀ l : List Value, (∀ v, v ∈ l → Instr.sameBits 9999 v v = true) → ∀ p, p ∈ l.zip l → Instr.sameBits 9999 p.1 p.2 = true := by
      intro l
      induction l with
      | nil => intro _ p hp; cases hp
      | cons a l ih =>
        intro hl p hp
        rcases List.mem_cons.1 hp with rfl | hp
        · exact hl a (List.mem_cons_self ..)
        · exact ih (fun v hv => hl v (List.mem_cons_of_mem _ hv)) p hp
    exact this _ (sameBits_flat 9999 t x) p hp
  unfold Instr.keyThatStays
  simp [this]
section
variable {C : Ctx} {g : Own} {σ : St} {tm : Array Value} {w : World} {E : Env} {o : Oper} {ρ : Type} {K : St → Option ρ} {r : ρ} {ds : List Deferred}
  {next : Act → World → Prop} {Q : Exit → Act → World → Prop}
theorem hintP_inv {rs : Option Operand} {p : Prog} (h : SRep C g σ tm w) (hr : (hintP rs p).run σ K = some r) :
    p.run σ K = some r ∧ (rs = none ∨ ∃ x kd n, rs = some x ∧ Act.eval ⟨tm, ds⟩ x = .int kd n) := by
  cases rs with
  | none => exact ⟨hr, .inl rfl⟩
  | some x =>
    obtain ⟨kd, n, hi, hr⟩ := rdInt_inv (ds := ds) h hr
    exact ⟨hr, .inr ⟨x, kd, n, rfl, hi⟩⟩
theorem keyTy_inv {Kt : Nat} {t kt : Ty} (hE : TabOK C.P E.tab) (h : keyTy E Kt t = some kt) :
    kt.isAgg = true ∧ kt.scalar = true ∧ t.scalar = true ∧ E.ty Kt = some kt ∧ eqOK C.P Kt kt = true := by
  unfold keyTy at h
  split at h
  case h_2 => cases h
  rename_i e he
  split at h
  case isFalse => cases h
  rename_i hb
  injection h with h
  subst h
  simp only [Bool.and_eq_true] at hb
  exact ⟨hb.1, hb.2.1, hb.2.2.2, by simp [Env.ty, he], (hE.find he).eqs hb.2.2.1⟩
theorem isI64_inv {Kt : Nat} (hE : TabOK C.P E.tab) (h : isI64 (E.ty Kt) = true) : C.P.underlying Kt = some (.int .i64) := by
  cases hT : E.ty Kt with
  | none => rw [hT] at h; cases h
  | some t =>
    rw [hT] at h
    cases t with
    | int k =>
      have hk := kindBeq_eq h
      subst hk
      obtain ⟨e, he, hte⟩ := Env.ty_some hT
      obtain ⟨d, hd, hdo⟩ := (hE.find he).desc
      rw [hd]
      cases d <;> simp [descOK, hte, Ty.beq, Ty.isAgg] at hdo
      · rw [kindBeq_eq hdo]
      · obtain ⟨_, h⟩ := hdo
        split at h <;> cases h
    | _ => cases h
theorem op_makeMap {T : Nat} {rs : Option Operand} (hE : TabOK C.P E.tab) (ho : o.op = .makeMap T rs) (h : SRep C g σ tm w) (hr : (opP E o).run σ K = some r) (hK : Good C K r ds next) : o.wp C.P ⟨tm, ds⟩ w next Q := by
  unfold opP at hr
  rw [ho] at hr
  simp only at hr
  split at hr
  case h_2 => simp [Prog.run] at hr
  rename_i Kt V hm
  split at hr
  case h_2 => simp [Prog.run] at hr
  rename_i t hT
  obtain ⟨hr, hh⟩ := hintP_inv (ds := ds) h hr
  have hu := hE.map hm
  have hex : (execOp (Act.eval ⟨tm, ds⟩) o).run C.P w = .ok (.value (.map (some w.heap.size))) (w.alloc (.map #[] 0)) := by
    rcases hh with rfl | ⟨x, kd, n, rfl, hi⟩
    · simp [execOp, ho, Instr.makeMap]
    · simp [execOp, ho, Instr.makeMap, run_underlying hu, hi, asInt, asIntOf]
  have fin : ∀ t', (putA o.dst (.mp t' []) .fin).run σ K = some r → o.wp C.P ⟨tm, ds⟩ w next Q := fun t' hr' => by
    refine new_sound h (Grow.alloc h (.refl h) rfl (.map #[] 0) (o.dst.getD 0, none)) (v := .map (some w.heap.size)) (w0 := w) hex (fun d hd hl σ' tm' hv => ?_) hr' hK
    rw [hd]
    exact ⟨⟨w.heap.size, 0, #[], rfl, withNew_new, heap_alloc_new w _, rfl⟩, trivial⟩
  split at hr
  · exact fin _ hr
  · split at hr
    case isFalse => simp [Prog.run] at hr
    exact fin _ hr
theorem rdMap_inv {x : Operand} {k : Nat → Nat → Prog} (h : SRep C g σ tm w) (hr : (rdMap x k).run σ K = some r) :
    ∃ s id, (k s id).run σ K = some r ∧ ((listGet σ s).id = id → Act.eval ⟨tm, ds⟩ x = tm.getD s undef) := by
  cases x with
  | tmp s =>
    simp only [rdMap, Prog.run] at hr
    split at hr
    · exact ⟨s, _, hr, fun _ => rfl⟩
    · rename_i s' id ha
      have hl := h.lt (s := s) (by rw [ha]; intro e; cases e)
      have hs := h.slots s hl
      rw [ha] at hs
      exact ⟨s', id, hr, fun hid => hs hid⟩
    · simp [Prog.run] at hr
  | _ => simp [rdMap, Prog.run] at hr
theorem mapP_inv {t : Ty} {s id : Nat} {k : Slot → List (Int × t.den) → Prog} (h : SRep C g σ tm w) (hr : (mapP t s id k).run σ K = some r) :
    (listGet σ s).id = id ∧ ∃ ks : List (Int × t.den), (listGet σ s).a = .mp t ks ∧ s < σ.length ∧ (k (listGet σ s) ks).run σ K = some r ∧
      ∃ b clock, ∃ es : Array MapEntry, tm.getD s undef = .map (some b) ∧ g b = some (s, none) ∧ w.heap[b]? = some (.map es clock) ∧ MapRep (t := t) es.toList ks := by
  simp only [mapP, Prog.run] at hr
  split at hr
  case h_2 => simp [Prog.run] at hr
  rename_i hid
  split at hr
  case h_2 => simp [Prog.run] at hr
  rename_i t' ks ha
  split at hr
  case h_2 => simp [Prog.run] at hr
  rename_i ks' hc
  obtain ⟨e, rfl⟩ := castO_some hc
  simp only [mapTy, Ty.sl.injEq, Ty.pair.injEq, true_and] at e
  subst e
  have hl := h.lt (s := s) (by rw [ha]; intro e; cases e)
  have hs := h.slots s hl
  rw [ha] at hs
  exact ⟨Nat.eq_of_beq_eq_true hid, ks, ha, hl, hr, hs⟩
theorem getObj_map {P : Program} {b : Nat} {es : Array MapEntry} {clock : Nat} (h : w.heap[b]? = some (.map es clock)) : (getObj b).run P w = .ok (.map es clock) w := by
  have hl := heap_lt h
  simp [getObj, Sem.run, h]
theorem setObj_map {P : Program} {b : Nat} {es : Array MapEntry} {clock : Nat} (h : w.heap[b]? = some (.map es clock)) (ob : Obj) : (setObj b ob).run P w = .ok () { w with heap := w.heap.setIfInBounds b ob } := by
  simp [setObj, Sem.run, h]
theorem checkKey_int {P : Program} {K : Nat} (hK : P.underlying K = some (.int .i64)) (em : Bool) (n : Int) : (Instr.checkKey em 10000 K (.int .i64 n)).run P w = .ok () w := by
  unfold Instr.checkKey
  simp [run_underlying hK]
theorem findKey_int {P : Program} {K : Nat} (hK : P.underlying K = some (.int .i64)) {v : Value} {es : List MapEntry} {x : Option (Nat × Value)} (h : Instr.findNow (.int .i64) v es 0 = some x) :
    (Instr.findKey K v es).run P w = .ok x w := by
  unfold Instr.findKey
  simp [run_underlying hK, h]
theorem atom_val {t : Ty} (ha : t.atom = true) (x : t.den) : Val C g σ tm w (atomV t x) ⟨t, x, [.shr]⟩ := by
  cases t with
  | int k => exact Val.int k x
  | bool => exact Val.bool x
  | _ => cases ha
theorem atom_mkV {t : Ty} (ha : t.atom = true) {Ok : Nat → Prop} {cs : List Value} {x : t.den} (h : RepC C.P t w Ok cs x) : mkV t cs = atomV t x := by
  cases t with
  | int k => rw [show cs = _ from h]; rfl
  | bool => rw [show cs = _ from h]; rfl
  | _ => cases ha
theorem flat_val {t : Ty} (hs : t.scalar = true) (x : t.den) : Val C g σ tm w (mkV t (flatC t x)) ⟨t, x, shrMarks t⟩ :=
  ⟨flatC t x, rfl, repX_shr (flat_repC t hs x) 0 0, fun m hm => by rw [mem_shrMarks t m hm]; simp, fun m hm => by rw [mem_shrMarks t m hm]; trivial⟩
theorem atom_shr {t : Ty} (ha : t.atom = true) : shrMarks t = [.shr] := by
  cases t with
  | int k => rfl
  | bool => rfl
  | _ => cases ha
theorem look_out {ok : Bool} {t : Ty} {q : Option t.den} {z : t.den} {v : Value} (h : SRep C g σ tm w) (hv : Val C g σ tm w v ⟨t, q.getD z, shrMarks t⟩)
    (hexec : (execOp (Act.eval ⟨tm, ds⟩) o).run C.P w = .ok (.value (if ok then .tuple #[v, .bool q.isSome] else v)) w)
    (hr : (lookOut o ok t q z).run σ K = some r) (hK : Good C K r ds next) : o.wp C.P ⟨tm, ds⟩ w next Q := by
  cases ok with
  | false => exact out_val h (by simpa using hexec) hv hr hK
  | true =>
    refine av_sound h (.refl h) (v := .tuple #[v, .bool q.isSome]) (by simpa using hexec) (a0 := .tup [⟨t, q.getD z, shrMarks t⟩, ⟨.bool, q.isSome, [.shr]⟩]) ?_ hr hK
    refine ⟨[v, .bool q.isSome], rfl, rfl, fun i u tv h1 h2 => ?_⟩
    match i, h1, h2 with
    | 0, h1, h2 =>
      simp only [List.getElem?_cons_zero, Option.some.injEq] at h1 h2
      subst h1; subst h2; exact hv
    | 1, h1, h2 =>
      simp only [List.getElem?_cons_succ, List.getElem?_cons_zero, Option.some.injEq] at h1 h2
      subst h1; subst h2; exact Val.bool _
    | n + 2, h1, _ => simp at h1
theorem op_lookup {T : Nat} {x i : Operand} {ok : Bool} (hE : TabOK C.P E.tab) (ho : o.op = .lookup T x i ok) (h : SRep C g σ tm w) (hr : (opP E o).run σ K = some r) (hK : Good C K r ds next) : o.wp C.P ⟨tm, ds⟩ w next Q := by
  unfold opP at hr
  rw [ho] at hr
  simp only at hr
  split at hr
  case h_2 => simp [Prog.run] at hr
  rename_i Kt V hm
  split at hr
  case h_2 => simp [Prog.run] at hr
  rename_i t hT
  split at hr
  case h_2 => simp [Prog.run] at hr
  rename_i z hz
  have hu := hE.map hm
  obtain ⟨e, he, hte⟩ := Env.ty_some hT
  subst hte
  obtain ⟨cs, hzv, hcl, hcells, hzc⟩ := (hE.find he).zero hz w
  split at hr
  · rename_i kt hkt
    obtain ⟨k1, k2, k3, k4, k5⟩ := keyTy_inv (C := C) hE hkt
    obtain ⟨tv, hv, _, hr⟩ := rdV_inv (ds := ds) h hr
    split at hr
    case h_2 => simp [Prog.run] at hr
    rename_i k hk
    obtain ⟨ety, rfl⟩ := castO_some hk
    subst ety
    obtain ⟨s, id, hr, hx⟩ := rdMap_inv (ds := ds) h hr
    obtain ⟨hid, ks, ha, hl, hr, b, clock, es, hvm, hg, hh, hrep⟩ := mapP_inv h hr
    have hx := hx hid
    rw [hvm] at hx
    have hiv : Act.eval ⟨tm, ds⟩ i = mkV tv.t (flatC tv.t tv.x) := by
      obtain ⟨cs, e, hrx, _, _⟩ := hv
      rw [e, repC_flat _ k2 (repC_of_scalar _ k2 hrx)]
    have hz0 : mkV e.ty cs = mkV e.ty (flatC e.ty z) := by
      rw [repC_flat (P := C.P) (w := w) (Ok := fun _ => True) _ k3 (zeroC_repC hzc hcl hz)]
    obtain ⟨fs, hfs, hst, hfl⟩ := eqOK_struct k5 k1
    have hgo := getObj_map (P := C.P) hh
    have hck : (Instr.checkKey es.isEmpty 10000 Kt (mkV tv.t (flatC tv.t tv.x))).run C.P w = .ok () w := by
      simp only [mkV, k1, if_true]
      exact ck_struct (Ok := fun _ => True) hfs hfl (flat_repC _ k2 _) es.isEmpty 9998
    have hfk := findKey_ask (w := w) hfs (mkV tv.t (flatC tv.t tv.x)) es.toList
    refine look_out h (v := mkV e.ty (flatC e.ty ((pget tv.t e.ty ks tv.x).getD z))) (flat_val k3 _) ?_ hr hK
    rcases find_ask (vt := e.ty) (P := C.P) (w := w) k2 (fun x y => equal_struct k5 k1 k2 x y) tv.x z ks es.toList 0 hrep with ⟨q1, q2, _⟩ | ⟨j, y, q1, q2, _⟩
    · simp [execOp, ho, hx, hiv, Instr.lookup, run_underlying hu, hgo, hck, hfk, q2, hzv, hz0, q1]
    · simp [execOp, ho, hx, hiv, Instr.lookup, run_underlying hu, hgo, hck, hfk, q2, q1]
  · split at hr
    case isFalse => simp [Prog.run] at hr
    rename_i hat
    rw [Bool.and_eq_true] at hat
    have huk := isI64_inv (C := C) hE hat.2
    have hat := hat.1
    obtain ⟨s, id, hr, hx⟩ := rdMap_inv (ds := ds) h hr
    obtain ⟨kd, n, hi, hr⟩ := rdInt_inv (ds := ds) h hr
    split at hr
    case isFalse => simp [Prog.run] at hr
    rename_i hkd
    have hkd := kindBeq_eq hkd
    subst hkd
    obtain ⟨hid, ks, ha, hl, hr, b, clock, es, hv, hg, hh, hrep⟩ := mapP_inv h hr
    have hx := hx hid
    rw [hv] at hx
    have hz0 : mkV e.ty cs = atomV e.ty z := atom_mkV (C := C) (w := w) (Ok := fun _ => True) hat (zeroC_repC hzc hcl hz)
    refine look_out h (v := atomV e.ty ((mget ks n).getD z)) (by rw [atom_shr hat]; exact atom_val hat _) ?_ hr hK
    have hgo := getObj_map (P := C.P) hh
    have hck := checkKey_int (P := C.P) (w := w) huk es.isEmpty n
    rcases find_rep (t := e.ty) hat n z .i64 ks es.toList 0 hrep with ⟨q1, q2, _⟩ | ⟨j, y, q1, q2, _⟩
    · have hf := findKey_int (P := C.P) (w := w) huk q2
      simp [execOp, ho, hx, hi, Instr.lookup, run_underlying hu, hgo, hck, hf, hzv, hz0, q1]
    · have hf := findKey_int (P := C.P) (w := w) huk q2
      simp [execOp, ho, hx, hi, Instr.lookup, run_underlying hu, hgo, hck, hf, q1]
theorem op_mapUpdate {T : Nat} {x i y : Operand} (hE : TabOK C.P E.tab) (ho : o.op = .mapUpdate T x i y) (h : SRep C g σ tm w) (hr : (opP E o).run σ K = some r) (hK : Good C K r ds next) : o.wp C.P ⟨tm, ds⟩ w next Q := by
  unfold opP at hr
  rw [ho] at hr
  simp only at hr
  split at hr
  case h_2 => simp [Prog.run] at hr
  rename_i Kt V hm
  split at hr
  case h_2 => simp [Prog.run] at hr
  rename_i t hT
  obtain ⟨tv, hv, _, hr⟩ := rdV_inv (ds := ds) h hr
  split at hr
  case h_2 => simp [Prog.run] at hr
  rename_i u hu
  obtain ⟨ety, rfl⟩ := castO_some hu
  subst ety
  have hu := hE.map hm
  have fin : ∀ {t' : Ty} {s : Nat} {b : Nat} {clock : Nat} {es : Array MapEntry} (ks' : List (Int × t'.den)), (Prog.put s ⟨.mp t' ks', (listGet σ s).id, (listGet σ s).gen + 1⟩ (putA o.dst .top .fin)).run σ K = some r →
      tm.getD s undef = .map (some b) → g b = some (s, none) → w.heap[b]? = some (.map es clock) → ∀ ob : Obj,
      (execOp (Act.eval ⟨tm, ds⟩) o).run C.P w = .ok .skip { w with heap := w.heap.setIfInBounds b ob } →
      (∃ clock', ∃ es' : Array MapEntry, ob = .map es' clock' ∧ MapRep (t := t') es'.toList ks') → o.wp C.P ⟨tm, ds⟩ w next Q := by
    intro t' s b clock es ks' hr htm hg hh ob hex hob
    simp only [Prog.run] at hr
    have hbl := heap_lt hh
    obtain ⟨clock', es', rfl, hrep'⟩ := hob
    have hother : ∀ b', b' ≠ b → (w.heap.setIfInBounds b (.map es' clock'))[b']? = w.heap[b']? := fun b' hb' => by rw [Array.getElem?_setIfInBounds, if_neg (fun e => hb' e.symm)]
    have st : Step C g σ tm w g tm { w with heap := w.heap.setIfInBounds b (.map es' clock') } s (.mp t' ks') (listGet σ s).id ((listGet σ s).gen + 1) :=
      ⟨by simp, fun b' _ hb' => hother b' (fun e => hb' none (e ▸ hg)), fun b' _ hb' => hb', fun b' _ s' c' _ _ hb' => hb', fun b' _ s' _ hb' => hb',
        fun b' hb' => by simpa using h.gok b' hb', rfl, fun _ _ => rfl, by omega, .inl ⟨rfl, rfl⟩, ⟨rfl, rfl, rfl, by first | exact Nat.le_refl _ | exact Nat.le_succ _ | (simp; done) | (simp; omega)⟩, fun _ _ hb => by cases hb⟩
    have hS := h.replace st (fun _ => ⟨⟨b, clock', es', htm, hg, by simp [hbl], hrep'⟩, trivial⟩)
    exact done_sound hex hS hr hK
  split at hr
  · rename_i kt hkt
    obtain ⟨k1, k2, k3, k4, k5⟩ := keyTy_inv (C := C) hE hkt
    obtain ⟨kv, hkv, _, hr⟩ := rdV_inv (ds := ds) h hr
    split at hr
    case h_2 => simp [Prog.run] at hr
    rename_i k hk
    obtain ⟨ety, rfl⟩ := castO_some hk
    subst ety
    obtain ⟨s, id, hr, hx⟩ := rdMap_inv (ds := ds) h hr
    obtain ⟨hid, ks, ha, hl, hr, b, clock, es, htm, hg, hh, hrep⟩ := mapP_inv h hr
    have hx := hx hid
    rw [htm] at hx
    have hiv : Act.eval ⟨tm, ds⟩ i = mkV kv.t (flatC kv.t kv.x) := by
      obtain ⟨cs, e, hrx, _, _⟩ := hkv
      rw [e, repC_flat _ k2 (repC_of_scalar _ k2 hrx)]
    have hyv : Act.eval ⟨tm, ds⟩ y = mkV tv.t (flatC tv.t tv.x) := by
      obtain ⟨cs, e, hrx, _, _⟩ := hv
      rw [e, repC_flat _ k3 (repC_of_scalar _ k3 hrx)]
    obtain ⟨fs, hfs, hst, hfl⟩ := eqOK_struct k5 k1
    have hgo := getObj_map (P := C.P) hh
    have hck : (Instr.checkKey false 10000 Kt (mkV kv.t (flatC kv.t kv.x))).run C.P w = .ok () w := by
      simp only [mkV, k1, if_true]
      exact ck_struct (Ok := fun _ => True) hfs hfl (flat_repC _ k2 _) false 9998
    have hfk := findKey_ask (w := w) hfs (mkV kv.t (flatC kv.t kv.x)) es.toList
    rcases find_ask (vt := tv.t) (P := C.P) (w := w) k2 (fun x y => equal_struct k5 k1 k2 x y) kv.x tv.x ks es.toList 0 hrep with ⟨q1, q2, q3⟩ | ⟨j, z, q1, q2, ⟨e', q3, q4⟩, q5⟩
    · refine fin _ hr htm hg hh (.map (es.push { key := mkV kv.t (flatC kv.t kv.x), val := mkV tv.t (flatC tv.t tv.x), born := clock }) (clock + 1)) ?_ ⟨_, _, rfl, ?_⟩
      · simp [execOp, ho, hx, hiv, hyv, Instr.mapUpdate, run_underlying hu, hgo, hck, hfk, q2, setObj_map hh]
      · unfold MapRep at *
        rw [q3, Array.toList_push, List.map_append, hrep, List.map_append]; rfl
    · rw [Nat.zero_add] at q2
      have hej : es[j]? = some e' := by rw [← Array.getElem?_toList]; exact q3
      refine fin _ hr htm hg hh (.map (es.modify j fun e => { e with key := mkV kv.t (flatC kv.t kv.x), val := mkV tv.t (flatC tv.t tv.x) }) clock) ?_ ⟨_, _, rfl, ?_⟩
      · have hks := stays_struct (P := C.P) (w := w) k1 kv.x
        simp [execOp, ho, hx, hiv, hyv, Instr.mapUpdate, run_underlying hu, hgo, hck, hfk, q2, hej, q4, hks, setObj_map hh]
      · unfold MapRep
        rw [Array.toList_modify]; exact q5
  · split at hr
    case isFalse => simp [Prog.run] at hr
    rename_i hat
    rw [Bool.and_eq_true] at hat
    have huk := isI64_inv (C := C) hE hat.2
    have hat := hat.1
    obtain ⟨s, id, hr, hx⟩ := rdMap_inv (ds := ds) h hr
    obtain ⟨kd, n, hi, hr⟩ := rdInt_inv (ds := ds) h hr
    split at hr
    case isFalse => simp [Prog.run] at hr
    rename_i hkd
    have hkd := kindBeq_eq hkd
    subst hkd
    obtain ⟨hid, ks, ha, hl, hr, b, clock, es, htm, hg, hh, hrep⟩ := mapP_inv h hr
    have hx := hx hid
    rw [htm] at hx
    have hyv : Act.eval ⟨tm, ds⟩ y = atomV tv.t tv.x := by
      obtain ⟨cs, e, hrx, _, _⟩ := hv
      rw [e]
      refine atom_mkV (C := C) (w := w) (Ok := Shd C g) hat ?_
      obtain ⟨tt, xx, mm⟩ := tv
      cases tt with
      | int k => obtain ⟨_, _, hc⟩ := hrx; exact hc
      | bool => obtain ⟨_, _, hc⟩ := hrx; exact hc
      | _ => cases hat
    have hgo := getObj_map (P := C.P) hh
    have hck := checkKey_int (P := C.P) (w := w) huk false n
    rcases find_rep (t := tv.t) hat n tv.x .i64 ks es.toList 0 hrep with ⟨q1, q2, q3⟩ | ⟨j, z, q1, q2, ⟨e', q3, q4⟩, q5⟩
    · have hf := findKey_int (P := C.P) (w := w) huk q2
      refine fin _ hr htm hg hh (.map (es.push { key := .int .i64 n, val := atomV tv.t tv.x, born := clock }) (clock + 1)) ?_ ⟨_, _, rfl, ?_⟩
      · simp [execOp, ho, hx, hi, hyv, Instr.mapUpdate, run_underlying hu, hgo, hck, hf, setObj_map hh]
      · unfold MapRep at *
        rw [q3, Array.toList_push, List.map_append, hrep, List.map_append]
        simp [entV_atom hat]
    · have hf := findKey_int (P := C.P) (w := w) huk q2
      rw [Nat.zero_add] at hf
      have hej : es[j]? = some e' := by rw [← Array.getElem?_toList]; exact q3
      refine fin _ hr htm hg hh (.map (es.modify j fun e => { e with key := .int .i64 n, val := atomV tv.t tv.x }) clock) ?_ ⟨_, _, rfl, ?_⟩
      · have hks : (Instr.keyThatStays (.int .i64 n) (.int .i64 n)).run C.P w = .ok (.int .i64 n) w := by
          unfold Instr.keyThatStays
          simp [Instr.sameBits]
        simp [execOp, ho, hx, hi, hyv, Instr.mapUpdate, run_underlying hu, hgo, hck, hf, hej, q4, hks, setObj_map hh]
      · unfold MapRep
        rw [Array.toList_modify]; exact q5
end
end Go.GD
end

section
namespace Go.GD
open Go
theorem push_all (ns : List Int) (s : ByteArray) : ns.foldl (fun r n => r.push (UInt8.ofNat n.toNat)) s = ⟨⟨s.data.toList ++ ns.map fun (n : Int) => UInt8.ofNat n.toNat⟩⟩ := by
  induction ns generalizing s with
  | nil => simp
  | cons n ns ih =>
    rw [List.foldl_cons, ih]
    congr 1
    simp [ByteArray.push]
section
variable {C : Ctx} {g : Own} {σ : St} {tm : Array Value} {w : World} {E : Env} {o : Oper} {ρ : Type} {K : St → Option ρ} {r : ρ} {ds : List Deferred}
  {next : Act → World → Prop} {Q : Exit → Act → World → Prop}
theorem Val.str (l : List UInt8) : Val C g σ tm w (.string ⟨⟨l⟩⟩) ⟨.str, l, [.shr]⟩ :=
  ⟨_, rfl, ⟨_, rfl, rfl⟩, fun m hm => by simp at hm; subst hm; simp, fun m hm => by simp at hm; subst hm; trivial⟩
theorem bytes_run {P : Program} {a : Option Addr} {len cap : Nat} {xs : List Int} {Sh : Nat → Prop}
    (h : xs.length = len ∧ len ≤ cap ∧ (len = 0 ∨ ∃ ad : Addr, a = some ad ∧ ad.spot = none ∧ Rows (Ty.int .u8).size w (RepC P (.int .u8) w Sh) ad xs)) :
    (Conv.bytesToString (.slice a len cap)).run P w = .ok (.string ⟨⟨xs.map fun (n : Int) => UInt8.ofNat n.toNat⟩⟩) w := by
  obtain ⟨h1, h2, h3⟩ := h
  cases a with
  | none =>
    have hx : xs = [] := by
      rcases h3 with h3 | ⟨ad, e, _⟩
      · exact List.eq_nil_of_length_eq_zero (by omega)
      · cases e
    subst hx
    rfl
  | some ad =>
    have hload : (loadCells ad len).run P w = .ok (xs.map (Value.int .u8)).toArray w := by
      rcases h3 with h3 | ⟨ad', e, hsp, hr⟩
      · subst h3
        have hx : xs = [] := List.eq_nil_of_length_eq_zero h1
        subst hx
        have := run_loadCells (P := P) (w := w) ad 0 (fun _ => undef) (fun j hj => absurd hj (Nat.not_lt_zero _))
        simpa using this
      · injection e with e
        subst e
        have := run_loadCells (P := P) (w := w) ad len (fun j => .int .u8 (xs.getD j 0)) (fun j hj => by
          obtain ⟨cs, hl, hc, hrep⟩ := hr j (by omega)
          have := hc 0 (by simp [Ty.size])
          rw [addr_add hsp]
          simp only [Ty.size, Nat.mul_one, Nat.add_zero] at this
          rw [this, show cs = [.int .u8 xs[j]] from hrep]
          simp [List.getD, show j < xs.length by omega])
        rw [this]
        congr 1
        apply congrArg List.toArray
        apply List.ext_getElem?
        intro j
        rcases Nat.lt_or_ge j len with hj | hj
        · simp [hj, List.getD, show j < xs.length by omega]
        · rw [List.getElem?_eq_none (by simpa using hj), List.getElem?_eq_none (by simp; omega)]
    rw [run_bytesToString w ad len cap xs hload, push_all]
    rfl
theorem str_desc (hE : TabOK C.P E.tab) {T : Nat} (hT : E.ty T = some .str) : C.P.underlying T = some .string := by
  obtain ⟨e, he, hty⟩ := Env.ty_some hT
  obtain ⟨dd, _, hu2, hdo⟩ := (hE.find he).underlying default
  rw [hu2]
  cases dd with
  | int k' => have := Ty.eq_of_beq hdo; rw [hty] at this; cases this
  | bool => have := Ty.eq_of_beq hdo; rw [hty] at this; cases this
  | string => rfl
  | slice el =>
    simp only [descOK, Bool.and_eq_true] at hdo
    obtain ⟨_, hdo⟩ := hdo
    split at hdo
    · simp only [Bool.and_eq_true] at hdo
      have := Ty.eq_of_beq hdo.1; rw [hty] at this; cases this
    · cases hdo
  | struct fs => simp [descOK, hty, Ty.isAgg] at hdo
  | array n el => simp [descOK, hty, Ty.isAgg] at hdo
  | func ps rs v => simp [descOK, hty] at hdo
  | _ => simp [descOK] at hdo
def unown (g : Own) (d : Nat) : Own := fun b => match g b with
  | some (s, x) => if s = d then none else some (s, x)
  | none => none
theorem unown_ne {g : Own} {d b : Nat} (h : unown g d b ≠ none) : g b ≠ none := by
  intro e
  simp [unown, e] at h
theorem unown_other {g : Own} {d b s : Nat} {x : Option Nat} (h : g b = some (s, x)) (hs : s ≠ d) : unown g d b = some (s, x) := by simp [unown, h, hs]
theorem unown_same {g : Own} {d b : Nat} {x : Option Nat} (h : g b = some (d, x)) : unown g d b = none := by simp [unown, h]
theorem unown_none {g : Own} {d b : Nat} (h : g b = none) : unown g d b = none := by simp [unown, h]
theorem hand_shared {a0 : A} {v : Value} {w' w0 : World} (h : SRep C g σ tm w) (hs : w'.heap.size = w.heap.size) (hio : SameIO w w')
    (hH : ∀ b, b < w.heap.size → (∀ c, g b ≠ some (σ.length, some c)) → w'.heap[b]? = w.heap[b]?) (hexec : (execOp (Act.eval ⟨tm, ds⟩) o).run C.P w0 = .ok (.value v) w')
    (new : ∀ d, d < σ.length → ∀ σ' tm', SlotRep C (unown (handTo g σ.length d 0) d) σ' tm' w' d v a0 ∧ bndA σ' a0)
    (hr : (putA o.dst a0 .fin).run σ K = some r) (hK : Good C K r ds next) (hbox : a0.isBox = false := by rfl) : o.wp C.P ⟨tm, ds⟩ w0 next Q := by
  unfold Oper.wp
  rw [hexec, Oper.upon_value]
  cases hd : o.dst with
  | none =>
    rw [hd] at hr
    have st : Step C g σ tm w g tm w' σ.length .top 1 1 := by
      refine ⟨by omega, fun b hb hk => hH b hb (fun c => hk (some c)), fun _ _ h => h, fun _ _ _ _ _ _ h => h, fun _ _ _ _ h => h, fun b hb => by rw [hs]; exact h.gok b hb, rfl, fun _ _ => rfl,
        by rw [listGet_out _ _ (Nat.le_refl _)]; exact Nat.one_pos, .inr (by rw [listGet_out _ _ (Nat.le_refl _)]; exact Nat.one_pos), hio, fun _ _ hb => by cases hb⟩
    have := h.replace st (fun hl => absurd hl (Nat.lt_irrefl _))
    rw [listSet_out _ _ _ (Nat.le_refl _)] at this
    exact hK _ _ _ _ this rfl hr
  | some d =>
    rw [hd] at hr
    simp only [putA, Prog.run] at hr
    have h' : SRep C (handTo g σ.length d 0) σ tm w := h.grow (Grow.handTo h d 0)
    have st : Step C (handTo g σ.length d 0) σ tm w (unown (handTo g σ.length d 0) d) (tm.setIfInBounds d v) w' d a0 ((listGet σ d).id + 1) ((listGet σ d).gen + 1) := by
      refine ⟨by omega, fun b hb hk => hH b hb (fun c hc => hk _ (handTo_hand hc)), fun _ _ h => unown_none h, fun _ _ _ _ hne _ h => unown_other h hne, fun _ _ _ hne h => unown_other h hne, fun b hb => by rw [hs]; exact h'.gok b (unown_ne hb), by simp, fun s hs => getD_set_other hs,
        by omega, .inr (by omega), hio, fun _ _ hb => by rw [hbox] at hb; cases hb⟩
    have := h'.replace st (fun hl => by rw [getD_set_same (by rw [h.len]; exact hl)]; exact new d hl _ _)
    exact hK _ _ _ _ this rfl hr
theorem freeze_heap (w : World) (b k : Nat) {vs : Array Value} {e : TypeId} (h : w.heap[b]? = some (.cells vs e (0, 0))) : (w.freeze ⟨b, k, none⟩ 1).heap[b]? = some (.cells vs e (k, k + 1)) := by
  unfold World.freeze
  rw [if_neg (by decide)]
  show (w.heap.modify b _)[b]? = _
  rw [Array.getElem?_modify, if_pos rfl, h]
  rfl
theorem freeze_other (w : World) (b k : Nat) {c : Nat} (hc : c ≠ b) : (w.freeze ⟨b, k, none⟩ 1).heap[c]? = w.heap[c]? := by
  unfold World.freeze
  rw [if_neg (by decide)]
  show (w.heap.modify b _)[c]? = _
  rw [Array.getElem?_modify, if_neg (fun e => hc e.symm)]
theorem freeze_size (w : World) (b k : Nat) : (w.freeze ⟨b, k, none⟩ 1).heap.size = w.heap.size := by
  unfold World.freeze
  rw [if_neg (by decide)]
  show (w.heap.modify b _).size = _
  rw [Array.size_modify]
theorem run_convert_same {P : Program} (w : World) (t e : TypeId) (b off n c : Nat) {vs : Array Value} {et : TypeId} (hb : w.heap[b]? = some (.cells vs et (0, 0))) (ht : P.underlying t = some (.slice e)) (he : P.underlying e = some (.int .u8)) :
    (convert t t (.slice (some ⟨b, off, none⟩) n c)).run P w = .ok (.slice (some ⟨b, off, none⟩) n c) (w.freeze ⟨b, vs.size, none⟩ 1) := by
  have hsh : w.shape? b = some (et, vs.size) := by
    unfold World.shape?
    rw [hb]
  simp [convert, run_underlying ht, run_underlying he, markStringish, hsh]
theorem op_convertSame {s d : Nat} {x : Operand} (hE : TabOK C.P E.tab) (ho : o.op = .convert s d x) (hs : E.ty s = some (.sl (.int .u8))) (h : SRep C g σ tm w)
    (hr : (rdV E s x fun v => match castO v.t (.sl (.int .u8)) v.x with
      | some xs => .br (Nat.beq s d && Nat.blt 0 xs.length) (takeMarks (fun _ => true) false v.ms fun ms => match ms with
        | [.own] => putA o.dst (.val ⟨.sl (.int .u8), xs, [.shr]⟩) .fin
        | _ => .fail) .fail
      | none => .fail).run σ K = some r) (hK : Good C K r ds next) : o.wp C.P ⟨tm, ds⟩ w next Q := by
  obtain ⟨tv, hv, _, hr⟩ := rdV_inv (ds := ds) h hr
  split at hr
  case h_2 => simp [Prog.run] at hr
  rename_i xs hxs
  simp only [Prog.run] at hr
  cases hbnds : (Nat.beq s d && Nat.blt 0 xs.length) with
  | false => rw [hbnds] at hr; simp at hr
  | true =>
  rw [hbnds] at hr
  simp only [cond] at hr
  simp only [Bool.and_eq_true] at hbnds
  have hsd := Nat.eq_of_beq_eq_true hbnds.1
  subst hsd
  have hpos : 0 < xs.length := Nat.le_of_ble_eq_true hbnds.2
  obtain ⟨ety, exs⟩ := castO_some hxs
  obtain ⟨t0, ys, ms0⟩ := tv
  simp only at ety exs hr
  subst ety
  simp only at exs
  subst exs
  obtain ⟨cs, ev, hx, hn, hb⟩ := hv
  obtain ⟨g1, σ1, ms', h1, h2, h3, h4, h5, h6, h7, _⟩ := takeMarks_inv ms0 [] rfl h (hx.place σ.length 0 hn) (fun _ hm => by cases hm) hn hb hr
  have hN : σ1.length = σ.length := h2.len
  simp only [List.nil_append] at h4 h5
  split at h6
  case h_2 => simp [Prog.run] at h6
  obtain ⟨a1, len1, cap1, m1, ec, em, hs1⟩ := h5
  simp only [List.cons.injEq, and_true] at em
  subst em
  simp only [clm, Claim.says] at hs1
  obtain ⟨⟨hl1, hlc1, hblk⟩, _⟩ := hs1
  obtain ⟨e, he, hte⟩ := Env.ty_some hs
  obtain ⟨hu, te, hfe, hteq, _⟩ := (hE.find he).slice hte
  have hu8 : C.P.underlying e.elem = some (.int .u8) := int_desc hE (by unfold Env.ty; rw [hfe, Option.map_some, hteq])
  rcases hblk with hcap | ⟨ad, hsome, hsp, hown, ⟨vs, et, hblk, hfit⟩, hrows⟩
  · exfalso
    have : xs.length = len1 := hl1
    omega
  · subst hsome
    have had : ad = ⟨ad.block, ad.off, none⟩ := by cases ad; simp_all
    have hxv : Act.eval ⟨tm, ds⟩ x = .slice (some ⟨ad.block, ad.off, none⟩) len1 cap1 := by rw [ev, ec, ← had]; rfl
    have hother : ∀ b', b' ≠ ad.block → (w.freeze ⟨ad.block, vs.size, none⟩ 1).heap[b']? = w.heap[b']? := fun b' hb' => freeze_other w _ _ hb'
    have hgok := h1.gok ad.block (by rw [hown]; simp)
    refine hand_shared (a0 := .val ⟨.sl (.int .u8), _, [.shr]⟩) h1 (freeze_size _ _ _) ⟨by unfold World.freeze; rfl, by unfold World.freeze; rfl, by unfold World.freeze; rfl, by unfold World.freeze; exact Nat.le_refl _⟩ (fun b _ hk => hother b (fun e => hk 0 (by rw [e, hN]; exact hown)))
      (v := .slice (some ⟨ad.block, ad.off, none⟩) len1 cap1) (by simp only [execOp, ho, hxv]; rw [Sem.run_bind, run_convert_same w s e.elem ad.block ad.off len1 cap1 hblk hu hu8]; rfl)
      (fun d hl σ' tm' => ⟨⟨_, rfl, ⟨_, _, _, _, rfl, rfl, ⟨hl1, hlc1, .inr ⟨_, rfl, rfl, by rw [freeze_size]; exact heap_lt hblk, ⟨?_, ?_⟩, ?_⟩⟩, by simp⟩⟩, fun mm hm => ?_⟩) h6 hK
    · rcases hgok.2 with h | h
      · exact .inl h
      · exact .inr (.inr h)
    · exact unown_same (handTo_hand (by rw [hN]; exact hown))
    · intro i hi
      obtain ⟨cs', k1, k2, k3⟩ := hrows i hi
      refine ⟨cs', k1, fun j hj => ?_, k3⟩
      rw [← k2 j hj]
      simp only [World.cell?, freeze_heap w ad.block vs.size hblk, hblk]
    · simp only [List.mem_singleton] at hm; subst hm; trivial
theorem op_convert {s d : Nat} {x : Operand} (hE : TabOK C.P E.tab) (ho : o.op = .convert s d x) (h : SRep C g σ tm w)
    (hr : (opP E o).run σ K = some r) (hK : Good C K r ds next) : o.wp C.P ⟨tm, ds⟩ w next Q := by
  have hr0 := hr
  unfold opP at hr
  rw [ho] at hr
  simp only at hr
  split at hr
  · rename_i k0 k hs hd
    exact op_convertInt hE ho hs hd h hr0 hK
  · rename_i hs hd
    clear hr0
    obtain ⟨xs, m, a, len, cap, hx, hok, hno, _, hs2, hq⟩ := rdS_inv (ds := ds) h hr
    obtain ⟨e, he, hte⟩ := Env.ty_some hs
    obtain ⟨hu, te, hfe, hteq, _⟩ := (hE.find he).slice hte
    obtain ⟨e2, he2, hte2⟩ := Env.ty_some hd
    have hu8 : C.P.underlying e.elem = some (.int .u8) := int_desc hE (by unfold Env.ty; rw [hfe, Option.map_some, hteq])
    have hstr := str_desc hE hd
    refine out_val h ?_ (Val.str _) hq hK
    have hb := bytes_run (P := C.P) (says_rows hok hno hs2)
    simp [execOp, ho, hx, run_convert_bytes_string w s d e.elem a len cap hu hu8 hstr, hb]
  · rename_i hs hd
    clear hr0
    obtain ⟨v, hv, _, hr⟩ := rdV_inv (ds := ds) h hr
    split at hr
    case h_2 => simp [Prog.run] at hr
    rename_i l hl
    obtain ⟨ety, rfl⟩ := castO_some hl
    obtain ⟨vt, vx, vms⟩ := v
    simp only at ety
    subst ety
    obtain ⟨cs, ev, ⟨m, _, hcs⟩, _, _⟩ := hv
    simp only at hr
    have hx : Act.eval ⟨tm, ds⟩ x = .string ⟨⟨vx⟩⟩ := by rw [ev, show cs = _ from hcs]; rfl
    obtain ⟨e, he, hte⟩ := Env.ty_some hd
    obtain ⟨hu, te, hfe, hteq, _⟩ := (hE.find he).slice hte
    have hu8 : C.P.underlying e.elem = some (.int .u8) := int_desc hE (by unfold Env.ty; rw [hfe, Option.map_some, hteq])
    have hstr := str_desc hE hs
    have hrun := Lib.run_convert_string_bytes (P := C.P) w s d e.elem ⟨⟨vx⟩⟩ hstr hu hu8
    have gr : Grow C g σ w g (Lib.bytesWorld w e.elem ⟨⟨vx⟩⟩) := by
      refine ⟨by rw [Lib.bytesWorld_size]; omega, fun b hb => Lib.bytesWorld_at_old w _ _ b hb, fun _ _ h => h, fun _ _ _ _ _ h => h, fun _ _ _ h => h, fun b hb => ?_, ⟨rfl, rfl, rfl, by first | exact Nat.le_refl _ | exact Nat.le_succ _ | (simp; done) | (simp; omega)⟩⟩
      have := h.gok b hb
      rw [Lib.bytesWorld_size]
      exact ⟨by omega, this.2⟩
    refine new_sound h gr (v := .slice (some ⟨w.heap.size, 0, none⟩) vx.length (grownCap w vx.length 0 e.elem)) (w0 := w) (by simp only [execOp, ho, hx]; rw [Sem.run_bind, hrun]; rfl) (fun d hd hl σ' tm' hv => ?_) hr hK
    have hsz : (ByteArray.mk ⟨vx⟩).size = vx.length := rfl
    refine ⟨⟨_, rfl, ⟨_, _, _, _, rfl, rfl, ⟨⟨by rw [List.length_map], ?_, .inr ⟨_, rfl, rfl, by rw [Lib.bytesWorld_size]; exact Nat.lt_succ_self _, ⟨.inl h.size, ?_⟩, fun i hi => ?_⟩⟩, by simp⟩⟩⟩, fun mm hm => ?_⟩
    · exact grownCap_ge w _ _ _
    · cases hg : g w.heap.size with
      | none => rfl
      | some p => exact absurd (h.gok w.heap.size (by rw [hg]; simp)).1 (Nat.lt_irrefl _)
    · rw [List.length_map] at hi
      refine ⟨[.int .u8 (vx.map fun (b : UInt8) => (b.toNat : Int))[i]], rfl, fun j hj => ?_, rfl⟩
      have hj : j = 0 := by simp [Ty.size] at hj; exact hj
      subst hj
      have := Lib.bytesWorld_cell w e.elem ⟨⟨vx⟩⟩ i (by rw [hsz]; exact hi)
      simp only [Ty.size, Nat.mul_one, Nat.zero_add, Nat.add_zero]
      rw [this]
      simp [List.getD, hi]
    · simp only [List.mem_singleton] at hm; subst hm; trivial
  · rename_i hs _
    exact op_convertSame hE ho hs h hr hK
  · simp [Prog.run] at hr
end
end Go.GD
end

section
namespace Go.GD
open Go
section
variable {C : Ctx} {g : Own} {σ : St} {tm : Array Value} {w : World} {E : Env} {o : Oper} {ρ : Type} {K : St → Option ρ} {r : ρ} {ds : List Deferred}
  {next : Act → World → Prop} {Q : Exit → Act → World → Prop}
theorem op_callV (hfn : EnvOK C E) {c : Call} {s : Nat} (ho : o.op = .call c) (hc : c.callee = .value (.tmp s)) (h : SRep C g σ tm w)
    (hr : (opP E o).run σ K = some r) (hK : Good C K r ds next) : o.wp C.P ⟨tm, ds⟩ w next Q := by
  unfold opP at hr
  rw [ho] at hr
  simp only [hc, Prog.run] at hr
  split at hr
  case h_2 => simp [Prog.run] at hr
  rename_i a b G m hs
  split at hr
  case isFalse => simp [Prog.run] at hr
  rename_i hsc
  obtain ⟨hok, hr⟩ := useMarks_inv _ hr
  obtain ⟨x, ms, cs, hargs, hx, hn, hb, hokx, hr⟩ := argsP_inv (ds := ds) hfn [a] _ _ h hr
  simp only [Prog.run] at hr
  obtain ⟨y, hy, hr⟩ := Option.bind_eq_some_iff.1 hr
  obtain ⟨cs0, ev, hx0, hn0, hb0⟩ := h.val hs
  obtain ⟨v, m', e1, e2, hcell, hrep⟩ := hx0
  simp only [refMarks, List.cons.injEq, and_true] at e2
  subst e2
  have hokm := hok _ (List.mem_singleton.2 rfl)
  have hns : cl g σ tm w 0 0 (refMark s (listGet σ s).gen 0 m) ≠ .skip := by
    have hno := hn0 _ (List.mem_singleton.2 rfl)
    generalize refMark s (listGet σ s).gen 0 m = m1 at *
    cases m1 with
    | shr => simp [clm]
    | nn => simp [clm]
    | nil => simp [clm]
    | own => exact absurd rfl hno
    | dead => exact hokm.elim
    | ref s' c' g' => simp only [clm, (show validB σ s' c' g' = true from hokm)]; simp
    | sub s' c' g' => simp only [clm, (show validB σ s' c' g' = true from hokm)]; simp
    | bor q => simp only [clm, (show borOk σ q = true from hokm)]; simp
  obtain ⟨f, first, caps, ef, hcl, hcalls⟩ := hrep hns
  rw [e1] at ef
  simp only [List.cons.injEq, and_true] at ef
  have hv : tm.getD s undef = .func (.func f) first caps := by
    rw [ev, e1, ef]; rfl
  have hxc : RepC C.P a w (fun _ => True) cs x := RepX.all (t := a) hx hokx hn
  have hl := RepC.length a hxc
  have hav : argVals [a] cs = [mkV a cs] := by simp [argVals, take_all hl]
  have hex : (execOp (Act.eval ⟨tm, ds⟩) o).run C.P w = .ok (.enter f (first ++ #[mkV a cs] ++ caps)) w := by
    have e : c.args.map (Act.eval ⟨tm, ds⟩) = #[mkV a cs] := by
      have : (c.args.toList.map (Act.eval ⟨tm, ds⟩)).toArray = #[mkV a cs] := by rw [hargs, hav]
      rw [← this, ← List.map_toArray]
    have ef' : Act.eval ⟨tm, ds⟩ (.tmp s) = .func (.func f) first caps := hv
    simp [execOp, ho, resolve, hc, ef', Deferred.ofValue, invoke, e, hcl.run]
  unfold Oper.wp
  rw [hex, Oper.upon_enter]
  refine (hcalls w (Nat.le_refl _) (fun _ _ _ => rfl) cs x y hxc hy).mono fun e w' hh => ?_
  obtain ⟨us, rfl, hrep', hs', hH, hio⟩ := hh
  show next _ w'
  have gr : Grow C g σ w g w' := ⟨hs', hH, fun _ _ h => h, fun _ _ _ _ _ h => h, fun _ _ _ h => h, fun b hb => ⟨by have := (h.gok b hb).1; omega, (h.gok b hb).2⟩, hio⟩
  obtain ⟨σ', k1, k2, k3⟩ := put_sound (v := mkV b us) (ds := ds) h gr (fun d hd hl σ' tm' hv => by
    refine ⟨⟨us, rfl, repX_shr (RepC.scalar b hsc hrep') d 0⟩, fun m hm => ?_⟩
    rw [mem_shrMarks b m hm]; trivial) hr
  exact hK _ _ _ _ k1 k3 k2
theorem capOk_mem : (ms : List Mk) → capOk ms = true → ∀ m, m ∈ ms → m = .own ∨ m = .shr ∨ m = .nn ∨ m = .nil
  | [], _, _, h => by cases h
  | a :: l, ho, m, h => by
    cases a <;> simp only [capOk] at ho <;> first
      | (rcases List.mem_cons.1 h with rfl | h
         · simp
         · exact capOk_mem l ho m h)
      | cases ho
theorem ownCells_mem : (ms : List Mk) → (i c : Nat) → markAt ms c = .own → i + c ∈ ownCells i ms
  | [], _, c, h => by cases c <;> cases h
  | a :: l, i, 0, h => by
    have h : a = .own := h
    subst h
    simp [ownCells]
  | a :: l, i, c + 1, h => by
    have := ownCells_mem l (i + 1) c h
    rw [show i + (c + 1) = i + 1 + c by omega]
    cases a <;> first | exact List.mem_cons_of_mem _ this | exact this
theorem ownCells_own : (ms : List Mk) → (i c : Nat) → c ∈ ownCells i ms → i ≤ c ∧ markAt ms (c - i) = .own
  | [], _, _, h => by cases h
  | a :: l, i, c, h => by
    have next : c ∈ ownCells (i + 1) l → i ≤ c ∧ markAt (a :: l) (c - i) = .own := fun h => by
      obtain ⟨h1, h2⟩ := ownCells_own l (i + 1) c h
      refine ⟨by omega, ?_⟩
      rw [show c - i = (c - (i + 1)) + 1 by omega]; exact h2
    cases a with
    | own =>
      rcases List.mem_cons.1 h with rfl | h
      · exact ⟨Nat.le_refl _, by rw [Nat.sub_self]; rfl⟩
      · exact next h
    | _ => exact next h
def capBlocks (g : Own) (q : List (Nat × Nat × List Nat)) : Nat → Prop := fun k => borBlocks g q k
theorem capP_inv {s : Nat} {t : Ty} {k : t.den → Nat × Nat × List Nat → Prog} (h : SRep C g σ tm w) (hr : (capP s t k).run σ K = some r) :
    ∃ x q, (k x q).run σ K = some r ∧ q.2.1 ≤ (listGet σ q.1).gen ∧ borOk1 σ q.1 q.2.1 q.2.2 = true ∧
      ∃ v, tm.getD s undef = v ∧ v.cells = #[v] ∧ ∀ (w' : World), w.heap.size ≤ w'.heap.size → (∀ c, c < w.heap.size → (Shd C g c ∨ borBlocks g [q] c) → w'.heap[c]? = w.heap[c]?) → RepC C.P (.ptr t) w' (fun _ => True) [v] x := by
  simp only [capP, Prog.run] at hr
  split at hr
  case h_2 => simp [Prog.run] at hr
  rename_i tv hbox
  split at hr
  case h_2 => simp [Prog.run] at hr
  rename_i x hx
  split at hr
  case isFalse => simp [Prog.run] at hr
  rename_i hcap
  obtain ⟨ety, rfl⟩ := castO_some hx
  obtain ⟨tt, xx, mm⟩ := tv
  simp only at ety
  subst ety
  simp only at hr hcap
  have hl := h.lt (s := s) (by rw [hbox]; intro e; cases e)
  have hs := h.slots s hl
  rw [hbox] at hs
  obtain ⟨b, e, cs, ht, hg, hh, hrx⟩ := hs
  simp only at hrx
  have hlen := RepX.length _ hrx
  have hmark : (listGet σ s).a.mark = markAt mm := by rw [hbox]; rfl
  refine ⟨xx, (s, (listGet σ s).gen, ownCells 0 mm), hr, Nat.le_refl _, ?_, .pointer (some ⟨b, 0, none⟩), ht, rfl, fun w' hs' hH => ?_⟩
  · simp only [borOk1, Nat.beq_refl, Bool.true_and, hbox, A.isBox]
    have : ∀ (l : List Nat), (∀ c, c ∈ l → markAt mm c = .own) → (A.box ⟨tt, xx, mm⟩).owns l = true := by
      intro l
      induction l with
      | nil => intro _; rfl
      | cons c l ih =>
        intro hc
        simp only [A.owns, Bool.and_eq_true]
        refine ⟨?_, ih fun c' h' => hc c' (List.mem_cons_of_mem _ h')⟩
        show (markAt mm c).isOwn = true
        rw [hc c (List.mem_cons_self ..)]; rfl
    exact this _ fun c hc => by
      have := (ownCells_own mm 0 c hc).2
      rwa [Nat.sub_zero] at this
  · have hb0 : borBlocks g [(s, (listGet σ s).gen, ownCells 0 mm)] b := ⟨s, _, _, List.mem_singleton.2 rfl, .inl hg⟩
    have hhb := hH b (heap_lt hh) (.inr hb0)
    refine ⟨⟨b, 0, none⟩, rfl, rfl, Nat.lt_of_lt_of_le (heap_lt hh) hs', trivial, cs, hlen.1, fun j hj => ?_, ?_⟩
    · rw [Nat.zero_add, cell_congr hhb]
      exact cell_of_block hh
    · have hm : Mono w (Shd C g) w' (fun _ => True) := ⟨hs', fun c hc hcs => ⟨hH c hc (.inl hcs), trivial⟩⟩
      refine repC_of_repX tt (RepX.trans (cl' := shareAll) (c' := 0) (ms' := mm) hm tt hrx rfl fun i hi => ?_)
      rw [Nat.zero_add]
      rcases capOk_mem mm hcap _ (mem_of_markAt mm i (by omega)) with em | em | em | em <;> rw [em]
      · have hin : i ∈ ownCells 0 mm := by have := ownCells_mem mm 0 i em; rwa [Nat.zero_add] at this
        exact .hold_share _ _ ⟨hs', fun c hc hgc => ⟨hH c hc (.inr ⟨s, _, _, List.mem_singleton.2 rfl, .inr ⟨i, hin, hgc⟩⟩), trivial⟩⟩
      · exact .share _
      · exact .share_weak _
      · exact .nil_share
theorem capsP_inv : (ts : List Ty) → (os : List Operand) → {k : (pk ts).den → List (Nat × Nat × List Nat) → Prog} → SRep C g σ tm w → (capsP os ts k).run σ K = some r →
    ∃ x q, (k x q).run σ K = some r ∧ (∀ s gn cs, (s, gn, cs) ∈ q → gn ≤ (listGet σ s).gen) ∧ borOk σ q = true ∧ (∀ t, t ∈ ts → t.size = 1 ∧ t.isAgg = false) ∧
      ∀ (w' : World), w.heap.size ≤ w'.heap.size → (∀ c, c < w.heap.size → (Shd C g c ∨ borBlocks g q c) → w'.heap[c]? = w.heap[c]?) → RepC C.P (pk ts) w' (fun _ => True) (os.map (Act.eval ⟨tm, ds⟩)) x
  | [], os, k, h, hr => by
    cases os with
    | cons => simp [capsP, Prog.run] at hr
    | nil =>
      simp only [capsP] at hr
      exact ⟨(), [], hr, (fun _ _ _ hm => by cases hm), rfl, (fun _ h => by cases h), fun _ _ _ => rfl⟩
  | [t], os, k, h, hr => by
    match os with
    | [] => simp [capsP, Prog.run] at hr
    | _ :: _ :: _ => simp [capsP, Prog.run] at hr
    | [o] =>
      cases o with
      | tmp s =>
        cases t with
        | ptr t =>
          simp only [capsP] at hr
          obtain ⟨x, q, hr, hg, hb, v, hv, _, hrep⟩ := capP_inv h hr
          refine ⟨x, [q], hr, fun s gn cs hm => ?_, by simp [borOk, hb], fun t' ht' => by rw [List.mem_singleton.1 ht']; exact ⟨rfl, rfl⟩, fun w' h1 h2 => ?_⟩
          · have := List.mem_singleton.1 hm
            rw [← this] at hg; exact hg
          · have e : [Operand.tmp s].map (Act.eval ⟨tm, ds⟩) = [v] := by
              show [tm.getD s undef] = [v]
              rw [hv]
            rw [e]
            exact hrep w' h1 h2
        | _ => simp [capsP, Prog.run] at hr
      | _ => simp [capsP, Prog.run] at hr
  | t :: t' :: ts, os, k, h, hr => by
    match os with
    | [] => simp [capsP, Prog.run] at hr
    | o :: os =>
      cases o with
      | tmp s =>
        cases t with
        | ptr t =>
          simp only [capsP] at hr
          obtain ⟨x, q, hr, hg, hb, v, hv, _, hrep⟩ := capP_inv h hr
          obtain ⟨x2, q2, hr, hg2, hb2, hsz, hrep2⟩ := capsP_inv (t' :: ts) os h hr
          refine ⟨(x, x2), q :: q2, hr, fun s gn cs hm => ?_, by simp [borOk, hb, hb2], fun t' ht' => ?_, fun w' h1 h2 => ?_⟩
          · rcases List.mem_cons.1 hm with e | hm
            · rw [← e] at hg; exact hg
            · exact hg2 s gn cs hm
          · rcases List.mem_cons.1 ht' with rfl | ht'
            · exact ⟨rfl, rfl⟩
            · exact hsz _ ht'
          · refine ⟨[v], os.map (Act.eval ⟨tm, ds⟩), ?_, hrep w' h1 fun c hc hor => h2 c hc (hor.imp id ?_), hrep2 w' h1 fun c hc hor => h2 c hc (hor.imp id ?_)⟩
            · show tm.getD s undef :: _ = [v] ++ _
              rw [hv]; rfl
            · rintro ⟨s', gn, cs, hm, hor⟩
              have := List.mem_singleton.1 hm
              exact ⟨s', gn, cs, by rw [this]; exact List.mem_cons_self .., hor⟩
            · rintro ⟨s', gn, cs, hm, hor⟩
              exact ⟨s', gn, cs, List.mem_cons_of_mem _ hm, hor⟩
        | _ => simp [capsP, Prog.run] at hr
      | _ => simp [capsP, Prog.run] at hr
theorem argVals_caps : (ts : List Ty) → (∀ t, t ∈ ts → t.size = 1 ∧ t.isAgg = false) → (vs : List Value) → vs.length = (pk ts).size → argVals ts vs = vs
  | [], _, vs, hl => by
    cases vs with
    | nil => rfl
    | cons => simp [Ty.size] at hl
  | [t], h, vs, hl => by
    have ht := h t (List.mem_singleton.2 rfl)
    have hl : vs.length = t.size := hl
    match vs, hl with
    | [v], _ => simp [argVals, ht.1, mkV, ht.2]
    | [], hl => rw [ht.1] at hl; cases hl
    | _ :: _ :: _, hl => rw [ht.1] at hl; simp at hl
  | t :: t' :: ts, h, vs, hl => by
    have ht := h t (List.mem_cons_self ..)
    have hl : vs.length = t.size + (pk (t' :: ts)).size := hl
    rw [ht.1] at hl
    cases vs with
    | nil => simp at hl; omega
    | cons v vs =>
      simp only [List.length_cons] at hl
      have ih := argVals_caps (t' :: ts) (fun t ht => h t (List.mem_cons_of_mem _ ht)) vs (by omega)
      show mkV t ((v :: vs).take t.size) :: argVals (t' :: ts) ((v :: vs).drop t.size) = _
      rw [ht.1]
      simp only [List.take_succ_cons, List.take_zero, List.drop_succ_cons, List.drop_zero]
      rw [ih]
      simp [mkV, ht.2]
theorem op_makeFunc {f : Nat} {fst caps : Array Operand} (hfn : EnvOK C E) (ho : o.op = .makeFunc (.func f) fst caps) (h : SRep C g σ tm w)
    (hr : (opP E o).run σ K = some r) (hK : Good C K r ds next) : o.wp C.P ⟨tm, ds⟩ w next Q := by
  unfold opP at hr
  rw [ho] at hr
  simp only at hr
  split at hr
  case h_2 => simp [Prog.run] at hr
  rename_i sg hfst hsg
  have hcon := hfn.fns _ _ hsg
  split at hr
  case isTrue => simp [Prog.run] at hr
  rename_i heat
  replace heat : sg.eat = false := by simpa using heat
  obtain ⟨ps, rs, own, eat, φ⟩ := sg
  simp only at hr heat
  split at hr
  case h_2 => simp [Prog.run] at hr
  rename_i F hF
  split at hr
  case isFalse => simp [Prog.run] at hr
  rename_i hsc
  obtain ⟨cx, q, hr, hg, hbor, hsz, hrep⟩ := capsP_inv (ds := ds) F.ts caps.toList h hr
  cases ps with
  | nil => cases rs <;> cases hF
  | cons a ts =>
  cases rs with
  | nil => cases hF
  | cons b rs =>
  cases rs with
  | cons => cases hF
  | nil =>
  simp only [fnOf, Option.some.injEq] at hF
  subst hF
  simp only at hr hsc hrep hsz
  have hf0 : fst = #[] := by
    have := congrArg List.toArray hfst
    simpa using this
  refine av_sound h (.refl h) (a0 := .val ⟨.fn a b, fun y => φ (consP a ts y cx), [.bor q]⟩) (v := .func (.func f) #[] (caps.map (Act.eval ⟨tm, ds⟩))) (by simp [execOp, ho, Instr.makeFunc, hf0]) ?_ hr hK
  refine ⟨[.func (.func f) #[] (caps.map (Act.eval ⟨tm, ds⟩))], rfl, ⟨_, .bor q, rfl, rfl, ⟨rfl, rfl⟩, fun _ => ?_⟩, fun m hm => by simp at hm; subst hm; simp, fun m hm => by simp at hm; subst hm; exact hg⟩
  simp only [clm, hbor, cond, Claim.blocks]
  refine ⟨f, #[], caps.map (Act.eval ⟨tm, ds⟩), rfl, hcon.callable, fun w' hs hc vs x y hx hy => ?_⟩
  have hcaps := hrep w' hs hc
  have hcl := RepC.length _ hcaps
  have hxl := RepC.length _ hx
  have hcell : RepC C.P (pk (a :: ts)) w' (fun _ => True) (vs ++ caps.toList.map (Act.eval ⟨tm, ds⟩)) (consP a ts x cx) := by
    cases ts with
    | nil =>
      have : caps.toList.map (Act.eval ⟨tm, ds⟩) = [] := hcaps
      rw [this, List.append_nil]; exact hx
    | cons t ts => exact ⟨vs, _, rfl, hx, hcaps⟩
  have hargs : (argVals (a :: ts) (vs ++ caps.toList.map (Act.eval ⟨tm, ds⟩))).toArray = #[] ++ #[mkV a vs] ++ caps.map (Act.eval ⟨tm, ds⟩) := by
    have e1 : (vs ++ caps.toList.map (Act.eval ⟨tm, ds⟩)).take a.size = vs := by rw [List.take_append_of_le_length (by omega), take_all hxl]
    have e2 : (vs ++ caps.toList.map (Act.eval ⟨tm, ds⟩)).drop a.size = caps.toList.map (Act.eval ⟨tm, ds⟩) := by rw [← hxl, List.drop_left]
    show (mkV a ((vs ++ _).take a.size) :: argVals ts ((vs ++ _).drop a.size)).toArray = _
    rw [e1, e2, argVals_caps ts hsz _ hcl]
    apply Array.ext'
    simp
  rw [← hargs]
  refine (hcon.does heat w' (fun _ => True) _ _ y hcell hy).mono fun e w'' hh => ?_
  obtain ⟨us, g', rfl, hrep', h1, h2, h3, h4⟩ := hh
  have hbx : RepC C.P b w'' (fun _ => True) us y := by
    have hm : Mono w'' (fun b => (w'.heap.size ≤ b ∨ True) ∧ g' b = none) w'' (fun _ => True) := ⟨Nat.le_refl _, fun _ _ _ => ⟨rfl, trivial⟩⟩
    refine repC_of_repX b (RepX.trans (cl' := shareAll) (c' := 0) (ms' := rMarks own b) hm b hrep' rfl fun i hi => ?_)
    rcases rMarks_bnd own b _ (mem_of_markAt (rMarks own b) i (by rw [rMarks_length]; exact hi)) with e | e <;> rw [e]
    · exact .hold_share _ _ ⟨Nat.le_refl _, fun _ _ _ => ⟨rfl, trivial⟩⟩
    · exact .share _
  have hbl := RepC.length b hbx
  refine ⟨us, ?_, hbx, h1, h2, h4⟩
  have : argVals [b] us = [mkV b us] := by simp [argVals, take_all hbl]
  simp only [resV, this]
theorem getAt_scalar : {t : Ty} → t.scalar = true → {x : t.den} → {off : Nat} → {b : Ty} → {y : b.den} → getAt t x off b = some y → b.scalar = true := by
  intro t
  induction t with
  | pair l r ihl ihr =>
    intro hs x off b y h
    simp only [Ty.scalar, Bool.and_eq_true] at hs
    rcases getAt_pair h with ⟨_, e, _⟩ | ⟨_, h⟩ | ⟨_, h⟩
    · rw [← e]; simp [Ty.scalar, hs]
    · exact ihl hs.1 h
    · exact ihr hs.2 h
  | _ =>
    intro hs x off b y h
    obtain ⟨_, e, _⟩ := getAt_base (fun _ _ e => by cases e) h
    rw [← e]; exact hs
theorem size_one : {t : Ty} → t.isAgg = false → t.size = 1 := by
  intro t h
  cases t <;> first | rfl | cases h
theorem op_index {T : Nat} {x i : Operand} (hE : TabOK C.P E.tab) (ho : o.op = .index T x i) (h : SRep C g σ tm w) (hr : (opP E o).run σ K = some r) (hK : Good C K r ds next) :
    o.wp C.P ⟨tm, ds⟩ w next Q := by
  unfold opP at hr
  rw [ho] at hr
  simp only at hr
  split at hr
  case h_2 => simp [Prog.run] at hr
  rename_i e he
  split at hr
  case isFalse => simp [Prog.run] at hr
  rename_i hb
  simp only [Bool.and_eq_true] at hb
  obtain ⟨harr, hag, hsc⟩ := hb
  obtain ⟨v, hv, _, hr1⟩ := rdV_inv (ds := ds) h hr
  clear hr
  obtain ⟨kd, n, hi, hr2⟩ := rdInt_inv (ds := ds) h hr1
  clear hr1
  obtain ⟨k, hk, hn, hr⟩ := selP_inv _ hr2
  clear hr2
  subst hn
  split at hr
  case h_2 => simp [Prog.run] at hr
  rename_i off T' hf
  split at hr
  case h_2 => simp [Prog.run] at hr
  rename_i t hT
  split at hr
  case h_2 => simp [Prog.run] at hr
  rename_i y hy
  split at hr
  case isFalse => simp [Prog.run] at hr
  rename_i hty
  simp only [Bool.and_eq_true, Bool.not_eq_true'] at hty
  obtain ⟨hty, hz⟩ := hty
  have hty := Ty.eq_of_beq hty
  obtain ⟨vt, vx, vms⟩ := v
  simp only at hty hy
  subst hty
  obtain ⟨cs, ev, hx, _, _⟩ := hv
  simp only at hx ev
  have hl := RepX.length _ hx
  obtain ⟨m, te, hu, hlen, hte, hak⟩ := array_desc (hE.find he) hag harr
  obtain ⟨hoff, hT'⟩ := arrOK_get _ 0 hak _ _ _ hf
  rw [Nat.zero_add] at hoff
  subst hT'
  obtain ⟨te', hte', het⟩ := Env.ty_some hT
  rw [hte] at hte'
  injection hte' with hte'
  subst hte'
  subst het
  obtain ⟨hfit, hrep⟩ := getAt_repX e.ty hx hy
  have hrepc : RepC C.P te.ty w (Shd C g) ((cs.drop off).take te.ty.size) y := repX_scalar te.ty (getAt_scalar hsc hy) hrep
  have hlt' : k < m := by omega
  have hsz := (hE.find hte).sizeOf w
  have hagr := (hE.find hte).isAgg w
  have hmk : mkV e.ty cs = .agg cs.toArray := by unfold mkV; rw [hag]; rfl
  have hzs : te.ty.size ≠ 0 := fun e => by rw [e] at hz; cases hz
  refine av_sound h (.refl h) (a0 := .val ⟨te.ty, y, shrMarks te.ty⟩) (v := mkV te.ty ((cs.drop off).take te.ty.size)) ?_ (val_of_repC hrepc) hr hK
  rw [hmk] at ev
  have hpart : (Go.part e.elem cs.toArray (k * te.ty.size)).run C.P w = .ok (mkV te.ty ((cs.drop off).take te.ty.size)) w := by
    rw [← hoff]
    unfold mkV
    cases hga : te.ty.isAgg with
    | true =>
      rw [hga] at hagr
      simp [Go.part, hagr, hsz]
    | false =>
      rw [hga] at hagr
      have h1 : te.ty.size = 1 := size_one hga
      have hlt : off < cs.length := by omega
      simp [Go.part, hagr, hlt, h1]
      rw [List.drop_eq_getElem_cons hlt]
      rfl
  simp [execOp, ho, ev, hi, Instr.index, asIntOf, underlying, hu, hlt', hsz, hpart]
theorem op_field {S f : Nat} {x : Operand} (hE : TabOK C.P E.tab) (ho : o.op = .field S x f) (h : SRep C g σ tm w) (hr : (opP E o).run σ K = some r) (hK : Good C K r ds next) :
    o.wp C.P ⟨tm, ds⟩ w next Q := by
  unfold opP at hr
  rw [ho] at hr
  simp only at hr
  split at hr
  case h_2 => simp [Prog.run] at hr
  rename_i e he
  split at hr
  case isFalse => simp [Prog.run] at hr
  rename_i hb
  simp only [Bool.and_eq_true, Bool.not_eq_true'] at hb
  obtain ⟨hag, harr⟩ := hb
  split at hr
  case h_2 => simp [Prog.run] at hr
  rename_i off T' hf
  split at hr
  case h_2 => simp [Prog.run] at hr
  rename_i t hT
  obtain ⟨v, hv, _, hr1⟩ := rdV_inv (ds := ds) h hr
  clear hr
  split at hr1
  case h_2 => simp [Prog.run] at hr1
  rename_i y hy
  split at hr1
  case isFalse => simp [Prog.run] at hr1
  rename_i hty
  simp only [Bool.and_eq_true, Bool.not_eq_true'] at hty
  obtain ⟨hty, hz⟩ := hty
  have hty := Ty.eq_of_beq hty
  obtain ⟨vt, vx, vms⟩ := v
  simp only at hty hy hr1
  subst hty
  obtain ⟨cs, ev, hx, hno, hbd⟩ := hv
  simp only at hx ev hno hbd
  have hl := RepX.length _ hx
  obtain ⟨fs, hu, hfl⟩ := struct_desc (hE.find he) hag harr
  obtain ⟨fd, hfd, hfo, hft⟩ := fldsOK_get _ _ hfl f off T' hf
  obtain ⟨te, hte, het⟩ := Env.ty_some hT
  subst het
  obtain ⟨hfit, hrep⟩ := getAt_repX e.ty hx hy
  have hsz := (hE.find hte).sizeOf w
  have hagr := (hE.find hte).isAgg w
  have hmk : mkV e.ty cs = .agg cs.toArray := by unfold mkV; rw [hag]; rfl
  have hzs : te.ty.size ≠ 0 := fun e => by rw [e] at hz; cases hz
  have hsub : ∀ m, m ∈ (vms.drop off).take te.ty.size → m ∈ vms := fun m hm => List.mem_of_mem_drop (List.mem_of_mem_take hm)
  refine av_sound h (.refl h) (a0 := .val ⟨te.ty, y, (vms.drop off).take te.ty.size⟩) (v := mkV te.ty ((cs.drop off).take te.ty.size)) ?_
    ⟨_, rfl, RepX.place 0 0 hrep fun m hm => hno m (hsub m hm), fun m hm => hno m (hsub m hm), fun m hm => hbd m (hsub m hm)⟩ hr1 hK
  rw [hmk] at ev
  have hpart : (Go.part T' cs.toArray off).run C.P w = .ok (mkV te.ty ((cs.drop off).take te.ty.size)) w := by
    unfold mkV
    cases hga : te.ty.isAgg with
    | true =>
      rw [hga] at hagr
      simp [Go.part, hagr, hsz]
    | false =>
      rw [hga] at hagr
      have h1 : te.ty.size = 1 := size_one hga
      have hlt : off < cs.length := by omega
      simp [Go.part, hagr, hlt, h1]
      rw [List.drop_eq_getElem_cons hlt]
      rfl
  have hfd' : fs[f]? = some fd := by rw [← Array.getElem?_toList]; exact hfd
  subst hfo; subst hft
  simp [execOp, ho, ev, Instr.field, underlying, hu, hfd', asAgg, hpart]
end
end Go.GD
end

section
namespace Go.GD
open Go
section
variable {C : Ctx} {g g' : Own} {σ : St} {tm tm' : Array Value} {w w' : World} {E : Env} {o : Oper} {ρ : Type} {K : St → Option ρ} {r : ρ} {ds : List Deferred}
  {next : Act → World → Prop} {Q : Exit → Act → World → Prop}
theorem op_nilCheck {x : Operand} (ho : o.op = .nilCheck x) (h : SRep C g σ tm w) (hr : (opP E o).run σ K = some r) (hK : Good C K r ds next) :
    o.wp C.P ⟨tm, ds⟩ w next Q := by
  unfold opP at hr
  rw [ho] at hr
  simp only at hr
  obtain ⟨a, ha, hr, _, _⟩ := rdP_inv (ds := ds) h hr
  split at hr
  case h_2 => simp [Prog.run] at hr
  rename_i s off id _ _
  simp only [Prog.run] at hr
  split at hr
  case h_2 => simp [Prog.run] at hr
  rename_i hid
  simp only [Bool.and_eq_true] at hid
  have hb : ∃ tv, (listGet σ s).a = .box tv := by
    have := hid.2
    revert this
    cases (listGet σ s).a with
    | box tv => intro _; exact ⟨tv, rfl⟩
    | _ => intro h; cases h
  obtain ⟨tv, hb⟩ := hb
  obtain ⟨b, _, _, hv, _⟩ := h.boxed ha hid.1 hb
  exact av_sound h (.refl h) (by simp [execOp, ho, hv]) (hv ▸ ha) hr hK
theorem copyL_length {α : Type} (xs ys : List α) : (copyL xs ys).length = xs.length := by
  unfold copyL
  rw [List.length_append, List.length_take, List.length_drop]; omega
theorem run_copy_at {P : Program} {w : World} (t ty e : TypeId) (size : Nat) (ht : P.underlying t = some (.slice e)) (hz : ∀ w, (Go.sizeOf e).run P w = .ok size w) (b o dLen dCap : Nat) (a : Option Addr) (sLen sCap m : Nat) (news : List Value) (hm : Nat.min sLen dLen = m)
    (hf : (Builtin.firstCells size m (.slice a sLen sCap)).run P w = .ok news.toArray w) (h1 : ∀ v ∈ news, v.oneCell' = true) {vs : List Value} {et : TypeId} (hb : w.heap[b]? = some (.cells vs.toArray et (0, 0))) (hfit : o + news.length ≤ vs.length) :
    (Builtin.copy_ #[t, t] ty #[.slice (some ⟨b, o, none⟩) dLen dCap, .slice a sLen sCap]).run P w = .ok (goInt m) (w.setRow b (splice vs o news).toArray) := by
  have hst := run_storeCells_at P b o et news 0 vs.toArray w hb (by simpa using hfit) h1
  simp only [Nat.add_zero] at hst
  have e : (splice vs o news).toArray = (vs.toArray.toList.take o ++ news ++ vs.toArray.toList.drop (o + news.length)).toArray := by simp [splice]
  rw [e]
  subst hm
  simp [Builtin.copy_, run_underlying ht, hz, Builtin.lenOf, hf, hst]
theorem run_copy_none {P : Program} {w : World} (t ty e : TypeId) (size : Nat) (ht : P.underlying t = some (.slice e)) (hz : ∀ w, (Go.sizeOf e).run P w = .ok size w) (d : Option Addr) (dCap : Nat) (a : Option Addr) (sLen sCap : Nat)
    (hf : (Builtin.firstCells size 0 (.slice a sLen sCap)).run P w = .ok #[] w) :
    (Builtin.copy_ #[t, t] ty #[.slice d 0 dCap, .slice a sLen sCap]).run P w = .ok (goInt 0) w := by
  cases d with
  | none => simp [Builtin.copy_, run_underlying ht, hz, Builtin.lenOf, hf]
  | some d => simp [Builtin.copy_, run_underlying ht, hz, Builtin.lenOf, hf, storeCells]
theorem first_of_rows {P : Program} {t : Ty} {a : Option Addr} {len cap n : Nat} {xs : List t.den} {Sh : Nat → Prop} (hs : t.size ≠ 0) (hn : n ≤ len)
    (h : xs.length = len ∧ len ≤ cap ∧ (len = 0 ∨ ∃ ad : Addr, a = some ad ∧ ad.spot = none ∧ Rows t.size w (RepC P t w Sh) ad xs)) :
    ∃ news, Segs t.size (RepC P t w Sh) news (xs.take n) ∧ (Builtin.firstCells t.size n (.slice a len cap)).run P w = .ok news.toArray w := by
  obtain ⟨h1, h2, h3⟩ := h
  by_cases h0 : n = 0
  · subst h0
    refine ⟨[], ⟨by simp, fun i hi => by simp at hi⟩, ?_⟩
    cases a with
    | none => exact run_firstCells_none w _ _ _ _
    | some ad => exact run_firstCells_some w _ _ ad len cap [] (by simp) (by simp)
  · rcases h3 with h3 | ⟨ad, rfl, hsp, hr⟩
    · omega
    · have hr' : Rows t.size w (RepC P t w Sh) ad (xs.take n) := fun i hi => by
        rw [List.length_take] at hi
        obtain ⟨cs, q1, q2, q3⟩ := hr i (by omega)
        exact ⟨cs, q1, q2, by rw [List.getElem_take]; exact q3⟩
      obtain ⟨cs, hsg, hc⟩ := hr'.segs hs
      have hcl : ∀ j u, cs[j]? = some u → w.cell? (ad.add j) = some u := fun j u hj => by
        have hlt : j < cs.length := by
          rcases Nat.lt_or_ge j cs.length with h | h
          · exact h
          · rw [List.getElem?_eq_none h] at hj; cases hj
        rw [addr_add hsp, hc j hlt, hj]
      refine ⟨cs, hsg, run_firstCells_some w _ _ ad len cap cs (by rw [hsg.1, List.length_take, h1, Nat.min_eq_left hn]) hcl⟩
theorem op_copy {c : Call} (hE : TabOK C.P E.tab) (ho : o.op = .call c) (hc : c.callee = .builtin .copy) (h : SRep C g σ tm w)
    (hr : (opP E o).run σ K = some r) (hK : Good C K r ds next) : o.wp C.P ⟨tm, ds⟩ w next Q := by
  unfold opP at hr
  rw [ho] at hr
  simp only [hc] at hr
  split at hr
  case h_2 => simp [Prog.run] at hr
  rename_i x y T T' ha ht
  split at hr
  case isFalse => simp [Prog.run] at hr
  rename_i hTT
  have hTT := Nat.eq_of_beq_eq_true hTT
  subst hTT
  unfold copyP at hr
  split at hr
  case h_2 => simp [Prog.run] at hr
  rename_i e he
  split at hr
  case h_2 => simp [Prog.run] at hr
  rename_i el hel
  split at hr
  case isFalse => simp [Prog.run] at hr
  rename_i hty
  simp only [Bool.and_eq_true] at hty
  obtain ⟨hty, hscal⟩ := hty
  have hty := Ty.eq_of_beq hty
  obtain ⟨hu, te, hte, hteq, hsz0⟩ := (hE.find he).slice hty
  have hFel := hE.find hel
  obtain ⟨i, hi, his, hib, zv, hzv, _⟩ := hFel.info
  have hz : ∀ w, (Go.sizeOf e.elem).run C.P w = .ok el.ty.size w := fun w => by simp [Go.sizeOf, Go.typeInfo, hi, his]
  obtain ⟨ys, my, a2, len2, cap2, hy, hok2, hno2, hbd2, hs2, hr⟩ := rdS_inv (ds := ds) h hr
  obtain ⟨xs0, mx, a1, len1, cap1, hx, hok1, hno1, hbd1, hs1, hq⟩ := rdS_inv (ds := ds) h hr
  clear hr
  split at hq
  case h_2 => simp [Prog.run] at hq
  rename_i s cc gn
  have hval : validB σ s cc gn = true := hok1
  simp only [Prog.run] at hq
  split at hq
  case h_2 => simp [Prog.run] at hq
  rename_i wv hwv
  split at hq
  case h_2 => simp [Prog.run] at hq
  rename_i xs hxs
  split at hq
  case h_2 => simp [Prog.run] at hq
  rename_i z hzz
  simp only [Prog.run] at hq
  simp only [clm, hval, cond, Claim.says] at hs1
  have hp : placeV σ tm w s cc = some (.slice a1 len1 cap1) := hs1.2
  have hl := validB_lt hval
  have hmark : ((listGet σ s).a.mark cc).isOwn = true := by simp only [validB, Bool.and_eq_true] at hval; exact hval.2
  obtain ⟨wcs, hx0, hmk, hform⟩ := dataOf hwv (h.slots s hl)
  have hx0l := RepX.length _ hx0
  obtain ⟨hsz, hsub⟩ := getAt_repX wv.t hx0 hxs
  simp only [Ty.size] at hsz hsub
  have hcell : wcs[cc]? = some (.slice a1 len1 cap1) := by
    rcases hform with ⟨hf, hfa⟩ | ⟨b, e', hf, hgb, hh, hfa⟩
    · unfold placeV at hp
      rw [hfa] at hp
      simp only [hf, mkV_cells hx0] at hp
      simpa using hp
    · unfold placeV at hp
      rw [hfa] at hp
      simp only [hf, Nat.zero_add, cell_of_block hh] at hp
      exact hp
  have hownm : markAt wv.ms cc = .own := by
    rw [hmk] at hmark
    cases hm : markAt wv.ms cc <;> rw [hm] at hmark <;> first | rfl | cases hmark
  obtain ⟨a0, len0, cap0, m0, hc0, hm0, hsays⟩ := hsub
  have e0 : Value.slice a0 len0 cap0 = .slice a1 len1 cap1 := by
    have := congrArg (fun l => l[0]?) hc0
    simp only [List.getElem?_take, List.getElem?_drop] at this
    simpa [hcell] using this.symm
  injection e0 with e1' e2' e3'
  subst e1'; subst e2'; subst e3'
  have em : m0 = .own := by
    have := congrArg (fun l => markAt l 0) hm0
    simp only [markAt_drop_take, Nat.add_zero, Nat.zero_lt_one, if_true] at this
    rw [hownm] at this
    exact this.symm
  subst em
  simp only [clm, Claim.says, Nat.zero_add] at hsays
  obtain ⟨⟨hlen, hlc, hrows⟩, _⟩ := hsays
  have hrows2 := says_rows hok2 hno2 hs2
  have hyl : ys.length = len2 := hrows2.1
  obtain ⟨news, hsegs, hfc⟩ := first_of_rows (n := Nat.min len2 len0) hsz0 (Nat.min_le_left ..) hrows2
  have hargs : c.args = #[x, y] := by rw [← Array.toArray_toList (xs := c.args), ha]
  have htys : c.argTypes = #[T, T] := by rw [← Array.toArray_toList (xs := c.argTypes), ht]
  have hexec : ∀ {v : Value} {w' : World}, (Builtin.copy_ #[T, T] o.type #[.slice a0 len0 cap0, .slice a2 len2 cap2]).run C.P w = .ok v w' → (execOp (Act.eval ⟨tm, ds⟩) o).run C.P w = .ok (.value v) w' := by
    intro v w' hap
    simp [execOp, ho, resolve, hc, hargs, htys, invoke, builtin, hx, hy, hap]
  have hbnd : ∀ m, m ∈ wv.ms → bndM σ m := by
    have := h.bnd s hl
    rcases hform with ⟨_, hfa⟩ | ⟨_, _, _, _, _, hfa⟩ <;> (rw [hfa] at this; exact this)
  have hms : setMarkL (setMarkL wv.ms cc .dead) cc .own = wv.ms := by
    have := setMarkL_back wv.ms cc .dead (by omega)
    rwa [hownm] at this
  have finish : ∀ w', (Builtin.copy_ #[T, T] o.type #[.slice a0 len0 cap0, .slice a2 len2 cap2]).run C.P w = .ok (goInt (Nat.min len2 len0 : Nat)) w' → w'.heap.size = w.heap.size → SameIO w w' →
      (∀ b, b < w.heap.size → g b ≠ some (s, some cc) → w'.heap[b]? = w.heap[b]?) →
      (Mono w (Shd C g) w' (Shd C g) → HoldS el.ty.size w' (fun b => g b = some (s, some cc)) (RepC C.P el.ty w' (Shd C g)) a0 len0 cap0 (copyL xs ys)) → o.wp C.P ⟨tm, ds⟩ w next Q := by
    intro w' hap hws hio hH hnew
    have st : Step C g σ tm w g tm w' s ((listGet σ s).a.setX { wv with x := z }) (listGet σ s).id ((listGet σ s).gen + 1) :=
      ⟨by omega, fun b' hb hb' => hH b' hb (hb' _), fun b' _ hb' => hb', fun b' _ s' c' hs' hm hb' => hb', fun b' _ s' _ hb' => hb', fun b' hb' => by rw [hws]; exact h.gok b' hb', rfl, fun _ _ => rfl, by omega, .inl ⟨rfl, rfl⟩, hio,
        fun v hv hb => h.pin s v hv (by rw [isBox_setX] at hb; exact hb)⟩
    have hsh : Mono w (Shd C g) w' (Shd C g) := ⟨by omega, fun b' hb hb' => ⟨hH b' hb (by rw [hb'.2]; simp), hb'⟩⟩
    have hold := RepX.trans (ms' := setMarkL wv.ms cc .dead) (cl' := cl g (listSet σ s ⟨(listGet σ s).a.setX { wv with x := z }, (listGet σ s).id, (listGet σ s).gen + 1⟩) tm w' s) (c' := 0)
      hsh wv.t hx0 (setMarkL_length _ _ _) fun j hj => by
        rw [markAt_setMarkL _ _ _ _ (by omega)]
        split
        · exact .skip _
        · rename_i hjc
          exact Step.selfCle h st hl (0 + j) _ (fun hm => ⟨by omega, fun b' hb hb' => ⟨hH b' hb (by rw [hb']; simp; omega), hb'⟩⟩) (hbnd _ (mem_of_markAt _ _ (by omega)))
    have hnewc : RepX C.P w' (Shd C g) (cl g (listSet σ s ⟨(listGet σ s).a.setX { wv with x := z }, (listGet σ s).id, (listGet σ s).gen + 1⟩) tm w' s) (.sl el.ty) (0 + cc)
        [.slice a0 len0 cap0] (copyL xs ys) [.own] := by
      refine ⟨_, _, _, _, rfl, rfl, ?_, trivial⟩
      rw [Nat.zero_add]
      exact hnew hsh
    obtain ⟨_, hfin⟩ := setAt_repX wv.t hold hnewc hzz
    rw [splice_id _ _ _ hcell, ← setMarkL_splice _ _ _ (by rw [setMarkL_length]; omega), hms] at hfin
    have hS := h.replace st (fun _ => by
      have hbn := fun m hm => bndM_mono (fun s => (st.gens s).1) (hbnd m hm)
      rcases hform with ⟨hf, hfa⟩ | ⟨b, e', hf, hgb, hh, hfa⟩
      · rw [hfa] at hfin hbn ⊢
        exact ⟨⟨wcs, hf, hfin⟩, hbn⟩
      · rw [hfa] at hfin hbn ⊢
        exact ⟨⟨b, e', wcs, hf, hgb, (hH b (heap_lt hh) (by rw [hgb]; simp)).trans hh, hfin⟩, hbn⟩)
    have hmin : ((Nat.min ys.length xs.length : Nat) : Int) = ((Nat.min len2 len0 : Nat) : Int) := by rw [hyl, hlen]
    rw [hmin] at hq
    exact new_sound (a0 := .val ⟨.int .i64, ((Nat.min len2 len0 : Nat) : Int), [.shr]⟩) hS (.refl hS) (hexec hap) (fun d hd hl σ' tm' hv => AV.new (a := .val ⟨.int .i64, ((Nat.min len2 len0 : Nat) : Int), [.shr]⟩) (Val.int .i64 _) hv d) hq hK
  rcases hrows with hcap | ⟨ad, hsome, hsp, hown, ⟨vs, et, hblk, hfit⟩, hrows⟩
  · have h00 : len0 = 0 := by omega
    subst h00
    have hn0 : Nat.min len2 0 = 0 := Nat.min_zero ..
    rw [hn0] at hfc hsegs
    have hnews : news = [] := List.eq_nil_of_length_eq_zero (by rw [hsegs.1]; simp)
    rw [hnews] at hfc
    refine finish w (by rw [hn0]; exact run_copy_none T o.type e.elem el.ty.size hu hz a0 cap0 a2 len2 cap2 hfc) rfl (.refl w) (fun _ _ _ => rfl) (fun _ => ⟨by rw [copyL_length]; exact hlen, hlc, .inl hcap⟩)
  · subst hsome
    have hvs : vs = vs.toList.toArray := by simp
    rw [hvs] at hblk
    have had : ad = ⟨ad.block, ad.off, none⟩ := addr_eq hsp
    have hnl : news.length = Nat.min len2 len0 * el.ty.size := by rw [hsegs.1, List.length_take, hyl, Nat.min_eq_left (Nat.min_le_left ..)]
    have hmul : Nat.min len2 len0 * el.ty.size ≤ cap0 * el.ty.size := Nat.mul_le_mul_right _ (Nat.le_trans (Nat.min_le_right ..) hlc)
    have hin : ad.off + news.length ≤ vs.toList.length := by simp only [Array.length_toList]; omega
    have hap := run_copy_at (w := w) T o.type e.elem el.ty.size hu hz ad.block ad.off len0 cap0 a2 len2 cap2 _ news rfl hfc (hsegs.oneCell hsz0) hblk hin
    rw [← had] at hap
    refine finish _ hap (by simp) ⟨rfl, rfl, rfl, by first | exact Nat.le_refl _ | exact Nat.le_succ _ | (simp; done) | (simp; omega)⟩ (fun b _ hb => setRow_other w ad.block b _ (fun e => hb (by rw [e]; exact hown))) (fun hsh => ⟨by rw [copyL_length]; exact hlen, hlc, .inr ⟨ad, rfl, hsp, hown, ⟨_, et, setRow_heap w _ _ _ et _ hblk, ?_⟩, ?_⟩⟩)
    · rw [List.size_toArray, splice_length _ _ _ hin]; simpa using hfit
    · -- the rows
      obtain ⟨olds, hos, hoc⟩ := hrows.segs hsz0
      have hol : olds.length = len0 * el.ty.size := by rw [hos.1, hlen]
      have hmul2 : Nat.min len2 len0 * el.ty.size ≤ len0 * el.ty.size := Nat.mul_le_mul_right _ (Nat.min_le_right ..)
      have hmul3 : len0 * el.ty.size ≤ cap0 * el.ty.size := Nat.mul_le_mul_right _ hlc
      have hseg : Segs el.ty.size (RepC C.P el.ty w (Shd C g)) (news ++ olds.drop news.length) (copyL xs ys) := by
        have e1 : ys.take xs.length = ys.take (Nat.min len2 len0) := by
          rw [hlen, ← hyl]
          show _ = List.take (min ys.length len0) ys
          rcases Nat.le_total ys.length len0 with hle | hle
          · rw [Nat.min_eq_left hle, List.take_of_length_le hle, List.take_length]
          · rw [Nat.min_eq_right hle]
        have e2 : xs.drop ys.length = xs.drop (Nat.min len2 len0) := by
          rw [← hyl, ← hlen]
          show _ = List.drop (min ys.length xs.length) xs
          rcases Nat.le_total ys.length xs.length with hle | hle
          · rw [Nat.min_eq_left hle]
          · rw [Nat.min_eq_right hle, List.drop_of_length_le hle, List.drop_length]
        unfold copyL
        rw [e1, e2]
        refine hsegs.append ⟨by rw [List.length_drop, List.length_drop, hos.1, hnl, Nat.sub_mul], fun i hi => ?_⟩
        rw [List.length_drop] at hi
        rw [List.getElem_drop, List.drop_drop, hnl, ← Nat.add_mul]
        exact hos.2 _ (by omega)
      refine (hseg.mono fun _ _ => RepC.mono el.ty hsh).rows fun q hq => ?_
      rw [List.length_append, List.length_drop] at hq
      rw [cell_setRow_same w _ _ _ _ et _ hblk, List.getElem?_toArray, getElem?_splice _ _ _ _ hin]
      rcases Nat.lt_or_ge q news.length with hqo | hqo
      · rw [if_neg (by omega), if_pos (by omega), List.getElem?_append_left hqo]
        congr 1; omega
      · rw [if_neg (by omega), if_neg (by omega), List.getElem?_append_right hqo, List.getElem?_drop, show news.length + (q - news.length) = q by omega, ← hoc q (by omega), cell_of_block hblk]
end
end Go.GD
end
