import Derived.Test.YtbapfiaglcllnaaXT24a
import Derived.Test.YtbapfiaglcllnaaH47all
import Derived.Test.YtbapfiaglcllnaaGDF
import Derived.Test.YtbapfiaglcllnaaGDK
import Derived.Test.YtbapfiaglcllnaaXP47
section
namespace Go.Proofs.Ytbapfiaglcllnaa.D.Rt
set_option maxRecDepth 10000
open Go Go.GD Go.Proofs
noncomputable def regOps (n : Nat) : Code → Option (Array Oper)
  | .region id ops _ => if Nat.beq id n then some ops else none
  | .seq a b => match regOps n a with
    | some x => some x
    | none => regOps n b
  | .block _ c | .loop c | .scope c => regOps n c
  | .cond _ a b => match regOps n a with
    | some x => some x
    | none => regOps n b
  | _ => none
noncomputable def ops20 (n : Nat) : Array Oper := ((Try.f42.body).bind (regOps n)).getD #[]
theorem wp_val {P : Program} {o : Oper} {a : Act} {w w' : World} {v : Value} {K : Act → World → Prop} {Q : Exit → Act → World → Prop} (h : (execOp a.eval o).run P w = .ok (.value v) w') (hK : K (a.put o.dst v) w') : o.wp P a w K Q := by
  unfold Oper.wp
  rw [h, Oper.upon_value]
  exact hK
theorem wp_skip {P : Program} {o : Oper} {a : Act} {w w' : World} {K : Act → World → Prop} {Q : Exit → Act → World → Prop} (h : (execOp a.eval o).run P w = .ok .skip w') (hK : K (a.put o.dst undef) w') : o.wp P a w K Q := by
  unfold Oper.wp
  rw [h, Oper.upon_skip]
  exact hK
noncomputable def shape (l : List Oper) : List (Op × Option Nat × List Nat × Bool) := l.map fun o => (o.op, o.dst, o.after.toList.map (·.on), o.guard.isNone)
theorem put_get {a : Act} {d : Nat} {v : Value} (s : Nat) (hd : d < a.tmps.size) : (a.put (some d) v).tmps.getD s undef = if s = d then v else a.tmps.getD s undef := by
  show (a.tmps.setIfInBounds d v).getD s undef = _
  by_cases h : s = d
  · subst h; rw [if_pos rfl, getD_set_same hd]
  · rw [if_neg h, getD_set_other h]
theorem sh3 : shape (ops20 3).toList = [(.move (.tmp 0), some 14, [], true), (.move (.tmp 1), some 15, [], true), (.move (.tmp 0), some 16, [], true), (.call { callee := .builtin .len, args := #[.tmp 16], argTypes := #[89] }, some 17, [2], true),
    (.makeSlice 144 (.tmp 17) (.tmp 17), some 18, [3, 3], true), (.move (.tmp 0), some 19, [], true), (.call { callee := .builtin .len, args := #[.tmp 19], argTypes := #[89] }, some 20, [5], true), (.makeSlice 90 (.tmp 20) (.tmp 20), some 21, [6, 6], true),
    (.move (.tmp 0), some 22, [], true), (.call { callee := .builtin .len, args := #[.tmp 22], argTypes := #[89] }, some 23, [8], true), (.makeSlice 90 (.tmp 23) (.tmp 23), some 24, [9, 9], true),
    (.build 146 #[(0, .tmp 14), (1, .tmp 15), (2, .tmp 18), (3, .tmp 21), (4, .tmp 24), (5, .const (.int .i64 1))], some 25, [0, 1, 4, 7, 10], true), (.alloc 146, some 5, [], true),
    (.store 146 (.tmp 5) (.tmp 25), none, [12, 11, 0, 1, 2, 3, 4, 5, 6, 7, 8, 9, 10, 11, 12], true)] := by kernel_rfl
theorem back3 : ∀ j o, (ops20 3).toList[j]? = some o → ∀ e, e ∈ o.after.toList → Region.binds .any e = true → e.on < j := by
  have h : (ops20 3).toList.length = 14 := by kernel_rfl
  have k : ((List.range 14).all fun j => match (ops20 3).toList[j]? with
    | some o => o.after.toList.all fun e => Nat.blt e.on j
    | none => true) = true := by kernel_rfl
  intro j o ho e he _
  have hj : j < 14 := by rw [← h]; exact (List.getElem?_eq_some_iff.1 ho).1
  have := List.all_eq_true.1 k j (List.mem_range.2 hj)
  rw [ho] at this
  have := List.all_eq_true.1 this e he
  simpa [Nat.blt_eq] using this
theorem binds3 : ((ops20 3).toList.all fun o => o.after.toList.all fun e => Region.binds .any e) = true := by kernel_rfl
end Go.Proofs.Ytbapfiaglcllnaa.D.Rt
end

section
namespace Go.Proofs.Ytbapfiaglcllnaa.D.Rt
set_option maxRecDepth 10000
open Go Go.GD Go.Proofs
def Ext (w w' : World) : Prop := w.heap.size ≤ w'.heap.size ∧ (∀ b, b < w.heap.size → w'.heap[b]? = w.heap[b]?) ∧ SameIO w w'
theorem Ext.refl (w : World) : Ext w w := ⟨Nat.le_refl _, fun _ _ => rfl, .refl w⟩
theorem Ext.trans {a b c : World} (h : Ext a b) (k : Ext b c) : Ext a c := ⟨Nat.le_trans h.1 k.1, fun x hx => (k.2.1 x (Nat.lt_of_lt_of_le hx h.1)).trans (h.2.1 x hx), h.2.2.trans k.2.2⟩
theorem Ext.alloc (w : World) (o : Obj) : Ext w (w.alloc o) := ⟨by rw [World.size_alloc]; omega, fun b hb => heap_alloc_old w o hb, ⟨rfl, rfl, rfl, by first | exact Nat.le_refl _ | exact Nat.le_succ _ | (simp; done) | (simp; omega)⟩⟩
theorem shape_at {l : List Oper} {j : Nat} {o : Oper} (h : l[j]? = some o) : (shape l)[j]? = some (o.op, o.dst, o.after.toList.map (·.on), o.guard.isNone) := by simp [shape, h]
def z34 : Value := .agg #[.int .i64 0, .int .i64 0, .int .i64 0, .int .i64 0]
def z47 : Array Value := #[.slice none 0 0, .slice none 0 0, .slice none 0 0, .slice none 0 0, .slice none 0 0, .int .i64 0]
def Fact (base : Nat) (vl vw : Value) (n : Nat) : Nat → Value → World → Prop
  | 0, v, _ | 2, v, _ | 5, v, _ | 8, v, _ => v = vl
  | 1, v, _ => v = vw
  | 3, v, _ | 6, v, _ | 9, v, _ => v = .int .i64 n
  | 4, v, w => ∃ b, v = .slice (some ⟨b, 0, none⟩) n n ∧ base ≤ b ∧ w.heap[b]? = some (.cells (madeCells #[.slice none 0 0] (n * 1)) 92 (0, 0))
  | 7, v, w | 10, v, w => ∃ b, v = .slice (some ⟨b, 0, none⟩) n n ∧ base ≤ b ∧ w.heap[b]? = some (.cells (madeCells z34.cells (n * 4)) 186 (0, 0))
  | 12, v, w => ∃ b, v = .pointer (some ⟨b, 0, none⟩) ∧ base ≤ b ∧ w.heap[b]? = some (.cells z47 146 (0, 0))
  | _, _, _ => True
theorem Fact.ext {base : Nat} {vl vw : Value} {n : Nat} {w w' : World} (h : Ext w w') : ∀ {j : Nat} {v : Value}, Fact base vl vw n j v w → Fact base vl vw n j v w'
  | 0, _, k | 1, _, k | 2, _, k | 3, _, k | 5, _, k | 6, _, k | 8, _, k | 9, _, k => k
  | 4, _, ⟨b, k1, k2, k3⟩ | 7, _, ⟨b, k1, k2, k3⟩ | 10, _, ⟨b, k1, k2, k3⟩ | 12, _, ⟨b, k1, k2, k3⟩ => ⟨b, k1, k2, (h.2.1 b (heap_lt k3)).trans k3⟩
  | 11, _, _ => trivial
  | _ + 13, _, _ => trivial
def dstOf : Nat → Nat := fun j => [14, 15, 16, 17, 18, 19, 20, 21, 22, 23, 24, 25, 5].getD j 0
theorem dst_ne : ∀ j, j < 13 → ∀ k, k < 13 → j ≠ k → dstOf j ≠ dstOf k := by decide
theorem dst_rng : ∀ j, j < 13 → 2 ≤ dstOf j ∧ dstOf j < 66 := by decide
structure Pre (vl vw : Value) (n : Nat) (ds : List Deferred) (w0 : World) (D : Nat → Bool) (a : Act) (w : World) : Prop where
  sz : a.tmps.size = 66
  df : a.defers = ds
  t0 : a.tmps.getD 0 undef = vl
  t1 : a.tmps.getD 1 undef = vw
  ext : Ext w0 w
  fa : ∀ j, j < 13 → D j = true → Fact w0.heap.size vl vw n j (a.tmps.getD (dstOf j) undef) w
  d77 : D 11 = true → D 4 = true ∧ D 7 = true ∧ D 10 = true
  f77 : D 11 = true → a.tmps.getD 25 undef = .agg #[vl, vw, a.tmps.getD 18 undef, a.tmps.getD 21 undef, a.tmps.getD 24 undef, .int .i64 1]
  dis : D 7 = true → D 10 = true → a.tmps.getD 21 undef ≠ a.tmps.getD 24 undef
theorem Pre.upd {vl vw : Value} {n : Nat} {ds : List Deferred} {w0 : World} {D : Nat → Bool} {a : Act} {w w' : World} (h : Pre vl vw n ds w0 D a w) {j : Nat} (hj : j < 13) (hjn : j ≠ 11) (hD : D j = false) {v : Value} (he : Ext w w')
    (hf : Fact w0.heap.size vl vw n j v w') (h7 : j = 7 → D 10 = true → v ≠ a.tmps.getD 24 undef) (h10 : j = 10 → D 7 = true → a.tmps.getD 21 undef ≠ v) :
    Pre vl vw n ds w0 (fun i => decide (i = j) || D i) (a.put (some (dstOf j)) v) w' := by
  have hr := dst_rng j hj
  have get := fun s => put_get (a := a) (d := dstOf j) (v := v) s (by rw [h.sz]; exact hr.2)
  have keep : ∀ k, k < 13 → k ≠ j → (a.put (some (dstOf j)) v).tmps.getD (dstOf k) undef = a.tmps.getD (dstOf k) undef := fun k hk hkj => by
    rw [get, if_neg (dst_ne k hk j hj hkj)]
  have D' : ∀ k, k ≠ j → (decide (k = j) || D k) = D k := fun k hk => by simp [hk]
  refine ⟨?_, h.df, ?_, ?_, h.ext.trans he, fun k hk hDk => ?_, fun h11 => ?_, fun h11 => ?_, fun a7 a10 => ?_⟩
  · show (a.tmps.setIfInBounds _ _).size = 66
    rw [Array.size_setIfInBounds]; exact h.sz
  · rw [get, if_neg (by omega)]; exact h.t0
  · rw [get, if_neg (by omega)]; exact h.t1
  · by_cases hkj : k = j
    · subst hkj
      rw [get, if_pos rfl]; exact hf
    · rw [keep k hk hkj]
      rw [D' k hkj] at hDk
      exact (h.fa k hk hDk).ext he
  · rw [D' 11 (fun e => hjn e.symm)] at h11
    obtain ⟨q1, q2, q3⟩ := h.d77 h11
    simp only [q1, q2, q3, Bool.or_true, and_self]
  · rw [D' 11 (fun e => hjn e.symm)] at h11
    obtain ⟨q1, q2, q3⟩ := h.d77 h11
    have k4 := keep 4 (by decide) (fun e => by subst e; rw [q1] at hD; cases hD)
    have k7 := keep 7 (by decide) (fun e => by subst e; rw [q2] at hD; cases hD)
    have k10 := keep 10 (by decide) (fun e => by subst e; rw [q3] at hD; cases hD)
    have k77 := keep 11 (by decide) (fun e => hjn e.symm)
    rw [show (25 : Nat) = dstOf 11 from rfl, k77, show (18 : Nat) = dstOf 4 from rfl, k4, show (21 : Nat) = dstOf 7 from rfl, k7, show (24 : Nat) = dstOf 10 from rfl, k10]
    exact h.f77 h11
  · by_cases e7 : j = 7
    · subst e7
      rw [D' 10 (by decide)] at a10
      rw [show (21 : Nat) = dstOf 7 from rfl, get, if_pos rfl, show (24 : Nat) = dstOf 10 from rfl, keep 10 (by decide) (by decide)]
      exact h7 rfl a10
    · by_cases e10 : j = 10
      · subst e10
        rw [D' 7 (by decide)] at a7
        rw [show (24 : Nat) = dstOf 10 from rfl, show (21 : Nat) = dstOf 7 from rfl, keep 7 (by decide) (by decide), get (dstOf 10), if_pos rfl]
        exact h10 rfl a7
      · rw [D' 7 (fun e => e7 e.symm)] at a7
        rw [D' 10 (fun e => e10 e.symm)] at a10
        rw [show (24 : Nat) = dstOf 10 from rfl, show (21 : Nat) = dstOf 7 from rfl, keep 7 (by decide) (fun e => e7 e.symm), keep 10 (by decide) (fun e => e10 e.symm)]
        exact h.dis a7 a10
end Go.Proofs.Ytbapfiaglcllnaa.D.Rt
end

section
namespace Go.Proofs.Ytbapfiaglcllnaa.D.Rt
set_option maxRecDepth 10000
open Go Go.GD Go.Proofs
theorem u45 : Try.prog.underlying 144 = some (TypeDesc.slice 92) := by kernel_rfl
theorem u28 : Try.prog.underlying 90 = some (TypeDesc.slice 186) := by kernel_rfl
theorem u22 : Try.prog.underlying 89 = some (TypeDesc.slice 88) := by kernel_rfl
theorem i23 : (Try.prog.info? 92).map (fun i => (i.zero, i.size, i.bytes)) = some (some (Value.slice none 0 0), 1, 24) := by kernel_rfl
theorem i34 : (Try.prog.info? 186).map (fun i => (i.zero, i.size, i.bytes)) = some (some z34, 4, 32) := by kernel_rfl
theorem i47 : (Try.prog.info? 146).map (fun i => (i.zero, i.size, i.bytes)) = some (some (Value.agg z47), 6, 128) := by kernel_rfl
theorem info_at {P : Program} {T : TypeId} {z : Value} {s b : Nat} (h : (P.info? T).map (fun i => (i.zero, i.size, i.bytes)) = some (some z, s, b)) : ∃ i, P.info? T = some i ∧ i.zero = some z ∧ i.size = s ∧ i.bytes = b := by
  cases hi : P.info? T with
  | none => rw [hi] at h; cases h
  | some i =>
    rw [hi] at h
    simp only [Option.map_some, Option.some.injEq, Prod.mk.injEq] at h
    exact ⟨i, rfl, h.1, h.2.1, h.2.2⟩
theorem mk45 (w : World) (n : Nat) (hn : n ≤ 1000) : (Instr.makeSlice 144 (.int .i64 n) (.int .i64 n)).run Try.prog w = .ok (.slice (some ⟨w.heap.size, 0, none⟩) n n) (w.alloc (.cells (madeCells #[.slice none 0 0] (n * 1)) 92 (0, 0))) := by
  obtain ⟨i, hi, hz, hs, hb⟩ := info_at i23
  have := run_make (P := Try.prog) w 144 92 i (.slice none 0 0) u45 hi hz .i64 .i64 (n : Int) (n : Int) (by omega) (by omega) (by rw [hb]; omega) (by omega)
  rw [hs] at this
  have e : (Value.slice none 0 0).cells = #[Value.slice none 0 0] := rfl
  rw [e] at this
  simpa using this
theorem mk28 (w : World) (n : Nat) (hn : n ≤ 1000) : (Instr.makeSlice 90 (.int .i64 n) (.int .i64 n)).run Try.prog w = .ok (.slice (some ⟨w.heap.size, 0, none⟩) n n) (w.alloc (.cells (madeCells z34.cells (n * 4)) 186 (0, 0))) := by
  obtain ⟨i, hi, hz, hs, hb⟩ := info_at i34
  have := run_make (P := Try.prog) w 90 186 i z34 u28 hi hz .i64 .i64 (n : Int) (n : Int) (by omega) (by omega) (by rw [hb]; omega) (by omega)
  rw [hs] at this
  simpa using this
structure Final (al aw : Option Addr) (n cl nw cw : Nat) (ds : List Deferred) (w0 : World) (a : Act) (w : World) : Prop where
  sz : a.tmps.size = 66
  df : a.defers = ds
  t0 : a.tmps.getD 0 undef = .slice al n cl
  t1 : a.tmps.getD 1 undef = .slice aw nw cw
  ext : Ext w0 w
  blocks : ∃ b4 b7 b10 b12, w0.heap.size ≤ b4 ∧ w0.heap.size ≤ b7 ∧ w0.heap.size ≤ b10 ∧ w0.heap.size ≤ b12 ∧ b7 ≠ b10 ∧ a.tmps.getD 5 undef = .pointer (some ⟨b12, 0, none⟩) ∧
    w.heap[b12]? = some (.cells #[.slice al n cl, .slice aw nw cw, .slice (some ⟨b4, 0, none⟩) n n, .slice (some ⟨b7, 0, none⟩) n n, .slice (some ⟨b10, 0, none⟩) n n, .int .i64 1] 146 (0, 0)) ∧
    w.heap[b4]? = some (.cells (madeCells #[.slice none 0 0] (n * 1)) 92 (0, 0)) ∧ w.heap[b7]? = some (.cells (madeCells z34.cells (n * 4)) 186 (0, 0)) ∧ w.heap[b10]? = some (.cells (madeCells z34.cells (n * 4)) 186 (0, 0))
set_option maxHeartbeats 4000000 in
theorem reg3 (al aw : Option Addr) (n cl nw cw : Nat) (hn : n ≤ 1000) {a : Act} {w : World} (hsz : a.tmps.size = 66) (h0 : a.tmps.getD 0 undef = .slice al n cl) (h1 : a.tmps.getD 1 undef = .slice aw nw cw) {Q : Exit → Act → World → Prop}
    (hQ : ∀ a' w', Final al aw n cl nw cw a.defers w a' w' → Q .normal a' w') : (Code.region 3 (ops20 3) true).wp Try.prog Q a w := by
  have h14 : (ops20 3).toList.length = 14 := by kernel_rfl
  refine region_inv (Checked.mixed Try.checked) back3 (fun D a' w' => (D 13 = false ∧ Pre (.slice al n cl) (.slice aw nw cw) n a.defers w D a' w') ∨ (D 13 = true ∧ Final al aw n cl nw cw a.defers w a' w')) (fun D j o a' w' ho hD hedge hdown hI => ?_) (fun D a' w' hall hI => ?_) ?_
  · have hj : j < 14 := by rw [← h14]; exact (List.getElem?_eq_some_iff.1 ho).1
    have hbind : ∀ {k : Nat} {o : Oper}, (ops20 3).toList[k]? = some o → ∀ e, e ∈ o.after.toList → Region.binds .any e = true := fun hk e he => List.all_eq_true.1 (List.all_eq_true.1 binds3 _ (List.mem_of_getElem? hk)) e he
    have hpre : D 13 = false ∧ Pre (.slice al n cl) (.slice aw nw cw) n a.defers w D a' w' := by
      rcases hI with h | ⟨h13, _⟩
      · exact h
      · exfalso
        obtain ⟨o13, ho13⟩ : ∃ o, (ops20 3).toList[13]? = some o := ⟨_, List.getElem?_eq_getElem (by rw [h14]; decide)⟩
        have e := shape_at ho13
        rw [sh3] at e
        simp only [List.getElem?_cons_succ, List.getElem?_cons_zero, Option.some.injEq, Prod.mk.injEq] at e
        have hall : ∀ k, k ∈ [12, 11, 0, 1, 2, 3, 4, 5, 6, 7, 8, 9, 10, 11, 12] → D k = true := fun k hk => by
          rw [e.2.2.1] at hk
          obtain ⟨ed, he, rfl⟩ := List.mem_map.1 hk
          exact hdown 13 o13 h13 ho13 ed he (hbind ho13 ed he)
        by_cases h : j = 13
        · subst h; rw [h13] at hD; cases hD
        · have all13 : ∀ j, j < 13 → j ∈ [12, 11, 0, 1, 2, 3, 4, 5, 6, 7, 8, 9, 10, 11, 12] := by decide
          have := all13 j (by omega)
          rw [hall j this] at hD; cases hD
    clear hI
    obtain ⟨h13, hp⟩ := hpre
    have hed : ∀ k, k ∈ o.after.toList.map (·.on) → D k = true := fun k hk => by
      obtain ⟨ed, he, rfl⟩ := List.mem_map.1 hk
      exact hedge ed he (hbind ho ed he)
    have e := shape_at ho
    rw [sh3] at e
    have simple : ∀ (v : Value) (w2 : World), j < 13 → j ≠ 11 → o.dst = some (dstOf j) → o.guard.isNone = true → (execOp a'.eval o).run Try.prog w' = .ok (.value v) w2 → Ext w' w2 → Fact w.heap.size (.slice al n cl) (.slice aw nw cw) n j v w2 →
        (j = 7 → D 10 = true → v ≠ a'.tmps.getD 24 undef) → (j = 10 → D 7 = true → a'.tmps.getD 21 undef ≠ v) →
        o.guard = none ∧ o.wp Try.prog a' w' (fun a2 w2 => ((decide (13 = j) || D 13) = false ∧ Pre (.slice al n cl) (.slice aw nw cw) n a.defers w (fun i => decide (i = j) || D i) a2 w2) ∨ ((decide (13 = j) || D 13) = true ∧ Final al aw n cl nw cw a.defers w a2 w2)) Q := by
      intro v w2 q1 q2 q3 q4 q5 q6 q7 q8 q9
      refine ⟨by simpa using q4, wp_val q5 (.inl ⟨by simp [h13]; omega, ?_⟩)⟩
      rw [q3]
      exact hp.upd q1 q2 hD q6 q7 q8 q9
    have evt : ∀ k, a'.eval (.tmp k) = a'.tmps.getD k undef := fun _ => rfl
    have mv0 : ∀ {x : Operand}, x = .tmp 0 → a'.eval x = .slice al n cl := fun hx => by rw [hx]; exact hp.t0
    have len0 : ∀ {c : Call} (k : Nat), o.op = .call c → c = { callee := .builtin .len, args := #[.tmp k], argTypes := #[89] } → a'.eval (.tmp k) = .slice al n cl → (execOp a'.eval o).run Try.prog w' = .ok (.value (.int .i64 n)) w' := fun k ho hc hk => by
      subst hc
      simp [execOp, ho, resolve, invoke, builtin, Builtin.len_, hk, underlying, goInt]
    have hcase : j = 0 ∨ j = 1 ∨ j = 2 ∨ j = 3 ∨ j = 4 ∨ j = 5 ∨ j = 6 ∨ j = 7 ∨ j = 8 ∨ j = 9 ∨ j = 10 ∨ j = 11 ∨ j = 12 ∨ j = 13 := by omega
    have nd : ∀ {p q : Prop}, ¬ p → (p → q) := fun h hp => absurd hp h
    have blk : ∀ {k : Nat}, (k = 7 ∨ k = 10) → D k = true → a'.tmps.getD (dstOf k) undef ≠ .slice (some ⟨w'.heap.size, 0, none⟩) n n := fun {k} hk hDk he => by
      have hf := hp.fa k (by omega) hDk
      rcases hk with rfl | rfl
      · obtain ⟨b, q1, _, q3⟩ := hf
        rw [q1] at he
        injection he with he; injection he with he; injection he with he
        have := heap_lt q3
        omega
      · obtain ⟨b, q1, _, q3⟩ := hf
        rw [q1] at he
        injection he with he; injection he with he; injection he with he
        have := heap_lt q3
        omega
    rcases hcase with rfl | rfl | rfl | rfl | rfl | rfl | rfl | rfl | rfl | rfl | rfl | rfl | rfl | rfl <;> simp only [List.getElem?_cons_succ, List.getElem?_cons_zero, Option.some.injEq, Prod.mk.injEq] at e <;> obtain ⟨e1, e2, e3, e4⟩ := e
    · exact simple _ w' (by decide) (by decide) e2.symm e4.symm (by simp [execOp, ← e1, mv0 rfl]) (.refl _) rfl (nd (by decide)) (nd (by decide))
    · exact simple (.slice aw nw cw) w' (by decide) (by decide) e2.symm e4.symm (by have := hp.t1; rw [← evt] at this; simp [execOp, ← e1, this]) (.refl _) rfl (nd (by decide)) (nd (by decide))
    · exact simple _ w' (by decide) (by decide) e2.symm e4.symm (by simp [execOp, ← e1, mv0 rfl]) (.refl _) rfl (nd (by decide)) (nd (by decide))
    · exact simple _ w' (by decide) (by decide) e2.symm e4.symm (len0 16 e1.symm rfl (hp.fa 2 (by decide) (hed 2 (by rw [← e3]; simp)))) (.refl _) rfl (nd (by decide)) (nd (by decide))
    · have hk : a'.eval (.tmp 17) = .int .i64 n := hp.fa 3 (by decide) (hed 3 (by rw [← e3]; simp))
      exact simple _ _ (by decide) (by decide) e2.symm e4.symm (by simp [execOp, ← e1, hk, mk45 w' n hn]) (.alloc _ _) ⟨w'.heap.size, rfl, hp.ext.1, heap_alloc_new w' _⟩ (nd (by decide)) (nd (by decide))
    · exact simple _ w' (by decide) (by decide) e2.symm e4.symm (by simp [execOp, ← e1, mv0 rfl]) (.refl _) rfl (nd (by decide)) (nd (by decide))
    · exact simple _ w' (by decide) (by decide) e2.symm e4.symm (len0 19 e1.symm rfl (hp.fa 5 (by decide) (hed 5 (by rw [← e3]; simp)))) (.refl _) rfl (nd (by decide)) (nd (by decide))
    · have hk : a'.eval (.tmp 20) = .int .i64 n := hp.fa 6 (by decide) (hed 6 (by rw [← e3]; simp))
      exact simple _ _ (by decide) (by decide) e2.symm e4.symm (by simp [execOp, ← e1, hk, mk28 w' n hn]) (.alloc _ _) ⟨w'.heap.size, rfl, hp.ext.1, heap_alloc_new w' _⟩ (fun _ h10 h => blk (k := 10) (.inr rfl) h10 h.symm) (nd (by decide))
    · exact simple _ w' (by decide) (by decide) e2.symm e4.symm (by simp [execOp, ← e1, mv0 rfl]) (.refl _) rfl (nd (by decide)) (nd (by decide))
    · exact simple _ w' (by decide) (by decide) e2.symm e4.symm (len0 22 e1.symm rfl (hp.fa 8 (by decide) (hed 8 (by rw [← e3]; simp)))) (.refl _) rfl (nd (by decide)) (nd (by decide))
    · have hk : a'.eval (.tmp 23) = .int .i64 n := hp.fa 9 (by decide) (hed 9 (by rw [← e3]; simp))
      exact simple _ _ (by decide) (by decide) e2.symm e4.symm (by simp [execOp, ← e1, hk, mk28 w' n hn]) (.alloc _ _) ⟨w'.heap.size, rfl, hp.ext.1, heap_alloc_new w' _⟩ (nd (by decide)) (fun _ h7 h => blk (k := 7) (.inl rfl) h7 h)
    · have q0 : a'.eval (.tmp 14) = .slice al n cl := hp.fa 0 (by decide) (hed 0 (by rw [← e3]; simp))
      have q1 : a'.eval (.tmp 15) = .slice aw nw cw := hp.fa 1 (by decide) (hed 1 (by rw [← e3]; simp))
      have d4 := hed 4 (by rw [← e3]; simp)
      have d7 := hed 7 (by rw [← e3]; simp)
      have d10 := hed 10 (by rw [← e3]; simp)
      obtain ⟨b4, q4, _⟩ := hp.fa 4 (by decide) d4
      obtain ⟨b7, q7, _⟩ := hp.fa 7 (by decide) d7
      obtain ⟨b10, q10, _⟩ := hp.fa 10 (by decide) d10
      have q4 : a'.eval (.tmp 18) = .slice (some ⟨b4, 0, none⟩) n n := q4
      have q7 : a'.eval (.tmp 21) = .slice (some ⟨b7, 0, none⟩) n n := q7
      have q10 : a'.eval (.tmp 24) = .slice (some ⟨b10, 0, none⟩) n n := q10
      have hb : Try.prog.built 146 [(0, .slice al n cl), (1, .slice aw nw cw), (2, .slice (some ⟨b4, 0, none⟩) n n), (3, .slice (some ⟨b7, 0, none⟩) n n), (4, .slice (some ⟨b10, 0, none⟩) n n), (5, .int .i64 1)] =
          some #[.slice al n cl, .slice aw nw cw, .slice (some ⟨b4, 0, none⟩) n n, .slice (some ⟨b7, 0, none⟩) n n, .slice (some ⟨b10, 0, none⟩) n n, .int .i64 1] := by kernel_rfl
      have hrun := run_build (P := Try.prog) w' 146 #[(0, .slice al n cl), (1, .slice aw nw cw), (2, .slice (some ⟨b4, 0, none⟩) n n), (3, .slice (some ⟨b7, 0, none⟩) n n), (4, .slice (some ⟨b10, 0, none⟩) n n), (5, .int .i64 1)] _ hb
      refine ⟨by simpa using e4.symm, wp_val (v := .agg #[.slice al n cl, .slice aw nw cw, .slice (some ⟨b4, 0, none⟩) n n, .slice (some ⟨b7, 0, none⟩) n n, .slice (some ⟨b10, 0, none⟩) n n, .int .i64 1]) (w' := w') (by
        have qc : a'.eval (.const (.int .i64 1)) = .int .i64 1 := rfl
        simp [execOp, ← e1, q0, q1, q4, q7, q10, qc, hrun]) (.inl ⟨by simp [h13], ?_⟩)⟩
      rw [← e2]
      have get := fun v s => put_get (a := a') (d := 25) (v := v) s (by rw [hp.sz]; decide)
      refine ⟨?_, hp.df, ?_, ?_, hp.ext, fun k hk hDk => ?_, fun _ => ?_, fun _ => ?_, fun a7 a10 => ?_⟩
      · show (a'.tmps.setIfInBounds _ _).size = 66
        rw [Array.size_setIfInBounds]; exact hp.sz
      · rw [get, if_neg (by decide)]; exact hp.t0
      · rw [get, if_neg (by decide)]; exact hp.t1
      · by_cases hk11 : k = 11
        · subst hk11; trivial
        · have hdk : dstOf k ≠ 25 := dst_ne k hk 11 (by decide) hk11
          rw [get, if_neg hdk]
          exact hp.fa k hk (by simpa [hk11] using hDk)
      · simp [d4, d7, d10]
      · rw [get, if_pos rfl, get, get, get, if_neg (by decide), if_neg (by decide), if_neg (by decide), ← evt 18, ← evt 21, ← evt 24, q4, q7, q10]
      · rw [get, get, if_neg (by decide), if_neg (by decide)]
        exact hp.dis d7 d10
    · obtain ⟨i, hi, hz, hs, hb⟩ := info_at i47
      have hzv : (zeroValue 146).run Try.prog w' = .ok (.agg z47) w' := by simp [zeroValue, Go.typeInfo, hi, hz]
      exact simple _ _ (by decide) (by decide) e2.symm e4.symm (by simp [execOp, ← e1, Instr.alloc, hzv, newVar, newRow]; rfl) (.alloc _ (.cells z47 146)) ⟨w'.heap.size, rfl, hp.ext.1, heap_alloc_new w' _⟩ (nd (by decide)) (nd (by decide))
    · have dd : ∀ k, k < 13 → D k = true := fun k hk => by
        have all13 : ∀ j, j < 13 → j ∈ [12, 11, 0, 1, 2, 3, 4, 5, 6, 7, 8, 9, 10, 11, 12] := by decide
        exact hed k (by rw [← e3]; exact all13 k hk)
      obtain ⟨b4, q4, l4, g4⟩ := hp.fa 4 (by decide) (dd 4 (by decide))
      obtain ⟨b7, q7, l7, g7⟩ := hp.fa 7 (by decide) (dd 7 (by decide))
      obtain ⟨b10, q10, l10, g10⟩ := hp.fa 10 (by decide) (dd 10 (by decide))
      obtain ⟨b12, q12, l12, g12⟩ := hp.fa 12 (by decide) (dd 12 (by decide))
      have q4 : a'.tmps.getD 18 undef = .slice (some ⟨b4, 0, none⟩) n n := q4
      have q7 : a'.tmps.getD 21 undef = .slice (some ⟨b7, 0, none⟩) n n := q7
      have q10 : a'.tmps.getD 24 undef = .slice (some ⟨b10, 0, none⟩) n n := q10
      have q12 : a'.eval (.tmp 5) = .pointer (some ⟨b12, 0, none⟩) := q12
      have q11 := hp.f77 (dd 11 (by decide))
      rw [q4, q7, q10, ← evt 25] at q11
      have hne := hp.dis (dd 7 (by decide)) (dd 10 (by decide))
      rw [q7, q10] at hne
      have n4 : b4 ≠ b12 := fun e => by rw [e, g12] at g4; injection g4 with g4; injection g4 with _ g4; cases g4
      have n7 : b7 ≠ b12 := fun e => by rw [e, g12] at g7; injection g7 with g7; injection g7 with _ g7; cases g7
      have n10 : b10 ≠ b12 := fun e => by rw [e, g12] at g10; injection g10 with g10; injection g10 with _ g10; cases g10
      obtain ⟨te, hte, hsz6⟩ : ∃ e, findTE tab 146 = some e ∧ e.ty.size = 6 := by
        have k : (findTE tab 146).map (·.ty.size) = some 6 := by kernel_rfl
        cases hf : findTE tab 146 with
        | none => rw [hf] at k; cases k
        | some e => rw [hf] at k; exact ⟨e, rfl, Option.some.inj k⟩
      have hst := storeVar_run (P := Try.prog) (tab := tab) (T := 146) (e := te) (b := b12) (off := 0) (w := w') (cs0 := z47.toList) (et := 146) (cs := [.slice al n cl, .slice aw nw cw, .slice (some ⟨b4, 0, none⟩) n n, .slice (some ⟨b7, 0, none⟩) n n, .slice (some ⟨b10, 0, none⟩) n n, .int .i64 1])
        (v := a'.eval (.tmp 25)) (tabOK.find hte) (by rw [q11]; rfl) (by rw [hsz6]; rfl) (fun v hv => by
          simp only [List.mem_cons, List.not_mem_nil, or_false] at hv
          rcases hv with rfl | rfl | rfl | rfl | rfl | rfl <;> rfl) g12 (Nat.le_refl 6)
      have hall6 : ∀ ys : List Value, ys.length = 6 → splice z47.toList 0 ys = ys := fun ys h => splice_all _ _ (by rw [h]; rfl)
      rw [hall6 _ rfl] at hst
      refine ⟨by simpa using e4.symm, wp_skip (w' := w'.setRow b12 #[.slice al n cl, .slice aw nw cw, .slice (some ⟨b4, 0, none⟩) n n, .slice (some ⟨b7, 0, none⟩) n n, .slice (some ⟨b10, 0, none⟩) n n, .int .i64 1]) (by
        simp [execOp, ← e1, q12, Instr.storeAt, Instr.sureAddr, hst]) (.inr ⟨by simp, ?_⟩)⟩
      rw [← e2]
      refine ⟨hp.sz, hp.df, hp.t0, hp.t1, ⟨by rw [setRow_size]; exact hp.ext.1, fun b hb => (setRow_other w' b12 b _ (by omega)).trans (hp.ext.2.1 b hb), hp.ext.2.2.trans ⟨rfl, rfl, rfl, by first | exact Nat.le_refl _ | exact Nat.le_succ _ | (simp; done) | (simp; omega)⟩⟩, b4, b7, b10, b12, l4, l7, l10, l12, fun e => hne (by rw [e]), q12, setRow_heap w' b12 _ _ 146 _ g12, ?_, ?_, ?_⟩
      · exact (setRow_other w' b12 b4 _ n4).trans g4
      · exact (setRow_other w' b12 b7 _ n7).trans g7
      · exact (setRow_other w' b12 b10 _ n10).trans g10
  · rcases hI with ⟨h13, _⟩ | ⟨_, hF⟩
    · rw [hall 13 (by rw [← Array.length_toList, h14]; decide)] at h13; cases h13
    · exact hQ a' w' hF
  · exact .inl ⟨rfl, hsz, rfl, h0, h1, ⟨Nat.le_refl _, fun _ _ => rfl, ⟨rfl, rfl, rfl, by first | exact Nat.le_refl _ | exact Nat.le_succ _ | (simp; done) | (simp; omega)⟩⟩, (fun _ _ h => by cases h), (fun h => by cases h), (fun h => by cases h), (fun h => by cases h)⟩
end Go.Proofs.Ytbapfiaglcllnaa.D.Rt
end

section
namespace Go.Proofs.Ytbapfiaglcllnaa.D.Rt
set_option maxRecDepth 10000
open Go Go.GD Go.Proofs
theorem u23 : Try.prog.underlying 92 = some (TypeDesc.slice 4) := by kernel_rfl
theorem i4 : (Try.prog.info? 4).map (fun i => (i.zero, i.size, i.bytes)) = some (some (Value.bool false), 1, 1) := by kernel_rfl
def RowAt (H : Nat) (w : World) (h : Value) (o : Option Nat) (xs : List Bool) : Prop :=
  (o = none ∧ h = .slice none 0 0 ∧ xs = []) ∨
  ∃ b e, ∃ vs : List Value, ∃ cap, o = some b ∧ h = .slice (some ⟨b, 0, none⟩) xs.length cap ∧ xs.length ≤ cap ∧ H ≤ b ∧ w.heap[b]? = some (.cells vs.toArray e (0, 0)) ∧ cap ≤ vs.length ∧ ∀ k (h : k < xs.length), vs[k]? = some (.bool xs[k])
theorem RowAt.keep {H : Nat} {w w' : World} {h : Value} {o : Option Nat} {xs : List Bool} (hr : RowAt H w h o xs) (hk : ∀ b, o = some b → b < w.heap.size → w'.heap[b]? = w.heap[b]?) : RowAt H w' h o xs := by
  rcases hr with hr | ⟨b, e, vs, cap, h1, h2, h3, h4, h5, h6, h7⟩
  · exact .inl hr
  · exact .inr ⟨b, e, vs, cap, h1, h2, h3, h4, (hk b h1 (heap_lt h5)).trans h5, h6, h7⟩
theorem row_append (w : World) (h : Value) (H : Nat) (o : Option Nat) (xs : List Bool) (hr : RowAt H w h o xs) (hH : H ≤ w.heap.size) (hx : xs.length ≤ 1000) (c : Bool) (bn : Nat) (en : TypeId) (hbn : w.heap[bn]? = some (.cells #[Value.bool c] en (0, 0))) (ty : TypeId) :
    ∃ h' o' w', (Builtin.append_ #[92, 92] ty #[h, .slice (some ⟨bn, 0, none⟩) 1 1]).run Try.prog w = .ok h' w' ∧ RowAt H w' h' o' (xs ++ [c]) ∧ w.heap.size ≤ w'.heap.size ∧ (∀ b, b < w.heap.size → o ≠ some b → w'.heap[b]? = w.heap[b]?) ∧
      (∀ b, o' = some b → o = some b ∨ w.heap.size ≤ b) ∧ SameIO w w' := by
  obtain ⟨i, hi, hz, hs, hb⟩ := info_at i4
  have hsrc : Src Try.prog 1 92 (.slice (some ⟨bn, 0, none⟩) 1 1) 1 [Value.bool c] w := Src.ofSlice w u23 ⟨bn, 0, none⟩ 1 1 [Value.bool c] rfl (fun j u hj => by
    rw [addr_add rfl]
    rw [show w.cell? ⟨bn, 0 + j, none⟩ = [Value.bool c][0 + j]? from cell_of_block (cs := [Value.bool c]) hbn, Nat.zero_add]; exact hj) (fun u hu => by simp at hu; subst hu; rfl)
  have grow : ∀ (base : Option Addr) (cap : Nat) (olds : List Value), h = .slice base xs.length cap → cap < xs.length + 1 → olds.length = xs.length → (∀ k (hk : k < xs.length), olds[k]? = some (.bool xs[k])) →
      (Builtin.firstCells i.size xs.length (.slice base xs.length cap)).run Try.prog w.drew = .ok olds.toArray w.drew →
      ∃ h' o' w', (Builtin.append_ #[92, 92] ty #[h, .slice (some ⟨bn, 0, none⟩) 1 1]).run Try.prog w = .ok h' w' ∧ RowAt H w' h' o' (xs ++ [c]) ∧ w.heap.size ≤ w'.heap.size ∧ (∀ b, b < w.heap.size → o ≠ some b → w'.heap[b]? = w.heap[b]?) ∧
        (∀ b, o' = some b → o = some b ∨ w.heap.size ≤ b) ∧ SameIO w w' := by
    intro base cap olds hh hlt hol hoc hfc
    have hap := run_append_grow_src (P := Try.prog) w 92 92 ty 4 i (.bool false) u23 hi hz base xs.length cap olds hfc (.slice (some ⟨bn, 0, none⟩) 1 1) 1 [Value.bool c] (by rw [hs]; exact hsrc) hlt (by omega) (growslice_fits hlt (by rw [hb]; omega))
    have hge := grownCap_ge w (xs.length + 1) cap 4
    refine ⟨_, some w.heap.size, _, by rw [hh]; exact hap, ?_, by rw [World.size_alloc]; exact Nat.le_succ _, fun b hb _ => heap_alloc_old w.drew _ hb, fun b hb => .inr (by injection hb with hb; omega), ⟨rfl, rfl, rfl, by first | exact Nat.le_refl _ | exact Nat.le_succ _ | (simp; done) | (simp; omega)⟩⟩
    refine .inr ⟨w.heap.size, 4, ((olds ++ [Value.bool c]).toArray ++ Builtin.zeroCells (Value.bool false).cells (grownCap w (xs.length + 1) cap 4 - (xs.length + 1))).toList, grownCap w (xs.length + 1) cap 4, rfl, by rw [List.length_append]; rfl, by rw [List.length_append]; exact hge, hH, ?_, ?_, fun k hk => ?_⟩
    · rw [Array.toArray_toList]
      exact heap_alloc_new w.drew _
    · have hzl : ∀ m, (Builtin.zeroCells (Value.bool false).cells m).toList.length = m := fun m => by
        rw [Array.length_toList, size_zeroCells]; exact Nat.mul_one m
      rw [Array.toList_append, List.length_append, hzl]
      show _ ≤ (olds ++ [Value.bool c]).length + _
      rw [List.length_append, hol]
      show _ ≤ xs.length + 1 + _
      omega
    · rw [List.length_append, List.length_singleton] at hk
      rw [Array.toList_append, List.getElem?_append_left (by show k < (olds ++ [Value.bool c]).length; rw [List.length_append, hol]; exact hk)]
      show (olds ++ [Value.bool c])[k]? = _
      by_cases hkl : k < xs.length
      · rw [List.getElem?_append_left (by omega), hoc k hkl, List.getElem_append_left hkl]
      · have : k = xs.length := by omega
        subst this
        rw [List.getElem?_append_right (by omega), hol, Nat.sub_self, List.getElem_concat_length rfl]
        rfl
  rcases hr with ⟨h1, h2, h3⟩ | ⟨b, e, vs, cap, h1, h2, h3, h4, h5, h6, h7⟩
  · subst h3
    exact grow none 0 [] h2 (by simp) rfl (fun k hk => by cases hk) (run_firstCells_none w.drew _ _ _ _)
  · by_cases hroom : xs.length + 1 ≤ cap
    · have hin : 0 + xs.length * 1 + [Value.bool c].length ≤ vs.length := by show 0 + xs.length * 1 + 1 ≤ _; omega
      have hap := run_append_at (w := w) 92 92 ty 4 1 u23 hi hs b 0 xs.length cap (.slice (some ⟨bn, 0, none⟩) 1 1) 1 [Value.bool c] hsrc hroom h5 hin
      refine ⟨_, some b, _, by rw [h2]; exact hap, ?_, by simp, fun b' hb' ho => setRow_other w b b' _ (fun e => ho (by rw [h1, e])), fun b' hb' => .inl (by rw [h1]; exact hb'), ⟨rfl, rfl, rfl, by first | exact Nat.le_refl _ | exact Nat.le_succ _ | (simp; done) | (simp; omega)⟩⟩
      refine .inr ⟨b, e, splice vs (0 + xs.length * 1) [Value.bool c], cap, rfl, by rw [List.length_append]; rfl, by rw [List.length_append]; exact hroom, h4, setRow_heap w b _ _ e _ h5, by rw [splice_length _ _ _ hin]; exact h6, fun k hk => ?_⟩
      rw [List.length_append, List.length_singleton] at hk
      rw [getElem?_splice _ _ _ _ hin, Nat.zero_add, Nat.mul_one]
      by_cases hkl : k < xs.length
      · rw [if_pos hkl, h7 k hkl, List.getElem_append_left hkl]
      · have : k = xs.length := by omega
        subst this
        rw [if_neg (by omega), if_pos (by show xs.length < xs.length + 1; omega), Nat.sub_self, List.getElem_concat_length rfl]
        rfl
    · refine grow (some ⟨b, 0, none⟩) cap (vs.take xs.length) h2 (by omega) (by rw [List.length_take]; omega) (fun k hk => by rw [List.getElem?_take, if_pos hk]; exact h7 k hk) ?_
      rw [hs]
      refine run_firstCells_some w.drew 1 _ ⟨b, 0, none⟩ _ _ _ (by rw [List.length_take]; omega) (fun j u hj => ?_)
      rw [addr_add rfl, show w.drew.cell? ⟨b, 0 + j, none⟩ = vs[0 + j]? from cell_of_block (w := w.drew) h5, Nat.zero_add]
      rw [List.getElem?_take] at hj
      split at hj
      · exact hj
      · cases hj
end Go.Proofs.Ytbapfiaglcllnaa.D.Rt
end

section
namespace Go.Proofs.Ytbapfiaglcllnaa.D.Rt
set_option maxRecDepth 10000
open Go Go.GD Go.Proofs
theorem sh11 : shape (ops20 11).toList = [(.fieldAddr 146 (.tmp 5) 2, some 45, [], true), (.load 144 (.tmp 45), some 46, [0], true), (.move (.tmp 6), some 47, [], true), (.fieldAddr 146 (.tmp 5) 2, some 48, [], true), (.load 144 (.tmp 48), some 49, [3], true),
    (.move (.tmp 6), some 50, [], true), (.indexAddr 144 (.tmp 49) (.tmp 50), some 51, [4, 5], true), (.load 92 (.tmp 51), some 52, [6], true), (.load 88 (.tmp 7), some 53, [], true), (.load 88 (.tmp 9), some 54, [], true),
    (.call { callee := .value (.func 78), args := #[.tmp 53, .tmp 54], argTypes := #[88, 88] }, some 55, [8, 9], true), (.buildSlice 92 1 #[(0, .tmp 55)], some 56, [10], true),
    (.call { callee := .builtin .append, args := #[.tmp 52, .tmp 56], argTypes := #[92, 92] }, some 57, [7, 11, 10], true), (.indexAddr 144 (.tmp 46) (.tmp 47), some 58, [1, 2, 0, 1, 2, 3, 4, 5, 6, 7, 8, 9, 10, 11, 12], true),
    (.store 92 (.tmp 58) (.tmp 57), none, [13, 12, 12, 0, 1, 2, 3, 4, 5, 6, 7, 8, 9, 10, 11, 12], true)] := by kernel_rfl
theorem len11 : (ops20 11).toList.length = 15 := by kernel_rfl
theorem back11 : ∀ j o, (ops20 11).toList[j]? = some o → ∀ e, e ∈ o.after.toList → Region.binds .any e = true → e.on < j := by
  have k : ((List.range 15).all fun j => match (ops20 11).toList[j]? with
    | some o => o.after.toList.all fun e => Nat.blt e.on j
    | none => true) = true := by kernel_rfl
  intro j o ho e he _
  have hj : j < 15 := by rw [← len11]; exact (List.getElem?_eq_some_iff.1 ho).1
  have := List.all_eq_true.1 k j (List.mem_range.2 hj)
  rw [ho] at this
  have := List.all_eq_true.1 this e he
  simpa [Nat.blt_eq] using this
theorem binds11 : ((ops20 11).toList.all fun o => o.after.toList.all fun e => Region.binds .any e) = true := by kernel_rfl
end Go.Proofs.Ytbapfiaglcllnaa.D.Rt
end

section
namespace Go.Proofs.Ytbapfiaglcllnaa.D.Rt
set_option maxRecDepth 10000
open Go Go.GD Go.Proofs
structure Spot where
  bs : Nat
  b4 : Nat
  n : Nat
  i : Nat
  h : Value
  o : Option Nat
  xs : List Bool
  va : Value
  vb : Value
  c : Bool
  H : Nat
def dst11 : Nat → Nat := fun j => [45, 46, 47, 48, 49, 50, 51, 52, 53, 54, 55, 56, 57, 58].getD j 0
theorem dst11_eq : ∀ j, j < 14 → dst11 j = 45 + j := by decide
def Fact11 (S : Spot) (w0 : World) : Nat → Value → World → Prop
  | 0, v, _ | 3, v, _ => v = .pointer (some ⟨S.bs, 2, none⟩)
  | 1, v, _ | 4, v, _ => v = .slice (some ⟨S.b4, 0, none⟩) S.n S.n
  | 2, v, _ | 5, v, _ => v = .int .i64 S.i
  | 6, v, _ | 13, v, _ => v = .pointer (some ⟨S.b4, S.i, none⟩)
  | 7, v, _ => v = S.h
  | 8, v, _ => v = S.va
  | 9, v, _ => v = S.vb
  | 10, v, _ => v = .bool S.c
  | 11, v, w => ∃ bn, v = .slice (some ⟨bn, 0, none⟩) 1 1 ∧ w0.heap.size ≤ bn ∧ w.heap[bn]? = some (.cells #[.bool S.c] 4 (0, 0))
  | 12, v, w => ∃ o', RowAt S.H w v o' (S.xs ++ [S.c]) ∧ ∀ b, o' = some b → S.o = some b ∨ w0.heap.size ≤ b
  | _, _, _ => True
structure Pre11 (S : Spot) (a0 : Act) (w0 : World) (D : Nat → Bool) (a : Act) (w : World) : Prop where
  sz : a.tmps.size = 66
  df : a.defers = a0.defers
  low : ∀ s, s < 45 → a.tmps.getD s undef = a0.tmps.getD s undef
  grow : w0.heap.size ≤ w.heap.size
  io : SameIO w0 w
  old : ∀ b, b < w0.heap.size → S.o ≠ some b → w.heap[b]? = w0.heap[b]?
  row : D 12 = false → ∀ b, S.o = some b → w.heap[b]? = w0.heap[b]?
  fa : ∀ j, j < 14 → D j = true → (j = 11 → D 12 = false) → Fact11 S w0 j (a.tmps.getD (dst11 j) undef) w
theorem Pre11.upd {S : Spot} {a0 : Act} {w0 : World} {D : Nat → Bool} {a : Act} {w w' : World} (h : Pre11 S a0 w0 D a w) {j : Nat} (hj : j < 14) (hD : D j = false) {v : Value}
    (hs : w.heap.size ≤ w'.heap.size) (hio : SameIO w w') (hold : ∀ b, b < w.heap.size → (j = 12 → S.o ≠ some b) → w'.heap[b]? = w.heap[b]?) (hrow : ∀ b, S.o = some b → b < w0.heap.size)
    (hf : Fact11 S w0 j v w') : Pre11 S a0 w0 (fun i => decide (i = j) || D i) (a.put (some (dst11 j)) v) w' := by
  have e := dst11_eq j hj
  have get := fun s => put_get (a := a) (d := dst11 j) (v := v) s (by rw [h.sz, e]; omega)
  have D' : ∀ k, k ≠ j → (decide (k = j) || D k) = D k := fun k hk => by simp [hk]
  refine ⟨?_, h.df, fun s hs' => ?_, Nat.le_trans h.grow hs, h.io.trans hio, fun b hb ho => ?_, fun h12 b hb => ?_, fun k hk hDk h11 => ?_⟩
  · show (a.tmps.setIfInBounds _ _).size = 66
    rw [Array.size_setIfInBounds]; exact h.sz
  · rw [get, if_neg (by omega)]; exact h.low s hs'
  · exact (hold b (Nat.lt_of_lt_of_le hb h.grow) (fun _ => ho)).trans (h.old b hb ho)
  · have hj12 : j ≠ 12 := fun e => by subst e; simp at h12
    rw [D' 12 (fun e => hj12 e.symm)] at h12
    exact (hold b (Nat.lt_of_lt_of_le (hrow b hb) h.grow) (fun e => absurd e hj12)).trans (h.row h12 b hb)
  · by_cases hkj : k = j
    · subst hkj
      rw [get, if_pos rfl]; exact hf
    · rw [D' k hkj] at hDk
      have e' := dst11_eq k hk
      rw [get, if_neg (by omega)]
      have hq : k = 11 → j ≠ 12 ∧ D 12 = false := fun hk11 => by
        have := h11 hk11
        simp only [Bool.or_eq_false_iff, decide_eq_false_iff_not] at this
        exact ⟨fun e => this.1 e.symm, this.2⟩
      have hf' := h.fa k hk hDk (fun hk11 => (hq hk11).2)
      revert hf'
      generalize a.tmps.getD (dst11 k) undef = u
      intro hf'
      match k, hk, hf' with
      | 0, _, hf' | 1, _, hf' | 2, _, hf' | 3, _, hf' | 4, _, hf' | 5, _, hf' | 6, _, hf' | 7, _, hf' | 8, _, hf' | 9, _, hf' | 10, _, hf' | 13, _, hf' => exact hf'
      | 11, _, ⟨bn, q1, q2, q3⟩ => exact ⟨bn, q1, q2, (hold bn (heap_lt q3) (fun e => absurd e (hq rfl).1)).trans q3⟩
      | 12, _, ⟨o', q1, q2⟩ =>
        refine ⟨o', q1.keep fun b hb hlt => hold b hlt (fun e => absurd e.symm hkj), q2⟩
end Go.Proofs.Ytbapfiaglcllnaa.D.Rt
end

section
namespace Go.Proofs.Ytbapfiaglcllnaa.D.Rt
set_option maxRecDepth 10000
open Go Go.GD Go.Proofs
theorem te_at (T s : Nat) (h : (findTE tab T).map (·.ty.size) = some s) : ∃ e, findTE tab T = some e ∧ e.ty.size = s := by
  cases hf : findTE tab T with
  | none => rw [hf] at h; cases h
  | some e => rw [hf] at h; exact ⟨e, rfl, Option.some.inj h⟩
theorem f47 : (Try.prog.underlying 146).map (fun d => match d with | .struct fs => (fs[2]?).map (fun f => (f.offset, f.type)) | _ => none) = some (some (2, 144)) := by kernel_rfl
theorem ex_fld2 (w : World) (b : Nat) : (Instr.fieldAt 146 (.pointer (some ⟨b, 0, none⟩)) 2).run Try.prog w = .ok (.pointer (some ⟨b, 2, none⟩)) w := by
  obtain ⟨e, he, hes⟩ := te_at 144 1 (by kernel_rfl)
  have hsz := (tabOK.find he).sizeOf w
  rw [hes] at hsz
  have k := f47
  cases hu : Try.prog.underlying 146 with
  | none => rw [hu] at k; cases k
  | some d =>
    rw [hu] at k
    cases d with
    | struct fs =>
      simp only [Option.map_some, Option.some.injEq] at k
      cases hf : fs[2]? with
      | none => rw [hf] at k; cases k
      | some f =>
        rw [hf] at k
        simp only [Option.map_some, Option.some.injEq, Prod.mk.injEq] at k
        have hsz' : (sizeOf f.type).run Try.prog w = .ok 1 w := by rw [k.2]; exact hsz
        simp [Instr.fieldAt, underlying, hu, hf, Instr.sureAddr, fieldPlace, hsz', addr_add, k.1]
    | _ => simp at k
theorem ex_idx (w : World) (b n i : Nat) (h : i < n) : (Instr.indexAt 144 (.slice (some ⟨b, 0, none⟩) n n) (.int .i64 i)).run Try.prog w = .ok (.pointer (some ⟨b, i, none⟩)) w := by
  have hu : (Go.underlying 144).run Try.prog w = .ok (TypeDesc.slice 92) w := by simp [Go.underlying]
  simp [Instr.indexAt, asIntOf, hu, h, addr_add]
theorem ex_load1 (T : Nat) (hT : (findTE tab T).map (fun e => (e.ty.size, e.ty.isAgg)) = some (1, false)) (w : World) (b o : Nat) (v : Value) (hc : w.cell? ⟨b, o, none⟩ = some v) : (Instr.loadAt T (.pointer (some ⟨b, o, none⟩))).run Try.prog w = .ok v w := by
  cases hf : findTE tab T with
  | none => rw [hf] at hT; cases hT
  | some e =>
    rw [hf] at hT
    simp only [Option.map_some, Option.some.injEq, Prod.mk.injEq] at hT
    have := loadVar_run (w := w) (b := b) (off := o) (tabOK.find hf) (cs := [v]) (by rw [hT.1]; rfl) (fun j hj => by
      have : j = 0 := by omega
      subst this
      exact hc)
    rw [show mkV e.ty [v] = v by unfold mkV; rw [hT.2]; rfl] at this
    simp [Instr.loadAt, Instr.sureAddr, this]
theorem ex_load37 (w : World) (b : Nat) (cs : List Value) (hl : cs.length = 4) (et : TypeId) (hc : w.heap[b]? = some (.cells cs.toArray et (0, 0))) : (Instr.loadAt 88 (.pointer (some ⟨b, 0, none⟩))).run Try.prog w = .ok (.agg cs.toArray) w := by
  have hT : (findTE tab 88).map (fun e => (e.ty.size, e.ty.isAgg)) = some (4, true) := by kernel_rfl
  cases hf : findTE tab 88 with
  | none => rw [hf] at hT; cases hT
  | some e =>
    rw [hf] at hT
    simp only [Option.map_some, Option.some.injEq, Prod.mk.injEq] at hT
    have := loadVar_run (w := w) (b := b) (off := 0) (tabOK.find hf) (cs := cs) (by rw [hT.1, hl]) (fun j hj => by rw [Nat.zero_add]; exact cell_of_block hc)
    rw [show mkV e.ty cs = .agg cs.toArray by unfold mkV; rw [hT.2]; rfl] at this
    simp [Instr.loadAt, Instr.sureAddr, this]
end Go.Proofs.Ytbapfiaglcllnaa.D.Rt
end

section
namespace Go.Proofs.Ytbapfiaglcllnaa.D.Rt
set_option maxRecDepth 10000
open Go Go.GD Go.Proofs
set_option maxHeartbeats 4000000 in
theorem reg11 (S : Spot) {a : Act} {w : World} {ba bb : Nat} (s6 r a4 b4s : List Value) (es e4 ea eb : TypeId) (hsz : a.tmps.size = 66) (t5 : a.tmps.getD 5 undef = .pointer (some ⟨S.bs, 0, none⟩)) (t6 : a.tmps.getD 6 undef = .int .i64 S.i)
    (t7 : a.tmps.getD 7 undef = .pointer (some ⟨ba, 0, none⟩)) (t9 : a.tmps.getD 9 undef = .pointer (some ⟨bb, 0, none⟩)) (hbs : w.heap[S.bs]? = some (.cells s6.toArray es (0, 0))) (h2 : s6[2]? = some (.slice (some ⟨S.b4, 0, none⟩) S.n S.n))
    (hb4 : w.heap[S.b4]? = some (.cells r.toArray e4 (0, 0))) (hi : S.i < S.n) (hri : r[S.i]? = some S.h) (hba : w.heap[ba]? = some (.cells a4.toArray ea (0, 0))) (hal : a4.length = 4) (hva : S.va = .agg a4.toArray)
    (hbb : w.heap[bb]? = some (.cells b4s.toArray eb (0, 0))) (hbl : b4s.length = 4) (hvb : S.vb = .agg b4s.toArray) (o1 : S.o ≠ some S.bs) (o2 : S.o ≠ some S.b4) (o3 : S.o ≠ some ba) (o4 : S.o ≠ some bb)
    (hrow : RowAt S.H w S.h S.o S.xs) (hH : S.H ≤ w.heap.size) (hx : S.xs.length ≤ 1000)
    (hcl : ∀ w', Ext w w' → Calls Try.prog 78 #[S.va, S.vb] w' fun ex w'' => ex = .returned (.bool S.c) ∧ Ext w' w'') {Q : Exit → Act → World → Prop}
    (hQ : ∀ a' w' h' o', a'.tmps.size = 66 → a'.defers = a.defers → (∀ s, s < 45 → a'.tmps.getD s undef = a.tmps.getD s undef) → w.heap.size ≤ w'.heap.size → SameIO w w' → (∀ b, b < w.heap.size → b ≠ S.b4 → S.o ≠ some b → w'.heap[b]? = w.heap[b]?) →
      w'.heap[S.b4]? = some (.cells (r.set S.i h').toArray e4 (0, 0)) → RowAt S.H w' h' o' (S.xs ++ [S.c]) → (∀ b, o' = some b → S.o = some b ∨ w.heap.size ≤ b) → Q .normal a' w') : (Code.region 11 (ops20 11) true).wp Try.prog Q a w := by
  have hrowlt : ∀ b, S.o = some b → b < w.heap.size := fun b hb => by
    rcases hrow with ⟨h, _⟩ | ⟨b', e, vs, cap, q1, q2, q3, q4, q5, _⟩
    · rw [h] at hb; cases hb
    · rw [q1] at hb; injection hb with hb; subst hb; exact heap_lt q5
  have all14 : ∀ j, j < 14 → j ∈ [13, 12, 12, 0, 1, 2, 3, 4, 5, 6, 7, 8, 9, 10, 11, 12] := by decide
  refine region_inv (Checked.mixed Try.checked) back11 (fun D a' w' => (D 14 = false ∧ Pre11 S a w D a' w') ∨ (D 14 = true ∧ Q .normal a' w')) (fun D j o a' w' ho hD hedge hdown hI => ?_) (fun D a' w' hall hI => ?_) ?_
  · have hj : j < 15 := by rw [← len11]; exact (List.getElem?_eq_some_iff.1 ho).1
    have hbind : ∀ {k : Nat} {o : Oper}, (ops20 11).toList[k]? = some o → ∀ e, e ∈ o.after.toList → Region.binds .any e = true := fun hk e he => List.all_eq_true.1 (List.all_eq_true.1 binds11 _ (List.mem_of_getElem? hk)) e he
    have down : ∀ k o, D k = true → (ops20 11).toList[k]? = some o → ∀ i, i ∈ o.after.toList.map (·.on) → D i = true := fun k o hk ho i hi => by
      obtain ⟨ed, he, rfl⟩ := List.mem_map.1 hi
      exact hdown k o hk ho ed he (hbind ho ed he)
    have at_ : ∀ k, k < 15 → ∃ o, (ops20 11).toList[k]? = some o := fun k hk => ⟨_, List.getElem?_eq_getElem (by rw [len11]; exact hk)⟩
    have hpre : D 14 = false ∧ Pre11 S a w D a' w' := by
      rcases hI with h | ⟨h14, _⟩
      · exact h
      · exfalso
        obtain ⟨o14, ho14⟩ := at_ 14 (by decide)
        have e := shape_at ho14
        rw [sh11] at e
        simp only [List.getElem?_cons_succ, List.getElem?_cons_zero, Option.some.injEq, Prod.mk.injEq] at e
        by_cases h : j = 14
        · subst h; rw [h14] at hD; cases hD
        · have := down 14 o14 h14 ho14 j (by rw [← e.2.2.1]; exact all14 j (by omega))
          rw [this] at hD; cases hD
    clear hI
    obtain ⟨h14, hp⟩ := hpre
    have hed : ∀ k, k ∈ o.after.toList.map (·.on) → D k = true := fun k hk => by
      obtain ⟨ed, he, rfl⟩ := List.mem_map.1 hk
      exact hedge ed he (hbind ho ed he)
    have e := shape_at ho
    rw [sh11] at e
    have evt : ∀ k, a'.eval (.tmp k) = a'.tmps.getD k undef := fun _ => rfl
    have simple : ∀ (v : Value) (w2 : World), j < 14 → o.dst = some (dst11 j) → o.guard.isNone = true → (execOp a'.eval o).run Try.prog w' = .ok (.value v) w2 → w'.heap.size ≤ w2.heap.size → SameIO w' w2 →
        (∀ b, b < w'.heap.size → (j = 12 → S.o ≠ some b) → w2.heap[b]? = w'.heap[b]?) → Fact11 S w j v w2 →
        o.guard = none ∧ o.wp Try.prog a' w' (fun a2 w2 => ((decide (14 = j) || D 14) = false ∧ Pre11 S a w (fun i => decide (i = j) || D i) a2 w2) ∨ ((decide (14 = j) || D 14) = true ∧ Q .normal a2 w2)) Q := by
      intro v w2 q1 q3 q4 q5 q6 q7 q8 q9
      refine ⟨by simpa using q4, wp_val q5 (.inl ⟨by simp [h14]; omega, ?_⟩)⟩
      rw [q3]
      exact hp.upd q1 hD q6 q7 q8 hrowlt q9
    have pure : ∀ (v : Value), j < 14 → o.dst = some (dst11 j) → o.guard.isNone = true → (execOp a'.eval o).run Try.prog w' = .ok (.value v) w' → Fact11 S w j v w' →
        o.guard = none ∧ o.wp Try.prog a' w' (fun a2 w2 => ((decide (14 = j) || D 14) = false ∧ Pre11 S a w (fun i => decide (i = j) || D i) a2 w2) ∨ ((decide (14 = j) || D 14) = true ∧ Q .normal a2 w2)) Q :=
      fun v q1 q2 q3 q4 q5 => simple v w' q1 q2 q3 q4 (Nat.le_refl _) (.refl _) (fun _ _ _ => rfl) q5
    have k5 : a'.eval (.tmp 5) = .pointer (some ⟨S.bs, 0, none⟩) := (hp.low 5 (by decide)).trans t5
    have k6 : a'.eval (.tmp 6) = .int .i64 S.i := (hp.low 6 (by decide)).trans t6
    have k7 : a'.eval (.tmp 7) = .pointer (some ⟨ba, 0, none⟩) := (hp.low 7 (by decide)).trans t7
    have k9 : a'.eval (.tmp 9) = .pointer (some ⟨bb, 0, none⟩) := (hp.low 9 (by decide)).trans t9
    have g5 := (hp.old S.bs (heap_lt hbs) o1).trans hbs
    have g4 := (hp.old S.b4 (heap_lt hb4) o2).trans hb4
    have ga := (hp.old ba (heap_lt hba) o3).trans hba
    have gb := (hp.old bb (heap_lt hbb) o4).trans hbb
    have hcase : j = 0 ∨ j = 1 ∨ j = 2 ∨ j = 3 ∨ j = 4 ∨ j = 5 ∨ j = 6 ∨ j = 7 ∨ j = 8 ∨ j = 9 ∨ j = 10 ∨ j = 11 ∨ j = 12 ∨ j = 13 ∨ j = 14 := by omega
    rcases hcase with rfl | rfl | rfl | rfl | rfl | rfl | rfl | rfl | rfl | rfl | rfl | rfl | rfl | rfl | rfl <;> simp only [List.getElem?_cons_succ, List.getElem?_cons_zero, Option.some.injEq, Prod.mk.injEq] at e <;> obtain ⟨e1, e2, e3, e4⟩ := e
    · exact pure _ (by decide) e2.symm e4.symm (by simp [execOp, ← e1, k5, ex_fld2]) rfl
    · have k45 : a'.eval (.tmp 45) = .pointer (some ⟨S.bs, 2, none⟩) := hp.fa 0 (by decide) (hed 0 (by rw [← e3]; simp)) (fun h => by cases h)
      exact pure _ (by decide) e2.symm e4.symm (by simp [execOp, ← e1, k45, ex_load1 144 (by kernel_rfl) w' S.bs 2 _ ((cell_of_block g5).trans h2)]) rfl
    · exact pure _ (by decide) e2.symm e4.symm (by simp [execOp, ← e1, k6]) rfl
    · exact pure _ (by decide) e2.symm e4.symm (by simp [execOp, ← e1, k5, ex_fld2]) rfl
    · have k48 : a'.eval (.tmp 48) = .pointer (some ⟨S.bs, 2, none⟩) := hp.fa 3 (by decide) (hed 3 (by rw [← e3]; simp)) (fun h => by cases h)
      exact pure _ (by decide) e2.symm e4.symm (by simp [execOp, ← e1, k48, ex_load1 144 (by kernel_rfl) w' S.bs 2 _ ((cell_of_block g5).trans h2)]) rfl
    · exact pure _ (by decide) e2.symm e4.symm (by simp [execOp, ← e1, k6]) rfl
    · have k49 : a'.eval (.tmp 49) = .slice (some ⟨S.b4, 0, none⟩) S.n S.n := hp.fa 4 (by decide) (hed 4 (by rw [← e3]; simp)) (fun h => by cases h)
      have k50 : a'.eval (.tmp 50) = .int .i64 S.i := hp.fa 5 (by decide) (hed 5 (by rw [← e3]; simp)) (fun h => by cases h)
      exact pure _ (by decide) e2.symm e4.symm (by simp [execOp, ← e1, k49, k50, ex_idx w' S.b4 S.n S.i hi]) rfl
    · have k51 : a'.eval (.tmp 51) = .pointer (some ⟨S.b4, S.i, none⟩) := hp.fa 6 (by decide) (hed 6 (by rw [← e3]; simp)) (fun h => by cases h)
      exact pure _ (by decide) e2.symm e4.symm (by simp [execOp, ← e1, k51, ex_load1 92 (by kernel_rfl) w' S.b4 S.i _ ((cell_of_block g4).trans hri)]) rfl
    · exact pure _ (by decide) e2.symm e4.symm (by simp [execOp, ← e1, k7, ex_load37 w' ba a4 hal ea ga]) hva.symm
    · exact pure _ (by decide) e2.symm e4.symm (by simp [execOp, ← e1, k9, ex_load37 w' bb b4s hbl eb gb]) hvb.symm
    · have k53 : a'.eval (.tmp 53) = S.va := hp.fa 8 (by decide) (hed 8 (by rw [← e3]; simp)) (fun h => by cases h)
      have k54 : a'.eval (.tmp 54) = S.vb := hp.fa 9 (by decide) (hed 9 (by rw [← e3]; simp)) (fun h => by cases h)
      have kf : a'.eval (.func 78) = .func (.func 78) #[] #[] := rfl
      have d12 : D 12 = false := by
        cases h : D 12 with
        | false => rfl
        | true =>
          obtain ⟨o12, ho12⟩ := at_ 12 (by decide)
          have e := shape_at ho12
          rw [sh11] at e
          simp only [List.getElem?_cons_succ, List.getElem?_cons_zero, Option.some.injEq, Prod.mk.injEq] at e
          have := down 12 o12 h ho12 10 (by rw [← e.2.2.1]; simp)
          rw [this] at hD; cases hD
      have hext : Ext w w' := ⟨hp.grow, fun b hb => by
        by_cases h : S.o = some b
        · exact hp.row d12 b h
        · exact hp.old b hb h, hp.io⟩
      have hex : (execOp a'.eval o).run Try.prog w' = .ok (.enter 78 #[S.va, S.vb]) w' := by
        simp [execOp, ← e1, resolve, Deferred.ofValue, invoke, kf, k53, k54, k78.run]
      refine ⟨by simpa using e4.symm, ?_⟩
      unfold Oper.wp
      rw [hex, Oper.upon_enter]
      refine (hcl w' hext).mono fun ex w'' hpost => ?_
      obtain ⟨rfl, hx2⟩ := hpost
      refine .inl ⟨by simp [h14], ?_⟩
      rw [← e2]
      exact hp.upd (by decide) hD hx2.1 hx2.2.2 (fun b hb _ => hx2.2.1 b hb) hrowlt rfl
    · have k55 : a'.eval (.tmp 55) = .bool S.c := hp.fa 10 (by decide) (hed 10 (by rw [← e3]; simp)) (fun h => by cases h)
      obtain ⟨te, hte, hes⟩ := te_at 4 1 (by kernel_rfl)
      have hsz4 := (tabOK.find hte).sizeOf w'
      rw [hes] at hsz4
      obtain ⟨i4', hi4, hz4, _, _⟩ := info_at i4
      have hzv : (zeroValue 4).run Try.prog w' = .ok (.bool false) w' := by simp [zeroValue, Go.typeInfo, hi4, hz4]
      have hrun := run_buildSlice' (w := w') (P := Try.prog) (T := 92) (n := 1) (el := 4) (size := 1) (zv := .bool false) (parts := #[(0, .bool S.c)]) (final := #[.bool S.c]) u23 hsz4 hzv (by decide) (fun init hi => by
        match init, hi with
        | ⟨[x]⟩, _ => rfl)
      exact simple (.slice (some ⟨w'.heap.size, 0, none⟩) 1 1) (w'.alloc (.cells #[.bool S.c] 4 (0, 0))) (by decide) e2.symm e4.symm (by simp [execOp, ← e1, k55, hrun]) (by rw [World.size_alloc]; omega) ⟨rfl, rfl, rfl, by first | exact Nat.le_refl _ | exact Nat.le_succ _ | (simp; done) | (simp; omega)⟩ (fun b hb _ => heap_alloc_old w' _ hb) ⟨w'.heap.size, rfl, hp.grow, heap_alloc_new w' _⟩
    · have k52 : a'.eval (.tmp 52) = S.h := hp.fa 7 (by decide) (hed 7 (by rw [← e3]; simp)) (fun h => by cases h)
      obtain ⟨bn, q1, q2, q3⟩ := hp.fa 11 (by decide) (hed 11 (by rw [← e3]; simp)) (fun _ => hD)
      have k56 : a'.eval (.tmp 56) = .slice (some ⟨bn, 0, none⟩) 1 1 := q1
      obtain ⟨h', o', w2, r1, r2, r3, r4, r5, r6⟩ := row_append w' S.h S.H S.o S.xs (hrow.keep fun b hb _ => hp.row hD b hb) (Nat.le_trans hH hp.grow) hx S.c bn 4 q3 o.type
      exact simple h' w2 (by decide) e2.symm e4.symm (by simp [execOp, ← e1, resolve, invoke, builtin, k52, k56, r1]) r3 r6 (fun b hb hne => r4 b hb (hne rfl)) ⟨o', r2, fun b hb => (r5 b hb).imp (fun h => h) (fun h => Nat.le_trans hp.grow h)⟩
    · have k46 : a'.eval (.tmp 46) = .slice (some ⟨S.b4, 0, none⟩) S.n S.n := hp.fa 1 (by decide) (hed 1 (by rw [← e3]; simp)) (fun h => by cases h)
      have k47 : a'.eval (.tmp 47) = .int .i64 S.i := hp.fa 2 (by decide) (hed 2 (by rw [← e3]; simp)) (fun h => by cases h)
      exact pure _ (by decide) e2.symm e4.symm (by simp [execOp, ← e1, k46, k47, ex_idx w' S.b4 S.n S.i hi]) rfl
    · have dd : ∀ k, k < 14 → D k = true := fun k hk => hed k (by rw [← e3]; exact all14 k hk)
      have k58 : a'.eval (.tmp 58) = .pointer (some ⟨S.b4, S.i, none⟩) := hp.fa 13 (by decide) (dd 13 (by decide)) (fun h => by cases h)
      obtain ⟨o', r1, r2⟩ := hp.fa 12 (by decide) (dd 12 (by decide)) (fun h => by cases h)
      obtain ⟨h', hh'⟩ : ∃ h', a'.tmps.getD 57 undef = h' := ⟨_, rfl⟩
      have k57 : a'.eval (.tmp 57) = h' := hh'
      have r1 : RowAt S.H w' h' o' (S.xs ++ [S.c]) := hh' ▸ r1
      have hcell : h'.cells = #[h'] ∧ h'.oneCell' = true := by
        rcases r1 with ⟨_, q, _⟩ | ⟨_, _, _, _, _, q, _⟩ <;> rw [q] <;> exact ⟨rfl, rfl⟩
      have hil : S.i < r.length := by
        rcases Nat.lt_or_ge S.i r.length with h | h
        · exact h
        · rw [List.getElem?_eq_none h] at hri; cases hri
      obtain ⟨te, hte, hes⟩ := te_at 92 1 (by kernel_rfl)
      have hst := storeVar_run (P := Try.prog) (tab := tab) (T := 92) (e := te) (b := S.b4) (off := S.i) (w := w') (cs0 := r) (cs := [h']) (v := h') (tabOK.find hte) hcell.1 (by rw [hes]; rfl) (fun v hv => by
        rw [List.mem_singleton.1 hv]; exact hcell.2) g4 (by show S.i + 1 ≤ _; omega)
      have hsp : splice r S.i [h'] = r.set S.i h' := by
        rw [List.set_eq_take_append_cons_drop, if_pos hil]
        unfold splice
        rw [List.append_assoc]; rfl
      rw [hsp] at hst
      have hne : ∀ b, o' = some b → b ≠ S.b4 := fun b hb e => by
        rcases r2 b hb with h | h
        · exact o2 (by rw [h, e])
        · have := heap_lt hb4; omega
      refine ⟨by simpa using e4.symm, wp_skip (w' := w'.setRow S.b4 (r.set S.i h').toArray) (by simp [execOp, ← e1, k58, k57, Instr.storeAt, Instr.sureAddr, hst]) (.inr ⟨by simp, ?_⟩)⟩
      rw [← e2]
      refine hQ a' _ h' o' hp.sz hp.df hp.low (by rw [setRow_size]; exact hp.grow) (hp.io.trans ⟨rfl, rfl, rfl, by first | exact Nat.le_refl _ | exact Nat.le_succ _ | (simp; done) | (simp; omega)⟩) (fun b hb hb4' ho => (setRow_other w' S.b4 b _ hb4').trans (hp.old b hb ho)) (setRow_heap w' S.b4 _ _ _ _ g4) (r1.keep fun b hb _ => setRow_other w' S.b4 b _ (hne b hb)) r2
  · rcases hI with ⟨h13, _⟩ | ⟨_, hF⟩
    · rw [hall 14 (by rw [← Array.length_toList, len11]; decide)] at h13; cases h13
    · exact hF
  · exact .inl ⟨rfl, hsz, rfl, fun _ _ => rfl, Nat.le_refl _, ⟨rfl, rfl, rfl, by first | exact Nat.le_refl _ | exact Nat.le_succ _ | (simp; done) | (simp; omega)⟩, fun _ _ _ => rfl, fun _ _ _ => rfl, fun _ _ h => by cases h⟩
end Go.Proofs.Ytbapfiaglcllnaa.D.Rt
end

section
namespace Go.Proofs.Ytbapfiaglcllnaa.D.Rt
set_option maxRecDepth 10000
open Go Go.GD Go.Proofs
theorem sh4 : shg (ops20 4).toList = [(.move (.tmp 0), some 26, none), (.call { callee := .builtin .len, args := #[.tmp 26], argTypes := #[89] }, some 27, none), (.move (.const (.int .i64 0)), some 28, none)] := by kernel_rfl
theorem sh5 : shg (ops20 5).toList = [(.binOp .lss 3 (.tmp 28) (.tmp 27) 3, some 29, none)] := by kernel_rfl
theorem sh6 : shg (ops20 6).toList = [(.move (.tmp 28), some 30, none), (.indexAddr 89 (.tmp 26) (.tmp 28), some 31, none), (.load 88 (.tmp 31), some 32, none), (.alloc 88, some 7, none), (.assign (.tmp 30), some 6, none), (.store 88 (.tmp 7) (.tmp 32), none, none)] := by kernel_rfl
theorem sh7 : shg (ops20 7).toList = [(.fieldAddr 146 (.tmp 5) 5, some 33, none), (.load 3 (.tmp 33), some 34, none), (.fieldAddr 88 (.tmp 7) 1, some 35, none), (.load 3 (.tmp 35), some 36, none), (.binOp .add 3 (.tmp 34) (.tmp 36) 3, some 37, none),
    (.fieldAddr 146 (.tmp 5) 5, some 38, none), (.store 3 (.tmp 38) (.tmp 37), none, none)] := by kernel_rfl
theorem sh8 : shg (ops20 8).toList = [(.move (.tmp 0), some 39, none), (.call { callee := .builtin .len, args := #[.tmp 39], argTypes := #[89] }, some 40, none), (.move (.const (.int .i64 0)), some 41, none)] := by kernel_rfl
theorem sh9 : shg (ops20 9).toList = [(.binOp .lss 3 (.tmp 41) (.tmp 40) 3, some 42, none)] := by kernel_rfl
theorem sh10 : shg (ops20 10).toList = [(.indexAddr 89 (.tmp 39) (.tmp 41), some 43, none), (.load 88 (.tmp 43), some 44, none), (.alloc 88, some 9, none), (.store 88 (.tmp 9) (.tmp 44), none, none)] := by kernel_rfl
theorem sh12 : shg (ops20 12).toList = [(.binOp .add 3 (.tmp 41) (.const (.int .i64 1)) 3, some 59, none), (.move (.tmp 59), some 41, none)] := by kernel_rfl
theorem sh13 : shg (ops20 13).toList = [(.binOp .add 3 (.tmp 28) (.const (.int .i64 1)) 3, some 60, none), (.move (.tmp 60), some 28, none)] := by kernel_rfl
theorem sh14 : shg (ops20 14).toList = [(.move (.tmp 0), some 61, none), (.call { callee := .builtin .len, args := #[.tmp 61], argTypes := #[89] }, some 62, none),
    (.call { callee := .value (.func 79), args := #[.tmp 5, .tmp 62, .const (.int .i64 0), .const (.int .i64 0)], argTypes := #[146, 3, 3, 3] }, some 63, none)] := by kernel_rfl
theorem sh15 : shg (ops20 15).toList = [(.fieldAddr 146 (.tmp 5) 4, some 64, none), (.load 90 (.tmp 64), some 65, none), (.assign (.tmp 65), some 4, none)] := by kernel_rfl
theorem ex_fld (S k off T s : Nat) (hf : (Try.prog.underlying S).map (fun d => match d with | .struct fs => (fs[k]?).map (fun f => (f.offset, f.type)) | _ => none) = some (some (off, T)))
    (hT : (findTE tab T).map (·.ty.size) = some s) (hs0 : s ≠ 0) (w : World) (b : Nat) : (Instr.fieldAt S (.pointer (some ⟨b, 0, none⟩)) k).run Try.prog w = .ok (.pointer (some ⟨b, off, none⟩)) w := by
  obtain ⟨e, he, hes⟩ := te_at T s hT
  have hsz := (tabOK.find he).sizeOf w
  rw [hes] at hsz
  cases hu : Try.prog.underlying S with
  | none => rw [hu] at hf; cases hf
  | some d =>
    rw [hu] at hf
    cases d with
    | struct fs =>
      simp only [Option.map_some, Option.some.injEq] at hf
      cases hfk : fs[k]? with
      | none => rw [hfk] at hf; cases hf
      | some f =>
        rw [hfk] at hf
        simp only [Option.map_some, Option.some.injEq, Prod.mk.injEq] at hf
        have hsz' : (sizeOf f.type).run Try.prog w = .ok s w := by rw [hf.2]; exact hsz
        simp [Instr.fieldAt, underlying, hu, hfk, Instr.sureAddr, fieldPlace, hsz', addr_add, hf.1, hs0]
    | _ => simp at hf
theorem ex_idxT (w : World) (ad : Addr) (hsp : ad.spot = none) (n cl i : Nat) (h : i < n) : (Instr.indexAt 89 (.slice (some ad) n cl) (.int .i64 i)).run Try.prog w = .ok (.pointer (some ⟨ad.block, ad.off + i * 4, none⟩)) w := by
  have hu : (Go.underlying 89).run Try.prog w = .ok (TypeDesc.slice 88) w := by simp [Go.underlying]
  obtain ⟨e, he, hes⟩ := te_at 88 4 (by kernel_rfl)
  have hsz := (tabOK.find he).sizeOf w
  rw [hes] at hsz
  simp [Instr.indexAt, asIntOf, hu, h, addr_add hsp]
theorem ex_load37o (w : World) (b off : Nat) (cs : List Value) (hl : cs.length = 4) (hc : ∀ j, j < 4 → w.cell? ⟨b, off + j, none⟩ = cs[j]?) : (Instr.loadAt 88 (.pointer (some ⟨b, off, none⟩))).run Try.prog w = .ok (.agg cs.toArray) w := by
  have hT : (findTE tab 88).map (fun e => (e.ty.size, e.ty.isAgg)) = some (4, true) := by kernel_rfl
  cases hf : findTE tab 88 with
  | none => rw [hf] at hT; cases hT
  | some e =>
    rw [hf] at hT
    simp only [Option.map_some, Option.some.injEq, Prod.mk.injEq] at hT
    have := loadVar_run (w := w) (b := b) (off := off) (tabOK.find hf) (cs := cs) (by rw [hT.1, hl]) (fun j hj => hc j (by rw [← hT.1]; exact hj))
    rw [show mkV e.ty cs = .agg cs.toArray by unfold mkV; rw [hT.2]; rfl] at this
    simp [Instr.loadAt, Instr.sureAddr, this]
def zt37 : Array Value := #[.int .i64 0, .int .i64 0, .bool false, .slice none 0 0]
theorem i37 : (Try.prog.info? 88).map (fun i => (i.zero, i.size, i.bytes)) = some (some (Value.agg zt37), 4, 48) := by kernel_rfl
theorem ex_alloc37 (w : World) : (Instr.alloc 88 true (.tuple #[])).run Try.prog w = .ok (.pointer (some ⟨w.heap.size, 0, none⟩)) (w.alloc (.cells zt37 88 (0, 0))) := by
  obtain ⟨i, hi, hz, hs, hb⟩ := info_at i37
  have hzv : (zeroValue 88).run Try.prog w = .ok (.agg zt37) w := by simp [zeroValue, Go.typeInfo, hi, hz]
  simp [Instr.alloc, hzv, newVar, newRow]; rfl
theorem ex_store (T s : Nat) (hT : (findTE tab T).map (·.ty.size) = some s) (w : World) (b off : Nat) (cs0 cs : List Value) (et : TypeId) (v : Value) (hv : v.cells = cs.toArray) (hl : cs.length = s) (h1 : ∀ v, v ∈ cs → v.oneCell' = true)
    (hb : w.heap[b]? = some (.cells cs0.toArray et (0, 0))) (hfit : off + cs.length ≤ cs0.length) : (Instr.storeAt T (.pointer (some ⟨b, off, none⟩)) v).run Try.prog w = .ok () (w.setRow b (splice cs0 off cs).toArray) := by
  obtain ⟨e, he, hes⟩ := te_at T s hT
  have := storeVar_run (P := Try.prog) (tab := tab) (T := T) (e := e) (b := b) (off := off) (w := w) (cs0 := cs0) (et := et) (cs := cs) (v := v) (tabOK.find he) hv (by rw [hes]; exact hl) h1 hb hfit
  simp [Instr.storeAt, Instr.sureAddr, this]
end Go.Proofs.Ytbapfiaglcllnaa.D.Rt
end

section
namespace Go.Proofs.Ytbapfiaglcllnaa.D.Rt
set_option maxRecDepth 10000
open Go Go.GD Go.Proofs
structure Cx where
  w0 : World
  al : Option Addr
  n : Nat
  cl : Nat
  vw : Value
  bs : Nat
  b4 : Nat
  b7 : Nat
  b10 : Nat
  H : Nat
  tk : Nat → List Value
  sec : Nat → Int
  c : Nat → Nat → Bool
abbrev Cx.vl (C : Cx) : Value := .slice C.al C.n C.cl
def Old (w0 w : World) : Prop := w0.heap.size ≤ w.heap.size ∧ (∀ b, b < w0.heap.size → w.heap[b]? = w0.heap[b]?) ∧ SameIO w0 w
structure Cx.OK (C : Cx) : Prop where
  hn : C.n ≤ 1000
  task : ∀ i, i < C.n → ∃ ad : Addr, C.al = some ad ∧ ad.spot = none ∧ ad.block < C.w0.heap.size ∧ (C.tk i).length = 4 ∧ (∀ j, j < 4 → C.w0.cell? ⟨ad.block, ad.off + i * 4 + j, none⟩ = (C.tk i)[j]?) ∧
    (∀ v, v ∈ C.tk i → v.oneCell' = true) ∧ (C.tk i)[1]? = some (.int .i64 (C.sec i))
  lo : C.w0.heap.size ≤ C.bs ∧ C.w0.heap.size ≤ C.b4 ∧ C.w0.heap.size ≤ C.b7 ∧ C.w0.heap.size ≤ C.b10
  hi : C.bs < C.H ∧ C.b4 < C.H ∧ C.b7 < C.H ∧ C.b10 < C.H
  ne : C.bs ≠ C.b4 ∧ C.bs ≠ C.b7 ∧ C.bs ≠ C.b10 ∧ C.b4 ≠ C.b7 ∧ C.b4 ≠ C.b10 ∧ C.b7 ≠ C.b10
  clash : ∀ i j, i < C.n → j < C.n → ∀ w', Old C.w0 w' → Calls Try.prog 78 #[.agg (C.tk i).toArray, .agg (C.tk j).toArray] w' fun ex w'' => ex = .returned (.bool (C.c i j)) ∧ Ext w' w''
def Cx.cells (C : Cx) (e : Int) : List Value := [C.vl, C.vw, .slice (some ⟨C.b4, 0, none⟩) C.n C.n, .slice (some ⟨C.b7, 0, none⟩) C.n C.n, .slice (some ⟨C.b10, 0, none⟩) C.n C.n, .int .i64 e]
structure WI (C : Cx) (e : Int) (o : Nat → Option Nat) (xs : Nat → List Bool) (w : World) : Prop where
  sz : C.H ≤ w.heap.size
  old : Old C.w0 w
  s : w.heap[C.bs]? = some (.cells (C.cells e).toArray 146 (0, 0))
  p7 : w.heap[C.b7]? = some (.cells (madeCells z34.cells (C.n * 4)) 186 (0, 0))
  p10 : w.heap[C.b10]? = some (.cells (madeCells z34.cells (C.n * 4)) 186 (0, 0))
  m : ∃ r : List Value, r.length = C.n ∧ w.heap[C.b4]? = some (.cells r.toArray 92 (0, 0)) ∧ ∀ j, j < C.n → ∃ h, r[j]? = some h ∧ RowAt C.H w h (o j) (xs j)
  dj : ∀ j k b, j < C.n → k < C.n → j ≠ k → o j = some b → o k ≠ some b
theorem RowAt.lt {H : Nat} {w : World} {h : Value} {o : Option Nat} {xs : List Bool} (hr : RowAt H w h o xs) {b : Nat} (hb : o = some b) : H ≤ b ∧ b < w.heap.size := by
  rcases hr with ⟨h1, _⟩ | ⟨b', e, vs, cap, h1, h2, h3, h4, h5, _⟩
  · rw [h1] at hb; cases hb
  · rw [h1] at hb; injection hb with hb; subst hb; exact ⟨h4, heap_lt h5⟩
theorem WI.rows {C : Cx} {e : Int} {o : Nat → Option Nat} {xs : Nat → List Bool} {w : World} (h : WI C e o xs w) {j b : Nat} (hj : j < C.n) (hb : o j = some b) : C.H ≤ b ∧ b < w.heap.size := by
  obtain ⟨r, _, _, h3⟩ := h.m
  obtain ⟨v, _, hv⟩ := h3 j hj
  exact hv.lt hb
theorem Old.trans {a b c : World} (h : Old a b) (k : Ext b c) : Old a c := ⟨Nat.le_trans h.1 k.1, fun x hx => (k.2.1 x (Nat.lt_of_lt_of_le hx h.1)).trans (h.2.1 x hx), h.2.2.trans k.2.2⟩
theorem WI.ext {C : Cx} {e : Int} {o : Nat → Option Nat} {xs : Nat → List Bool} {w w' : World} (hC : C.OK) (h : WI C e o xs w) (k : Ext w w') : WI C e o xs w' := by
  have lt : ∀ b, b < C.H → w'.heap[b]? = w.heap[b]? := fun b hb => k.2.1 b (Nat.lt_of_lt_of_le hb h.sz)
  obtain ⟨r, h1, h2, h3⟩ := h.m
  refine ⟨Nat.le_trans h.sz k.1, h.old.trans k, (lt _ hC.hi.1).trans h.s, (lt _ hC.hi.2.2.1).trans h.p7, (lt _ hC.hi.2.2.2).trans h.p10, ⟨r, h1, (lt _ hC.hi.2.1).trans h2, fun j hj => ?_⟩, h.dj⟩
  obtain ⟨v, hv, hr⟩ := h3 j hj
  exact ⟨v, hv, hr.keep fun b _ hb => k.2.1 b hb⟩
theorem WI.xs {C : Cx} {e : Int} {o : Nat → Option Nat} {xs xs' : Nat → List Bool} {w : World} (h : WI C e o xs w) (k : ∀ j, j < C.n → xs' j = xs j) : WI C e o xs' w := by
  obtain ⟨r, h1, h2, h3⟩ := h.m
  refine ⟨h.sz, h.old, h.s, h.p7, h.p10, ⟨r, h1, h2, fun j hj => ?_⟩, h.dj⟩
  rw [k j hj]; exact h3 j hj
theorem Ext.setFresh {w w1 : World} (h : Ext w w1) {b : Nat} (hb : w.heap.size ≤ b) (cs : Array Value) : Ext w (w1.setRow b cs) :=
  ⟨by rw [setRow_size]; exact h.1, fun c hc => (setRow_other w1 b c _ (by omega)).trans (h.2.1 c hc), h.2.2.trans ⟨rfl, rfl, rfl, by first | exact Nat.le_refl _ | exact Nat.le_succ _ | (simp; done) | (simp; omega)⟩⟩
def Cx.row (C : Cx) (k j : Nat) : List Bool := (List.range j).map (C.c k)
def Cx.at (C : Cx) (i j k : Nat) : List Bool := if k = i then C.row i j else if k < i then C.row k C.n else []
structure FI (C : Cx) (i j ba : Nat) (f : Nat → Value) : Prop where
  t0 : f 0 = C.vl
  t5 : f 5 = .pointer (some ⟨C.bs, 0, none⟩)
  t6 : f 6 = .int .i64 i
  t7 : f 7 = .pointer (some ⟨ba, 0, none⟩)
  t26 : f 26 = C.vl
  t27 : f 27 = .int .i64 C.n
  t28 : f 28 = .int .i64 i
  t39 : f 39 = C.vl
  t40 : f 40 = .int .i64 C.n
  t41 : f 41 = .int .i64 j
noncomputable def bodyIn : Code := .seq (.region 9 (ops20 9) false) (.seq (.cond (.tmp 42) .skip (.exit 2)) (.seq (.block 3 (.seq (.region 10 (ops20 10) false) (.region 11 (ops20 11) true))) (.region 12 (ops20 12) false)))
theorem read_task {C : Cx} (hC : C.OK) {i : Nat} (hi : i < C.n) {w : World} (ho : Old C.w0 w) : ∃ ad : Addr, C.al = some ad ∧ ad.spot = none ∧
    (Instr.loadAt 88 (.pointer (some ⟨ad.block, ad.off + i * 4, none⟩))).run Try.prog w = .ok (.agg (C.tk i).toArray) w ∧
    (Instr.storeAt 88 (.pointer (some ⟨w.heap.size, 0, none⟩)) (.agg (C.tk i).toArray)).run Try.prog (w.alloc (.cells zt37 88 (0, 0))) = .ok () ((w.alloc (.cells zt37 88 (0, 0))).setRow w.heap.size (C.tk i).toArray) ∧
    Ext w ((w.alloc (.cells zt37 88 (0, 0))).setRow w.heap.size (C.tk i).toArray) ∧
    ((w.alloc (.cells zt37 88 (0, 0))).setRow w.heap.size (C.tk i).toArray).heap[w.heap.size]? = some (.cells (C.tk i).toArray 88 (0, 0)) ∧
    w.heap.size < ((w.alloc (.cells zt37 88 (0, 0))).setRow w.heap.size (C.tk i).toArray).heap.size := by
  obtain ⟨ad, h1, h2, h3, h4, h5, h6, _⟩ := hC.task i hi
  have hb : (w.alloc (.cells zt37 88 (0, 0))).heap[w.heap.size]? = some (.cells zt37.toList.toArray 88 (0, 0)) := heap_alloc_new w _
  have hst := ex_store 88 4 (by kernel_rfl) (w.alloc (.cells zt37 88 (0, 0))) w.heap.size 0 zt37.toList (C.tk i) 88 (.agg (C.tk i).toArray) rfl h4 h6 hb (by rw [h4]; decide)
  rw [splice_all _ _ (by rw [h4]; rfl)] at hst
  refine ⟨ad, h1, h2, ex_load37o w ad.block (ad.off + i * 4) _ h4 (fun j hj => ?_), hst, (Ext.alloc w _).setFresh (Nat.le_refl _) _, setRow_heap _ _ _ _ _ _ hb, by rw [setRow_size, World.size_alloc]; omega⟩
  rw [cell_congr (ho.2.1 _ h3)]
  exact h5 j hj
set_option maxHeartbeats 4000000 in
theorem round_in {C : Cx} (hC : C.OK) {i j ba : Nat} (hi : i < C.n) (hj : j < C.n) {f : Nat → Value} (hf : FI C i j ba f) {e : Int} {o : Nat → Option Nat} {w : World} (hw : WI C e o (C.at i j) w)
    (hba : w.heap[ba]? = some (.cells (C.tk i).toArray 88 (0, 0))) (hoa : ∀ k, k < C.n → o k ≠ some ba) (hHa : C.H ≤ ba) {Q : Exit → Act → World → Prop}
    (hQ : ∀ f' o' w', FI C i (j + 1) ba f' → WI C e o' (C.at i (j + 1)) w' → w'.heap[ba]? = some (.cells (C.tk i).toArray 88 (0, 0)) → (∀ k, k < C.n → o' k ≠ some ba) → Q .normal (Fr 66 f' []) w') :
    bodyIn.wp Try.prog Q (Fr 66 f []) w := by
  have hlt : (j : Int) < (C.n : Int) := by omega
  unfold bodyIn
  refine wp_seq (reg_sh sh9 (sh_lss (k := .i64) (by decide) (by rw [Fr.tmp (by decide)]; exact hf.t41) (by rw [Fr.tmp (by decide)]; exact hf.t40) ?_))
  refine wp_seq (wp_cond_true (by rw [Fr.tmp (by decide), fr_same, decide_eq_true hlt]) (Go.wp_skip ?_))
  refine wp_seq (wp_block (wp_seq ?_))
  obtain ⟨ad, r1, r2, r3, r4, r5, r6, r7⟩ := read_task hC hj hw.old
  have hal : C.vl = .slice (some ad) C.n C.cl := by rw [Cx.vl, r1]
  refine reg_sh sh10 ?_
  refine sh_val (v := .pointer (some ⟨ad.block, ad.off + j * 4, none⟩)) (w' := w) (by decide) (fun p hp => by
    simp [execOp, hp, Fr.tmp, put_, hf.t39, hf.t41, hal, ex_idxT w ad r2 C.n C.cl j hj]) ?_
  refine sh_val (v := .agg (C.tk j).toArray) (w' := w) (by decide) (fun p hp => by
    simp [execOp, hp, Fr.tmp, put_, r3]) ?_
  refine sh_val (v := .pointer (some ⟨w.heap.size, 0, none⟩)) (w' := w.alloc (.cells zt37 88 (0, 0))) (by decide) (fun p hp => by
    simp [execOp, hp, ex_alloc37]) ?_
  refine sh_skip (w' := (w.alloc (.cells zt37 88 (0, 0))).setRow w.heap.size (C.tk j).toArray) (fun p hp => by
    simp [execOp, hp, Fr.tmp, put_, r4]) ?_
  show (Code.region 11 (ops20 11) true).wp Try.prog _ _ _
  generalize hw1 : (w.alloc (.cells zt37 88 (0, 0))).setRow w.heap.size (C.tk j).toArray = w1 at r4 r5 r6 r7
  have hW := hw.ext hC r5
  obtain ⟨r, m1, m2, m3⟩ := hW.m
  obtain ⟨h, m4, m5⟩ := m3 i hi
  have hat : C.at i j i = C.row i j := if_pos rfl
  rw [hat] at m5
  have hrl : (C.row i j).length = j := by simp [Cx.row]
  obtain ⟨_, _, _, _, k4, _⟩ := hC.task i hi
  obtain ⟨_, _, _, _, k4', _⟩ := hC.task j hj
  have hlo : ∀ b, o i = some b → C.H ≤ b := fun b hb => (hW.rows hi hb).1
  have hne : ∀ x, x < C.H → o i ≠ some x := fun x hx hb => by have := hlo x hb; omega
  have hbb : ∀ k, k < C.n → o k ≠ some w.heap.size := fun k hk hb => by have := (hw.rows hk hb).2; omega
  have hba1 : w1.heap[ba]? = some (.cells (C.tk i).toArray 88 (0, 0)) := (r5.2.1 ba (heap_lt hba)).trans hba
  refine reg11 { bs := C.bs, b4 := C.b4, n := C.n, i := i, h := h, o := o i, xs := C.row i j, va := .agg (C.tk i).toArray, vb := .agg (C.tk j).toArray, c := C.c i j, H := C.H } (ba := ba) (bb := w.heap.size)
    (C.cells e) r (C.tk i) (C.tk j) 146 92 88 88 Fr.size (by rw [Fr.get (by decide)]; exact hf.t5) (by rw [Fr.get (by decide)]; exact hf.t6) (by rw [Fr.get (by decide)]; exact hf.t7) (by rw [Fr.get (by decide)]; exact fr_same _ _ _)
    hW.s rfl m2 hi m4 hba1 k4 rfl r6 k4' rfl (hne _ hC.hi.1) (hne _ hC.hi.2.1) (hoa i hi) (hbb i hi) m5 hW.sz (by rw [hrl]; have := hC.hn; omega) (fun w' hw' => hC.clash i j hi hj w' (hW.old.trans hw'))
    (fun a' w' h' o' q1 q2 q3 q4 q5 q6 q7 q8 q9 => ?_)
  have q2 : a'.defers = [] := q2
  rw [Fr.of q1, q2]
  have g : ∀ s, s < 45 → a'.tmps.getD s undef = put_ (put_ (put_ (put_ f 42 (.bool (decide ((j : Int) < C.n)))) 43 (.pointer (some ⟨ad.block, ad.off + j * 4, none⟩))) 44 (.agg (C.tk j).toArray)) 9 (.pointer (some ⟨w.heap.size, 0, none⟩)) s :=
    fun s hs => (q3 s hs).trans (Fr.get (by omega))
  generalize hf' : (fun s => a'.tmps.getD s undef) = f' at *
  have g : ∀ s, s < 42 → s ≠ 9 → f' s = f s := fun s hs h9 => by
    rw [← hf']
    refine (g s (by omega)).trans ?_
    rw [fr_ne _ _ _ h9, fr_ne _ _ _ (by omega), fr_ne _ _ _ (by omega), fr_ne _ _ _ (by omega)]
  have q6 : ∀ b, b < w1.heap.size → b ≠ C.b4 → o i ≠ some b → w'.heap[b]? = w1.heap[b]? := q6
  have q7 : w'.heap[C.b4]? = some (.cells (r.set i h').toArray 92 (0, 0)) := q7
  have q8 : RowAt C.H w' h' o' (C.row i j ++ [C.c i j]) := q8
  have q9 : ∀ b, o' = some b → o i = some b ∨ w1.heap.size ≤ b := q9
  have old : ∀ b, b < C.w0.heap.size → w'.heap[b]? = w1.heap[b]? := fun b hb => by
    have := hC.lo; have := hC.hi; have := hW.sz
    exact q6 b (by omega) (by omega) (hne b (by omega))
  have fix : ∀ b, b < C.H → b ≠ C.b4 → w'.heap[b]? = w1.heap[b]? := fun b hb h4 => q6 b (Nat.lt_of_lt_of_le hb hW.sz) h4 (hne b hb)
  have hsum : IntKind.i64.wrap ((j : Int) + 1) = ((j + 1 : Nat) : Int) := by
    have := hC.hn
    rw [wrap_i64 (by omega) (by omega)]; rfl
  refine reg_sh sh12 (sh_add (k := .i64) (by decide) (by rw [Fr.tmp (by decide), g 41 (by decide) (by decide)]; exact hf.t41) rfl (sh_move (by decide) ((Fr.tmp (by decide)).trans (fr_same _ _ _)) ?_))
  rw [hsum]
  have hj1 : C.at i (j + 1) i = C.row i j ++ [C.c i j] := by
    rw [Cx.at, if_pos rfl, Cx.row, List.range_succ, List.map_append]; rfl
  refine hQ _ (fun k => if k = i then o' else o k) w' ?_ ⟨Nat.le_trans hW.sz q4, ⟨Nat.le_trans hW.old.1 q4, fun b hb => (old b hb).trans (hW.old.2.1 b hb), hW.old.2.2.trans q5⟩, (fix _ hC.hi.1 hC.ne.1).trans hW.s, (fix _ hC.hi.2.2.1 (fun e => hC.ne.2.2.2.1 e.symm)).trans hW.p7, (fix _ hC.hi.2.2.2 (fun e => hC.ne.2.2.2.2.1 e.symm)).trans hW.p10, ?_, ?_⟩ ?_ ?_
  · constructor <;> simp only [put_] <;> first
      | (simp only [show ((28 : Nat) = 41) = False from by simp]; skip)
      | skip
    all_goals simp
    · exact (g 0 (by decide) (by decide)).trans hf.t0
    · exact (g 5 (by decide) (by decide)).trans hf.t5
    · exact (g 6 (by decide) (by decide)).trans hf.t6
    · exact (g 7 (by decide) (by decide)).trans hf.t7
    · exact (g 26 (by decide) (by decide)).trans hf.t26
    · exact (g 27 (by decide) (by decide)).trans hf.t27
    · exact (g 28 (by decide) (by decide)).trans hf.t28
    · exact (g 39 (by decide) (by decide)).trans hf.t39
    · exact (g 40 (by decide) (by decide)).trans hf.t40
  · refine ⟨r.set i h', by rw [List.length_set]; exact m1, q7, fun k hk => ?_⟩
    by_cases e : k = i
    · subst e
      refine ⟨h', by rw [List.getElem?_set]; simp [m1, hk], ?_⟩
      rw [if_pos rfl, hj1]; exact q8
    · obtain ⟨h0, n1, n2⟩ := m3 k hk
      refine ⟨h0, by rw [List.getElem?_set_ne (fun e' => e e'.symm)]; exact n1, ?_⟩
      simp only [if_neg e]
      rw [show C.at i (j + 1) k = C.at i j k by rw [Cx.at, Cx.at, if_neg e, if_neg e]]
      exact n2.keep fun b hb hlt => q6 b hlt (fun e' => by have := (hW.rows hk hb).1; have := hC.hi.2.1; omega) (fun e' => hW.dj i k b hi hk (fun e2 => e e2.symm) e' hb)
  · intro p k b hp hk hpk h1 h2
    by_cases ep : p = i
    · subst ep
      rw [if_pos rfl] at h1
      rw [if_neg (fun e => hpk e.symm)] at h2
      rcases q9 b h1 with q | q
      · exact hW.dj p k b hp hk hpk q h2
      · have := (hW.rows hk h2).2; omega
    · rw [if_neg ep] at h1
      by_cases ek : k = i
      · subst ek
        rw [if_pos rfl] at h2
        rcases q9 b h2 with q | q
        · exact hW.dj p k b hp hk hpk h1 q
        · have := (hW.rows hp h1).2; omega
      · rw [if_neg ek] at h2
        exact hW.dj p k b hp hk hpk h1 h2
  · exact (q6 ba (heap_lt hba1) (fun e => by have := hC.hi.2.1; omega) (hoa i hi)).trans hba1
  · intro k hk h1
    by_cases ek : k = i
    · subst ek
      rw [if_pos rfl] at h1
      rcases q9 ba h1 with q | q
      · exact hoa k hk q
      · have := heap_lt hba1; omega
    · rw [if_neg ek] at h1
      exact hoa k hk h1
end Go.Proofs.Ytbapfiaglcllnaa.D.Rt
end

section
namespace Go.Proofs.Ytbapfiaglcllnaa.D.Rt
set_option maxRecDepth 10000
open Go Go.GD Go.Proofs
def natV : Value → Nat
  | .int _ n => n.toNat
  | _ => 0
set_option maxHeartbeats 4000000 in
theorem loop_in {C : Cx} (hC : C.OK) {i ba : Nat} (hi : i < C.n) {f : Nat → Value} (hf : FI C i 0 ba f) {e : Int} {o : Nat → Option Nat} {w : World} (hw : WI C e o (C.at i 0) w)
    (hba : w.heap[ba]? = some (.cells (C.tk i).toArray 88 (0, 0))) (hoa : ∀ k, k < C.n → o k ≠ some ba) (hHa : C.H ≤ ba) {Q : Exit → Act → World → Prop}
    (hQ : ∀ f' o' w', FI C i C.n ba f' → WI C e o' (C.at i C.n) w' → Q .normal (Fr 66 f' []) w') : (Code.block 2 (.loop bodyIn)).wp Try.prog Q (Fr 66 f []) w := by
  refine wp_block (wp_loop (fun a w => ∃ j f o, a = Fr 66 f [] ∧ j ≤ C.n ∧ FI C i j ba f ∧ WI C e o (C.at i j) w ∧ w.heap[ba]? = some (.cells (C.tk i).toArray 88 (0, 0)) ∧ ∀ k, k < C.n → o k ≠ some ba)
    (fun a _ => C.n - natV (a.tmps.getD 41 undef)) ⟨0, f, o, rfl, Nat.zero_le _, hf, hw, hba, hoa⟩ ?_)
  rintro _ w ⟨j, f, o, rfl, hj, hf, hw, hba, hoa⟩
  rcases Nat.lt_or_eq_of_le hj with hlt | rfl
  · refine round_in hC hi hlt hf hw hba hoa hHa fun f' o' w' h1 h2 h3 h4 => ?_
    refine ⟨⟨j + 1, f', o', rfl, hlt, h1, h2, h3, h4⟩, ?_⟩
    rw [Fr.get (by decide), Fr.get (by decide), h1.t41, hf.t41]
    simp only [natV, Int.toNat_natCast]
    omega
  · unfold bodyIn
    refine wp_seq (reg_sh sh9 (sh_lss (k := .i64) (by decide) (by rw [Fr.tmp (by decide)]; exact hf.t41) (by rw [Fr.tmp (by decide)]; exact hf.t40) ?_))
    refine wp_seq (wp_cond_false (by rw [Fr.tmp (by decide), fr_same, decide_eq_false (by omega)]) (Go.wp_exit ?_))
    refine hQ _ o w ?_ hw
    constructor <;> simp [put_]
    · exact hf.t0
    · exact hf.t5
    · exact hf.t6
    · exact hf.t7
    · exact hf.t26
    · exact hf.t27
    · exact hf.t28
    · exact hf.t39
    · exact hf.t40
    · exact hf.t41
structure FO (C : Cx) (i : Nat) (f : Nat → Value) : Prop where
  t0 : f 0 = C.vl
  t5 : f 5 = .pointer (some ⟨C.bs, 0, none⟩)
  t26 : f 26 = C.vl
  t27 : f 27 = .int .i64 C.n
  t28 : f 28 = .int .i64 i
def Cx.sum (C : Cx) : Nat → Int
  | 0 => 1
  | k + 1 => IntKind.i64.wrap (C.sum k + C.sec k)
noncomputable def bodyOut : Code := .seq (.region 5 (ops20 5) false) (.seq (.cond (.tmp 29) .skip (.exit 0)) (.seq (.block 1 (.seq (.region 6 (ops20 6) false) (.seq (.region 7 (ops20 7) false) (.seq (.region 8 (ops20 8) false) (.block 2 (.loop bodyIn)))))) (.region 13 (ops20 13) false)))
set_option maxHeartbeats 4000000 in
theorem round_out {C : Cx} (hC : C.OK) {i : Nat} (hi : i < C.n) {f : Nat → Value} (hf : FO C i f) {o : Nat → Option Nat} {w : World} (hw : WI C (C.sum i) o (C.at i 0) w) {Q : Exit → Act → World → Prop}
    (hQ : ∀ f' o' w', FO C (i + 1) f' → WI C (C.sum (i + 1)) o' (C.at (i + 1) 0) w' → Q .normal (Fr 66 f' []) w') : bodyOut.wp Try.prog Q (Fr 66 f []) w := by
  unfold bodyOut
  refine wp_seq (reg_sh sh5 (sh_lss (k := .i64) (by decide) (by rw [Fr.tmp (by decide)]; exact hf.t28) (by rw [Fr.tmp (by decide)]; exact hf.t27) ?_))
  refine wp_seq (wp_cond_true (by rw [Fr.tmp (by decide), fr_same, decide_eq_true (by omega)]) (Go.wp_skip ?_))
  refine wp_seq (wp_block (wp_seq ?_))
  obtain ⟨ad, r1, r2, r3, r4, r5, r6, r7⟩ := read_task hC hi hw.old
  have hal : C.vl = .slice (some ad) C.n C.cl := by rw [Cx.vl, r1]
  obtain ⟨_, _, _, _, k4, _, _, k7⟩ := hC.task i hi
  refine reg_sh sh6 ?_
  refine sh_move (v := .int .i64 i) (by decide) (by simp [Fr.tmp, put_, hf.t28]) ?_
  refine sh_val (v := .pointer (some ⟨ad.block, ad.off + i * 4, none⟩)) (w' := w) (by decide) (fun p hp => by
    simp [execOp, hp, Fr.tmp, put_, hf.t26, hf.t28, hal, ex_idxT w ad r2 C.n C.cl i hi]) ?_
  refine sh_val (v := .agg (C.tk i).toArray) (w' := w) (by decide) (fun p hp => by
    simp [execOp, hp, Fr.tmp, put_, r3]) ?_
  refine sh_val (v := .pointer (some ⟨w.heap.size, 0, none⟩)) (w' := w.alloc (.cells zt37 88 (0, 0))) (by decide) (fun p hp => by
    simp [execOp, hp, ex_alloc37]) ?_
  refine sh_assign (v := .int .i64 i) (by decide) (by simp [Fr.tmp, put_]) ?_
  refine sh_skip (w' := (w.alloc (.cells zt37 88 (0, 0))).setRow w.heap.size (C.tk i).toArray) (fun p hp => by
    simp [execOp, hp, Fr.tmp, put_, r4]) ?_
  refine wp_seq ?_
  generalize hw1 : (w.alloc (.cells zt37 88 (0, 0))).setRow w.heap.size (C.tk i).toArray = w1 at r4 r5 r6 r7
  have hW := hw.ext hC r5
  refine reg_sh sh7 ?_
  refine sh_val (v := .pointer (some ⟨C.bs, 5, none⟩)) (w' := w1) (by decide) (fun p hp => by
    simp [execOp, hp, Fr.tmp, put_, hf.t5, ex_fld 146 5 5 3 1 (by kernel_rfl) (by kernel_rfl) (by decide)]) ?_
  refine sh_val (v := .int .i64 (C.sum i)) (w' := w1) (by decide) (fun p hp => by
    simp [execOp, hp, Fr.tmp, put_, ex_load1 3 (by kernel_rfl) w1 C.bs 5 _ ((cell_of_block hW.s).trans rfl)]) ?_
  refine sh_val (v := .pointer (some ⟨w.heap.size, 1, none⟩)) (w' := w1) (by decide) (fun p hp => by
    simp [execOp, hp, Fr.tmp, put_, ex_fld 88 1 1 3 1 (by kernel_rfl) (by kernel_rfl) (by decide)]) ?_
  refine sh_val (v := .int .i64 (C.sec i)) (w' := w1) (by decide) (fun p hp => by
    simp [execOp, hp, Fr.tmp, put_, ex_load1 3 (by kernel_rfl) w1 w.heap.size 1 _ ((cell_of_block r6).trans k7)]) ?_
  refine sh_add (k := .i64) (a := C.sum i) (b := C.sec i) (by decide) (by simp [Fr.tmp, put_]) (by simp [Fr.tmp, put_]) ?_
  refine sh_val (v := .pointer (some ⟨C.bs, 5, none⟩)) (w' := w1) (by decide) (fun p hp => by
    simp [execOp, hp, Fr.tmp, put_, hf.t5, ex_fld 146 5 5 3 1 (by kernel_rfl) (by kernel_rfl) (by decide)]) ?_
  have hst := ex_store 3 1 (by kernel_rfl) w1 C.bs 5 (C.cells (C.sum i)) [.int .i64 (IntKind.i64.wrap (C.sum i + C.sec i))] 146 (.int .i64 (IntKind.i64.wrap (C.sum i + C.sec i))) rfl rfl (fun v hv => by rw [List.mem_singleton.1 hv]; rfl) hW.s (Nat.le_refl 6)
  have hsp : splice (C.cells (C.sum i)) 5 [Value.int .i64 (IntKind.i64.wrap (C.sum i + C.sec i))] = C.cells (C.sum (i + 1)) := rfl
  rw [hsp] at hst
  refine sh_skip (w' := w1.setRow C.bs (C.cells (C.sum (i + 1))).toArray) (fun p hp => by
    simp [execOp, hp, Fr.tmp, put_, hst]) ?_
  refine wp_seq ?_
  have hbw : C.bs < w1.heap.size := heap_lt hW.s
  have hW2 : WI C (C.sum (i + 1)) o (C.at i 0) (w1.setRow C.bs (C.cells (C.sum (i + 1))).toArray) := by
    obtain ⟨r, m1, m2, m3⟩ := hW.m
    refine ⟨by rw [setRow_size]; exact hW.sz, ⟨by rw [setRow_size]; exact hW.old.1, fun b hb => (setRow_other _ _ _ _ (by have := hC.lo.1; omega)).trans (hW.old.2.1 b hb), hW.old.2.2.trans ⟨rfl, rfl, rfl, by first | exact Nat.le_refl _ | exact Nat.le_succ _ | (simp; done) | (simp; omega)⟩⟩, setRow_heap _ _ _ _ _ _ hW.s,
      (setRow_other _ _ _ _ (fun e => hC.ne.2.1 e.symm)).trans hW.p7, (setRow_other _ _ _ _ (fun e => hC.ne.2.2.1 e.symm)).trans hW.p10, ⟨r, m1, (setRow_other _ _ _ _ (fun e => hC.ne.1 e.symm)).trans m2, fun j hj => ?_⟩, hW.dj⟩
    obtain ⟨h, n1, n2⟩ := m3 j hj
    exact ⟨h, n1, n2.keep fun b hb _ => setRow_other _ _ _ _ (fun e => by have := (hW.rows hj hb).1; have := hC.hi.1; omega)⟩
  have hba : (w1.setRow C.bs (C.cells (C.sum (i + 1))).toArray).heap[w.heap.size]? = some (.cells (C.tk i).toArray 88 (0, 0)) := (setRow_other _ _ _ _ (fun e => by have := hC.hi.1; have := hw.sz; omega)).trans r6
  refine reg_sh sh8 ?_
  refine sh_move (v := C.vl) (by decide) (by simp [Fr.tmp, put_, hf.t0]) ?_
  refine sh_len (al := C.al) (n := C.n) (cl := C.cl) (by decide) u22 (by simp [Fr.tmp, put_]) ?_
  refine sh_move (v := .int .i64 0) (by decide) rfl ?_
  refine loop_in hC hi (ba := w.heap.size) ?_ hW2 hba (fun k hk hb => by have := (hw.rows hk hb).2; omega) hw.sz fun f' o' w' h1 h2 => ?_
  · constructor <;> simp [put_, hf.t0, hf.t5, hf.t26, hf.t27, hf.t28]
  have hsum : IntKind.i64.wrap ((i : Int) + 1) = ((i + 1 : Nat) : Int) := by
    have := hC.hn
    rw [wrap_i64 (by omega) (by omega)]; rfl
  refine reg_sh sh13 (sh_add (k := .i64) (by decide) (by rw [Fr.tmp (by decide)]; exact h1.t28) rfl (sh_move (by decide) ((Fr.tmp (by decide)).trans (fr_same _ _ _)) ?_))
  rw [hsum]
  refine hQ _ o' w' ?_ (h2.xs fun k hk => ?_)
  · constructor <;> simp [put_, h1.t0, h1.t5, h1.t26, h1.t27]
  · unfold Cx.at
    by_cases e : k = i
    · subst e; rw [if_neg (by omega), if_pos (by omega), if_pos rfl]
    · by_cases e2 : k = i + 1
      · subst e2; rw [if_pos rfl, if_neg e, if_neg (by omega)]; rfl
      · rw [if_neg e2, if_neg e]
        by_cases e3 : k < i
        · rw [if_pos (by omega), if_pos e3]
        · rw [if_neg (by omega), if_neg e3]
theorem loop_out {C : Cx} (hC : C.OK) {f : Nat → Value} (hf : FO C 0 f) {o : Nat → Option Nat} {w : World} (hw : WI C 1 o (fun _ => []) w) {Q : Exit → Act → World → Prop}
    (hQ : ∀ f' o' w', FO C C.n f' → WI C (C.sum C.n) o' (fun k => C.row k C.n) w' → Q .normal (Fr 66 f' []) w') : (Code.block 0 (.loop bodyOut)).wp Try.prog Q (Fr 66 f []) w := by
  refine wp_block (wp_loop (fun a w => ∃ i f o, a = Fr 66 f [] ∧ i ≤ C.n ∧ FO C i f ∧ WI C (C.sum i) o (C.at i 0) w) (fun a _ => C.n - natV (a.tmps.getD 28 undef)) ⟨0, f, o, rfl, Nat.zero_le _, hf, hw.xs fun k _ => ?_⟩ ?_)
  · unfold Cx.at
    by_cases e : k = 0
    · rw [if_pos e]; rfl
    · rw [if_neg e, if_neg (by omega)]
  rintro _ w ⟨i, f, o, rfl, hi, hf, hw⟩
  rcases Nat.lt_or_eq_of_le hi with hlt | rfl
  · refine round_out hC hlt hf hw fun f' o' w' h1 h2 => ?_
    refine ⟨⟨i + 1, f', o', rfl, hlt, h1, h2⟩, ?_⟩
    rw [Fr.get (by decide), Fr.get (by decide), h1.t28, hf.t28]
    simp only [natV, Int.toNat_natCast]
    omega
  · unfold bodyOut
    refine wp_seq (reg_sh sh5 (sh_lss (k := .i64) (by decide) (by rw [Fr.tmp (by decide)]; exact hf.t28) (by rw [Fr.tmp (by decide)]; exact hf.t27) ?_))
    refine wp_seq (wp_cond_false (by rw [Fr.tmp (by decide), fr_same, decide_eq_false (by omega)]) (Go.wp_exit ?_))
    refine hQ _ o w ?_ (hw.xs fun k hk => ?_)
    · constructor <;> simp [put_, hf.t0, hf.t5, hf.t26, hf.t27, hf.t28]
    · unfold Cx.at
      rw [if_neg (by omega), if_pos hk]
end Go.Proofs.Ytbapfiaglcllnaa.D.Rt
end

section
namespace Go.Proofs.Ytbapfiaglcllnaa.D.Rt
set_option maxRecDepth 10000
open Go Go.GD Go.Proofs
abbrev taskTy : Ty := .pair (.int .i64) (.pair (.int .i64) (.pair .bool (.sl (.int .i64))))
abbrev shiftTy : Ty := .pair (.int .i64) (.pair (.int .i64) (.pair (.int .i64) (.int .i64)))
abbrev Tk := Int × Int × Bool × List Int
abbrev Sf := Int × Int × Int × Int
def mapO {α β : Type} (g : α → Option β) : List α → Option (List β)
  | [] => some []
  | a :: l => (g a).bind fun b => (mapO g l).bind fun r => some (b :: r)
theorem mapO_some {α β : Type} {g : α → Option β} : ∀ {l : List α} {r : List β}, mapO g l = some r → r.length = l.length ∧ ∀ i (h : i < l.length) (h' : i < r.length), g l[i] = some r[i]
  | [], r, h => by injection h with h; subst h; exact ⟨rfl, fun i hi => by cases hi⟩
  | a :: l, r, h => by
    simp only [mapO] at h
    obtain ⟨b, hb, h⟩ := Option.bind_eq_some_iff.1 h
    obtain ⟨s, hs, h⟩ := Option.bind_eq_some_iff.1 h
    injection h with h
    subst h
    obtain ⟨h1, h2⟩ := mapO_some hs
    refine ⟨by simp [h1], fun i hi hi' => ?_⟩
    cases i with
    | zero => exact hb
    | succ i => exact h2 i (by simpa using hi) (by simpa using hi')
noncomputable def mat20 (l : List Tk) : Option (List (List Bool)) := mapO (fun a => mapO (fun b => d78 (a, b)) l) l
def zs (n : Nat) : List Sf := List.replicate n (0, 0, 0, 0)
def sum20 (l : List Tk) : Int := l.foldl (fun t a => IntKind.i64.wrap (t + a.2.1)) 1
noncomputable def best20 (x : List Tk × List Bool) : Option (List Sf) :=
  (d77 x).bind fun e => bif e != 0 then some [] else bif Nat.ble x.1.length 1000 then
    (mat20 x.1).bind fun m => (P79 64 (x.1, x.2, m, zs x.1.length, zs x.1.length, sum20 x.1) (x.1.length : Int) 0 0).bind fun r => some r.1.2.2.2.2.1
  else none
noncomputable def rest20 : Code := .seq (.seq (.region 4 (ops20 4) false) (.block 0 (.loop bodyOut))) (.seq (.region 14 (ops20 14) false) (.seq (.region 15 (ops20 15) false) .ret))
theorem body20 : Try.f42.body = some (.seq (.region 0 (ops20 0) false) (.seq (.seq (.region 1 (ops20 1) false) (.cond (.tmp 13) (.seq (.region 2 (ops20 2) false) .ret) .skip)) (.seq (.region 3 (ops20 3) true) rest20))) := by kernel_rfl
theorem sh0 : shg (ops20 0).toList = [(.assign (.const (.slice none 0 0)), some 4, none)] := by kernel_rfl
theorem sh1 : shg (ops20 1).toList = [(.move (.tmp 0), some 10, none), (.move (.tmp 1), some 11, none), (.call { callee := .value (.func 77), args := #[.tmp 10, .tmp 11], argTypes := #[89, 92] }, some 12, none), (.binOp .neq 27 (.tmp 12) (.const (.int .i64 0)) 27, some 13, none)] := by kernel_rfl
theorem sh2 : shg (ops20 2).toList = [(.assign (.const (.slice none 0 0)), some 4, none)] := by kernel_rfl
theorem resultOf {f : Nat → Value} {v : Value} (w : World) (h : f 4 = v) : (results Try.f42 (Fr 66 f []).tmps).run Try.prog w = .ok v w := by
  have hr : Try.f42.results.toList = [.tmp 4] := by kernel_rfl
  have hg : (Fr 66 f []).tmps[4]?.getD undef = v := by rw [← Array.getD_eq_getD_getElem?, Fr.get (by decide), h]
  refine (run_results (vs := [v]) (by
    rw [hr]
    simp [readOne, hg])).trans rfl
theorem size20 : Try.f42.ntmps = 66 := by kernel_rfl
theorem startSize (vl vw : Value) : (#[vl, vw] ++ Array.replicate (Try.f42.ntmps - #[vl, vw].size) undef).size = 66 := by
  rw [Array.size_append, Array.size_replicate, size20]; rfl
theorem made_get (z : Array Value) (m k : Nat) (h : k < m) : (madeCells z m).toList[k]? = some (z[k % z.size]!) := by
  simp [madeCells, h]
theorem start20 {al aw : Option Addr} {n cl nw cw : Nat} {w : World} {e : Int} (hR : Calls Try.prog 77 #[.slice al n cl, .slice aw nw cw] w fun ex W => ex = .returned (.int .i64 e) ∧ Ext w W) {R : Ending → World → Prop}
    (h1 : e ≠ 0 → ∀ W, Ext w W → R (.returned (.slice none 0 0)) W)
    (h2 : e = 0 → ∀ W f, Ext w W → f 0 = .slice al n cl → f 1 = .slice aw nw cw → (Code.seq (.region 3 (ops20 3) true) rest20).wp Try.prog (bodyPost Try.prog Try.f42 R) (Fr 66 f []) W) :
    Calls Try.prog 42 #[.slice al n cl, .slice aw nw cw] w R := by
  refine calls_of_wp Try.func42 body20 ?_
  rw [Fr.of (N := 66) (a := { tmps := #[Value.slice al n cl, .slice aw nw cw] ++ Array.replicate (Try.f42.ntmps - #[Value.slice al n cl, .slice aw nw cw].size) undef, defers := [] }) (startSize _ _)]
  simp only []
  generalize hf : (fun s => (#[Value.slice al n cl, .slice aw nw cw] ++ Array.replicate (Try.f42.ntmps - #[Value.slice al n cl, .slice aw nw cw].size) undef).getD s undef) = f
  have f0 : f 0 = .slice al n cl := by rw [← hf]; simp
  have f1 : f 1 = .slice aw nw cw := by rw [← hf]; simp
  clear hf
  refine wp_seq (reg_sh sh0 (sh_assign (v := .slice none 0 0) (by decide) rfl ?_))
  refine wp_seq (wp_seq (reg_sh sh1 ?_))
  refine sh_move (v := .slice al n cl) (by decide) (by simp [Fr.tmp, put_, f0]) ?_
  refine sh_move (v := .slice aw nw cw) (by decide) (by simp [Fr.tmp, put_, f1]) ?_
  refine sh_call (g := 77) (args := #[.slice al n cl, .slice aw nw cw]) (w' := w) (by decide) (fun p hp => by
    have kf : ∀ a : Act, a.eval (.func 77) = .func (.func 77) #[] #[] := fun _ => rfl
    simp [execOp, hp, resolve, Deferred.ofValue, invoke, kf, Fr.tmp, put_, k77.run]) ?_
  refine hR.mono ?_
  rintro ex W ⟨rfl, hW⟩
  refine ⟨_, rfl, ?_⟩
  refine sh_val (v := .bool (e != 0)) (w' := W) (by decide) (fun p hp => by
    simp [execOp, hp, Fr.tmp, Fr.const, put_, run_guard, binOp, Op.intCmp]) ?_
  refine wp_cond_split (t := (e != 0)) (by rw [Fr.tmp (by decide), fr_same]) (fun ht => ?_) (fun ht => ?_)
  · refine wp_seq (reg_sh sh2 (sh_assign (v := .slice none 0 0) (by decide) rfl (Go.wp_ret ⟨rfl, .slice none 0 0, resultOf _ rfl, h1 (by simpa using ht) W hW⟩)))
  · refine Go.wp_skip (h2 (by simpa using ht) W _ hW ?_ ?_) <;> simp [put_, f0, f1]
end Go.Proofs.Ytbapfiaglcllnaa.D.Rt
end

section
namespace Go.Proofs.Ytbapfiaglcllnaa.D.Rt
set_option maxRecDepth 10000
open Go Go.GD Go.Proofs
theorem rest_run {C : Cx} (hC : C.OK) {f : Nat → Value} (t0 : f 0 = C.vl) (t5 : f 5 = .pointer (some ⟨C.bs, 0, none⟩)) {w : World} (hw : WI C 1 (fun _ => none) (fun _ => []) w) {R : Ending → World → Prop}
    (hcall : ∀ o w', WI C (C.sum C.n) o (fun k => C.row k C.n) w' → Calls Try.prog 79 #[.pointer (some ⟨C.bs, 0, none⟩), .int .i64 C.n, .int .i64 0, .int .i64 0] w' fun ex w'' =>
      ∃ v e', ∃ cs : List Value, ∃ v4, ex = .returned v ∧ w''.heap[C.bs]? = some (.cells cs.toArray e' (0, 0)) ∧ cs[4]? = some v4 ∧ R (.returned v4) w'') :
    rest20.wp Try.prog (bodyPost Try.prog Try.f42 R) (Fr 66 f []) w := by
  unfold rest20
  refine wp_seq (wp_seq (reg_sh sh4 ?_))
  refine sh_move (v := C.vl) (by decide) (by simp [Fr.tmp, t0]) ?_
  refine sh_len (al := C.al) (n := C.n) (cl := C.cl) (by decide) u22 (by simp [Fr.tmp, put_]) ?_
  refine sh_move (v := .int .i64 0) (by decide) rfl ?_
  refine loop_out hC (by constructor <;> simp [put_, t0, t5]) hw fun f' o' w' h1 h2 => ?_
  refine wp_seq (reg_sh sh14 ?_)
  refine sh_move (v := C.vl) (by decide) (by simp [Fr.tmp, h1.t0]) ?_
  refine sh_len (al := C.al) (n := C.n) (cl := C.cl) (by decide) u22 (by simp [Fr.tmp, put_]) ?_
  refine sh_call (g := 79) (args := #[.pointer (some ⟨C.bs, 0, none⟩), .int .i64 C.n, .int .i64 0, .int .i64 0]) (w' := w') (by decide) (fun p hp => by
    have kf : ∀ a : Act, a.eval (.func 79) = .func (.func 79) #[] #[] := fun _ => rfl
    simp [execOp, hp, resolve, Deferred.ofValue, invoke, kf, Fr.tmp, Fr.const, put_, k79.run, h1.t5]) ?_
  refine (hcall o' w' h2).mono ?_
  rintro ex W ⟨v, e', cs, v4, rfl, q1, q2, q3⟩
  refine ⟨v, rfl, ?_⟩
  refine wp_seq (reg_sh sh15 ?_)
  refine sh_val (v := .pointer (some ⟨C.bs, 4, none⟩)) (w' := W) (by decide) (fun p hp => by
    simp [execOp, hp, Fr.tmp, put_, h1.t5, ex_fld 146 4 4 90 1 (by kernel_rfl) (by kernel_rfl) (by decide)]) ?_
  refine sh_val (v := v4) (w' := W) (by decide) (fun p hp => by
    simp [execOp, hp, Fr.tmp, put_, ex_load1 90 (by kernel_rfl) W C.bs 4 _ ((cell_of_block q1).trans q2)]) ?_
  refine sh_assign (v := v4) (by decide) (by simp [Fr.tmp, put_]) ?_
  exact Go.wp_ret ⟨rfl, v4, resultOf _ (by simp [put_]), q3⟩
theorem rows_rep {C : Cx} {e : Int} {o : Nat → Option Nat} {w : World} (h : WI C e o (fun k => C.row k C.n) w) {Ok : Nat → Prop} (hb4 : Ok C.b4) (hO : ∀ b, C.H ≤ b → Ok b) :
    ShareS 1 w Ok (RepC Try.prog (.sl .bool) w Ok) (some ⟨C.b4, 0, none⟩) C.n C.n ((List.range C.n).map fun k => C.row k C.n) := by
  obtain ⟨r, m1, m2, m3⟩ := h.m
  refine ⟨by simp, Nat.le_refl _, .inr ⟨_, rfl, rfl, heap_lt m2, hb4, fun k hk => ?_⟩⟩
  simp only [List.length_map, List.length_range] at hk
  obtain ⟨v, v1, v2⟩ := m3 k hk
  refine ⟨[v], rfl, fun j hj => ?_, ?_⟩
  · obtain rfl : j = 0 := by omega
    rw [cell_of_block m2]
    simp [v1]
  · simp only [List.getElem_map, List.getElem_range]
    rcases v2 with ⟨_, q2, q3⟩ | ⟨b, et, vs, cap, q1, q2, q3, q4, q5, q6, q7⟩
    · rw [q2, q3]
      exact ⟨none, 0, 0, rfl, rfl, Nat.le_refl _, .inl rfl⟩
    · refine ⟨_, _, _, by rw [q2], rfl, q3, .inr ⟨_, rfl, rfl, heap_lt q5, hO b q4, fun p hp => ⟨[.bool (C.row k C.n)[p]], rfl, fun j hj => ?_, rfl⟩⟩⟩
      have hj : j = 0 := by simp [Ty.size] at hj; omega
      subst hj
      rw [cell_of_block q5]
      have := q7 p hp
      simp only [Ty.size, Nat.mul_one, Nat.zero_add, Nat.add_zero]
      exact this
theorem zeros_rep {w : World} {b n : Nat} {B : Nat → Prop} {Ok : Nat → Prop} (hb : w.heap[b]? = some (.cells (madeCells z34.cells (n * 4)) 186 (0, 0))) (hB : B b) :
    HoldS 4 w B (RepC Try.prog shiftTy w Ok) (some ⟨b, 0, none⟩) n n (zs n) := by
  refine ⟨by simp [zs], Nat.le_refl _, .inr ⟨_, rfl, rfl, hB, ⟨_, _, hb, by rw [size_madeCells]; simp⟩, fun k hk => ?_⟩⟩
  simp only [zs, List.length_replicate] at hk
  refine ⟨[.int .i64 0, .int .i64 0, .int .i64 0, .int .i64 0], rfl, fun j hj => ?_, ?_⟩
  · have hb' : w.heap[b]? = some (.cells (madeCells z34.cells (n * 4)).toList.toArray 186 (0, 0)) := by simpa using hb
    rw [cell_of_block hb', made_get _ _ _ (by show 0 + k * 4 + j < n * 4; omega)]
    have hz : z34.cells.size = 4 := rfl
    rw [hz, show ((⟨b, 0, none⟩ : Addr).off + k * 4 + j) % 4 = j by show (0 + k * 4 + j) % 4 = j; omega]
    have : j = 0 ∨ j = 1 ∨ j = 2 ∨ j = 3 := by omega
    rcases this with rfl | rfl | rfl | rfl <;> rfl
  · have : (zs n)[k]'(by simpa [zs] using hk) = (0, 0, 0, 0) := by simp [zs]
    rw [this]
    exact ⟨[_], [_, _, _], rfl, rfl, [_], [_, _], rfl, rfl, [_], [_], rfl, rfl, rfl⟩
end Go.Proofs.Ytbapfiaglcllnaa.D.Rt
end

section
namespace Go.Proofs.Ytbapfiaglcllnaa.D.Rt
set_option maxRecDepth 10000
open Go Go.GD Go.Proofs
theorem tasks_of {w : World} {Ok : Nat → Prop} {al : Option Addr} {n cl : Nat} {l : List Tk} (hs : ShareS 4 w Ok (RepC Try.prog taskTy w Ok) al n cl l) : ∃ tk : Nat → List Value, ∀ i (h : i < l.length), ∃ ad : Addr, al = some ad ∧ ad.spot = none ∧ ad.block < w.heap.size ∧
    (tk i).length = 4 ∧ (∀ j, j < 4 → w.cell? ⟨ad.block, ad.off + i * 4 + j, none⟩ = (tk i)[j]?) ∧ RepC Try.prog taskTy w Ok (tk i) l[i] := by
  obtain ⟨h1, h2, h3⟩ := hs
  rcases h3 with h3 | ⟨ad, h3, h4, h5, h6, h7⟩
  · exact ⟨fun _ => [], fun i hi => by omega⟩
  · refine ⟨fun i => if h : i < l.length then Classical.choose (h7 i h) else [], fun i hi => ?_⟩
    have := Classical.choose_spec (h7 i hi)
    simp only [dif_pos hi]
    exact ⟨ad, h3, h4, h5, this⟩
theorem task_cells {w : World} {Ok : Nat → Prop} {cs : List Value} {a : Tk} (h : RepC Try.prog taskTy w Ok cs a) : cs[1]? = some (.int .i64 a.2.1) ∧ ∀ v, v ∈ cs → v.oneCell' = true := by
  refine ⟨?_, fun v hv => RepC.oneCell _ h v hv⟩
  obtain ⟨c1, c2, rfl, h1, c3, c4, rfl, h2, _⟩ := h
  obtain rfl : c1 = [_] := h1
  obtain rfl : c3 = [_] := h2
  rfl
theorem sum_take (C : Cx) (l : List Tk) (h : ∀ i (h : i < l.length), C.sec i = l[i].2.1) : ∀ k, k ≤ l.length → C.sum k = (l.take k).foldl (fun t a => IntKind.i64.wrap (t + a.2.1)) 1
  | 0, _ => rfl
  | k + 1, hk => by
    rw [List.take_succ_eq_append_getElem (by omega), List.foldl_append, ← sum_take C l h k (by omega), Cx.sum, h k (by omega)]; rfl
theorem sum_all (C : Cx) (l : List Tk) (h : ∀ i (h : i < l.length), C.sec i = l[i].2.1) : C.sum l.length = sum20 l := by
  rw [sum_take C l h _ (Nat.le_refl _), List.take_length]; rfl
theorem does79 : BoxDoes Try.prog 79 { t := tB79, bm := bm79, ps := ps79, rs := rs79, φ := d79 64 } := by
  have := c79.does
  rw [sg79, sg79n] at this
  exact this rfl
theorem best_cell {w : World} {Sh : Nat → Prop} {g1 : Nat → Option (Option Nat)} {cs : List Value} {x : tB79.den} (h : RepX Try.prog w Sh (clB g1) tB79 0 cs x bm79) :
    ∃ a len cap, cs[4]? = some (.slice a len cap) ∧ HoldS 4 w (fun k => g1 k = some (some 4)) (RepC Try.prog shiftTy w Sh) a len cap x.2.2.2.2.1 := by
  obtain ⟨_, _, _, _, rfl, e, ⟨a0, l0, c0, q0, rfl, rfl, h0⟩, h⟩ := h
  obtain ⟨rfl, rfl⟩ := List.cons.inj e
  clear h0
  obtain ⟨_, _, _, _, rfl, e, ⟨a1, l1, c1, q1, rfl, rfl, h1⟩, h⟩ := h
  obtain ⟨rfl, rfl⟩ := List.cons.inj e
  clear h1
  obtain ⟨_, _, _, _, rfl, e, ⟨a2, l2, c2, q2, rfl, rfl, h2⟩, h⟩ := h
  obtain ⟨rfl, rfl⟩ := List.cons.inj e
  clear h2
  obtain ⟨_, _, _, _, rfl, e, ⟨a3, l3, c3, q3, rfl, rfl, h3⟩, h⟩ := h
  obtain ⟨rfl, rfl⟩ := List.cons.inj e
  clear h3
  obtain ⟨_, _, _, _, rfl, e, ⟨a4, l4, c4, q4, rfl, rfl, h4⟩, h⟩ := h
  obtain ⟨rfl, rfl⟩ := List.cons.inj e
  exact ⟨a4, l4, c4, rfl, h4.1⟩
end Go.Proofs.Ytbapfiaglcllnaa.D.Rt
end

section
namespace Go.Proofs.Ytbapfiaglcllnaa.D.Rt
set_option maxRecDepth 10000
open Go Go.GD Go.Proofs
theorem old_mono {w0 w : World} (h : Old w0 w) (Ok : Nat → Prop) : Mono w0 Ok w Ok := ⟨h.1, fun b hb hk => ⟨h.2.1 b hb, hk⟩⟩
theorem getD2 (m : List (List Bool)) (i j : Nat) (h1 : i < m.length) (h2 : j < m[i].length) : ((m[i]?).getD [])[j]?.getD false = m[i][j] := by
  simp [List.getElem?_eq_getElem h1, List.getElem?_eq_getElem h2]
set_option maxHeartbeats 4000000 in
theorem best_does : Does Try.prog 42 [.sl taskTy, .sl .bool] [.sl shiftTy] true best20 := by
  intro w Ok cs x y hX hy
  obtain ⟨l, wn⟩ := x
  obtain ⟨c1, c2, rfl, ⟨al, n, cl, rfl, hs⟩, ⟨aw, nw, cw, rfl, hs2⟩⟩ := hX
  show Calls Try.prog 42 #[.slice al n cl, .slice aw nw cw] w _
  simp only [best20] at hy
  obtain ⟨e, he, hy⟩ := Option.bind_eq_some_iff.1 hy
  have hlen : l.length = n := hs.1
  have hR : Calls Try.prog 77 #[.slice al n cl, .slice aw nw cw] w fun ex W => ex = .returned (.int .i64 e) ∧ Ext w W := by
    refine (does77 w Ok [.slice al n cl, .slice aw nw cw] (l, wn) e ⟨_, _, rfl, ⟨al, n, cl, rfl, hs⟩, ⟨aw, nw, cw, rfl, hs2⟩⟩ he).mono ?_
    rintro ex W ⟨us, g', rfl, ⟨_, _, hu⟩, q1, q2, q3, q4⟩
    have hu : us = [.int .i64 e] := hu
    subst hu
    exact ⟨rfl, q1, q2, q4⟩
  refine start20 hR (fun hne W hW => ?_) (fun h0 W f hW f0 f1 => ?_)
  · rw [show (e != 0) = true by simpa using hne, cond_true] at hy
    injection hy with hy
    subst hy
    exact ⟨[.slice none 0 0], fun _ => none, rfl, ⟨none, 0, 0, .own, rfl, rfl, ⟨⟨rfl, Nat.le_refl _, .inl rfl⟩, trivial⟩⟩, hW.1, hW.2.1, fun b hb => absurd rfl hb, hW.2.2⟩
  rw [h0, show ((0 : Int) != 0) = false from rfl, cond_false] at hy
  cases hcap : Nat.ble l.length 1000 with
  | false => rw [hcap] at hy; cases hy
  | true =>
  rw [hcap, cond_true] at hy
  have hn : n ≤ 1000 := by rw [← hlen]; exact Nat.le_of_ble_eq_true hcap
  obtain ⟨m, hm, hy⟩ := Option.bind_eq_some_iff.1 hy
  obtain ⟨r, hr, hy⟩ := Option.bind_eq_some_iff.1 hy
  injection hy with hy
  obtain ⟨tk, htk⟩ := tasks_of hs
  refine wp_seq (reg3 al aw n cl nw cw hn Fr.size (by rw [Fr.get (by decide)]; exact f0) (by rw [Fr.get (by decide)]; exact f1) fun a' w1 hF => ?_)
  obtain ⟨b4, b7, b10, bs, p4, p7, p10, ps, hne, t5, gs, g4, g7, g10⟩ := hF.blocks
  have hdf : a'.defers = [] := hF.df
  rw [Fr.of hF.sz, hdf]
  have hext : Ext w w1 := hW.trans hF.ext
  let C : Cx := { w0 := w, al := al, n := n, cl := cl, vw := .slice aw nw cw, bs := bs, b4 := b4, b7 := b7, b10 := b10, H := w1.heap.size, tk := tk, sec := fun i => (l[i]?.map (·.2.1)).getD 0, c := fun i j => ((m[i]?).getD [])[j]?.getD false }
  obtain ⟨hml, hmi⟩ := mapO_some hm
  have hdiff : ∀ {b b' : Nat} {x x' : Array Value} {t t' : TypeId}, w1.heap[b]? = some (.cells x t (0, 0)) → w1.heap[b']? = some (.cells x' t' (0, 0)) → t ≠ t' → b ≠ b' := by
    rintro b b' x x' t t' k1 k2 k3 rfl
    rw [k1] at k2
    injection k2 with k2
    injection k2 with _ k2
    exact k3 k2
  have hC : C.OK := by
    refine ⟨hn, fun i hi => ?_, ⟨Nat.le_trans hW.1 ps, Nat.le_trans hW.1 p4, Nat.le_trans hW.1 p7, Nat.le_trans hW.1 p10⟩, ⟨heap_lt gs, heap_lt g4, heap_lt g7, heap_lt g10⟩,
      ⟨hdiff gs g4 (by decide), hdiff gs g7 (by decide), hdiff gs g10 (by decide), hdiff g4 g7 (by decide), hdiff g4 g10 (by decide), hne⟩, fun i j hi hj w' hw' => ?_⟩
    · have hi' : i < l.length := by rw [hlen]; exact hi
      obtain ⟨ad, k1, k2, k3, k4, k5, k6⟩ := htk i hi'
      refine ⟨ad, k1, k2, k3, k4, k5, (task_cells k6).2, ?_⟩
      rw [(task_cells k6).1]
      show _ = some (Value.int .i64 ((l[i]?.map (·.2.1)).getD 0))
      rw [List.getElem?_eq_getElem hi']; rfl
    · have hi' : i < l.length := by rw [hlen]; exact hi
      have hj' : j < l.length := by rw [hlen]; exact hj
      obtain ⟨_, _, _, _, i4, _, i6⟩ := htk i hi'
      obtain ⟨_, _, _, _, j4, _, j6⟩ := htk j hj'
      obtain ⟨hl2, hmj⟩ := mapO_some (hmi i hi' (by rw [hml]; exact hi'))
      have hc : d78 (l[i], l[j]) = some (C.c i j) := by
        rw [hmj j hj' (by rw [hl2]; exact hj')]
        exact congrArg some (getD2 m i j (by rw [hml]; exact hi') (by rw [hl2]; exact hj')).symm
      have hav : argVals ps78 (tk i ++ tk j) = [.agg (tk i).toArray, .agg (tk j).toArray] := by
        show [mkV taskTy ((tk i ++ tk j).take 4), mkV taskTy (((tk i ++ tk j).drop 4).take 4)] = _
        rw [List.take_append_of_le_length (by omega), List.take_of_length_le (by omega), show (tk i ++ tk j).drop 4 = tk j by rw [← i4, List.drop_left], List.take_of_length_le (by omega)]
        rfl
      have := does78 w' Ok (tk i ++ tk j) (l[i], l[j]) _ ⟨_, _, rfl, RepC.mono taskTy (old_mono hw' Ok) i6, RepC.mono taskTy (old_mono hw' Ok) j6⟩ hc
      rw [hav] at this
      refine this.mono ?_
      rintro ex W2 ⟨us, g', rfl, ⟨_, _, hu⟩, q1, q2, q3, q4⟩
      have hu : us = [.bool (C.c i j)] := hu
      subst hu
      exact ⟨rfl, q1, q2, q4⟩
  have hw0 : WI C 1 (fun _ => none) (fun _ => []) w1 := by
    refine ⟨Nat.le_refl _, ⟨hext.1, hext.2.1, hext.2.2⟩, gs, g7, g10, ⟨(madeCells #[.slice none 0 0] (n * 1)).toList, ?_, by simpa using g4, fun j hj => ⟨.slice none 0 0, ?_, .inl ⟨rfl, rfl, rfl⟩⟩⟩, fun j k b _ _ _ hb => by cases hb⟩
    · rw [Array.length_toList, size_madeCells, Nat.mul_one]
    · have hj : j < n * 1 := by rw [Nat.mul_one]; exact hj
      rw [made_get _ _ _ hj, show (#[Value.slice none 0 0] : Array Value).size = 1 from rfl, Nat.mod_one]; rfl
  refine rest_run hC (hF.t0) t5 hw0 fun o w' hW' => ?_
  let g0 : Nat → Option (Option Nat) := fun k => if k = bs then some none else if k = b7 then some (some 3) else if k = b10 then some (some 4) else none
  let Ok' : Nat → Prop := fun k => (Ok k ∧ k < w.heap.size) ∨ (w.heap.size ≤ k ∧ g0 k = none)
  have glo : ∀ k, g0 k ≠ none → w.heap.size ≤ k ∧ k < w1.heap.size := by
    intro k hk
    have hlo := hC.lo; have hhi := hC.hi
    show C.w0.heap.size ≤ k ∧ k < C.H
    by_cases e1 : k = bs
    · subst e1; exact ⟨hlo.1, hhi.1⟩
    · by_cases e2 : k = b7
      · subst e2; exact ⟨hlo.2.2.1, hhi.2.2.1⟩
      · by_cases e3 : k = b10
        · subst e3; exact ⟨hlo.2.2.2, hhi.2.2.2⟩
        · exact absurd (show (if k = bs then some none else if k = b7 then some (some 3) else if k = b10 then some (some 4) else none : Option (Option Nat)) = none by rw [if_neg e1, if_neg e2, if_neg e3]) hk
  have gnone : ∀ k, k < w.heap.size → g0 k = none := fun k hk => by
    cases hg : g0 k with
    | none => rfl
    | some p => have := (glo k (by rw [hg]; simp)).1; omega
  have ghi : ∀ k, w1.heap.size ≤ k → g0 k = none := fun k hk => by
    cases hg : g0 k with
    | none => rfl
    | some p => have := (glo k (by rw [hg]; simp)).2; omega
  have hmono : Mono w Ok w' Ok' := ⟨hW'.old.1, fun b hb hk => ⟨hW'.old.2.1 b hb, .inl ⟨hk, hb⟩⟩⟩
  have hrows : (List.range n).map (fun k => C.row k n) = m := by
    apply List.ext_getElem
    · simp [hml, hlen]
    · intro i h1 h2
      simp only [List.length_map, List.length_range] at h1
      obtain ⟨hl2, hmj⟩ := mapO_some (hmi i (by omega) h2)
      simp only [List.getElem_map, List.getElem_range]
      apply List.ext_getElem
      · simp [Cx.row, hl2, hlen]
      · intro j k1 k2
        simp only [Cx.row, List.getElem_map, List.getElem_range]
        exact getD2 m i j h2 k2
  have hsum : C.sum n = sum20 l := by
    have := sum_all C l (fun i hi => by
      show (l[i]?.map (·.2.1)).getD 0 = _
      rw [List.getElem?_eq_getElem hi]; rfl)
    rw [hlen] at this; exact this
  have hm4 := rows_rep (C := C) hW' (Ok := Ok') (.inr ⟨hC.lo.2.1, by
    show (if b4 = bs then some none else if b4 = b7 then some (some 3) else if b4 = b10 then some (some 4) else none : Option (Option Nat)) = none
    rw [if_neg (fun e => hC.ne.1 e.symm), if_neg hC.ne.2.2.2.1, if_neg hC.ne.2.2.2.2.1]⟩) (fun b hb => .inr ⟨Nat.le_trans hext.1 hb, ghi b hb⟩)
  have hrx : RepX Try.prog w' Ok' (clB g0) tB79 0 (C.cells (C.sum n)) (l, wn, m, zs n, zs n, sum20 l) bm79 := by
    refine ⟨[_], _, [_], _, rfl, rfl, ⟨al, n, cl, .shr, rfl, rfl, hs.mono hmono (fun _ _ => RepC.mono taskTy hmono), by simp⟩, ?_⟩
    refine ⟨[_], _, [_], _, rfl, rfl, ⟨aw, nw, cw, .shr, rfl, rfl, hs2.mono hmono (fun _ _ => RepC.mono .bool hmono), by simp⟩, ?_⟩
    refine ⟨[_], _, [_], _, rfl, rfl, ⟨_, n, n, .shr, rfl, rfl, ?_, by simp⟩, ?_⟩
    · rw [← hrows]; exact hm4
    refine ⟨[_], _, [_], _, rfl, rfl, ⟨_, n, n, .own, rfl, rfl, zeros_rep hW'.p7 ?_, trivial⟩, ?_⟩
    · show (if b7 = bs then some none else if b7 = b7 then some (some 3) else if b7 = b10 then some (some 4) else none : Option (Option Nat)) = some (some 3)
      rw [if_neg (fun e => hC.ne.2.1 e.symm), if_pos rfl]
    refine ⟨[_], _, [_], _, rfl, rfl, ⟨_, n, n, .own, rfl, rfl, zeros_rep hW'.p10 ?_, trivial⟩, ?_⟩
    · show (if b10 = bs then some none else if b10 = b7 then some (some 3) else if b10 = b10 then some (some 4) else none : Option (Option Nat)) = some (some 4)
      rw [if_neg (fun e => hC.ne.2.2.1 e.symm), if_neg (fun e => hne e.symm), if_pos rfl]
    exact ⟨.shr, rfl, by rw [hsum]; rfl⟩
  rw [← d30_eq, hlen] at hr
  have hcall := does79 w' Ok' g0 bs 146 (C.cells (C.sum n)) [.int .i64 n, .int .i64 0, .int .i64 0] _ ((n : Int), 0, 0) r (if_pos rfl) hW'.s hrx
    (fun k hk => by
      rcases hk with ⟨_, hk⟩ | ⟨_, hk⟩
      · exact gnone k hk
      · exact hk)
    (fun k hk => Nat.lt_of_lt_of_le (glo k hk).2 hW'.sz) ⟨[_], [_, _], rfl, rfl, [_], [_], rfl, rfl, rfl⟩ hr
  refine hcall.mono ?_
  rintro ex w'' ⟨us, g1, e', cs', rfl, q1, q2, q3, _, q5, q6, q7, q8⟩
  obtain ⟨a, len, cap, k1, k2⟩ := best_cell q3
  subst hy
  refine ⟨_, e', cs', _, rfl, q2, k1, ?_⟩
  have hgb : ∀ b, (if g1 b = some (some 4) then some 0 else none : Option Nat) ≠ none → g1 b = some (some 4) := fun b hb => by
    by_cases h : g1 b = some (some 4)
    · exact h
    · rw [if_neg h] at hb; exact absurd rfl hb
  refine ⟨[.slice a len cap], fun b => if g1 b = some (some 4) then some 0 else none, rfl, ⟨a, len, cap, .own, rfl, rfl, ?_, trivial⟩, Nat.le_trans hW'.old.1 q5, fun b hb => (q6 b (Nat.lt_of_lt_of_le hb hW'.old.1) (gnone b hb)).trans (hW'.old.2.1 b hb), fun b hb => ?_, hW'.old.2.2.trans q8⟩
  · exact k2.mono (B' := fun b => (if g1 b = some (some 4) then some 0 else none : Option Nat) = some 0) ⟨Nat.le_refl _, fun b _ hb => ⟨rfl, if_pos hb⟩⟩ fun _ _ => RepC.scalar shiftTy rfl
  · have hg := hgb b hb
    have := q7 b (by rw [hg]; simp)
    refine ⟨this.1.elim (fun h => Nat.le_trans hW'.old.1 h) fun h => (glo b h).1, this.2⟩
end Go.Proofs.Ytbapfiaglcllnaa.D.Rt
end
