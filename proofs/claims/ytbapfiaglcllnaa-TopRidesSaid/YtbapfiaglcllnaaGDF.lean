import Derived.Test.YtbapfiaglcllnaaGDdd
namespace Go.GD
open Go
noncomputable section
def Fr (N : Nat) (f : Nat → Value) (ds : List Deferred) : Act := ⟨Array.ofFn (n := N) fun i => f i, ds⟩
def put_ (f : Nat → Value) (d : Nat) (v : Value) : Nat → Value := fun s => if s = d then v else f s
theorem fr_same (f : Nat → Value) (d : Nat) (v : Value) : put_ f d v d = v := if_pos rfl
theorem fr_ne (f : Nat → Value) (d : Nat) (v : Value) {s : Nat} (h : s ≠ d) : put_ f d v s = f s := if_neg h
section
variable {N : Nat} {f : Nat → Value} {ds : List Deferred} {P : Program} {ops : Array Oper} {Q : Exit → Act → World → Prop} {w w' : World} {a : Act}
theorem Fr.get {s : Nat} (h : s < N) : (Fr N f ds).tmps.getD s undef = f s := by
  simp [Fr, Array.getD_eq_getD_getElem?, h]
theorem Fr.tmp {s : Nat} (h : s < N) : (Fr N f ds).eval (.tmp s) = f s := Fr.get h
theorem Fr.const (v : Value) : (Fr N f ds).eval (.const v) = v := rfl
theorem Fr.size : (Fr N f ds).tmps.size = N := by simp [Fr]
theorem Fr.put {d : Nat} (_ : d < N) (v : Value) : (Fr N f ds).put (some d) v = Fr N (put_ f d v) ds := by
  unfold Fr
  simp only [Act.put, Act.mk.injEq, and_true]
  apply Array.ext
  · simp
  · intro i h1 h2
    simp only [Array.size_setIfInBounds, Array.size_ofFn] at h1
    by_cases e : d = i
    · subst e; simp [put_]
    · rw [Array.getElem_setIfInBounds_ne (by simpa using h1) e]
      simp [put_, show ¬ i = d from fun e' => e e'.symm]
theorem Fr.of (h : a.tmps.size = N) : a = Fr N (fun s => a.tmps.getD s undef) a.defers := by
  obtain ⟨t, d⟩ := a
  unfold Fr
  simp only [Act.mk.injEq, and_true]
  apply Array.ext
  · simp [show t.size = N from h]
  · intro i h1 h2
    simp [Array.getD_eq_getD_getElem?, h1]
def shg (l : List Oper) : List (Op × Option Nat × Option (Nat × Bool)) := l.map fun o => (o.op, o.dst, o.guard)
def wpSh (P : Program) (ops : Array Oper) (Q : Exit → Act → World → Prop) : List (Op × Option Nat × Option (Nat × Bool)) → Act → World → Prop
  | [], a, w => Q .normal a w
  | s :: l, a, w => ∀ o : Oper, o.op = s.1 → o.dst = s.2.1 → o.guard = s.2.2 → (if Region.wanted o (yielded ops a.tmps) = true then o.wp P a w (wpSh P ops Q l) Q else wpSh P ops Q l (a.put o.dst undef) w)
theorem wpSh_ops (l : List Oper) : ∀ (j : Nat) (a : Act) (w : World), ops.toList.drop j = l → wpSh P ops Q (shg l) a w → wpOps P ops Q ((List.range ops.size).drop j) a w := by
  induction l with
  | nil =>
    intro j a w hd h
    have hj : ops.size ≤ j := by
      have := congrArg List.length hd
      simp only [List.length_drop, Array.length_toList, List.length_nil] at this
      omega
    rw [List.drop_eq_nil_of_le (by simpa using hj)]
    exact h
  | cons o l ih =>
    intro j a w hd h
    have hj : j < ops.size := by
      have := congrArg List.length hd
      simp only [List.length_drop, Array.length_toList, List.length_cons] at this
      omega
    have hoj : ops[j]? = some o := by
      have := congrArg (fun l => l[0]?) hd
      simpa [List.getElem?_drop] using this
    have hd' : ops.toList.drop (j + 1) = l := by rw [← List.drop_drop, hd]; rfl
    rw [List.drop_eq_getElem_cons (by simpa using hj)]
    simp only [List.getElem_range, wpOps, hoj]
    have h := h o rfl rfl rfl
    split
    · rename_i hw
      rw [if_pos hw] at h
      exact .inl (Oper.wp_mono (fun a' w' h' => ih (j + 1) a' w' hd' h') h)
    · rename_i hw
      rw [if_neg hw] at h
      exact ih (j + 1) _ w hd' h
theorem reg_sh {id : Nat} {sh : List (Op × Option Nat × Option (Nat × Bool))} (hs : shg ops.toList = sh) (h : wpSh P ops Q sh a w) : (Code.region id ops false).wp P Q a w := by
  refine wp_region ?_
  have := wpSh_ops (ops := ops) (Q := Q) ops.toList 0 a w rfl (by rw [hs]; exact h)
  simpa using this
theorem sh_val {op : Op} {d : Nat} {l : List (Op × Option Nat × Option (Nat × Bool))} {v : Value} (hd : d < N) (hx : ∀ o : Oper, o.op = op → (execOp (Fr N f ds).eval o).run P w = .ok (.value v) w')
    (k : wpSh P ops Q l (Fr N (put_ f d v) ds) w') : wpSh P ops Q ((op, some d, none) :: l) (Fr N f ds) w := by
  intro o h1 h2 h3
  rw [if_pos (by simp [Region.wanted, show o.guard = none from h3])]
  unfold Oper.wp
  rw [hx o h1, Oper.upon_value, show o.dst = some d from h2, Fr.put hd]
  exact k
theorem sh_skip {op : Op} {l : List (Op × Option Nat × Option (Nat × Bool))} (hx : ∀ o : Oper, o.op = op → (execOp (Fr N f ds).eval o).run P w = .ok .skip w')
    (k : wpSh P ops Q l (Fr N f ds) w') : wpSh P ops Q ((op, none, none) :: l) (Fr N f ds) w := by
  intro o h1 h2 h3
  rw [if_pos (by simp [Region.wanted, show o.guard = none from h3])]
  unfold Oper.wp
  rw [hx o h1, Oper.upon_skip, show o.dst = none from h2]
  exact k
theorem sh_call {op : Op} {d : Nat} {l : List (Op × Option Nat × Option (Nat × Bool))} {g : FuncId} {args : Array Value} (hd : d < N) (hx : ∀ o : Oper, o.op = op → (execOp (Fr N f ds).eval o).run P w = .ok (.enter g args) w')
    (k : Calls P g args w' fun ex w'' => ∃ v, ex = .returned v ∧ wpSh P ops Q l (Fr N (put_ f d v) ds) w'') : wpSh P ops Q ((op, some d, none) :: l) (Fr N f ds) w := by
  intro o h1 h2 h3
  rw [if_pos (by simp [Region.wanted, show o.guard = none from h3])]
  unfold Oper.wp
  rw [hx o h1, Oper.upon_enter]
  refine k.mono ?_
  rintro ex w'' ⟨v, rfl, h⟩
  show wpSh P ops Q l ((Fr N f ds).put o.dst v) w''
  rw [show o.dst = some d from h2, Fr.put hd]
  exact h
theorem sh_move {x : Operand} {d : Nat} {l : List (Op × Option Nat × Option (Nat × Bool))} {v : Value} (hd : d < N) (hv : (Fr N f ds).eval x = v) (k : wpSh P ops Q l (Fr N (put_ f d v) ds) w) : wpSh P ops Q ((.move x, some d, none) :: l) (Fr N f ds) w :=
  sh_val hd (fun o ho => by simp [execOp, ho, hv]) k
theorem sh_assign {x : Operand} {d : Nat} {l : List (Op × Option Nat × Option (Nat × Bool))} {v : Value} (hd : d < N) (hv : (Fr N f ds).eval x = v) (k : wpSh P ops Q l (Fr N (put_ f d v) ds) w) : wpSh P ops Q ((.assign x, some d, none) :: l) (Fr N f ds) w :=
  sh_val hd (fun o ho => by simp [execOp, ho, hv]) k
theorem sh_len {x : Operand} {T el : TypeId} {d : Nat} {l : List (Op × Option Nat × Option (Nat × Bool))} {al : Option Addr} {n cl : Nat} (hd : d < N) (hu : P.underlying T = some (.slice el)) (hv : (Fr N f ds).eval x = .slice al n cl)
    (k : wpSh P ops Q l (Fr N (put_ f d (.int .i64 n)) ds) w) : wpSh P ops Q ((.call { callee := .builtin .len, args := #[x], argTypes := #[T] }, some d, none) :: l) (Fr N f ds) w :=
  sh_val hd (fun o ho => by simp [execOp, ho, resolve, invoke, builtin, Builtin.len_, hv, underlying, hu, goInt]) k
theorem run_guard (op : BinOp) (T : TypeId) (x y : Operand) (k k' : IntKind) (a b : Int) : (eqGuard op T x y (.int k a) (.int k' b)).run P w = .ok () w := by
  unfold eqGuard
  split <;> simp
theorem sh_lss {x y : Operand} {T T' : TypeId} {d : Nat} {l : List (Op × Option Nat × Option (Nat × Bool))} {k : IntKind} {a b : Int} (hd : d < N) (hx : (Fr N f ds).eval x = .int k a) (hy : (Fr N f ds).eval y = .int k b)
    (h : wpSh P ops Q l (Fr N (put_ f d (.bool (decide (a < b)))) ds) w) : wpSh P ops Q ((.binOp .lss T x y T', some d, none) :: l) (Fr N f ds) w :=
  sh_val hd (fun o ho => by simp [execOp, ho, hx, hy, run_guard, binOp, Op.intCmp]) h
theorem sh_add {x y : Operand} {T T' : TypeId} {d : Nat} {l : List (Op × Option Nat × Option (Nat × Bool))} {k : IntKind} {a b : Int} (hd : d < N) (hx : (Fr N f ds).eval x = .int k a) (hy : (Fr N f ds).eval y = .int k b)
    (h : wpSh P ops Q l (Fr N (put_ f d (.int k (k.wrap (a + b)))) ds) w) : wpSh P ops Q ((.binOp .add T x y T', some d, none) :: l) (Fr N f ds) w :=
  sh_val hd (fun o ho => by simp [execOp, ho, hx, hy, run_guard, binOp, Op.intArith]) h
end
end
end Go.GD
