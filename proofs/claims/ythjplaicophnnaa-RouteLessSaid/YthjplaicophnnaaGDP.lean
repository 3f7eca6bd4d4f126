import Derived.Test.YthjplaicophnnaaGD22
namespace Go.GD
open Go
noncomputable section

/-! ### a region with its operations in another order -/

/-- region n's operations in another order (of a body that is a chain) -/
def permReg (n : Nat) (perm : List Nat) : Code → Code
  | .region id ops d => if Nat.beq id n then .region id (perm.filterMap fun i => ops.toList[i]?).toArray d else .region id ops d
  | .seq a b => .seq (permReg n perm a) (permReg n perm b)
  | c => c

section
variable {P : Program} {Q : Exit → Act → World → Prop}

def wpL (P : Program) (Q : Exit → Act → World → Prop) : List Oper → Act → World → Prop
  | [], a, w => Q .normal a w
  | o :: l, a, w => o.wp P a w (wpL P Q l) Q

def Only (Q : Exit → Act → World → Prop) : Exit → Act → World → Prop
  | .normal, a, w => Q .normal a w
  | _, _, _ => False
theorem only_normal {e : Exit} {a : Act} {w : World} (h : Only Q e a w) : e = .normal := by cases e <;> first | rfl | exact h.elim

theorem ops_wpL {ops : Array Oper} (hg : ∀ o, o ∈ ops.toList → o.guard = none) : ∀ (l : List Oper) (j : Nat) (a : Act) (w : World), ops.toList.drop j = l →
    (wpOps P ops (Only Q) ((List.range ops.size).drop j) a w ↔ wpL P (Only Q) l a w)
  | [], j, a, w, hd => by
    have hj : ops.size ≤ j := by
      have := congrArg List.length hd
      simp only [List.length_drop, Array.length_toList, List.length_nil] at this
      omega
    rw [List.drop_eq_nil_of_le (by simpa using hj)]
    exact Iff.rfl
  | o :: l, j, a, w, hd => by
    have hj : j < ops.size := by
      have := congrArg List.length hd
      simp only [List.length_drop, Array.length_toList, List.length_cons] at this
      omega
    have hoj : ops[j]? = some o := by
      have := congrArg (fun l => l[0]?) hd
      simpa [List.getElem?_drop] using this
    have hd' : ops.toList.drop (j + 1) = l := by rw [← List.drop_drop, hd]; rfl
    have hog : o.guard = none := hg o (by
      have : o ∈ ops.toList.drop j := by rw [hd]; exact List.mem_cons_self ..
      exact List.mem_of_mem_drop this)
    rw [List.drop_eq_getElem_cons (by simpa using hj)]
    simp only [List.getElem_range, wpOps, hoj, wpL]
    rw [if_pos (by simp [Region.wanted, hog])]
    have ih := fun a w => ops_wpL hg l (j + 1) a w hd'
    constructor
    · rintro (h | ⟨_, a', w', h⟩)
      · exact Oper.wp_mono (fun a' w' h' => (ih a' w').1 h') h
      · exact h.elim
    · intro h
      exact .inl (Oper.wp_mono (fun a' w' h' => (ih a' w').2 h') h)

theorem put_eval_ne {a : Act} {d : Option Nat} {v : Value} {x : Nat} (h : d ≠ some x) : (a.put d v).eval (.tmp x) = a.eval (.tmp x) := by
  cases d with
  | none => rfl
  | some d =>
    show (a.tmps.setIfInBounds d v).getD x undef = a.tmps.getD x undef
    exact getD_set_other (fun e => h (by rw [e]))
theorem put_comm {a : Act} {d e : Option Nat} {v u : Value} (h : d ≠ e ∨ d = none) : (a.put d v).put e u = (a.put e u).put d v := by
  cases d with
  | none => rfl
  | some d => cases e with
    | none => rfl
    | some e =>
      have hne : d ≠ e := fun x => by subst x; rcases h with h | h <;> simp at h
      simp only [Act.put]
      rw [Array.setIfInBounds_comm _ _ hne]

/-- the operation reads no slot but x, and may run before or after a slot is copied from s to d -/
def Apart (o : Oper) (s d : Nat) : Prop :=
  o.dst ≠ some s ∧ o.dst ≠ some d ∧ ((∃ S x f, o.op = .fieldAddr S (.tmp x) f ∧ x ≠ d) ∨ (∃ T x c, o.op = .indexAddr T (.tmp x) (.const c) ∧ x ≠ d) ∨ ∃ T x c, o.op = .store T (.tmp x) (.const c) ∧ x ≠ d)

theorem wpL_swap {o m : Oper} {l : List Oper} {s d : Nat} (hm : m.op = .move (.tmp s)) (hd : m.dst = some d) (ho : Apart o s d) {a : Act} {w : World} (h : wpL P (Only Q) (o :: m :: l) a w) : wpL P (Only Q) (m :: o :: l) a w := by
  obtain ⟨h1, h2, h3⟩ := ho
  have hmv : ∀ (a : Act) (w : World) (K : Act → World → Prop), m.wp P a w K (Only Q) ↔ K (a.put (some d) (a.eval (.tmp s))) w := by
    intro a w K
    unfold Oper.wp
    rw [show (execOp a.eval m).run P w = .ok (.value (a.eval (.tmp s))) w by simp [execOp, hm], Oper.upon_value, hd]
  simp only [wpL] at h ⊢
  rw [hmv]
  have hex : (execOp (a.put (some d) (a.eval (.tmp s))).eval o).run P w = (execOp a.eval o).run P w := by
    have ev : ∀ x, x ≠ d → (a.put (some d) (a.eval (.tmp s))).eval (.tmp x) = a.eval (.tmp x) := fun x hx => put_eval_ne (fun e => hx (by injection e with e; exact e.symm))
    have ec : ∀ (b : Act) (c : Value), b.eval (.const c) = c := fun _ _ => rfl
    rcases h3 with ⟨S, x, f, e, hx⟩ | ⟨T, x, c, e, hx⟩ | ⟨T, x, c, e, hx⟩ <;> simp [execOp, e, ev x hx, ec]
  have hnext : ∀ u w1, m.wp P (a.put o.dst u) w1 (wpL P (Only Q) l) (Only Q) → wpL P (Only Q) l ((a.put (some d) (a.eval (.tmp s))).put o.dst u) w1 := by
    intro u w1 hk
    rw [hmv, put_eval_ne h1] at hk
    rw [put_comm (.inl (fun e => h2 e.symm))]
    exact hk
  have hshape : (∃ v w1, (execOp a.eval o).run P w = .ok (.value v) w1) ∨ (∃ w1, (execOp a.eval o).run P w = .ok .skip w1) ∨ ∃ e w1, (execOp a.eval o).run P w = .halt e w1 := by
    rcases h3 with ⟨S, x, f, e, hx⟩ | ⟨T, x, c, e, hx⟩ | ⟨T, x, c, e, hx⟩
    · cases hq : (Instr.fieldAt S (a.eval (.tmp x)) f).run P w with
      | ok v w1 => exact .inl ⟨v, w1, by simp [execOp, e, hq]⟩
      | halt e1 w1 => exact .inr (.inr ⟨e1, w1, by simp [execOp, e, hq]⟩)
    · cases hq : (Instr.indexAt T (a.eval (.tmp x)) c).run P w with
      | ok v w1 => exact .inl ⟨v, w1, by simp [execOp, e, hq, show a.eval (.const c) = c from rfl]⟩
      | halt e1 w1 => exact .inr (.inr ⟨e1, w1, by simp [execOp, e, hq, show a.eval (.const c) = c from rfl]⟩)
    · cases hq : (Instr.storeAt T (a.eval (.tmp x)) c).run P w with
      | ok v w1 => exact .inr (.inl ⟨w1, by simp [execOp, e, hq, show a.eval (.const c) = c from rfl]⟩)
      | halt e1 w1 => exact .inr (.inr ⟨e1, w1, by simp [execOp, e, hq, show a.eval (.const c) = c from rfl]⟩)
  unfold Oper.wp at h ⊢
  rw [hex]
  rcases hshape with ⟨v, w1, e⟩ | ⟨w1, e⟩ | ⟨e1, w1, e⟩
  · rw [e, Oper.upon_value] at h ⊢
    exact hnext v w1 h
  · rw [e, Oper.upon_skip] at h ⊢
    exact hnext undef w1 h
  · rw [e] at h
    exfalso
    revert h
    cases e1 <;> intro h <;> exact h.elim

theorem wpL_pull {m : Oper} {s d : Nat} (hm : m.op = .move (.tmp s)) (hd : m.dst = some d) {l : List Oper} : ∀ (pre : List Oper), (∀ o, o ∈ pre → Apart o s d) → ∀ (a : Act) (w : World), wpL P (Only Q) (pre ++ m :: l) a w → wpL P (Only Q) (m :: (pre ++ l)) a w
  | [], _, _, _, h => h
  | o :: pre, ho, a, w, h => by
    refine wpL_swap hm hd (ho o (List.mem_cons_self ..)) ?_
    exact Oper.wp_mono (fun a' w' h' => wpL_pull hm hd pre (fun o ho' => ho o (List.mem_cons_of_mem _ ho')) a' w' h') h
theorem wpL_cons {o : Oper} {l m : List Oper} (h : ∀ a w, wpL P (Only Q) l a w → wpL P (Only Q) m a w) {a : Act} {w : World} (hk : wpL P (Only Q) (o :: l) a w) : wpL P (Only Q) (o :: m) a w :=
  Oper.wp_mono (fun a' w' h' => h a' w' h') hk
end

theorem Reads.region {C : Ctx} {E : Env} {ρ : Type} {ann : List LoopAnn} {fuel : Nat} {r : ρ} {ds : List Deferred} {id : Nat} {ops ops1 : Array Oper} (hE : TabOK C.P E.tab) (hfn : EnvOK C E) (hg : ∀ o, o ∈ ops.toList → o.guard = none) (hg1 : ∀ o, o ∈ ops1.toList → o.guard = none)
    (hp : ∀ (Q : Exit → Act → World → Prop) a w, wpL C.P (Only Q) ops1.toList a w → wpL C.P (Only Q) ops.toList a w) : Reads C E ann fuel ds r (.region id ops false) (.region id ops1 false) := by
  intro k Q g σ tm w h hr hQ
  have h1 := region_sound (ops := ops1) (Q := Only Q) (K := fun σ' => k .normal σ') (r := r) (ds := ds) hE hfn (fun g' σ' a' w' h' hd hk => by
    obtain ⟨tm', ds'⟩ := a'
    simp only at hd
    subst hd
    exact hQ .normal g' σ' tm' w' h' hk) ops1.toList 0 g σ tm w rfl h hr
  have h2 := hp Q ⟨tm, ds⟩ w ((ops_wpL hg1 ops1.toList 0 _ _ rfl).1 h1)
  have h3 := (ops_wpL hg ops.toList 0 _ _ rfl).2 h2
  refine wp_mono (wp_region (by simpa using h3)) fun e a w hq => ?_
  have := only_normal hq
  subst this
  exact hq
end
end Go.GD
