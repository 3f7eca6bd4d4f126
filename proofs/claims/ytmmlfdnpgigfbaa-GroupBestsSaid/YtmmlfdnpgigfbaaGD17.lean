import Derived.Test.YtmmlfdnpgigfbaaGD16
namespace Go.GD
open Go

/-! ### calls -/

def argVals : List Ty → List Value → List Value
  | [], _ => []
  | t :: ts, cs => mkV t (cs.take t.size) :: argVals ts (cs.drop t.size)

def resV (ts : List Ty) (cs : List Value) : Value :=
  match argVals ts cs with
  | [v] => v
  | vs => .tuple vs.toArray

def clR (g : Nat → Option Nat) : Nat → Mk → Claim
  | c, .own => .hold (fun b => g b = some c) (fun _ => True)
  | _, _ => .share false


def rMarks (own : Bool) (t : Ty) : List Mk := cond own (ownMarks t) (shrMarks t)

/-- what a function does -/
def Does (P : Program) (f : Nat) (ps rs : List Ty) (own : Bool) (φ : (pk ps).den → Option (pk rs).den) : Prop :=
  ∀ (w : World) (Ok : Nat → Prop) (cs : List Value) (x : (pk ps).den) (y : (pk rs).den), RepC P (pk ps) w Ok cs x → φ x = some y →
    Calls P f (argVals ps cs).toArray w fun e w' => ∃ us g', e = .returned (resV rs us) ∧
      RepX P w' (fun b => (w.heap.size ≤ b ∨ Ok b) ∧ g' b = none) (clR g') (pk rs) 0 us y (rMarks own (pk rs)) ∧
      w.heap.size ≤ w'.heap.size ∧ (∀ b, b < w.heap.size → w'.heap[b]? = w.heap[b]?) ∧ (∀ b, g' b ≠ none → w.heap.size ≤ b ∧ b < w'.heap.size) ∧ SameIO w w'

/-- the first argument's slice alone is handed over -/
def clE (B : Nat → Prop) : Nat → Mk → Claim
  | _, .own => .hold B (fun _ => True)
  | _, _ => .share false

def eatMarks : List Ty → List Mk
  | _ :: t :: ts => .own :: shrMarks (pk (t :: ts))
  | _ => [.own]

/-- what a function does that uses up its first argument's slice -/
def EatDoes (P : Program) (f : Nat) (ps rs : List Ty) (φ : (pk ps).den → Option (pk rs).den) : Prop :=
  ∀ (w : World) (Ok B : Nat → Prop) (cs : List Value) (x : (pk ps).den) (y : (pk rs).den), RepX P w Ok (clE B) (pk ps) 0 cs x (eatMarks ps) → (∀ b, B b → ¬ Ok b) → (∀ b, B b → b < w.heap.size) → φ x = some y →
    Calls P f (argVals ps cs).toArray w fun e w' => ∃ us g', e = .returned (resV rs us) ∧
      RepX P w' (fun b => (w.heap.size ≤ b ∨ Ok b) ∧ g' b = none) (clR g') (pk rs) 0 us y (ownMarks (pk rs)) ∧
      w.heap.size ≤ w'.heap.size ∧ (∀ b, b < w.heap.size → ¬ B b → w'.heap[b]? = w.heap[b]?) ∧ (∀ b, g' b ≠ none → (w.heap.size ≤ b ∨ B b) ∧ b < w'.heap.size) ∧ SameIO w w'

structure Contract (P : Program) (f : Nat) (sg : Sig) : Prop where
  callable : Callable P f
  does : sg.eat = false → Does P f sg.ps sg.rs sg.own sg.φ
  eats : sg.eat = true → EatDoes P f sg.ps sg.rs sg.φ

/-- the caller's variable: whose a block is (none: not of the variable; some none: the variable itself; some (some c): of its cell c) -/
def clB (g0 : Nat → Option (Option Nat)) : Nat → Mk → Claim
  | c, .own => .hold (fun k => g0 k = some (some c)) (fun _ => True)
  | _, _ => .share false

def Left (w : World) (Ok : Nat → Prop) (g0 g1 : Nat → Option (Option Nat)) (k : Nat) : Prop := (w.heap.size ≤ k ∨ Ok k ∨ g0 k ≠ none) ∧ g1 k = none

/-- what a function does that changes a variable of its caller's -/
def BoxDoes (P : Program) (f : Nat) (B : BxSig) : Prop :=
  ∀ (w : World) (Ok : Nat → Prop) (g0 : Nat → Option (Option Nat)) (b : Nat) (e : TypeId) (cs as : List Value) (x : B.t.den) (y : (pk B.ps).den) (r : B.t.den × (pk B.rs).den),
    g0 b = some none → w.heap[b]? = some (.cells cs.toArray e (0, 0)) → RepX P w Ok (clB g0) B.t 0 cs x B.bm → (∀ k, Ok k → g0 k = none) → (∀ k, g0 k ≠ none → k < w.heap.size) →
    RepC P (pk B.ps) w Ok as y → B.φ x y = some r →
    Calls P f (Value.pointer (some ⟨b, 0, none⟩) :: argVals B.ps as).toArray w fun ex w' => ∃ us g1 e', ∃ cs' : List Value, ex = .returned (resV B.rs us) ∧
      g1 b = some none ∧ w'.heap[b]? = some (.cells cs'.toArray e' (0, 0)) ∧ RepX P w' (Left w Ok g0 g1) (clB g1) B.t 0 cs' r.1 B.bm ∧ RepC P (pk B.rs) w' (Left w Ok g0 g1) us r.2 ∧
      w.heap.size ≤ w'.heap.size ∧ (∀ k, k < w.heap.size → g0 k = none → w'.heap[k]? = w.heap[k]?) ∧ (∀ k, g1 k ≠ none → (w.heap.size ≤ k ∨ g0 k ≠ none) ∧ k < w'.heap.size) ∧ SameIO w w'

def plainMarks (ms : List Mk) : Bool := ms.all fun m => markBeq m .shr || markBeq m .own

structure BxContract (P : Program) (f : Nat) (B : BxSig) : Prop where
  callable : Callable P f
  plain : plainMarks B.bm = true
  does : BoxDoes P f B

structure EnvOK (C : Ctx) (E : Env) : Prop where
  fns : ∀ f sg, E.fn f = some sg → Contract C.P f sg
  bxs : ∀ f b, E.bx f = some b → BxContract C.P f b
  pins : PinOK C E

theorem Callable.run {P : Program} {f : Nat} (h : Callable P f) (args : Array Value) (w : World) : (callFunc f args).run P w = .ok (.enter f args) w := by
  obtain ⟨fn, h1, h2, h3⟩ := h
  simp only [callFunc, Sem.run_bind, run_program, Result.andThen_ok, h1, h2, h3, Bool.false_eq_true, if_false, Sem.run_pure]

section
variable {C : Ctx} {g g' : Own} {σ : St} {tm tm' : Array Value} {w w' : World} {E : Env} {o : Oper} {ρ : Type} {K : St → Option ρ} {r : ρ} {ds : List Deferred}
  {next : Act → World → Prop} {Q : Exit → Act → World → Prop}

theorem take_all {α : Type} {cs : List α} {n : Nat} (h : cs.length = n) : cs.take n = cs := List.take_of_length_le (by omega)

theorem argsP_inv : (ts : List Ty) → (Ts : List Nat) → (os : List Operand) → {k : (pk ts).den → List Mk → Prog} → SRep C g σ tm w → (argsP E Ts os ts k).run σ K = some r →
    ∃ x ms cs, os.map (Act.eval ⟨tm, ds⟩) = argVals ts cs ∧ RepX C.P w (Shd C g) (cl g σ tm w 0) (pk ts) 0 cs x ms ∧ NoOwn ms ∧ (∀ m, m ∈ ms → bndM σ m) ∧ (∀ m, m ∈ ms → okM σ m) ∧ (k x ms).run σ K = some r
  | [], Ts, os, k, h, hr => by
    cases Ts with
    | cons => simp [argsP, Prog.run] at hr
    | nil =>
      cases os with
      | cons => simp [argsP, Prog.run] at hr
      | nil =>
        simp only [argsP] at hr
        exact ⟨(), [], [], rfl, ⟨rfl, rfl⟩, (fun _ h => by cases h), (fun _ h => by cases h), (fun _ h => by cases h), hr⟩
  | [t], Ts, os, k, h, hr => by
    match Ts, os with
    | [], _ => simp [argsP, Prog.run] at hr
    | [T], [] => simp [argsP, Prog.run] at hr
    | _ :: _ :: _, _ => simp [argsP, Prog.run] at hr
    | [T], _ :: _ :: _ => simp [argsP, Prog.run] at hr
    | [T], [o] =>
      simp only [argsP] at hr
      obtain ⟨v, hv, hok, hq⟩ := rdV_inv (ds := ds) h hr
      clear hr
      split at hq
      case h_2 => simp [Prog.run] at hq
      rename_i y hy
      obtain ⟨ety, rfl⟩ := castO_some hy
      subst ety
      obtain ⟨cs, e, hx, hn, hb⟩ := hv
      have hl := RepX.length _ hx
      exact ⟨_, v.ms, cs, by simp [argVals, e, take_all hl.1], hx, hn, hb, hok, hq⟩
  | t :: t' :: ts, Ts, os, k, h, hr => by
    match Ts, os with
    | [], _ => simp [argsP, Prog.run] at hr
    | _ :: _, [] => simp [argsP, Prog.run] at hr
    | T :: Ts, o :: os =>
      simp only [argsP] at hr
      obtain ⟨v, hv, hok, hq⟩ := rdV_inv (ds := ds) h hr
      clear hr
      split at hq
      case h_2 => simp [Prog.run] at hq
      rename_i y hy
      obtain ⟨ety, rfl⟩ := castO_some hy
      subst ety
      obtain ⟨cs, e, hx, hn, hb⟩ := hv
      have hl := RepX.length _ hx
      obtain ⟨x2, ms2, cs2, e2, hx2, hn2, hb2, hok2, hq⟩ := argsP_inv (t' :: ts) Ts os h hq
      refine ⟨(v.x, x2), v.ms ++ ms2, cs ++ cs2, ?_, ⟨cs, cs2, v.ms, ms2, rfl, rfl, hx, hx2.place _ _ hn2⟩, ?_, ?_, ?_, hq⟩
      · rw [List.map_cons, e2, e]
        show _ = mkV v.t ((cs ++ cs2).take v.t.size) :: argVals (t' :: ts) ((cs ++ cs2).drop v.t.size)
        rw [List.take_append_of_le_length (by omega), take_all hl.1, ← hl.1, List.drop_left]
      · intro m hm; exact (List.mem_append.1 hm).elim (hn m) (hn2 m)
      · intro m hm; exact (List.mem_append.1 hm).elim (hb m) (hb2 m)
      · intro m hm; exact (List.mem_append.1 hm).elim (hok m) (hok2 m)

/-- all that can be seen -/
theorem RepX.all {t : Ty} {c : Nat} {cs : List Value} {x : t.den} {ms : List Mk} (h : RepX C.P w (Shd C g) (cl g σ tm w 0) t c cs x ms) (hok : ∀ m, m ∈ ms → okM σ m) (hn : NoOwn ms) :
    RepC C.P t w (fun _ => True) cs x := by
  have hl := RepX.length _ h
  have all : ∀ B, Mono w B w (fun _ => True) := fun B => ⟨Nat.le_refl _, fun _ _ _ => ⟨rfl, trivial⟩⟩
  refine repC_of_repX t (RepX.trans (cl' := shareAll) (c' := 0) (ms' := ms) (all _) t h rfl fun i hi => ?_)
  have hm := mem_of_markAt ms i (by omega)
  have ho := hok _ hm
  have hno := hn _ hm
  generalize markAt ms i = m at *
  cases m with
  | shr => exact .share _
  | nn => exact .share_weak _
  | nil => exact .nil_share
  | own => exact absurd rfl hno
  | dead => exact ho.elim
  | ref s' c' g' => simp only [clm, (show validB σ s' c' g' = true from ho), cond, shareAll]; exact .hold_share _ _ (all _)
  | sub s' c' g' => simp only [clm, (show validB σ s' c' g' = true from ho), cond, shareAll]; exact .hold_share _ _ (all _)
  | bor q => simp only [clm, (show borOk σ q = true from ho), cond, shareAll]; exact .hold_share _ _ (all _)

/-- new memory of flat data does not lean on what is shared -/
theorem RepX.flat {P : Program} {w : World} {Sh Sh' : Nat → Prop} {f : Nat → Option Nat} : (t : Ty) → t.flat = true → ∀ {c : Nat} {cs : List Value} {x : t.den}, RepX P w Sh (clR f) t c cs x (ownMarks t) → RepX P w Sh' (clR f) t c cs x (ownMarks t)
  | .unit, _, _, _, _, h => h
  | .int _, _, _, _, _, h => h
  | .bool, _, _, _, _, h => h
  | .str, _, _, _, _, h => h
  | .pair a b, hf, _, _, _, h => by
    simp only [Ty.flat, Bool.and_eq_true] at hf
    obtain ⟨c1, c2, m1, m2, e, em, h1, h2⟩ := h
    have l1 := RepX.length _ h1
    obtain ⟨rfl, rfl⟩ := List.append_inj em (by rw [ownMarks_length, l1.2])
    exact ⟨c1, c2, _, _, e, rfl, RepX.flat a hf.1 h1, RepX.flat b hf.2 h2⟩
  | .sl t, hf, _, _, _, h => by
    simp only [Ty.flat] at hf
    obtain ⟨a, len, cap, m, e, em, h1⟩ := h
    simp only [ownMarks, List.cons.injEq, and_true] at em
    subst em
    obtain ⟨⟨q1, q2, q3⟩, q4⟩ := h1
    refine ⟨a, len, cap, _, e, rfl, ⟨q1, q2, q3.imp id ?_⟩, q4⟩
    rintro ⟨ad, p1, p2, p3, p4, p5⟩
    exact ⟨ad, p1, p2, p3, p4, p5.mono rfl fun _ _ => RepC.scalar t hf⟩
  | .ptr _, hf, _, _, _, _ => by simp [Ty.flat] at hf
  | .fn _ _, hf, _, _, _, _ => by simp [Ty.flat] at hf

theorem allFlat_pk : (ts : List Ty) → allFlat ts = true → (pk ts).flat = true
  | [], _ => rfl
  | [t], h => by simpa [allFlat, pk] using h
  | t :: t' :: ts, h => by
    simp only [allFlat, Bool.and_eq_true] at h
    simp only [Ty.flat, Bool.and_eq_true]
    exact ⟨h.1, allFlat_pk (t' :: ts) (by simp [allFlat, h.2])⟩

theorem rMarks_pair (own : Bool) (a b : Ty) : rMarks own (.pair a b) = rMarks own a ++ rMarks own b := by cases own <;> rfl
theorem rMarks_length (own : Bool) (t : Ty) : (rMarks own t).length = t.size := by
  cases own with
  | false => exact shrMarks_length t
  | true => exact ownMarks_length t

theorem rMarks_bnd (own : Bool) : (t : Ty) → ∀ m, m ∈ rMarks own t → m = .own ∨ m = .shr
  | .unit, m, h => by cases own <;> cases h
  | .pair a b, m, h => by
    rw [rMarks_pair] at h
    exact (List.mem_append.1 h).elim (rMarks_bnd own a m) (rMarks_bnd own b m)
  | .int _, m, h => by cases own <;> (simp [rMarks, ownMarks, shrMarks] at h; simp [h])
  | .bool, m, h => by cases own <;> (simp [rMarks, ownMarks, shrMarks] at h; simp [h])
  | .str, m, h => by cases own <;> (simp [rMarks, ownMarks, shrMarks] at h; simp [h])
  | .sl _, m, h => by cases own <;> (simp [rMarks, ownMarks, shrMarks] at h; simp [h])
  | .ptr _, m, h => by cases own <;> (simp [rMarks, ownMarks, shrMarks] at h; simp [h])
  | .fn _ _, m, h => by cases own <;> (simp [rMarks, ownMarks, shrMarks] at h; simp [h])

theorem tupRep_of_repX {s : Nat} {own : Bool} : (ts : List Ty) → ∀ {c : Nat} {us : List Value} {y : (pk ts).den}, RepX C.P w (Shd C g) (cl g σ tm w s) (pk ts) c us y (rMarks own (pk ts)) →
    TupRep C g σ tm w s c (argVals ts us) (resTVs own ts y)
  | [], _, _, _, _ => trivial
  | [t], c, us, y, h => by
    refine ⟨⟨us, ?_, h⟩, trivial⟩
    rw [take_all (RepX.length _ h).1]
  | t :: t' :: ts, c, us, y, h => by
    obtain ⟨c1, c2, m1, m2, rfl, em, h1, h2⟩ := h
    have l1 := RepX.length _ h1
    simp only [rMarks_pair] at em
    obtain ⟨rfl, rfl⟩ := List.append_inj em (by rw [rMarks_length, l1.2])
    have e1 : (c1 ++ c2).take t.size = c1 := by rw [List.take_append_of_le_length (by omega), take_all l1.1]
    have e2 : (c1 ++ c2).drop t.size = c2 := by rw [← l1.1, List.drop_left]
    simp only [argVals]
    rw [e1]
    refine ⟨⟨c1, rfl, h1⟩, ?_⟩
    have := tupRep_of_repX (t' :: ts) h2
    simp only [argVals] at this
    rw [e2]
    show TupRep C g σ tm w s (c + (rMarks own t).length) _ _
    rw [rMarks_length]
    exact this

theorem resTVs_bnd {σ' : St} {own : Bool} : (ts : List Ty) → (y : (pk ts).den) → ∀ tv, tv ∈ resTVs own ts y → ∀ m, m ∈ tv.ms → bndM σ' m
  | [], _, _, h, _, _ => by cases h
  | [t], y, tv, h, m, hm => by
    simp only [resTVs, List.mem_singleton] at h
    subst h
    rcases rMarks_bnd own t m hm with rfl | rfl <;> trivial
  | t :: t' :: ts, y, tv, h, m, hm => by
    rcases List.mem_cons.1 h with rfl | h
    · rcases rMarks_bnd own t m hm with rfl | rfl <;> trivial
    · exact resTVs_bnd (t' :: ts) y.2 tv h m hm

theorem resTVs_length {own : Bool} : (ts : List Ty) → (y : (pk ts).den) → (us : List Value) → (resTVs own ts y).length = ts.length ∧ (argVals ts us).length = ts.length
  | [], _, _ => ⟨rfl, rfl⟩
  | [_], _, _ => ⟨rfl, rfl⟩
  | t :: t' :: ts, y, us => by
    have := resTVs_length (own := own) (t' :: ts) y.2 (us.drop t.size)
    exact ⟨by simp only [resTVs, List.length_cons] at this ⊢; omega, by
       rw [argVals, List.length_cons, this.2]; rfl⟩

theorem resA_rep {s : Nat} {own : Bool} (ts : List Ty) {us : List Value} {y : (pk ts).den} (h : RepX C.P w (Shd C g) (cl g σ tm w s) (pk ts) 0 us y (rMarks own (pk ts))) :
    SlotRep C g σ tm w s (resV ts us) (resA own ts y) ∧ bndA σ (resA own ts y) := by
  have ht := tupRep_of_repX ts h
  have hb := resTVs_bnd (σ' := σ) (own := own) ts y
  obtain ⟨l1, l2⟩ := resTVs_length (own := own) ts y us
  unfold resV resA
  revert ht hb l1 l2
  generalize argVals ts us = vals
  generalize resTVs own ts y = tvs
  intro ht hb l1 l2
  match vals, tvs with
  | [], [] => exact ⟨⟨[], rfl, trivial⟩, hb⟩
  | [v], [tv] => exact ⟨ht.1, hb tv (List.mem_singleton.2 rfl)⟩
  | v :: v' :: vals, tv :: tv' :: tvs => exact ⟨⟨_, rfl, ht⟩, hb⟩
  | [], _ :: _ => simp only [List.length_nil, List.length_cons] at l1 l2; omega
  | _ :: _, [] => simp only [List.length_nil, List.length_cons] at l1 l2; omega
  | [_], _ :: _ :: _ => simp only [List.length_nil, List.length_cons] at l1 l2; omega
  | _ :: _ :: _, [_] => simp only [List.length_nil, List.length_cons] at l1 l2; omega

theorem resA_isBox (own : Bool) (ts : List Ty) (y : (pk ts).den) : (resA own ts y).isBox = false := by
  unfold resA
  split <;> rfl

/-- whose the memory is, behind a call -/
def callOwn (g : Own) (n : Nat) (g' : Nat → Option Nat) (d : Nat) : Own := fun b => if b < n then g b else (g' b).map fun c => (d, some c)

theorem Grow.called {d : Nat} {f : Nat → Option Nat} (h : SRep C g σ tm w) (hs : w.heap.size ≤ w'.heap.size) (hH : ∀ b, b < w.heap.size → w'.heap[b]? = w.heap[b]?)
    (hg : ∀ b, f b ≠ none → w.heap.size ≤ b ∧ b < w'.heap.size) (hio : SameIO w w') : Grow C g σ w (callOwn g w.heap.size f d) w' := by
  have old : ∀ b, b < w.heap.size → callOwn g w.heap.size f d b = g b := fun b hb => by unfold callOwn; rw [if_pos hb]
  refine ⟨hs, hH, fun b hb hn => (old b hb).trans hn, fun b hb s c _ hn => (old b hb).trans hn, fun b hb s hn => (old b hb).trans hn, fun b hb => ?_, hio⟩
  rcases Nat.lt_or_ge b w.heap.size with hl | hl
  · rw [old b hl] at hb
    have := h.gok b hb
    exact ⟨by omega, this.2⟩
  · unfold callOwn at hb
    rw [if_neg (by omega)] at hb
    have := hg b (fun e => hb (by rw [e]; rfl))
    exact ⟨this.2, .inl (Nat.le_trans h.size hl)⟩

theorem call_sound {c : Call} {f : Nat} {sg : Sig} {cs : List Value} {x : (pk sg.ps).den} {y : (pk sg.rs).den} {Ok : Nat → Prop} (ho : o.op = .call c) (hc : c.callee = .value (.func f)) (hcon : Contract C.P f sg) (heat : sg.eat = false)
    (hargs : c.args.toList.map (Act.eval ⟨tm, ds⟩) = argVals sg.ps cs) (h : SRep C g σ tm w) (hx : RepC C.P (pk sg.ps) w Ok cs x) (hy : sg.φ x = some y)
    (hflat : (∀ b, b < w.heap.size → Ok b → Shd C g b) ∨ (sg.own = true ∧ allFlat sg.rs = true))
    (hr : (putA o.dst (resA sg.own sg.rs y) .fin).run σ K = some r) (hK : Good C K r ds next) : o.wp C.P ⟨tm, ds⟩ w next Q := by
  have hex : (execOp (Act.eval ⟨tm, ds⟩) o).run C.P w = .ok (.enter f (argVals sg.ps cs).toArray) w := by
    have e : c.args.map (Act.eval ⟨tm, ds⟩) = (argVals sg.ps cs).toArray := by
      rw [← hargs, ← List.map_toArray]
    simp [execOp, ho, resolve, hc, Act.eval, Deferred.ofValue, invoke, e, hcon.callable.run]
  unfold Oper.wp
  rw [hex, Oper.upon_enter]
  refine (hcon.does heat w Ok cs x y hx hy).mono fun e w' hh => ?_
  obtain ⟨us, g', rfl, hrep, hs, hH, hg, hio⟩ := hh
  show next _ w'
  obtain ⟨σ', h1, h2, h3⟩ := put_sound (v := resV sg.rs us) (ds := ds) h (Grow.called (d := o.dst.getD 0) h hs hH hg hio) (fun d hd hl σ' tm' hv => by
    rw [hd]
    simp only [Option.getD_some]
    have hown : ∀ c, Mono w' (fun b => g' b = some c) w' (fun b => callOwn g w.heap.size g' d b = some (d, some c)) := fun c => ⟨Nat.le_refl _, fun b _ hb => ⟨rfl, by
      have := (hg b (by rw [show g' b = some c from hb]; simp)).1
      show callOwn g w.heap.size g' d b = some (d, some c)
      unfold callOwn
      rw [if_neg (by omega), show g' b = some c from hb]; rfl⟩⟩
    have key : ∀ {Sh : Nat → Prop}, RepX C.P w' Sh (clR g') (pk sg.rs) 0 us y (rMarks sg.own (pk sg.rs)) → Mono w' Sh w' (Shd C (callOwn g w.heap.size g' d)) →
        RepX C.P w' (Shd C (callOwn g w.heap.size g' d)) (cl (callOwn g w.heap.size g' d) σ' tm' w' d) (pk sg.rs) 0 us y (rMarks sg.own (pk sg.rs)) := by
      intro Sh hrep hm
      have hl := RepX.length _ hrep
      refine RepX.trans hm _ hrep rfl fun i hi => ?_
      rcases rMarks_bnd sg.own _ _ (mem_of_markAt (rMarks sg.own (pk sg.rs)) i (by omega)) with e | e <;> rw [e]
      · exact .hold _ _ _ _ (hown _) (fun _ h => h)
      · exact .share _
    refine resA_rep sg.rs ?_
    rcases hflat with hOk | ⟨ho', hf⟩
    · refine key hrep ⟨Nat.le_refl _, fun b _ hb => ⟨rfl, ?_⟩⟩
      rcases Nat.lt_or_ge b w.heap.size with hl | hl
      · have := hOk b hl (hb.1.resolve_left (by omega))
        exact ⟨this.1, by unfold callOwn; rw [if_pos hl]; exact this.2⟩
      · exact ⟨.inl (Nat.le_trans h.size hl), by unfold callOwn; rw [if_neg (by omega), hb.2]; rfl⟩
    · have e : rMarks sg.own (pk sg.rs) = ownMarks (pk sg.rs) := by rw [ho']; rfl
      rw [e] at hrep
      have := RepX.flat (Sh' := fun _ => False) _ (allFlat_pk _ hf) hrep
      rw [← e] at this
      exact key this ⟨Nat.le_refl _, fun b _ hb => hb.elim⟩) hr (.inl (resA_isBox _ _ _))
  exact hK _ _ _ _ h1 h3 h2

/-- what can be seen but for the hand -/
theorem RepX.but {t : Ty} {c : Nat} {cs : List Value} {x : t.den} {ms : List Mk} (h : RepX C.P w (Shd C g) (cl g σ tm w 0) t c cs x ms) (hok : ∀ m, m ∈ ms → okM σ m) (hn : NoOwn ms) :
    RepC C.P t w (fun b => g b ≠ some (σ.length, some 0)) cs x := by
  have hl := RepX.length _ h
  have shr : Mono w (Shd C g) w (fun b => g b ≠ some (σ.length, some 0)) := ⟨Nat.le_refl _, fun b _ hb => ⟨rfl, by show g b ≠ _; rw [hb.2]; simp⟩⟩
  have look : ∀ s p, s < σ.length → Mono w (fun b => g b = some (s, p)) w (fun b => g b ≠ some (σ.length, some 0)) := fun s p hs => ⟨Nat.le_refl _, fun b _ hb => ⟨rfl, by
    show g b ≠ _
    rw [show g b = some (s, p) from hb]
    intro e
    injection e with e
    injection e with e1 _
    omega⟩⟩
  refine repC_of_repX t (RepX.trans (cl' := shareAll) (c' := 0) (ms' := ms) shr t h rfl fun i hi => ?_)
  have hm := mem_of_markAt ms i (by omega)
  have ho := hok _ hm
  have hno := hn _ hm
  generalize markAt ms i = m at *
  cases m with
  | shr => exact .share _
  | nn => exact .share_weak _
  | nil => exact .nil_share
  | own => exact absurd rfl hno
  | dead => exact ho.elim
  | ref s' c' g' => simp only [clm, (show validB σ s' c' g' = true from ho), cond, shareAll]; exact .hold_share _ _ (look _ _ (validB_lt ho))
  | sub s' c' g' => simp only [clm, (show validB σ s' c' g' = true from ho), cond, shareAll]; exact .hold_share _ _ (look _ _ (validB_lt ho))
  | bor q =>
    simp only [clm, (show borOk σ q = true from ho), cond, shareAll]
    refine .hold_share _ _ ⟨Nat.le_refl _, fun b hbl hb => ⟨rfl, ?_⟩⟩
    obtain ⟨s, gn, cs', hm', hor⟩ := hb
    have hs : s < σ.length := by
      have : ∀ (q : List (Nat × Nat × List Nat)), borOk σ q = true → (s, gn, cs') ∈ q → s < σ.length := by
        intro q
        induction q with
        | nil => intro _ h; cases h
        | cons p q ih =>
          obtain ⟨s1, g1, c1⟩ := p
          intro hq hm'
          simp only [borOk, Bool.and_eq_true] at hq
          rcases List.mem_cons.1 hm' with e | hm'
          · injection e with e1 e2
            subst e1
            exact borOk1_lt hq.1
          · exact ih hq.2 hm'
      exact this q ho hm'
    rcases hor with hor | ⟨c, _, hor⟩
    · exact ((look s none hs).2 b hbl hor).2
    · exact ((look s (some c) hs).2 b hbl hor).2

theorem mkV_inj {t : Ty} {cs cs' : List Value} (h : cs.length = t.size) (h' : cs'.length = t.size) (e : mkV t cs = mkV t cs') : cs = cs' := by
  unfold mkV at e
  cases hag : t.isAgg with
  | true =>
    rw [hag] at e
    simpa using e
  | false =>
    rw [hag] at e
    have hs : t.size = 1 := by cases t <;> first | rfl | cases hag
    match cs, cs', h, h' with
    | [v], [v'], _, _ => simpa using e
    | [], _, h, _ => rw [hs] at h; cases h
    | _ :: _ :: _, _, h, _ => rw [hs] at h; simp at h
    | [_], [], _, h' => rw [hs] at h'; cases h'
    | [_], _ :: _ :: _, _, h' => rw [hs] at h'; simp at h'

theorem handTo_none_iff {g : Own} {N d off b : Nat} (h : handTo g N d off b = none) : g b = none := by
  unfold handTo at h
  split at h
  · split at h <;> cases h
  · exact h

theorem call_soundE {c : Call} {f : Nat} {sg : Sig} {cs : List Value} {x : (pk sg.ps).den} {y : (pk sg.rs).den} {Ok : Nat → Prop} {d : Nat} (ho : o.op = .call c) (hc : c.callee = .value (.func f)) (hcon : Contract C.P f sg) (heat : sg.eat = true)
    (hargs : c.args.toList.map (Act.eval ⟨tm, ds⟩) = argVals sg.ps cs) (h : SRep C g σ tm w) (hX : RepX C.P w Ok (clE fun b => g b = some (σ.length, some 0)) (pk sg.ps) 0 cs x (eatMarks sg.ps))
    (hdis : ∀ b, g b = some (σ.length, some 0) → ¬ Ok b) (hy : sg.φ x = some y) (hflat : (∀ b, b < w.heap.size → Ok b → Shd C g b) ∨ allFlat sg.rs = true) (hd : o.dst = some d)
    (hr : (putA o.dst (resA true sg.rs y) .fin).run σ K = some r) (hK : Good C K r ds next) : o.wp C.P ⟨tm, ds⟩ w next Q := by
  have hex : (execOp (Act.eval ⟨tm, ds⟩) o).run C.P w = .ok (.enter f (argVals sg.ps cs).toArray) w := by
    have e : c.args.map (Act.eval ⟨tm, ds⟩) = (argVals sg.ps cs).toArray := by
      rw [← hargs, ← List.map_toArray]
    simp [execOp, ho, resolve, hc, Act.eval, Deferred.ofValue, invoke, e, hcon.callable.run]
  unfold Oper.wp
  rw [hex, Oper.upon_enter]
  refine (hcon.eats heat w Ok (fun b => g b = some (σ.length, some 0)) cs x y hX hdis (fun b hb => (h.gok b (by rw [show g b = _ from hb]; simp)).1) hy).mono fun e w' hh => ?_
  obtain ⟨us, g', rfl, hrep, hs, hH, hg, hio⟩ := hh
  show next _ w'
  have h2 : SRep C (handTo g σ.length d 0) σ tm w := h.grow (Grow.handTo h d 0)
  let g3 : Own := fun b => match g' b with
    | some c => some (d, some c)
    | none => if b < w.heap.size then (if g b = some (σ.length, some 0) then none else handTo g σ.length d 0 b) else none
  have g3_new : ∀ b c, g' b = some c → g3 b = some (d, some c) := fun b c hb => by simp only [g3, hb]
  have g3_old : ∀ b, b < w.heap.size → g b ≠ some (σ.length, some 0) → g3 b = handTo g σ.length d 0 b := fun b hb hn => by
    have : g' b = none := by
      cases hgb : g' b with
      | none => rfl
      | some c =>
        exfalso
        rcases (hg b (by rw [hgb]; simp)).1 with h | h
        · omega
        · exact hn h
    simp only [g3, this]
    rw [if_pos hb, if_neg hn]
  have hand_at : ∀ b, g b = some (σ.length, some 0) → handTo g σ.length d 0 b = some (d, some 0) := fun b hb => by simp [handTo, hb]
  rw [hd] at hr
  simp only [putA, Prog.run] at hr
  have st : Step C (handTo g σ.length d 0) σ tm w g3 (tm.setIfInBounds d (resV sg.rs us)) w' d (resA true sg.rs y) ((listGet σ d).id + 1) ((listGet σ d).gen + 1) := by
    refine ⟨hs, fun b hb hx => hH b hb (fun e => hx _ (hand_at b e)), fun b hb hn => ?_, fun b hb s c hsd _ hb' => ?_, fun b hb s hsd hb' => ?_, fun b hb => ?_, by simp, fun s hs => getD_set_other hs, by omega, .inr (by omega), hio, fun _ _ hb => by rw [resA_isBox] at hb; cases hb⟩
    · rw [g3_old b hb (fun e => by rw [hand_at b e] at hn; cases hn)]; exact hn
    · rw [g3_old b hb (fun e => by rw [hand_at b e] at hb'; injection hb' with hb'; injection hb' with h1 _; exact hsd h1.symm)]; exact hb'
    · rw [g3_old b hb (fun e => by rw [hand_at b e] at hb'; injection hb' with hb'; injection hb' with h1 _; exact hsd h1.symm)]; exact hb'
    · cases hgb : g' b with
      | some c =>
        have := hg b (by rw [hgb]; simp)
        refine ⟨this.2, ?_⟩
        rcases this.1 with h1 | h1
        · exact .inl (Nat.le_trans h.size h1)
        · exact (h.gok b (by rw [show g b = _ from h1]; simp)).2
      | none =>
        rcases Nat.lt_or_ge b w.heap.size with hl | hl
        · have hne : g b ≠ some (σ.length, some 0) := fun e => by
            have : g3 b = none := by simp only [g3, hgb]; rw [if_pos hl, if_pos e]
            exact hb this
          have := h2.gok b (by rw [← g3_old b hl hne]; exact hb)
          exact ⟨by omega, this.2⟩
        · exfalso
          have : g3 b = none := by simp only [g3, hgb]; rw [if_neg (by omega)]
          exact hb this
  have hS := h2.replace st (fun hl => by
    have hown : ∀ c, Mono w' (fun b => g' b = some c) w' (fun b => g3 b = some (d, some c)) := fun c => ⟨Nat.le_refl _, fun b _ hb => ⟨rfl, g3_new b c hb⟩⟩
    have key : ∀ {Sh : Nat → Prop}, RepX C.P w' Sh (clR g') (pk sg.rs) 0 us y (ownMarks (pk sg.rs)) → Mono w' Sh w' (Shd C g3) →
        RepX C.P w' (Shd C g3) (cl g3 (listSet σ d ⟨resA true sg.rs y, (listGet σ d).id + 1, (listGet σ d).gen + 1⟩) (tm.setIfInBounds d (resV sg.rs us)) w' d) (pk sg.rs) 0 us y (rMarks true (pk sg.rs)) := by
      intro Sh hrep hm
      have hl := RepX.length _ hrep
      refine RepX.trans hm _ hrep rfl fun i hi => ?_
      rcases rMarks_bnd true _ _ (mem_of_markAt (rMarks true (pk sg.rs)) i (by rw [rMarks_length]; exact hi)) with e | e
      · rw [show markAt (ownMarks (pk sg.rs)) i = .own from e, show markAt (rMarks true (pk sg.rs)) i = .own from e]
        exact .hold _ _ _ _ (hown _) (fun _ h => h)
      · rw [show markAt (ownMarks (pk sg.rs)) i = .shr from e, show markAt (rMarks true (pk sg.rs)) i = .shr from e]
        exact .share _
    rw [getD_set_same (by rw [h.len]; exact hl)]
    refine resA_rep sg.rs ?_
    rcases hflat with hOk | hf
    · refine key hrep ⟨Nat.le_refl _, fun b _ hb => ⟨rfl, ?_⟩⟩
      rcases Nat.lt_or_ge b w.heap.size with hl | hl
      · have := hOk b hl (hb.1.resolve_left (by omega))
        refine ⟨this.1, ?_⟩
        rw [g3_old b hl (by rw [this.2]; simp)]; exact handTo_none this.2
      · refine ⟨.inl (Nat.le_trans h.size hl), ?_⟩
        simp only [g3, hb.2]; rw [if_neg (by omega)]
    · exact key (RepX.flat (Sh' := fun _ => False) _ (allFlat_pk _ hf) hrep) ⟨Nat.le_refl _, fun b _ hb => hb.elim⟩)
  exact hK g3 _ ((⟨tm, ds⟩ : Act).put o.dst (resV sg.rs us)) w' (by rw [hd]; exact hS) (by rw [hd]; rfl) hr

theorem repX_share {P : Program} {t : Ty} {Ok B : Nat → Prop} {cs : List Value} {x : t.den} (h : RepC P t w Ok cs x) (c : Nat) : RepX P w Ok (clE B) t c cs x (shrMarks t) := by
  refine RepX.trans (Mono.refl _ _) t (repX_of_repC (c := 0) (ms := shrMarks t) t h (shrMarks_length t)) rfl fun i hi => ?_
  rw [markAt_shrMarks t i hi]
  exact .share _

theorem sl_marks {t : Ty} {c : Nat} {cs : List Value} {x : (Ty.sl t).den} {ms : List Mk} (h : RepX C.P w (Shd C g) (cl g σ tm w 0) (.sl t) c cs x ms) : ∃ m, ms = [m] := by
  obtain ⟨_, _, _, m, _, e, _⟩ := h
  exact ⟨m, e⟩

theorem RepX.mix {t : Ty} {Ok B : Nat → Prop} {c : Nat} {cs : List Value} {x : (Ty.sl t).den} {N : Nat} (h : RepX C.P w (Shd C g) (cl g σ tm w N) (.sl t) 0 cs x [.own]) (hO : ∀ b, Shd C g b → Ok b) (hB : ∀ b, g b = some (N, some 0) → B b) :
    RepX C.P w Ok (clE B) (.sl t) c cs x [.own] := by
  obtain ⟨a, len, cap, m, e, em, hs⟩ := h
  simp only [List.cons.injEq, and_true] at em
  subst em
  obtain ⟨h1, h2⟩ := hs
  exact ⟨a, len, cap, .own, e, rfl, h1.mono ⟨Nat.le_refl _, fun b _ hb => ⟨rfl, hB b hb⟩⟩ fun _ _ => RepC.mono t ⟨Nat.le_refl _, fun b _ hb => ⟨rfl, hO b hb⟩⟩, trivial⟩

theorem op_callE {c : Call} {f : Nat} {sg : Sig} (ho : o.op = .call c) (hc : c.callee = .value (.func f)) (hcon : Contract C.P f sg) (heat : sg.eat = true) (h : SRep C g σ tm w) {x : (pk sg.ps).den} {ms : List Mk} {cs : List Value}
    (hargs : c.args.toList.map (Act.eval ⟨tm, ds⟩) = argVals sg.ps cs) (hx : RepX C.P w (Shd C g) (cl g σ tm w 0) (pk sg.ps) 0 cs x ms) (hn : NoOwn ms) (hb : ∀ m, m ∈ ms → bndM σ m)
    (hr : (callP o sg x ms).run σ K = some r) (hK : Good C K r ds next) : o.wp C.P ⟨tm, ds⟩ w next Q := by
  unfold callP at hr
  rw [heat] at hr
  simp only [if_true] at hr
  split at hr
  case h_2 => simp [Prog.run] at hr
  rename_i m l hhead
  simp only [Bool.and_eq_true] at hhead
  obtain ⟨hh, hown, hdst⟩ := hhead
  obtain ⟨d, hd⟩ := Option.isSome_iff_exists.1 hdst
  obtain ⟨ps, rs, own, eat, φ⟩ := sg
  simp only at heat hargs hx hr hh hown x
  cases ps with
  | nil => cases hh
  | cons t1 ts =>
  cases t1 with
  | sl t =>
    -- the first argument's cells and the others'
    have parts : ∃ (c1 : List Value) (x1 : (Ty.sl t).den), RepX C.P w (Shd C g) (cl g σ tm w 0) (.sl t) 0 c1 x1 [m] ∧
        ((ts = [] ∧ l = [] ∧ cs = c1 ∧ HEq x x1) ∨ ∃ t' ts', ts = t' :: ts' ∧ ∃ (c2 : List Value) (x2 : (pk (t' :: ts')).den), cs = c1 ++ c2 ∧ RepX C.P w (Shd C g) (cl g σ tm w 0) (pk (t' :: ts')) 0 c2 x2 l ∧ HEq x ((x1, x2) : (Ty.pair (.sl t) (pk (t' :: ts'))).den)) := by
      cases ts with
      | nil =>
        obtain ⟨m', em⟩ := sl_marks hx
        simp only [List.cons.injEq] at em
        obtain ⟨rfl, rfl⟩ := em
        exact ⟨cs, x, hx, .inl ⟨rfl, rfl, rfl, HEq.rfl⟩⟩
      | cons t' ts =>
        obtain ⟨c1, c2, m1, m2, e, em, hx1, hx2⟩ := hx
        obtain ⟨m', e1⟩ := sl_marks hx1
        subst e1
        simp only [List.singleton_append, List.cons.injEq] at em
        obtain ⟨rfl, rfl⟩ := em
        exact ⟨c1, x.1, hx1, .inr ⟨t', ts, rfl, c2, x.2, e, hx2.place 0 0 (fun m hm => hn m (List.mem_cons_of_mem _ hm)), HEq.rfl⟩⟩
    obtain ⟨c1, x1, hx1, hrest⟩ := parts
    obtain ⟨g1, σ1, ms', h1, h2, h3, h4, h5, h6, h7, _⟩ := takeMarks_inv [m] [] rfl h (hx1.place σ.length 0 (fun m' hm => hn m' (by simp at hm; simp [hm]))) (fun _ hm => by cases hm) (fun m' hm => hn m' (by simp at hm; simp [hm])) (fun m' hm => hb m' (by simp at hm; simp [hm])) hr
    simp only [List.nil_append] at h4 h5
    split at h6
    case h_2 => simp [Prog.run] at h6
    obtain ⟨hokl, h6⟩ := useMarks_inv l h6
    have hN : σ1.length = σ.length := h2.len
    split at h6
    · -- flat results
      rename_i hfl
      simp only [Prog.run] at h6
      obtain ⟨y, hy, h6⟩ := Option.bind_eq_some_iff.1 h6
      refine call_soundE (Ok := fun b => g1 b ≠ some (σ1.length, some 0)) ho hc hcon heat hargs h1 ?_ (fun b hb hn => hn hb) hy (.inr hfl) hd h6 hK
      have hfst : RepX C.P w (fun b => g1 b ≠ some (σ1.length, some 0)) (clE fun b => g1 b = some (σ1.length, some 0)) (.sl t) 0 c1 x1 [.own] :=
        RepX.mix h5 (fun b hb => by rw [hb.2]; simp) (fun b hb => by rw [hN]; exact hb)
      rcases hrest with ⟨rfl, rfl, rfl, he⟩ | ⟨t', ts', rfl, c2, x2, rfl, hx2, he⟩
      · have := eq_of_heq he
        subst this
        exact hfst
      · have := eq_of_heq he
        subst this
        have hlat := Val.later (tv := ⟨pk (t' :: ts'), x2, l⟩) h2 ⟨c2, rfl, hx2, fun m hm => hn m (List.mem_cons_of_mem _ hm), fun m hm => hb m (List.mem_cons_of_mem _ hm)⟩
        obtain ⟨c2', e', hx2', hn2, _⟩ := hlat
        have := mkV_inj (RepX.length _ hx2).1 (RepX.length _ hx2').1 e'
        subst this
        exact ⟨c1, c2, [.own], shrMarks (pk (t' :: ts')), rfl, rfl, hfst, repX_share (RepX.but hx2' hokl hn2) _⟩
    · rcases hrest with ⟨rfl, rfl, rfl, he⟩ | ⟨t', ts', rfl, c2, x2, rfl, hx2, he⟩
      · have := eq_of_heq he
        subst this
        simp only [takeMarks, Prog.run] at h6
        obtain ⟨y, hy, h6⟩ := Option.bind_eq_some_iff.1 h6
        exact call_soundE (Ok := Shd C g1) ho hc hcon heat hargs h1 (RepX.mix h5 (fun b hb => hb) (fun b hb => by rw [hN]; exact hb)) (fun b hb hn => by rw [hn.2] at hb; cases hb) hy (.inl fun _ _ h => h) hd h6 hK
      · have := eq_of_heq he
        subst this
        have hlat := Val.later (tv := ⟨pk (t' :: ts'), x2, l⟩) h2 ⟨c2, rfl, hx2, fun m hm => hn m (List.mem_cons_of_mem _ hm), fun m hm => hb m (List.mem_cons_of_mem _ hm)⟩
        obtain ⟨c2', e', hx2', hn2, hb2⟩ := hlat
        have := mkV_inj (RepX.length _ hx2).1 (RepX.length _ hx2').1 e'
        subst this
        -- the others' marks are shared; the hand stays
        have hpair : RepX C.P w (Shd C g1) (cl g1 σ1 tm w σ1.length) (.pair (.sl t) (pk (t' :: ts'))) 0 (c1 ++ c2) (x1, x2) ([.own] ++ l) :=
          ⟨c1, c2, [.own], l, rfl, rfl, by rw [hN]; exact h5, hx2'.place σ1.length _ hn2⟩
        obtain ⟨g2, σ2, ms2, k1, k2, k3, k4, k5, k6, k7, k8⟩ := takeMarks_inv l [.own] rfl h1 hpair (fun m hm => .inl (List.mem_singleton.1 hm)) hn2 hb2 h6
        have hN2 : σ2.length = σ1.length := k2.len
        simp only [Prog.run] at k6
        obtain ⟨y, hy, k6⟩ := Option.bind_eq_some_iff.1 k6
        refine call_soundE (Ok := Shd C g2) ho hc hcon heat hargs k1 ?_ (fun b hb hn => by rw [hn.2] at hb; cases hb) hy (.inl fun _ _ h => h) hd k6 hK
        obtain ⟨q1, q2, n1, n2, e, em, r1, r2⟩ := k5
        obtain ⟨m', e1⟩ : ∃ m, n1 = [m] := by
          obtain ⟨_, _, _, m, _, e, _⟩ := r1
          exact ⟨m, e⟩
        subst e1
        simp only [List.singleton_append, List.cons.injEq] at em
        obtain ⟨rfl, rfl⟩ := em
        have hl2 := RepX.length _ r2
        have hrc : RepC C.P (pk (t' :: ts')) w (Shd C g2) q2 x2 := by
          refine repC_of_repX _ (RepX.trans (cl' := shareAll) (c' := 0) (Mono.refl _ _) _ r2 rfl fun i hi => ?_)
          rcases k8 (fun _ => rfl) rfl _ (mem_of_markAt ms2 i (by omega)) with e | e <;> rw [e]
          · exact .share _
          · exact .nil_share
        exact ⟨q1, q2, [.own], shrMarks (pk (t' :: ts')), e, rfl, RepX.mix r1 (fun b hb => hb) (fun b hb => by rw [hN2]; exact hb), repX_share hrc _⟩
  | _ => cases hh

theorem plain_mem {ms : List Mk} (h : plainMarks ms = true) : ∀ m, m ∈ ms → m = .shr ∨ m = .own := by
  intro m hm
  have := List.all_eq_true.1 h m hm
  rw [Bool.or_eq_true] at this
  exact this.imp markBeq_eq markBeq_eq

theorem op_callB {c : Call} {f : Nat} {B : BxSig} (ho : o.op = .call c) (hc : c.callee = .value (.func f)) (hcon : BxContract C.P f B) (h : SRep C g σ tm w)
    (hr : (boxCallP E o B c.argTypes.toList c.args.toList).run σ K = some r) (hK : Good C K r ds next) : o.wp C.P ⟨tm, ds⟩ w next Q := by
  unfold boxCallP at hr
  split at hr
  case h_2 => simp [Prog.run] at hr
  rename_i T0 Ts x0 os hargT hargO
  obtain ⟨y, ms, as, hargs, hx, hn, hb, hok, hq⟩ := argsP_inv (ds := ds) _ _ _ h hr
  clear hr
  obtain ⟨g1, σ1, ms', h1, h2, h3, h4, h5, h6, _, h8⟩ := takeMarks_inv ms [] rfl h (hx.place σ.length 0 hn) (fun _ hm => by cases hm) hn hb hq
  simp only [List.nil_append] at h4 h5
  have hlen := (RepX.length _ h5).2
  have hrc : RepC C.P (pk B.ps) w (Shd C g1) as y := by
    refine repC_of_repX _ (RepX.trans (cl' := shareAll) (c' := 0) (Mono.refl _ _) _ h5 rfl fun i hi => ?_)
    rcases h8 (fun _ => rfl) rfl _ (mem_of_markAt ms' i (by omega)) with e | e <;> rw [e]
    · exact .share _
    · exact .nil_share
  unfold boxP at h6
  obtain ⟨a, hav, h7, hnv, hnt⟩ := rdP_inv (ds := ds) h1 h6
  clear h6
  split at h7
  case h_2 => simp [Prog.run] at h7
  rename_i s id
  simp only [Prog.run] at h7
  split at h7
  case h_2 => simp [Prog.run] at h7
  rename_i hid
  split at h7
  case h_2 => simp [Prog.run] at h7
  rename_i v hbox
  split at h7
  case isFalse => simp [Prog.run] at h7
  rename_i hmk
  split at h7
  case h_2 => simp [Prog.run] at h7
  rename_i u hu
  simp only [Prog.run] at h7
  obtain ⟨rr, hrr, h9⟩ := Option.bind_eq_some_iff.1 h7
  clear h7
  obtain ⟨b, et, cs0, hpv, ht, hg, hh, hx0, hl⟩ := h1.boxed hav hid hbox
  obtain ⟨vt, vx, vms⟩ := v
  have hmk2 : vms = B.bm := marksBeq_eq hmk
  clear hmk
  simp only at hu hx0
  obtain ⟨ety, rfl⟩ := castO_some hu
  subst ety
  subst hmk2
  have hplain := plain_mem hcon.plain
  let g0 : Nat → Option (Option Nat) := fun k => match g1 k with
    | some (s', p) => if s' = s then some p else none
    | none => none
  have g0_some : ∀ k p, g1 k = some (s, p) → g0 k = some p := fun k p hk => by simp [g0, hk]
  have g0_of : ∀ k p, g0 k = some p → g1 k = some (s, p) := fun k p hk => by
    simp only [g0] at hk
    split at hk
    · rename_i s' p' he
      split at hk
      · rename_i hs; subst hs; rw [he, Option.some.inj hk]
      · cases hk
    · cases hk
  have g0_none : ∀ k, g1 k = none → g0 k = none := fun k hk => by simp [g0, hk]
  have g0_other : ∀ k s' p, s' ≠ s → g1 k = some (s', p) → g0 k = none := fun k s' p hs hk => by simp [g0, hk, hs]
  have hX : RepX C.P w (Shd C g1) (clB g0) B.t 0 cs0 vx B.bm := by
    have hl0 := RepX.length _ hx0
    refine RepX.trans (Mono.refl _ _) B.t hx0 rfl fun i hi => ?_
    rcases hplain _ (mem_of_markAt B.bm i (by omega)) with e | e <;> rw [e]
    · exact .share _
    · exact .hold _ _ _ _ ⟨Nat.le_refl _, fun k _ hk => ⟨rfl, g0_some k _ hk⟩⟩ (fun _ h => h)
  have hex : (execOp (Act.eval ⟨tm, ds⟩) o).run C.P w = .ok (.enter f (Value.pointer (some ⟨b, 0, none⟩) :: argVals B.ps as).toArray) w := by
    have e : c.args.map (Act.eval ⟨tm, ds⟩) = (Value.pointer (some ⟨b, 0, none⟩) :: argVals B.ps as).toArray := by
      rw [← hargs, ← hpv, ← List.map_cons, ← hargO, ← List.map_toArray]
    simp [execOp, ho, resolve, hc, Act.eval, Deferred.ofValue, invoke, e, hcon.callable.run]
  unfold Oper.wp
  rw [hex, Oper.upon_enter]
  refine (hcon.does w (Shd C g1) g0 b et cs0 as vx y rr (g0_some b _ hg) hh hX (fun k hk => g0_none k hk.2) (fun k hk => ?_) hrc hrr).mono fun ex w' hpost => ?_
  · cases hgk : g1 k with
    | none => exact absurd (g0_none k hgk) hk
    | some p => exact (h1.gok k (by rw [hgk]; simp)).1
  obtain ⟨us, gE, e', cs', rfl, hgb, hh', hrep, hres, hs, hH, hgE, hio⟩ := hpost
  show next _ w'
  let g3 : Own := fun k => match gE k with
    | some p => some (s, p)
    | none => if k < w.heap.size then (match g1 k with
        | some (s', p) => if s' = s then none else some (s', p)
        | none => none) else none
  have gE_old : ∀ k, k < w.heap.size → g0 k = none → gE k = none := fun k hk h0 => by
    cases hgk : gE k with
    | none => rfl
    | some p => rcases (hgE k (by rw [hgk]; simp)).1 with h | h; omega; exact absurd h0 h
  have g3_new : ∀ k p, gE k = some p → g3 k = some (s, p) := fun k p hk => by simp only [g3, hk]
  have g3_none : ∀ k, k < w.heap.size → g1 k = none → g3 k = none := fun k hk h0 => by
    simp only [g3, gE_old k hk (g0_none k h0), h0]; rw [if_pos hk]
  have g3_other : ∀ k s' p, k < w.heap.size → s' ≠ s → g1 k = some (s', p) → g3 k = some (s', p) := fun k s' p hk hs h0 => by
    simp only [g3, gE_old k hk (g0_other k s' p hs h0), h0]; rw [if_pos hk, if_neg hs]
  have st : Step C g1 σ1 tm w g3 tm w' s (.box ⟨B.t, rr.1, B.bm⟩) (listGet σ1 s).id ((listGet σ1 s).gen + 1) := by
    refine ⟨hs, fun k hk hx => hH k hk ?_, fun k hk h0 => g3_none k hk h0, fun k hk s' c' hs' _ h0 => g3_other k s' _ hk hs' h0, fun k hk s' hs' h0 => g3_other k s' _ hk hs' h0, fun k hk => ?_, rfl, fun _ _ => rfl, by omega, .inl ⟨rfl, rfl⟩, hio,
      fun v hv _ => h1.pin s v hv (by rw [hbox]; rfl)⟩
    · cases hgk : g1 k with
      | none => exact g0_none k hgk
      | some p =>
        obtain ⟨s', p⟩ := p
        by_cases hs' : s' = s
        · subst hs'; exact absurd hgk (hx p)
        · exact g0_other k s' p hs' hgk
    · cases hgk : gE k with
      | some p =>
        have := hgE k (by rw [hgk]; simp)
        refine ⟨this.2, ?_⟩
        rcases this.1 with h' | h'
        · exact .inl (Nat.le_trans h1.size h')
        · cases h0 : g0 k with
          | none => exact absurd h0 h'
          | some p => exact (h1.gok k (by rw [g0_of k p h0]; simp)).2
      | none =>
        rcases Nat.lt_or_ge k w.heap.size with hlt | hge
        · cases h0 : g1 k with
          | none => exact absurd (g3_none k hlt h0) hk
          | some p =>
            have := h1.gok k (by rw [h0]; simp)
            exact ⟨by omega, this.2⟩
        · exfalso
          have : g3 k = none := by simp only [g3, hgk]; rw [if_neg (by omega)]
          exact hk this
  have hm : Mono w' (Left w (Shd C g1) g0 gE) w' (Shd C g3) := ⟨Nat.le_refl _, fun k _ hk => ⟨rfl, by
    obtain ⟨hor, hgk⟩ := hk
    rcases Nat.lt_or_ge k w.heap.size with hlt | hge
    · rcases hor with h' | h' | h'
      · omega
      · exact ⟨h'.1, g3_none k hlt h'.2⟩
      · cases h0 : g0 k with
        | none => exact absurd h0 h'
        | some p =>
          have h3 := g0_of k p h0
          refine ⟨(h1.gok k (by rw [h3]; simp)).2.imp (fun h => h) .inr, ?_⟩
          simp [g3, hgk, h3]
    · refine ⟨.inl (Nat.le_trans h1.size hge), ?_⟩
      simp only [g3, hgk]; rw [if_neg (by omega)]⟩⟩
  have hS := h1.replace st (fun _ => by
    have hl0 := RepX.length _ hrep
    refine ⟨⟨b, e', cs', ht, g3_new b _ hgb, hh', ?_⟩, fun m hm => ?_⟩
    · refine RepX.trans hm B.t hrep rfl fun i hi => ?_
      rcases hplain _ (mem_of_markAt B.bm i (by omega)) with e | e <;> rw [e]
      · exact .share _
      · exact .hold _ _ _ _ ⟨Nat.le_refl _, fun k _ hk => ⟨rfl, g3_new k _ hk⟩⟩ (fun _ h => h)
    · rcases hplain m hm with rfl | rfl <;> trivial)
  obtain ⟨σ', k1, k2, k3⟩ := put_sound (v := resV B.rs us) (ds := ds) hS (.refl hS) (fun d hd hl σ' tm' hv => by
    refine resA_rep B.rs ?_
    have : RepC C.P (pk B.rs) w' (Shd C g3) us rr.2 := RepC.mono _ hm hres
    refine RepX.trans (cl' := cl g3 σ' tm' w' d) (c' := 0) (Mono.refl _ _) _ (repX_shr (g := g3) (σ := σ') (tm := tm') this d 0) rfl fun i hi => ?_
    rw [markAt_shrMarks _ i hi, show markAt (rMarks false (pk B.rs)) i = .shr from markAt_shrMarks _ i hi]
    exact .share _) h9 (.inl (resA_isBox _ _ _))
  exact hK _ _ _ _ k1 k3 k2

theorem op_callF {c : Call} {f : Nat} (ho : o.op = .call c) (hc : c.callee = .value (.func f)) (hfn : EnvOK C E) (h : SRep C g σ tm w)
    (hr : (opP E o).run σ K = some r) (hK : Good C K r ds next) : o.wp C.P ⟨tm, ds⟩ w next Q := by
  unfold opP at hr
  rw [ho] at hr
  simp only [hc] at hr
  split at hr
  case h_2 =>
    split at hr
    case h_2 => simp [Prog.run] at hr
    rename_i B hB
    exact op_callB ho hc (hfn.bxs _ _ hB) h hr hK
  rename_i sg hsg
  have hcon := hfn.fns _ _ hsg
  obtain ⟨x, ms, cs, hargs, hx, hn, hb, hok, hq⟩ := argsP_inv (ds := ds) _ _ _ h hr
  clear hr
  cases heat : sg.eat with
  | true => exact op_callE ho hc hcon heat h hargs hx hn hb hq hK
  | false =>
  unfold callP at hq
  rw [heat] at hq
  simp only [Bool.false_eq_true, if_false] at hq
  split at hq
  · rename_i hfl
    simp only [Bool.and_eq_true] at hfl
    simp only [Prog.run] at hq
    obtain ⟨y, hy, hq⟩ := Option.bind_eq_some_iff.1 hq
    rw [← hfl.1] at hq
    exact call_sound ho hc hcon heat hargs h (hx.all hok hn) hy (.inr hfl) hq hK
  · obtain ⟨g1, σ1, ms', h1, h2, h3, h4, h5, h6, _, h8⟩ := takeMarks_inv ms [] rfl h (hx.place σ.length 0 hn) (fun _ hm => by cases hm) hn hb hq
    simp only [List.nil_append] at h4 h5
    have hlen := (RepX.length _ h5).2
    have hrc : RepC C.P (pk sg.ps) w (Shd C g1) cs x := by
      refine repC_of_repX _ (RepX.trans (cl' := shareAll) (c' := 0) (Mono.refl _ _) _ h5 rfl fun i hi => ?_)
      rcases h8 (fun _ => rfl) rfl _ (mem_of_markAt ms' i (by omega)) with e | e <;> rw [e]
      · exact .share _
      · exact .nil_share
    simp only [Prog.run] at h6
    obtain ⟨y, hy, h6⟩ := Option.bind_eq_some_iff.1 h6
    exact call_sound ho hc hcon heat hargs h1 hrc hy (.inl fun _ _ h => h) h6 hK
end
end Go.GD
