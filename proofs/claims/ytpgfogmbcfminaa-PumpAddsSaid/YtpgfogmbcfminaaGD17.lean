import Derived.Test.YtpgfogmbcfminaaGD16
namespace Go.GD
open Go

/-! ### calls -/

def argVals : List Ty → List Value → List Value
  | [], _ => []
  | t :: ts, cs => mkV t (cs.take t.size) :: argVals ts (cs.drop t.size)

def resV (ts : List Ty) (cs : List Value) : Value :=
  match argVals ts cs with
  | [v] => v
  | vs => .tuple vs.toArray

def clR (g : Nat → Option Nat) : Nat → Mk → Claim
  | c, .own => .hold (fun b => g b = some c) (fun _ => True)
  | _, _ => .share false

def Callable (P : Program) (f : Nat) : Prop := ∃ fn, P.funcs[f]? = some fn ∧ fn.body.isNone = false ∧ (fn.name == "runtime.NumGoroutine") = false

def rMarks (own : Bool) (t : Ty) : List Mk := cond own (ownMarks t) (shrMarks t)

/-- what a function does -/
def Does (P : Program) (f : Nat) (ps rs : List Ty) (own : Bool) (φ : (pk ps).den → Option (pk rs).den) : Prop :=
  ∀ (w : World) (Ok : Nat → Prop) (cs : List Value) (x : (pk ps).den) (y : (pk rs).den), RepC P (pk ps) w Ok cs x → φ x = some y →
    Calls P f (argVals ps cs).toArray w fun e w' => ∃ us g', e = .returned (resV rs us) ∧
      RepX P w' (fun b => (w.heap.size ≤ b ∨ Ok b) ∧ g' b = none) (clR g') (pk rs) 0 us y (rMarks own (pk rs)) ∧
      w.heap.size ≤ w'.heap.size ∧ (∀ b, b < w.heap.size → w'.heap[b]? = w.heap[b]?) ∧ (∀ b, g' b ≠ none → w.heap.size ≤ b ∧ b < w'.heap.size) ∧ SameIO w w'

structure Contract (P : Program) (f : Nat) (sg : Sig) : Prop where
  eat : sg.eat = false
  callable : Callable P f
  does : Does P f sg.ps sg.rs sg.own sg.φ

theorem Callable.run {P : Program} {f : Nat} (h : Callable P f) (args : Array Value) (w : World) : (callFunc f args).run P w = .ok (.enter f args) w := by
  obtain ⟨fn, h1, h2, h3⟩ := h
  simp only [callFunc, Sem.run_bind, run_program, Result.andThen_ok, h1, h2, h3, Bool.false_eq_true, if_false, Sem.run_pure]

section
variable {C : Ctx} {g g' : Own} {σ : St} {tm tm' : Array Value} {w w' : World} {E : Env} {o : Oper} {ρ : Type} {K : St → Option ρ} {r : ρ} {ds : List Deferred}
  {next : Act → World → Prop} {Q : Exit → Act → World → Prop}

theorem take_all {α : Type} {cs : List α} {n : Nat} (h : cs.length = n) : cs.take n = cs := List.take_of_length_le (by omega)

theorem argsP_inv : (ts : List Ty) → (Ts : List Nat) → (os : List Operand) → {k : (pk ts).den → List Mk → Prog} → SRep C g σ tm w → (argsP E Ts os ts k).run σ K = some r →
    ∃ x ms cs, os.map (Act.eval ⟨tm, ds⟩) = argVals ts cs ∧ RepX C.P w (Shd C g) (cl g σ tm w 0) (pk ts) 0 cs x ms ∧ NoOwn ms ∧ (∀ m, m ∈ ms → bndM σ m) ∧ (∀ m, m ∈ ms → okM σ m) ∧ (k x ms).run σ K = some r
  | [], Ts, os, k, h, hr => by
    cases Ts with
    | cons => simp [argsP, Prog.run] at hr
    | nil =>
      cases os with
      | cons => simp [argsP, Prog.run] at hr
      | nil =>
        simp only [argsP] at hr
        exact ⟨(), [], [], rfl, ⟨rfl, rfl⟩, (fun _ h => by cases h), (fun _ h => by cases h), (fun _ h => by cases h), hr⟩
  | [t], Ts, os, k, h, hr => by
    match Ts, os with
    | [], _ => simp [argsP, Prog.run] at hr
    | [T], [] => simp [argsP, Prog.run] at hr
    | _ :: _ :: _, _ => simp [argsP, Prog.run] at hr
    | [T], _ :: _ :: _ => simp [argsP, Prog.run] at hr
    | [T], [o] =>
      simp only [argsP] at hr
      obtain ⟨v, hv, hok, hq⟩ := rdV_inv (ds := ds) h hr
      clear hr
      split at hq
      case h_2 => simp [Prog.run] at hq
      rename_i y hy
      obtain ⟨ety, rfl⟩ := castO_some hy
      subst ety
      obtain ⟨cs, e, hx, hn, hb⟩ := hv
      have hl := RepX.length _ hx
      exact ⟨_, v.ms, cs, by simp [argVals, e, take_all hl.1], hx, hn, hb, hok, hq⟩
  | t :: t' :: ts, Ts, os, k, h, hr => by
    match Ts, os with
    | [], _ => simp [argsP, Prog.run] at hr
    | _ :: _, [] => simp [argsP, Prog.run] at hr
    | T :: Ts, o :: os =>
      simp only [argsP] at hr
      obtain ⟨v, hv, hok, hq⟩ := rdV_inv (ds := ds) h hr
      clear hr
      split at hq
      case h_2 => simp [Prog.run] at hq
      rename_i y hy
      obtain ⟨ety, rfl⟩ := castO_some hy
      subst ety
      obtain ⟨cs, e, hx, hn, hb⟩ := hv
      have hl := RepX.length _ hx
      obtain ⟨x2, ms2, cs2, e2, hx2, hn2, hb2, hok2, hq⟩ := argsP_inv (t' :: ts) Ts os h hq
      refine ⟨(v.x, x2), v.ms ++ ms2, cs ++ cs2, ?_, ⟨cs, cs2, v.ms, ms2, rfl, rfl, hx, hx2.place _ _ hn2⟩, ?_, ?_, ?_, hq⟩
      · rw [List.map_cons, e2, e]
        show _ = mkV v.t ((cs ++ cs2).take v.t.size) :: argVals (t' :: ts) ((cs ++ cs2).drop v.t.size)
        rw [List.take_append_of_le_length (by omega), take_all hl.1, ← hl.1, List.drop_left]
      · intro m hm; exact (List.mem_append.1 hm).elim (hn m) (hn2 m)
      · intro m hm; exact (List.mem_append.1 hm).elim (hb m) (hb2 m)
      · intro m hm; exact (List.mem_append.1 hm).elim (hok m) (hok2 m)

/-- all that can be seen -/
theorem RepX.all {t : Ty} {c : Nat} {cs : List Value} {x : t.den} {ms : List Mk} (h : RepX C.P w (Shd C g) (cl g σ tm w 0) t c cs x ms) (hok : ∀ m, m ∈ ms → okM σ m) (hn : NoOwn ms) :
    RepC C.P t w (fun _ => True) cs x := by
  have hl := RepX.length _ h
  have all : ∀ B, Mono w B w (fun _ => True) := fun B => ⟨Nat.le_refl _, fun _ _ _ => ⟨rfl, trivial⟩⟩
  refine repC_of_repX t (RepX.trans (cl' := shareAll) (c' := 0) (ms' := ms) (all _) t h rfl fun i hi => ?_)
  have hm := mem_of_markAt ms i (by omega)
  have ho := hok _ hm
  have hno := hn _ hm
  generalize markAt ms i = m at *
  cases m with
  | shr => exact .share _
  | nn => exact .share_weak _
  | nil => exact .nil_share
  | own => exact absurd rfl hno
  | dead => exact ho.elim
  | ref s' c' g' => simp only [clm, (show validB σ s' c' g' = true from ho), cond, shareAll]; exact .hold_share _ _ (all _)
  | sub s' c' g' => simp only [clm, (show validB σ s' c' g' = true from ho), cond, shareAll]; exact .hold_share _ _ (all _)
  | bor q => simp only [clm, (show borOk σ q = true from ho), cond, shareAll]; exact .hold_share _ _ (all _)

/-- new memory of flat data does not lean on what is shared -/
theorem RepX.flat {P : Program} {w : World} {Sh Sh' : Nat → Prop} {f : Nat → Option Nat} : (t : Ty) → t.flat = true → ∀ {c : Nat} {cs : List Value} {x : t.den}, RepX P w Sh (clR f) t c cs x (ownMarks t) → RepX P w Sh' (clR f) t c cs x (ownMarks t)
  | .unit, _, _, _, _, h => h
  | .int _, _, _, _, _, h => h
  | .bool, _, _, _, _, h => h
  | .str, _, _, _, _, h => h
  | .pair a b, hf, _, _, _, h => by
    simp only [Ty.flat, Bool.and_eq_true] at hf
    obtain ⟨c1, c2, m1, m2, e, em, h1, h2⟩ := h
    have l1 := RepX.length _ h1
    obtain ⟨rfl, rfl⟩ := List.append_inj em (by rw [ownMarks_length, l1.2])
    exact ⟨c1, c2, _, _, e, rfl, RepX.flat a hf.1 h1, RepX.flat b hf.2 h2⟩
  | .sl t, hf, _, _, _, h => by
    simp only [Ty.flat] at hf
    obtain ⟨a, len, cap, m, e, em, h1⟩ := h
    simp only [ownMarks, List.cons.injEq, and_true] at em
    subst em
    obtain ⟨⟨q1, q2, q3⟩, q4⟩ := h1
    refine ⟨a, len, cap, _, e, rfl, ⟨q1, q2, q3.imp id ?_⟩, q4⟩
    rintro ⟨ad, p1, p2, p3, p4, p5⟩
    exact ⟨ad, p1, p2, p3, p4, p5.mono rfl fun _ _ => RepC.scalar t hf⟩
  | .ptr _, hf, _, _, _, _ => by simp [Ty.flat] at hf
  | .fn _ _, hf, _, _, _, _ => by simp [Ty.flat] at hf

theorem allFlat_pk : (ts : List Ty) → allFlat ts = true → (pk ts).flat = true
  | [], _ => rfl
  | [t], h => by simpa [allFlat, pk] using h
  | t :: t' :: ts, h => by
    simp only [allFlat, Bool.and_eq_true] at h
    simp only [Ty.flat, Bool.and_eq_true]
    exact ⟨h.1, allFlat_pk (t' :: ts) (by simp [allFlat, h.2])⟩

theorem rMarks_pair (own : Bool) (a b : Ty) : rMarks own (.pair a b) = rMarks own a ++ rMarks own b := by cases own <;> rfl
theorem rMarks_length (own : Bool) (t : Ty) : (rMarks own t).length = t.size := by
  cases own with
  | false => exact shrMarks_length t
  | true => exact ownMarks_length t

theorem rMarks_bnd (own : Bool) : (t : Ty) → ∀ m, m ∈ rMarks own t → m = .own ∨ m = .shr
  | .unit, m, h => by cases own <;> cases h
  | .pair a b, m, h => by
    rw [rMarks_pair] at h
    exact (List.mem_append.1 h).elim (rMarks_bnd own a m) (rMarks_bnd own b m)
  | .int _, m, h => by cases own <;> (simp [rMarks, ownMarks, shrMarks] at h; simp [h])
  | .bool, m, h => by cases own <;> (simp [rMarks, ownMarks, shrMarks] at h; simp [h])
  | .str, m, h => by cases own <;> (simp [rMarks, ownMarks, shrMarks] at h; simp [h])
  | .sl _, m, h => by cases own <;> (simp [rMarks, ownMarks, shrMarks] at h; simp [h])
  | .ptr _, m, h => by cases own <;> (simp [rMarks, ownMarks, shrMarks] at h; simp [h])
  | .fn _ _, m, h => by cases own <;> (simp [rMarks, ownMarks, shrMarks] at h; simp [h])

theorem tupRep_of_repX {s : Nat} {own : Bool} : (ts : List Ty) → ∀ {c : Nat} {us : List Value} {y : (pk ts).den}, RepX C.P w (Shd C g) (cl g σ tm w s) (pk ts) c us y (rMarks own (pk ts)) →
    TupRep C g σ tm w s c (argVals ts us) (resTVs own ts y)
  | [], _, _, _, _ => trivial
  | [t], c, us, y, h => by
    refine ⟨⟨us, ?_, h⟩, trivial⟩
    rw [take_all (RepX.length _ h).1]
  | t :: t' :: ts, c, us, y, h => by
    obtain ⟨c1, c2, m1, m2, rfl, em, h1, h2⟩ := h
    have l1 := RepX.length _ h1
    simp only [rMarks_pair] at em
    obtain ⟨rfl, rfl⟩ := List.append_inj em (by rw [rMarks_length, l1.2])
    have e1 : (c1 ++ c2).take t.size = c1 := by rw [List.take_append_of_le_length (by omega), take_all l1.1]
    have e2 : (c1 ++ c2).drop t.size = c2 := by rw [← l1.1, List.drop_left]
    simp only [argVals]
    rw [e1]
    refine ⟨⟨c1, rfl, h1⟩, ?_⟩
    have := tupRep_of_repX (t' :: ts) h2
    simp only [argVals] at this
    rw [e2]
    show TupRep C g σ tm w s (c + (rMarks own t).length) _ _
    rw [rMarks_length]
    exact this

theorem resTVs_bnd {σ' : St} {own : Bool} : (ts : List Ty) → (y : (pk ts).den) → ∀ tv, tv ∈ resTVs own ts y → ∀ m, m ∈ tv.ms → bndM σ' m
  | [], _, _, h, _, _ => by cases h
  | [t], y, tv, h, m, hm => by
    simp only [resTVs, List.mem_singleton] at h
    subst h
    rcases rMarks_bnd own t m hm with rfl | rfl <;> trivial
  | t :: t' :: ts, y, tv, h, m, hm => by
    rcases List.mem_cons.1 h with rfl | h
    · rcases rMarks_bnd own t m hm with rfl | rfl <;> trivial
    · exact resTVs_bnd (t' :: ts) y.2 tv h m hm

theorem resTVs_length {own : Bool} : (ts : List Ty) → (y : (pk ts).den) → (us : List Value) → (resTVs own ts y).length = ts.length ∧ (argVals ts us).length = ts.length
  | [], _, _ => ⟨rfl, rfl⟩
  | [_], _, _ => ⟨rfl, rfl⟩
  | t :: t' :: ts, y, us => by
    have := resTVs_length (own := own) (t' :: ts) y.2 (us.drop t.size)
    exact ⟨by simp only [resTVs, List.length_cons] at this ⊢; omega, by
       rw [argVals, List.length_cons, this.2]; rfl⟩

theorem resA_rep {s : Nat} {own : Bool} (ts : List Ty) {us : List Value} {y : (pk ts).den} (h : RepX C.P w (Shd C g) (cl g σ tm w s) (pk ts) 0 us y (rMarks own (pk ts))) :
    SlotRep C g σ tm w s (resV ts us) (resA own ts y) ∧ bndA σ (resA own ts y) := by
  have ht := tupRep_of_repX ts h
  have hb := resTVs_bnd (σ' := σ) (own := own) ts y
  obtain ⟨l1, l2⟩ := resTVs_length (own := own) ts y us
  unfold resV resA
  revert ht hb l1 l2
  generalize argVals ts us = vals
  generalize resTVs own ts y = tvs
  intro ht hb l1 l2
  match vals, tvs with
  | [], [] => exact ⟨⟨[], rfl, trivial⟩, hb⟩
  | [v], [tv] => exact ⟨ht.1, hb tv (List.mem_singleton.2 rfl)⟩
  | v :: v' :: vals, tv :: tv' :: tvs => exact ⟨⟨_, rfl, ht⟩, hb⟩
  | [], _ :: _ => simp only [List.length_nil, List.length_cons] at l1 l2; omega
  | _ :: _, [] => simp only [List.length_nil, List.length_cons] at l1 l2; omega
  | [_], _ :: _ :: _ => simp only [List.length_nil, List.length_cons] at l1 l2; omega
  | _ :: _ :: _, [_] => simp only [List.length_nil, List.length_cons] at l1 l2; omega

/-- whose the memory is, behind a call -/
def callOwn (g : Own) (n : Nat) (g' : Nat → Option Nat) (d : Nat) : Own := fun b => if b < n then g b else (g' b).map fun c => (d, some c)

theorem Grow.called {d : Nat} {f : Nat → Option Nat} (h : SRep C g σ tm w) (hs : w.heap.size ≤ w'.heap.size) (hH : ∀ b, b < w.heap.size → w'.heap[b]? = w.heap[b]?)
    (hg : ∀ b, f b ≠ none → w.heap.size ≤ b ∧ b < w'.heap.size) (hio : SameIO w w') : Grow C g σ w (callOwn g w.heap.size f d) w' := by
  have old : ∀ b, b < w.heap.size → callOwn g w.heap.size f d b = g b := fun b hb => by unfold callOwn; rw [if_pos hb]
  refine ⟨hs, hH, fun b hb hn => (old b hb).trans hn, fun b hb s c _ hn => (old b hb).trans hn, fun b hb s hn => (old b hb).trans hn, fun b hb => ?_, hio⟩
  rcases Nat.lt_or_ge b w.heap.size with hl | hl
  · rw [old b hl] at hb
    have := h.gok b hb
    exact ⟨by omega, this.2⟩
  · unfold callOwn at hb
    rw [if_neg (by omega)] at hb
    have := hg b (fun e => hb (by rw [e]; rfl))
    exact ⟨this.2, .inl (Nat.le_trans h.size hl)⟩

theorem call_sound {c : Call} {f : Nat} {sg : Sig} {cs : List Value} {x : (pk sg.ps).den} {y : (pk sg.rs).den} {Ok : Nat → Prop} (ho : o.op = .call c) (hc : c.callee = .value (.func f)) (hcon : Contract C.P f sg)
    (hargs : c.args.toList.map (Act.eval ⟨tm, ds⟩) = argVals sg.ps cs) (h : SRep C g σ tm w) (hx : RepC C.P (pk sg.ps) w Ok cs x) (hy : sg.φ x = some y)
    (hflat : (∀ b, b < w.heap.size → Ok b → Shd C g b) ∨ (sg.own = true ∧ allFlat sg.rs = true))
    (hr : (putA o.dst (resA sg.own sg.rs y) .fin).run σ K = some r) (hK : Good C K r ds next) : o.wp C.P ⟨tm, ds⟩ w next Q := by
  have hex : (execOp (Act.eval ⟨tm, ds⟩) o).run C.P w = .ok (.enter f (argVals sg.ps cs).toArray) w := by
    have e : c.args.map (Act.eval ⟨tm, ds⟩) = (argVals sg.ps cs).toArray := by
      rw [← hargs, ← List.map_toArray]
    simp [execOp, ho, resolve, hc, Act.eval, Deferred.ofValue, invoke, e, hcon.callable.run]
  unfold Oper.wp
  rw [hex, Oper.upon_enter]
  refine (hcon.does w Ok cs x y hx hy).mono fun e w' hh => ?_
  obtain ⟨us, g', rfl, hrep, hs, hH, hg, hio⟩ := hh
  show next _ w'
  obtain ⟨σ', h1, h2, h3⟩ := put_sound (v := resV sg.rs us) (ds := ds) h (Grow.called (d := o.dst.getD 0) h hs hH hg hio) (fun d hd hl σ' tm' hv => by
    rw [hd]
    simp only [Option.getD_some]
    have hown : ∀ c, Mono w' (fun b => g' b = some c) w' (fun b => callOwn g w.heap.size g' d b = some (d, some c)) := fun c => ⟨Nat.le_refl _, fun b _ hb => ⟨rfl, by
      have := (hg b (by rw [show g' b = some c from hb]; simp)).1
      show callOwn g w.heap.size g' d b = some (d, some c)
      unfold callOwn
      rw [if_neg (by omega), show g' b = some c from hb]; rfl⟩⟩
    have key : ∀ {Sh : Nat → Prop}, RepX C.P w' Sh (clR g') (pk sg.rs) 0 us y (rMarks sg.own (pk sg.rs)) → Mono w' Sh w' (Shd C (callOwn g w.heap.size g' d)) →
        RepX C.P w' (Shd C (callOwn g w.heap.size g' d)) (cl (callOwn g w.heap.size g' d) σ' tm' w' d) (pk sg.rs) 0 us y (rMarks sg.own (pk sg.rs)) := by
      intro Sh hrep hm
      have hl := RepX.length _ hrep
      refine RepX.trans hm _ hrep rfl fun i hi => ?_
      rcases rMarks_bnd sg.own _ _ (mem_of_markAt (rMarks sg.own (pk sg.rs)) i (by omega)) with e | e <;> rw [e]
      · exact .hold _ _ _ _ (hown _) (fun _ h => h)
      · exact .share _
    refine resA_rep sg.rs ?_
    rcases hflat with hOk | ⟨ho', hf⟩
    · refine key hrep ⟨Nat.le_refl _, fun b _ hb => ⟨rfl, ?_⟩⟩
      rcases Nat.lt_or_ge b w.heap.size with hl | hl
      · have := hOk b hl (hb.1.resolve_left (by omega))
        exact ⟨this.1, by unfold callOwn; rw [if_pos hl]; exact this.2⟩
      · exact ⟨.inl (Nat.le_trans h.size hl), by unfold callOwn; rw [if_neg (by omega), hb.2]; rfl⟩
    · have e : rMarks sg.own (pk sg.rs) = ownMarks (pk sg.rs) := by rw [ho']; rfl
      rw [e] at hrep
      have := RepX.flat (Sh' := fun _ => False) _ (allFlat_pk _ hf) hrep
      rw [← e] at this
      exact key this ⟨Nat.le_refl _, fun b _ hb => hb.elim⟩) hr
  exact hK _ _ _ _ h1 h3 h2

theorem op_callF {c : Call} {f : Nat} (ho : o.op = .call c) (hc : c.callee = .value (.func f)) (hfn : ∀ f sg, E.fn f = some sg → Contract C.P f sg) (h : SRep C g σ tm w)
    (hr : (opP E o).run σ K = some r) (hK : Good C K r ds next) : o.wp C.P ⟨tm, ds⟩ w next Q := by
  unfold opP at hr
  rw [ho] at hr
  simp only [hc] at hr
  split at hr
  case h_2 => simp [Prog.run] at hr
  rename_i sg hsg
  have hcon := hfn _ _ hsg
  obtain ⟨x, ms, cs, hargs, hx, hn, hb, hok, hq⟩ := argsP_inv (ds := ds) _ _ _ h hr
  clear hr
  unfold callP at hq
  rw [hcon.eat] at hq
  simp only [Bool.false_eq_true, if_false] at hq
  split at hq
  · rename_i hfl
    simp only [Bool.and_eq_true] at hfl
    simp only [Prog.run] at hq
    obtain ⟨y, hy, hq⟩ := Option.bind_eq_some_iff.1 hq
    rw [← hfl.1] at hq
    exact call_sound ho hc hcon hargs h (hx.all hok hn) hy (.inr hfl) hq hK
  · obtain ⟨g1, σ1, ms', h1, h2, h3, h4, h5, h6, _, h8⟩ := takeMarks_inv ms [] rfl h (hx.place σ.length 0 hn) (fun _ hm => by cases hm) hn hb hq
    simp only [List.nil_append] at h4 h5
    have hlen := (RepX.length _ h5).2
    have hrc : RepC C.P (pk sg.ps) w (Shd C g1) cs x := by
      refine repC_of_repX _ (RepX.trans (cl' := shareAll) (c' := 0) (Mono.refl _ _) _ h5 rfl fun i hi => ?_)
      rcases h8 (fun _ => rfl) rfl _ (mem_of_markAt ms' i (by omega)) with e | e <;> rw [e]
      · exact .share _
      · exact .nil_share
    simp only [Prog.run] at h6
    obtain ⟨y, hy, h6⟩ := Option.bind_eq_some_iff.1 h6
    exact call_sound ho hc hcon hargs h1 hrc hy (.inl fun _ _ h => h) h6 hK
end
end Go.GD
