import Derived.Test.YtbapfiaglcllnaaGDS
namespace Go.GD
open Go
section
variable {C : Ctx} {g : Own} {σ : St} {tm : Array Value} {w : World} {E : Env} {o : Oper} {ρ : Type} {K : St → Option ρ} {r : ρ} {ds : List Deferred}
  {next : Act → World → Prop} {Q : Exit → Act → World → Prop}
theorem op_callV (hfn : EnvOK C E) {c : Call} {s : Nat} (ho : o.op = .call c) (hc : c.callee = .value (.tmp s)) (h : SRep C g σ tm w)
    (hr : (opP E o).run σ K = some r) (hK : Good C K r ds next) : o.wp C.P ⟨tm, ds⟩ w next Q := by
  unfold opP at hr
  rw [ho] at hr
  simp only [hc, Prog.run] at hr
  split at hr
  case h_2 => simp [Prog.run] at hr
  rename_i a b G m hs
  split at hr
  case isFalse => simp [Prog.run] at hr
  rename_i hsc
  obtain ⟨hok, hr⟩ := useMarks_inv _ hr
  obtain ⟨x, ms, cs, hargs, hx, hn, hb, hokx, hr⟩ := argsP_inv (ds := ds) hfn [a] _ _ h hr
  simp only [Prog.run] at hr
  obtain ⟨y, hy, hr⟩ := Option.bind_eq_some_iff.1 hr
  obtain ⟨cs0, ev, hx0, hn0, hb0⟩ := h.val hs
  obtain ⟨v, m', e1, e2, hcell, hrep⟩ := hx0
  simp only [refMarks, List.cons.injEq, and_true] at e2
  subst e2
  have hokm := hok _ (List.mem_singleton.2 rfl)
  have hns : cl g σ tm w 0 0 (refMark s (listGet σ s).gen 0 m) ≠ .skip := by
    have hno := hn0 _ (List.mem_singleton.2 rfl)
    generalize refMark s (listGet σ s).gen 0 m = m1 at *
    cases m1 with
    | shr => simp [clm]
    | nn => simp [clm]
    | nil => simp [clm]
    | own => exact absurd rfl hno
    | dead => exact hokm.elim
    | ref s' c' g' => simp only [clm, (show validB σ s' c' g' = true from hokm)]; simp
    | sub s' c' g' => simp only [clm, (show validB σ s' c' g' = true from hokm)]; simp
    | bor q => simp only [clm, (show borOk σ q = true from hokm)]; simp
  obtain ⟨f, first, caps, ef, hcl, hcalls⟩ := hrep hns
  rw [e1] at ef
  simp only [List.cons.injEq, and_true] at ef
  have hv : tm.getD s undef = .func (.func f) first caps := by
    rw [ev, e1, ef]; rfl
  have hxc : RepC C.P a w (fun _ => True) cs x := RepX.all (t := a) hx hokx hn
  have hl := RepC.length a hxc
  have hav : argVals [a] cs = [mkV a cs] := by simp [argVals, take_all hl]
  have hex : (execOp (Act.eval ⟨tm, ds⟩) o).run C.P w = .ok (.enter f (first ++ #[mkV a cs] ++ caps)) w := by
    have e : c.args.map (Act.eval ⟨tm, ds⟩) = #[mkV a cs] := by
      have : (c.args.toList.map (Act.eval ⟨tm, ds⟩)).toArray = #[mkV a cs] := by rw [hargs, hav]
      rw [← this, ← List.map_toArray]
    have ef' : Act.eval ⟨tm, ds⟩ (.tmp s) = .func (.func f) first caps := hv
    simp [execOp, ho, resolve, hc, ef', Deferred.ofValue, invoke, e, hcl.run]
  unfold Oper.wp
  rw [hex, Oper.upon_enter]
  refine (hcalls w (Nat.le_refl _) (fun _ _ _ => rfl) cs x y hxc hy).mono fun e w' hh => ?_
  obtain ⟨us, rfl, hrep', hs', hH, hio⟩ := hh
  show next _ w'
  have gr : Grow C g σ w g w' := ⟨hs', hH, fun _ _ h => h, fun _ _ _ _ _ h => h, fun _ _ _ h => h, fun b hb => ⟨by have := (h.gok b hb).1; omega, (h.gok b hb).2⟩, hio⟩
  obtain ⟨σ', k1, k2, k3⟩ := put_sound (v := mkV b us) (ds := ds) h gr (fun d hd hl σ' tm' hv => by
    refine ⟨⟨us, rfl, repX_shr (RepC.scalar b hsc hrep') d 0⟩, fun m hm => ?_⟩
    rw [mem_shrMarks b m hm]; trivial) hr
  exact hK _ _ _ _ k1 k3 k2
theorem capOk_mem : (ms : List Mk) → capOk ms = true → ∀ m, m ∈ ms → m = .own ∨ m = .shr ∨ m = .nn ∨ m = .nil
  | [], _, _, h => by cases h
  | a :: l, ho, m, h => by
    cases a <;> simp only [capOk] at ho <;> first
      | (rcases List.mem_cons.1 h with rfl | h
         · simp
         · exact capOk_mem l ho m h)
      | cases ho
theorem ownCells_mem : (ms : List Mk) → (i c : Nat) → markAt ms c = .own → i + c ∈ ownCells i ms
  | [], _, c, h => by cases c <;> cases h
  | a :: l, i, 0, h => by
    have h : a = .own := h
    subst h
    simp [ownCells]
  | a :: l, i, c + 1, h => by
    have := ownCells_mem l (i + 1) c h
    rw [show i + (c + 1) = i + 1 + c by omega]
    cases a <;> first | exact List.mem_cons_of_mem _ this | exact this
theorem ownCells_own : (ms : List Mk) → (i c : Nat) → c ∈ ownCells i ms → i ≤ c ∧ markAt ms (c - i) = .own
  | [], _, _, h => by cases h
  | a :: l, i, c, h => by
    have next : c ∈ ownCells (i + 1) l → i ≤ c ∧ markAt (a :: l) (c - i) = .own := fun h => by
      obtain ⟨h1, h2⟩ := ownCells_own l (i + 1) c h
      refine ⟨by omega, ?_⟩
      rw [show c - i = (c - (i + 1)) + 1 by omega]; exact h2
    cases a with
    | own =>
      rcases List.mem_cons.1 h with rfl | h
      · exact ⟨Nat.le_refl _, by rw [Nat.sub_self]; rfl⟩
      · exact next h
    | _ => exact next h
def capBlocks (g : Own) (q : List (Nat × Nat × List Nat)) : Nat → Prop := fun k => borBlocks g q k
theorem capP_inv {s : Nat} {t : Ty} {k : t.den → Nat × Nat × List Nat → Prog} (h : SRep C g σ tm w) (hr : (capP s t k).run σ K = some r) :
    ∃ x q, (k x q).run σ K = some r ∧ q.2.1 ≤ (listGet σ q.1).gen ∧ borOk1 σ q.1 q.2.1 q.2.2 = true ∧
      ∃ v, tm.getD s undef = v ∧ v.cells = #[v] ∧ ∀ (w' : World), w.heap.size ≤ w'.heap.size → (∀ c, c < w.heap.size → (Shd C g c ∨ borBlocks g [q] c) → w'.heap[c]? = w.heap[c]?) → RepC C.P (.ptr t) w' (fun _ => True) [v] x := by
  simp only [capP, Prog.run] at hr
  split at hr
  case h_2 => simp [Prog.run] at hr
  rename_i tv hbox
  split at hr
  case h_2 => simp [Prog.run] at hr
  rename_i x hx
  split at hr
  case isFalse => simp [Prog.run] at hr
  rename_i hcap
  obtain ⟨ety, rfl⟩ := castO_some hx
  obtain ⟨tt, xx, mm⟩ := tv
  simp only at ety
  subst ety
  simp only at hr hcap
  have hl := h.lt (s := s) (by rw [hbox]; intro e; cases e)
  have hs := h.slots s hl
  rw [hbox] at hs
  obtain ⟨b, e, cs, ht, hg, hh, hrx⟩ := hs
  simp only at hrx
  have hlen := RepX.length _ hrx
  have hmark : (listGet σ s).a.mark = markAt mm := by rw [hbox]; rfl
  refine ⟨xx, (s, (listGet σ s).gen, ownCells 0 mm), hr, Nat.le_refl _, ?_, .pointer (some ⟨b, 0, none⟩), ht, rfl, fun w' hs' hH => ?_⟩
  · simp only [borOk1, Nat.beq_refl, Bool.true_and, hbox, A.isBox]
    have : ∀ (l : List Nat), (∀ c, c ∈ l → markAt mm c = .own) → (A.box ⟨tt, xx, mm⟩).owns l = true := by
      intro l
      induction l with
      | nil => intro _; rfl
      | cons c l ih =>
        intro hc
        simp only [A.owns, Bool.and_eq_true]
        refine ⟨?_, ih fun c' h' => hc c' (List.mem_cons_of_mem _ h')⟩
        show (markAt mm c).isOwn = true
        rw [hc c (List.mem_cons_self ..)]; rfl
    exact this _ fun c hc => by
      have := (ownCells_own mm 0 c hc).2
      rwa [Nat.sub_zero] at this
  · have hb0 : borBlocks g [(s, (listGet σ s).gen, ownCells 0 mm)] b := ⟨s, _, _, List.mem_singleton.2 rfl, .inl hg⟩
    have hhb := hH b (heap_lt hh) (.inr hb0)
    refine ⟨⟨b, 0, none⟩, rfl, rfl, Nat.lt_of_lt_of_le (heap_lt hh) hs', trivial, cs, hlen.1, fun j hj => ?_, ?_⟩
    · rw [Nat.zero_add, cell_congr hhb]
      exact cell_of_block hh
    · have hm : Mono w (Shd C g) w' (fun _ => True) := ⟨hs', fun c hc hcs => ⟨hH c hc (.inl hcs), trivial⟩⟩
      refine repC_of_repX tt (RepX.trans (cl' := shareAll) (c' := 0) (ms' := mm) hm tt hrx rfl fun i hi => ?_)
      rw [Nat.zero_add]
      rcases capOk_mem mm hcap _ (mem_of_markAt mm i (by omega)) with em | em | em | em <;> rw [em]
      · have hin : i ∈ ownCells 0 mm := by have := ownCells_mem mm 0 i em; rwa [Nat.zero_add] at this
        exact .hold_share _ _ ⟨hs', fun c hc hgc => ⟨hH c hc (.inr ⟨s, _, _, List.mem_singleton.2 rfl, .inr ⟨i, hin, hgc⟩⟩), trivial⟩⟩
      · exact .share _
      · exact .share_weak _
      · exact .nil_share
theorem capsP_inv : (ts : List Ty) → (os : List Operand) → {k : (pk ts).den → List (Nat × Nat × List Nat) → Prog} → SRep C g σ tm w → (capsP os ts k).run σ K = some r →
    ∃ x q, (k x q).run σ K = some r ∧ (∀ s gn cs, (s, gn, cs) ∈ q → gn ≤ (listGet σ s).gen) ∧ borOk σ q = true ∧ (∀ t, t ∈ ts → t.size = 1 ∧ t.isAgg = false) ∧
      ∀ (w' : World), w.heap.size ≤ w'.heap.size → (∀ c, c < w.heap.size → (Shd C g c ∨ borBlocks g q c) → w'.heap[c]? = w.heap[c]?) → RepC C.P (pk ts) w' (fun _ => True) (os.map (Act.eval ⟨tm, ds⟩)) x
  | [], os, k, h, hr => by
    cases os with
    | cons => simp [capsP, Prog.run] at hr
    | nil =>
      simp only [capsP] at hr
      exact ⟨(), [], hr, (fun _ _ _ hm => by cases hm), rfl, (fun _ h => by cases h), fun _ _ _ => rfl⟩
  | [t], os, k, h, hr => by
    match os with
    | [] => simp [capsP, Prog.run] at hr
    | _ :: _ :: _ => simp [capsP, Prog.run] at hr
    | [o] =>
      cases o with
      | tmp s =>
        cases t with
        | ptr t =>
          simp only [capsP] at hr
          obtain ⟨x, q, hr, hg, hb, v, hv, _, hrep⟩ := capP_inv h hr
          refine ⟨x, [q], hr, fun s gn cs hm => ?_, by simp [borOk, hb], fun t' ht' => by rw [List.mem_singleton.1 ht']; exact ⟨rfl, rfl⟩, fun w' h1 h2 => ?_⟩
          · have := List.mem_singleton.1 hm
            rw [← this] at hg; exact hg
          · have e : [Operand.tmp s].map (Act.eval ⟨tm, ds⟩) = [v] := by
              show [tm.getD s undef] = [v]
              rw [hv]
            rw [e]
            exact hrep w' h1 h2
        | _ => simp [capsP, Prog.run] at hr
      | _ => simp [capsP, Prog.run] at hr
  | t :: t' :: ts, os, k, h, hr => by
    match os with
    | [] => simp [capsP, Prog.run] at hr
    | o :: os =>
      cases o with
      | tmp s =>
        cases t with
        | ptr t =>
          simp only [capsP] at hr
          obtain ⟨x, q, hr, hg, hb, v, hv, _, hrep⟩ := capP_inv h hr
          obtain ⟨x2, q2, hr, hg2, hb2, hsz, hrep2⟩ := capsP_inv (t' :: ts) os h hr
          refine ⟨(x, x2), q :: q2, hr, fun s gn cs hm => ?_, by simp [borOk, hb, hb2], fun t' ht' => ?_, fun w' h1 h2 => ?_⟩
          · rcases List.mem_cons.1 hm with e | hm
            · rw [← e] at hg; exact hg
            · exact hg2 s gn cs hm
          · rcases List.mem_cons.1 ht' with rfl | ht'
            · exact ⟨rfl, rfl⟩
            · exact hsz _ ht'
          · refine ⟨[v], os.map (Act.eval ⟨tm, ds⟩), ?_, hrep w' h1 fun c hc hor => h2 c hc (hor.imp id ?_), hrep2 w' h1 fun c hc hor => h2 c hc (hor.imp id ?_)⟩
            · show tm.getD s undef :: _ = [v] ++ _
              rw [hv]; rfl
            · rintro ⟨s', gn, cs, hm, hor⟩
              have := List.mem_singleton.1 hm
              exact ⟨s', gn, cs, by rw [this]; exact List.mem_cons_self .., hor⟩
            · rintro ⟨s', gn, cs, hm, hor⟩
              exact ⟨s', gn, cs, List.mem_cons_of_mem _ hm, hor⟩
        | _ => simp [capsP, Prog.run] at hr
      | _ => simp [capsP, Prog.run] at hr
theorem argVals_caps : (ts : List Ty) → (∀ t, t ∈ ts → t.size = 1 ∧ t.isAgg = false) → (vs : List Value) → vs.length = (pk ts).size → argVals ts vs = vs
  | [], _, vs, hl => by
    cases vs with
    | nil => rfl
    | cons => simp [Ty.size] at hl
  | [t], h, vs, hl => by
    have ht := h t (List.mem_singleton.2 rfl)
    have hl : vs.length = t.size := hl
    match vs, hl with
    | [v], _ => simp [argVals, ht.1, mkV, ht.2]
    | [], hl => rw [ht.1] at hl; cases hl
    | _ :: _ :: _, hl => rw [ht.1] at hl; simp at hl
  | t :: t' :: ts, h, vs, hl => by
    have ht := h t (List.mem_cons_self ..)
    have hl : vs.length = t.size + (pk (t' :: ts)).size := hl
    rw [ht.1] at hl
    cases vs with
    | nil => simp at hl; omega
    | cons v vs =>
      simp only [List.length_cons] at hl
      have ih := argVals_caps (t' :: ts) (fun t ht => h t (List.mem_cons_of_mem _ ht)) vs (by omega)
      show mkV t ((v :: vs).take t.size) :: argVals (t' :: ts) ((v :: vs).drop t.size) = _
      rw [ht.1]
      simp only [List.take_succ_cons, List.take_zero, List.drop_succ_cons, List.drop_zero]
      rw [ih]
      simp [mkV, ht.2]
theorem op_makeFunc {f : Nat} {fst caps : Array Operand} (hfn : EnvOK C E) (ho : o.op = .makeFunc (.func f) fst caps) (h : SRep C g σ tm w)
    (hr : (opP E o).run σ K = some r) (hK : Good C K r ds next) : o.wp C.P ⟨tm, ds⟩ w next Q := by
  unfold opP at hr
  rw [ho] at hr
  simp only at hr
  split at hr
  case h_2 => simp [Prog.run] at hr
  rename_i sg hfst hsg
  have hcon := hfn.fns _ _ hsg
  split at hr
  case isTrue => simp [Prog.run] at hr
  rename_i heat
  replace heat : sg.eat = false := by simpa using heat
  obtain ⟨ps, rs, own, eat, φ⟩ := sg
  simp only at hr heat
  split at hr
  case h_2 => simp [Prog.run] at hr
  rename_i F hF
  split at hr
  case isFalse => simp [Prog.run] at hr
  rename_i hsc
  obtain ⟨cx, q, hr, hg, hbor, hsz, hrep⟩ := capsP_inv (ds := ds) F.ts caps.toList h hr
  cases ps with
  | nil => cases rs <;> cases hF
  | cons a ts =>
  cases rs with
  | nil => cases hF
  | cons b rs =>
  cases rs with
  | cons => cases hF
  | nil =>
  simp only [fnOf, Option.some.injEq] at hF
  subst hF
  simp only at hr hsc hrep hsz
  have hf0 : fst = #[] := by
    have := congrArg List.toArray hfst
    simpa using this
  refine av_sound h (.refl h) (a0 := .val ⟨.fn a b, fun y => φ (consP a ts y cx), [.bor q]⟩) (v := .func (.func f) #[] (caps.map (Act.eval ⟨tm, ds⟩))) (by simp [execOp, ho, Instr.makeFunc, hf0]) ?_ hr hK
  refine ⟨[.func (.func f) #[] (caps.map (Act.eval ⟨tm, ds⟩))], rfl, ⟨_, .bor q, rfl, rfl, ⟨rfl, rfl⟩, fun _ => ?_⟩, fun m hm => by simp at hm; subst hm; simp, fun m hm => by simp at hm; subst hm; exact hg⟩
  simp only [clm, hbor, cond, Claim.blocks]
  refine ⟨f, #[], caps.map (Act.eval ⟨tm, ds⟩), rfl, hcon.callable, fun w' hs hc vs x y hx hy => ?_⟩
  have hcaps := hrep w' hs hc
  have hcl := RepC.length _ hcaps
  have hxl := RepC.length _ hx
  have hcell : RepC C.P (pk (a :: ts)) w' (fun _ => True) (vs ++ caps.toList.map (Act.eval ⟨tm, ds⟩)) (consP a ts x cx) := by
    cases ts with
    | nil =>
      have : caps.toList.map (Act.eval ⟨tm, ds⟩) = [] := hcaps
      rw [this, List.append_nil]; exact hx
    | cons t ts => exact ⟨vs, _, rfl, hx, hcaps⟩
  have hargs : (argVals (a :: ts) (vs ++ caps.toList.map (Act.eval ⟨tm, ds⟩))).toArray = #[] ++ #[mkV a vs] ++ caps.map (Act.eval ⟨tm, ds⟩) := by
    have e1 : (vs ++ caps.toList.map (Act.eval ⟨tm, ds⟩)).take a.size = vs := by rw [List.take_append_of_le_length (by omega), take_all hxl]
    have e2 : (vs ++ caps.toList.map (Act.eval ⟨tm, ds⟩)).drop a.size = caps.toList.map (Act.eval ⟨tm, ds⟩) := by rw [← hxl, List.drop_left]
    show (mkV a ((vs ++ _).take a.size) :: argVals ts ((vs ++ _).drop a.size)).toArray = _
    rw [e1, e2, argVals_caps ts hsz _ hcl]
    apply Array.ext'
    simp
  rw [← hargs]
  refine (hcon.does heat w' (fun _ => True) _ _ y hcell hy).mono fun e w'' hh => ?_
  obtain ⟨us, g', rfl, hrep', h1, h2, h3, h4⟩ := hh
  have hbx : RepC C.P b w'' (fun _ => True) us y := by
    have hm : Mono w'' (fun b => (w'.heap.size ≤ b ∨ True) ∧ g' b = none) w'' (fun _ => True) := ⟨Nat.le_refl _, fun _ _ _ => ⟨rfl, trivial⟩⟩
    refine repC_of_repX b (RepX.trans (cl' := shareAll) (c' := 0) (ms' := rMarks own b) hm b hrep' rfl fun i hi => ?_)
    rcases rMarks_bnd own b _ (mem_of_markAt (rMarks own b) i (by rw [rMarks_length]; exact hi)) with e | e <;> rw [e]
    · exact .hold_share _ _ ⟨Nat.le_refl _, fun _ _ _ => ⟨rfl, trivial⟩⟩
    · exact .share _
  have hbl := RepC.length b hbx
  refine ⟨us, ?_, hbx, h1, h2, h4⟩
  have : argVals [b] us = [mkV b us] := by simp [argVals, take_all hbl]
  simp only [resV, this]
theorem getAt_scalar : {t : Ty} → t.scalar = true → {x : t.den} → {off : Nat} → {b : Ty} → {y : b.den} → getAt t x off b = some y → b.scalar = true := by
  intro t
  induction t with
  | pair l r ihl ihr =>
    intro hs x off b y h
    simp only [Ty.scalar, Bool.and_eq_true] at hs
    rcases getAt_pair h with ⟨_, e, _⟩ | ⟨_, h⟩ | ⟨_, h⟩
    · rw [← e]; simp [Ty.scalar, hs]
    · exact ihl hs.1 h
    · exact ihr hs.2 h
  | _ =>
    intro hs x off b y h
    obtain ⟨_, e, _⟩ := getAt_base (fun _ _ e => by cases e) h
    rw [← e]; exact hs
theorem size_one : {t : Ty} → t.isAgg = false → t.size = 1 := by
  intro t h
  cases t <;> first | rfl | cases h
theorem op_index {T : Nat} {x i : Operand} (hE : TabOK C.P E.tab) (ho : o.op = .index T x i) (h : SRep C g σ tm w) (hr : (opP E o).run σ K = some r) (hK : Good C K r ds next) :
    o.wp C.P ⟨tm, ds⟩ w next Q := by
  unfold opP at hr
  rw [ho] at hr
  simp only at hr
  split at hr
  case h_2 => simp [Prog.run] at hr
  rename_i e he
  split at hr
  case isFalse => simp [Prog.run] at hr
  rename_i hb
  simp only [Bool.and_eq_true] at hb
  obtain ⟨harr, hag, hsc⟩ := hb
  obtain ⟨v, hv, _, hr1⟩ := rdV_inv (ds := ds) h hr
  clear hr
  obtain ⟨kd, n, hi, hr2⟩ := rdInt_inv (ds := ds) h hr1
  clear hr1
  obtain ⟨k, hk, hn, hr⟩ := selP_inv _ hr2
  clear hr2
  subst hn
  split at hr
  case h_2 => simp [Prog.run] at hr
  rename_i off T' hf
  split at hr
  case h_2 => simp [Prog.run] at hr
  rename_i t hT
  split at hr
  case h_2 => simp [Prog.run] at hr
  rename_i y hy
  split at hr
  case isFalse => simp [Prog.run] at hr
  rename_i hty
  simp only [Bool.and_eq_true, Bool.not_eq_true'] at hty
  obtain ⟨hty, hz⟩ := hty
  have hty := Ty.eq_of_beq hty
  obtain ⟨vt, vx, vms⟩ := v
  simp only at hty hy
  subst hty
  obtain ⟨cs, ev, hx, _, _⟩ := hv
  simp only at hx ev
  have hl := RepX.length _ hx
  obtain ⟨m, te, hu, hlen, hte, hak⟩ := array_desc (hE.find he) hag harr
  obtain ⟨hoff, hT'⟩ := arrOK_get _ 0 hak _ _ _ hf
  rw [Nat.zero_add] at hoff
  subst hT'
  obtain ⟨te', hte', het⟩ := Env.ty_some hT
  rw [hte] at hte'
  injection hte' with hte'
  subst hte'
  subst het
  obtain ⟨hfit, hrep⟩ := getAt_repX e.ty hx hy
  have hrepc : RepC C.P te.ty w (Shd C g) ((cs.drop off).take te.ty.size) y := repX_scalar te.ty (getAt_scalar hsc hy) hrep
  have hlt' : k < m := by omega
  have hsz := (hE.find hte).sizeOf w
  have hagr := (hE.find hte).isAgg w
  have hmk : mkV e.ty cs = .agg cs.toArray := by unfold mkV; rw [hag]; rfl
  have hzs : te.ty.size ≠ 0 := fun e => by rw [e] at hz; cases hz
  refine av_sound h (.refl h) (a0 := .val ⟨te.ty, y, shrMarks te.ty⟩) (v := mkV te.ty ((cs.drop off).take te.ty.size)) ?_ (val_of_repC hrepc) hr hK
  rw [hmk] at ev
  have hpart : (Go.part e.elem cs.toArray (k * te.ty.size)).run C.P w = .ok (mkV te.ty ((cs.drop off).take te.ty.size)) w := by
    rw [← hoff]
    unfold mkV
    cases hga : te.ty.isAgg with
    | true =>
      rw [hga] at hagr
      simp [Go.part, hagr, hsz]
    | false =>
      rw [hga] at hagr
      have h1 : te.ty.size = 1 := size_one hga
      have hlt : off < cs.length := by omega
      simp [Go.part, hagr, hlt, h1]
      rw [List.drop_eq_getElem_cons hlt]
      rfl
  simp [execOp, ho, ev, hi, Instr.index, asIntOf, underlying, hu, hlt', hsz, hpart]
end
end Go.GD
