import Derived.Test.YtbapfiaglcllnaaGD21
namespace Go.GD
open Go
def rSlot : ResultVar → Nat
  | .tmp s => s
  | .cell s _ => s
def nodupB : List Nat → Bool
  | [] => true
  | a :: l => !memNat l a && nodupB l
def resOK (tab : List TE) : List ResultVar → List Ty → Bool
  | [], [] => true
  | .tmp _ :: l, _ :: ts => resOK tab l ts
  | .cell _ T :: l, t :: ts => (match findTE tab T with | some e => e.ty.beq t | none => false) && resOK tab l ts
  | _, _ => false
def resOwn (g : Own) : List ResultVar → List Ty → Nat → Nat → Option Nat
  | rv :: l, t :: ts, c, b => match g b with
    | some (s, some j) => if s = rSlot rv then some (c + j) else resOwn g l ts (c + t.size) b
    | _ => none
  | _, _, _, _ => none
theorem resOwn_none {g : Own} {b : Nat} (h : g b = none) : (l : List ResultVar) → (ts : List Ty) → (c : Nat) → resOwn g l ts c b = none
  | [], _, _ => rfl
  | _ :: _, [], _ => rfl
  | _ :: _, _ :: _, _ => by simp [resOwn, h]
def readOne (tm : Array Value) : ResultVar → Sem Value
  | .tmp t => pure (tm.getD t undef)
  | .cell a t => do loadVar t (← asAddr (tm.getD a undef))
section
variable {C : Ctx} {g : Own} {σ : St} {tm : Array Value} {w : World} {ρ : Type} {r : ρ} {tab : List TE}
theorem resTV_inv {rv : ResultVar} {v : TV} (h : SRep C g σ tm w) (hE : TabOK C.P tab) (hv : resTV rv σ = some v) (hok : ∀ s T, rv = .cell s T → ∃ e, findTE tab T = some e ∧ e.ty = v.t) :
    ∃ cs, (readOne tm rv).run C.P w = .ok (mkV v.t cs) w ∧ RepX C.P w (Shd C g) (cl g σ tm w (rSlot rv)) v.t 0 cs v.x v.ms ∧ (listGet σ (rSlot rv)).a.mark = markAt v.ms := by
  cases rv with
  | tmp s =>
    simp only [resTV] at hv
    split at hv
    case h_2 => cases hv
    rename_i u hu
    injection hv with hv
    subst hv
    have hl := h.lt (s := s) (by rw [hu]; intro e; cases e)
    have hs := h.slots s hl
    rw [hu] at hs
    obtain ⟨cs, e, hx⟩ := hs
    exact ⟨cs, by simp only [readOne, Sem.run_pure]; rw [e], hx, by rw [show rSlot (.tmp s) = s from rfl, hu]; rfl⟩
  | cell s T =>
    simp only [resTV] at hv
    split at hv
    case h_2 => cases hv
    rename_i u hu
    injection hv with hv
    subst hv
    have hl := h.lt (s := s) (by rw [hu]; intro e; cases e)
    have hs := h.slots s hl
    rw [hu] at hs
    obtain ⟨b, et, cs, e, hg, hh, hx⟩ := hs
    obtain ⟨te, hte, ety⟩ := hok s T rfl
    have hcl := (RepX.length _ hx).1
    have := loadVar_run (w := w) (b := b) (off := 0) (hE.find hte) (cs := cs) (by rw [ety]; exact hcl) (fun j hj => by rw [Nat.zero_add]; exact cell_of_block hh)
    rw [ety] at this
    exact ⟨cs, by simp [readOne, e, asAddr, this], hx, by rw [show rSlot (.cell s T) = s from rfl, hu]; rfl⟩
theorem read_results {own : Bool} {Sh' : Nat → Prop} {g' : Nat → Option Nat} (h : SRep C g σ tm w) (hE : TabOK C.P tab) (hsh : Mono w (Shd C g) w Sh') {S : Nat → Prop} (hfree : own = false → ∀ b, b < w.heap.size → ∀ s c, S s → g b = some (s, some c) → Sh' b) :
    (l : List ResultVar) → (ts : List Ty) → ∀ {c : Nat} {k : (pk ts).den → Option ρ}, (∀ s, s ∈ l.map rSlot → S s) → resOK tab l ts = true → nodupB (l.map rSlot) = true →
    (own = true → ∀ b s j, g b = some (s, some j) → s ∈ l.map rSlot → g' b = resOwn g l ts c b) → readRes l own ts σ k = some r →
    ∃ y us, k y = some r ∧ (l.mapM (readOne tm)).run C.P w = .ok (argVals ts us) w ∧ RepX C.P w Sh' (clR g') (pk ts) c us y (rMarks own (pk ts)) := by
  have one : ∀ (rv : ResultVar) (t : Ty) (c : Nat) (v : TV) (y : t.den), resTV rv σ = some v → resMarks own v.t v.ms = true → castO v.t t v.x = some y → (∀ s T, rv = .cell s T → ∃ e, findTE tab T = some e ∧ e.ty = t) → S (rSlot rv) →
      (own = true → ∀ b j, g b = some (rSlot rv, some j) → g' b = some (c + j)) →
      ∃ cs, (readOne tm rv).run C.P w = .ok (mkV t cs) w ∧ RepX C.P w Sh' (clR g') t c cs y (rMarks own t) := by
    intro rv t c v y hv hm hy hcell hS hg'
    obtain ⟨ety, rfl⟩ := castO_some hy
    subst ety
    obtain ⟨cs, h1, h2, h3⟩ := resTV_inv h hE hv hcell
    have hlen := RepX.length _ h2
    refine ⟨cs, h1, RepX.trans hsh v.t h2 (by rw [rMarks_length, hlen.2]) fun i hi => ?_⟩
    rw [Nat.zero_add]
    cases own with
    | true =>
      have em : v.ms = ownMarks v.t := marksBeq_eq hm
      have : markAt v.ms i = markAt (rMarks true v.t) i := by rw [em]; rfl
      rw [this]
      rcases rMarks_bnd true _ _ (mem_of_markAt (rMarks true v.t) i (by rw [rMarks_length]; exact hi)) with e | e <;> rw [e]
      · exact .hold _ _ _ _ ⟨Nat.le_refl _, fun b _ hb => ⟨rfl, hg' rfl b i hb⟩⟩ (fun _ h => h)
      · exact .share _
    | false =>
      have hm' : ∀ m, m ∈ v.ms → m = .shr ∨ m = .own := by
        intro m hmm
        have hm2 : v.ms.all (fun m => markBeq m .shr || markBeq m .own) = true := hm
        have := List.all_eq_true.1 hm2 m hmm
        rw [Bool.or_eq_true] at this
        exact this.imp markBeq_eq markBeq_eq
      have e2 : markAt (rMarks false v.t) i = .shr := markAt_shrMarks v.t i hi
      rw [e2]
      rcases hm' _ (mem_of_markAt v.ms i (by omega)) with e | e <;> rw [e]
      · exact .share _
      · refine .hold_share _ _ ⟨Nat.le_refl _, fun b hb hgb => ⟨rfl, hfree rfl b hb _ _ hS hgb⟩⟩
  intro l
  induction l with
  | nil =>
    intro ts c k _ hok _ _ hr
    cases ts with
    | cons => simp [resOK] at hok
    | nil =>
      refine ⟨(), [], hr, by simp [argVals], ?_⟩
      cases own <;> exact ⟨rfl, rfl⟩
  | cons rv l ih =>
    intro ts c k hSl hok hnd hg' hr
    have hS0 := hSl (rSlot rv) (List.mem_cons_self ..)
    have hSl' : ∀ s, s ∈ l.map rSlot → S s := fun s hs => hSl s (List.mem_cons_of_mem _ hs)
    cases ts with
    | nil => cases rv <;> simp [resOK] at hok
    | cons t ts =>
      have hcell : ∀ s T, rv = .cell s T → ∃ e, findTE tab T = some e ∧ e.ty = t := by
        intro s T e
        subst e
        simp only [resOK, Bool.and_eq_true] at hok
        have h1 := hok.1
        split at h1
        · rename_i e he; exact ⟨e, he, Ty.eq_of_beq h1⟩
        · cases h1
      have hok' : resOK tab l ts = true := by
        cases rv with
        | tmp s => exact hok
        | cell s T => simp only [resOK, Bool.and_eq_true] at hok; exact hok.2
      simp only [List.map_cons, nodupB, Bool.and_eq_true, Bool.not_eq_true', ← Bool.not_eq_true, memNat_iff] at hnd
      have head : own = true → ∀ b j, g b = some (rSlot rv, some j) → g' b = some (c + j) := by
        intro ho b j hb
        rw [hg' ho b _ j hb (List.mem_cons_self ..)]
        simp [resOwn, hb]
      cases ts with
      | nil =>
        cases l with
        | cons rv' l => cases rv' <;> simp [resOK] at hok'
        | nil =>
          simp only [readRes] at hr
          split at hr
          case h_2 => cases hr
          rename_i v hv
          split at hr
          case isFalse => cases hr
          rename_i hm
          split at hr
          case h_2 => cases hr
          rename_i y hy
          obtain ⟨cs, h1, h2⟩ := one rv t c v y hv hm hy hcell hS0 head
          have hl := (RepX.length _ h2).1
          refine ⟨y, cs, hr, ?_, h2⟩
          simp [argVals, h1, take_all hl]
      | cons t' ts =>
        cases l with
        | nil => simp [resOK] at hok'
        | cons rv' l =>
          simp only [readRes] at hr
          split at hr
          case h_2 => cases hr
          rename_i v hv
          split at hr
          case isFalse => cases hr
          rename_i hm
          split at hr
          case h_2 => cases hr
          rename_i y hy
          obtain ⟨cs, h1, h2⟩ := one rv t c v y hv hm hy hcell hS0 head
          have hl := (RepX.length _ h2).1
          obtain ⟨y2, us, q1, q2, q3⟩ := ih (t' :: ts) (c := c + t.size) hSl' hok' hnd.2 (fun ho b s j hb hs => by
            rw [hg' ho b s j hb (List.mem_cons_of_mem _ hs)]
            have hne : s ≠ rSlot rv := fun e => hnd.1 (e ▸ hs)
            simp only [resOwn, hb]
            rw [if_neg hne]) hr
          refine ⟨(y, y2), cs ++ us, q1, ?_, ?_⟩
          · rw [List.mapM_cons]
            simp only [Sem.run_bind, h1, Result.andThen_ok, q2, Sem.run_pure]
            show _ = Result.ok (mkV t ((cs ++ us).take t.size) :: argVals (t' :: ts) ((cs ++ us).drop t.size)) w
            rw [List.take_append_of_le_length (by omega), take_all hl, ← hl, List.drop_left]
          · show RepX C.P w Sh' (clR g') (.pair t (pk (t' :: ts))) c (cs ++ us) (y, y2) (rMarks own (.pair t (pk (t' :: ts))))
            rw [rMarks_pair]
            exact ⟨cs, us, _, _, rfl, rfl, h2, q3⟩
def packV : List Value → Value
  | [v] => v
  | vs => .tuple vs.toArray
theorem run_results {P : Program} {fn : Func} {vs : List Value} (h : (fn.results.toList.mapM (readOne tm)).run P w = .ok vs w) :
    (results fn tm).run P w = .ok (packV vs) w := by
  have e : results fn tm = (fn.results.mapM (readOne tm)) >>= fun vs => pure (if h : vs.size = 1 then vs[0] else .tuple vs) := by
    unfold results
    congr 2
  rw [e, Array.mapM_eq_mapM_toList]
  have e2 : (List.toArray <$> fn.results.toList.mapM (readOne tm)).run P w = .ok vs.toArray w := by
    rw [map_eq_pure_bind, Sem.run_bind, h]
    rfl
  rw [Sem.run_bind, e2]
  simp only [Result.andThen_ok, Sem.run_pure]
  match vs with
  | [] => rfl
  | [v] => rfl
  | _ :: _ :: _ => rfl
end
section
variable {P : Program} {tab : List TE} {fnE : Nat → Option Sig} {nv : Nat} {ann : List LoopAnn} {fuel : Nat}
theorem argVals_length : (ts : List Ty) → (cs : List Value) → (argVals ts cs).length = ts.length
  | [], _ => rfl
  | _ :: ts, cs => by rw [argVals, List.length_cons, argVals_length ts, List.length_cons]
theorem listGet_append_left : (l m : List Slot) → (i : Nat) → i < l.length → listGet (l ++ m) i = listGet l i
  | [], _, _, h => by simp at h
  | _ :: _, _, 0, _ => rfl
  | _ :: l, m, i + 1, h => listGet_append_left l m i (by simpa using h)
theorem listGet_replicate : (n i : Nat) → listGet (List.replicate n topSlot) i = topSlot
  | 0, _ => rfl
  | _ + 1, 0 => rfl
  | n + 1, i + 1 => listGet_replicate n i
theorem listGet_append_right : (l m : List Slot) → (i : Nat) → l.length ≤ i → listGet (l ++ m) i = listGet m (i - l.length)
  | [], _, _, _ => rfl
  | _ :: _, _, 0, h => by simp at h
  | a :: l, m, i + 1, h => by
    rw [show i + 1 - (a :: l).length = i - l.length by simp]
    exact listGet_append_right l m i (by simpa using h)
theorem initArgs_rep {C : Ctx} {g : Own} {σ : St} {tm : Array Value} {w : World} : (ts : List Ty) → ∀ {cs : List Value} {x : (pk ts).den}, RepC C.P (pk ts) w (Shd C g) cs x →
    (initArgs [] ts x).length = ts.length ∧ ∀ i, i < ts.length → ∀ s, SlotRep C g σ tm w s ((argVals ts cs)[i]?.getD undef) (listGet (initArgs [] ts x) i).a ∧ bndA σ (listGet (initArgs [] ts x) i).a := by
  have slot : ∀ (t : Ty) (cs : List Value) (x : t.den), RepC C.P t w (Shd C g) cs x → ∀ s, SlotRep C g σ tm w s (mkV t cs) (initSlot t x (shrMarks t)).a ∧ bndA σ (initSlot t x (shrMarks t)).a := by
    intro t cs x h s
    have gen : SlotRep C g σ tm w s (mkV t cs) (.val ⟨t, x, shrMarks t⟩) ∧ bndA σ (.val ⟨t, x, shrMarks t⟩) :=
      ⟨⟨cs, rfl, repX_shr h s 0⟩, fun m hm => by rw [mem_shrMarks t m hm]; trivial⟩
    cases t with
    | ptr t =>
      obtain ⟨ad, e, hsp, hm⟩ := h
      exact ⟨⟨ad, by rw [e]; rfl, hsp, hm⟩, trivial⟩
    | _ => exact gen
  intro ts
  induction ts with
  | nil => intro cs x _; exact ⟨rfl, fun i hi => by simp at hi⟩
  | cons t ts ih =>
    intro cs x h
    cases ts with
    | nil =>
      refine ⟨rfl, fun i hi s => ?_⟩
      have : i = 0 := by simp at hi; omega
      subst this
      have hl := RepC.length t h
      have := slot t cs x h s
      simp only [argVals, List.getElem?_cons_zero, Option.getD_some]
      rw [take_all hl]
      exact this
    | cons t' ts =>
      obtain ⟨c1, c2, rfl, h1, h2⟩ := h
      have hl := RepC.length t h1
      obtain ⟨q1, q2⟩ := ih h2
      have e1 : (c1 ++ c2).take t.size = c1 := by rw [List.take_append_of_le_length (by omega), take_all hl]
      have e2 : (c1 ++ c2).drop t.size = c2 := by rw [← hl, List.drop_left]
      refine ⟨by simp only [initArgs, List.length_cons]; rw [show (List.tail ([] : List (List Mk))) = [] from rfl, q1]; rfl, fun i hi s => ?_⟩
      cases i with
      | zero =>
        show SlotRep C g σ tm w s (mkV t ((c1 ++ c2).take t.size)) (initSlot t x.1 (shrMarks t)).a ∧ bndA σ (initSlot t x.1 (shrMarks t)).a
        rw [e1]
        exact slot t c1 x.1 h1 s
      | succ i =>
        show SlotRep C g σ tm w s ((argVals (t' :: ts) ((c1 ++ c2).drop t.size))[i]?.getD undef) (listGet (initArgs [] (t' :: ts) x.2) i).a ∧ bndA σ (listGet (initArgs [] (t' :: ts) x.2) i).a
        rw [e2]
        exact q2 i (by simpa using hi) s
theorem fn_doesX {bx : Nat → Option BxSig} {f : Nat} {fn : Func} {ps rs : List Ty} {own : Bool} {φ : (pk ps).den → Option (pk rs).den} (hm : P.follows .mixedOrders = true) (hE : TabOK P tab)
    (hfn : ∀ f sg, fnE f = some sg → Contract P f sg) (hbx : ∀ f b, bx f = some b → BxContract P f b) (hf : P.funcs[f]? = some fn) (hres : resOK tab fn.results.toList rs = true) (hnd : nodupB (fn.results.toList.map rSlot) = true)
    (hps : ps.length ≤ fn.ntmps)
    (hφ : ∀ x y, φ x = some y → fnX tab fnE bx nv ann fuel fn [] ps rs own x = some y) : Does P f ps rs own φ := by
  intro w Ok cs x y hx hy
  have hr := hφ x y hy
  unfold fnX at hr
  split at hr
  case h_1 => cases hr
  rename_i c hbody
  let C : Ctx := { P, base := w.heap.size, Ok0 := Ok, G := fun _ => False, h0 := w.heap, w0 := w }
  let g : Own := fun _ => none
  have hx' : RepC C.P (pk ps) w (Shd C g) cs x := RepC.mono _ ⟨Nat.le_refl _, fun b _ hb => ⟨rfl, .inr (.inl hb), rfl⟩⟩ hx
  have hal := argVals_length ps cs
  have hil := (initArgs_rep (σ := []) (tm := #[]) ps hx').1
  refine calls_of_wp hf hbody ?_
  have hlen : (initArgs [] ps x ++ List.replicate (fn.ntmps - ps.length) topSlot).length = fn.ntmps := by
    rw [List.length_append, hil, List.length_replicate]; omega
  have h0 : SRep C g (initArgs [] ps x ++ List.replicate (fn.ntmps - ps.length) topSlot) ((argVals ps cs).toArray ++ Array.replicate (fn.ntmps - (argVals ps cs).toArray.size) undef) w := by
    refine ⟨?_, fun s hs => ?_, fun s hs => ?_, fun b hb => absurd rfl hb, fun _ _ _ => rfl, Nat.le_refl _, .refl w, fun _ _ hv => by cases hv⟩
    · rw [hlen, Array.size_append, Array.size_replicate, List.size_toArray, hal]; omega
    · rcases Nat.lt_or_ge s ps.length with hl | hl
      · rw [listGet_append_left _ _ _ (by omega)]
        have := ((initArgs_rep (σ := initArgs [] ps x ++ List.replicate (fn.ntmps - ps.length) topSlot) (tm := (argVals ps cs).toArray ++ Array.replicate (fn.ntmps - (argVals ps cs).toArray.size) undef) ps hx').2 s hl s).1
        have e : ((argVals ps cs).toArray ++ Array.replicate (fn.ntmps - (argVals ps cs).toArray.size) undef).getD s undef = (argVals ps cs)[s]?.getD undef := by
          rw [Array.getD_eq_getD_getElem?, Array.getElem?_append_left (by rw [List.size_toArray, hal]; exact hl), List.getElem?_toArray]
        rw [e]; exact this
      · rw [listGet_append_right _ _ _ (by omega), listGet_replicate]; trivial
    · rcases Nat.lt_or_ge s ps.length with hl | hl
      · rw [listGet_append_left _ _ _ (by omega)]
        exact ((initArgs_rep (tm := #[]) ps hx').2 s hl s).2
      · rw [listGet_append_right _ _ _ (by omega), listGet_replicate]; trivial
  refine code_sound (C := C) hm hE ⟨hfn, hbx, fun s hs => absurd rfl hs⟩ c _ _ g _ _ w h0 hr fun e g2 σ2 tm2 w2 h2 hk => ?_
  have fin : readRes fn.results.toList own rs σ2 some = some y → bodyPost P fn (fun e w' => ∃ us g', e = .returned (resV rs us) ∧
      RepX P w' (fun b => (w.heap.size ≤ b ∨ Ok b) ∧ g' b = none) (clR g') (pk rs) 0 us y (rMarks own (pk rs)) ∧
      w.heap.size ≤ w'.heap.size ∧ (∀ b, b < w.heap.size → w'.heap[b]? = w.heap[b]?) ∧ (∀ b, g' b ≠ none → w.heap.size ≤ b ∧ b < w'.heap.size) ∧ SameIO w w') .normal ⟨tm2, []⟩ w2 := by
    intro hk
    let g' : Nat → Option Nat := fun b => if own = true then resOwn g2 fn.results.toList rs 0 b else none
    have hsh : Mono w2 (Shd C g2) w2 (fun b => (w.heap.size ≤ b ∨ Ok b) ∧ g' b = none) := ⟨Nat.le_refl _, fun b _ hb => ⟨rfl, hb.1.imp id fun h => h.resolve_right id, by
      show (if own = true then resOwn g2 fn.results.toList rs 0 b else none) = none
      rw [resOwn_none hb.2]; split <;> rfl⟩⟩
    obtain ⟨y', us, q1, q2, q3⟩ := read_results (own := own) (g' := g') h2 hE hsh (S := fun _ => True) (fun ho b _ s c _ hb => ⟨.inl ((h2.gok b (by rw [hb]; simp)).2.resolve_right id), by
      show (if own = true then resOwn g2 fn.results.toList rs 0 b else none) = none
      rw [ho]; rfl⟩) fn.results.toList rs (c := 0) (fun _ _ => trivial) hres hnd (fun ho b s j _ _ => by
      show (if own = true then resOwn g2 fn.results.toList rs 0 b else none) = _
      rw [if_pos ho]) hk
    injection q1 with q1
    subst q1
    refine ⟨rfl, resV rs us, run_results q2, us, g', rfl, q3, h2.size, fun b hb => h2.frame b hb id, fun b hb => ?_, h2.io⟩
    have hgb : g2 b ≠ none := fun e => hb (by
      show (if own = true then resOwn g2 fn.results.toList rs 0 b else none) = none
      rw [resOwn_none e]; split <;> rfl)
    have := h2.gok b hgb
    exact ⟨this.2.resolve_right id, this.1⟩
  cases e with
  | normal => exact fin hk
  | exit id => cases hk
  | ret => exact fin hk
theorem fn_does {f : Nat} {fn : Func} {ps rs : List Ty} {own : Bool} {φ : (pk ps).den → Option (pk rs).den} (hm : P.follows .mixedOrders = true) (hE : TabOK P tab)
    (hfn : ∀ f sg, fnE f = some sg → Contract P f sg) (hf : P.funcs[f]? = some fn) (hres : resOK tab fn.results.toList rs = true) (hnd : nodupB (fn.results.toList.map rSlot) = true)
    (hps : ps.length ≤ fn.ntmps)
    (hφ : ∀ x y, φ x = some y → fnD tab fnE nv ann fuel fn [] ps rs own x = some y) : Does P f ps rs own φ :=
  fn_doesX (bx := fun _ => none) hm hE hfn (fun _ _ h => by cases h) hf hres hnd hps hφ
theorem fn_box {bx : Nat → Option BxSig} {f : Nat} {fn : Func} {B : BxSig} (hm : P.follows .mixedOrders = true) (hE : TabOK P tab)
    (hfn : ∀ f sg, fnE f = some sg → Contract P f sg) (hbx : ∀ f b, bx f = some b → BxContract P f b) (hf : P.funcs[f]? = some fn) (hres : resOK tab fn.results.toList B.rs = true) (hnd : nodupB (fn.results.toList.map rSlot) = true)
    (h0r : memNat (fn.results.toList.map rSlot) 0 = false) (hps : B.ps.length + 1 ≤ fn.ntmps) (hplain : plainMarks B.bm = true)
    (hφ : ∀ x y r, B.φ x y = some r → fnB tab fnE bx nv ann fuel fn B.t B.bm B.ps B.rs x y = some r) : BoxDoes P f B := by
  intro w Ok g0 b e cs as x y r hgb hh hX hOk hg0 hy hφr
  have hr := hφ _ _ _ hφr
  unfold fnB at hr
  split at hr
  case h_1 => cases hr
  rename_i c hbody
  have hplain := plain_mem hplain
  let C : Ctx := { P, base := w.heap.size, Ok0 := Ok, G := fun k => g0 k ≠ none, h0 := w.heap, w0 := w, pin := fun s => if s = 0 then some (.pointer (some ⟨b, 0, none⟩)) else none }
  let g : Own := fun k => (g0 k).map fun p => (0, p)
  have hy' : RepC C.P (pk B.ps) w (Shd C g) as y := RepC.mono _ ⟨Nat.le_refl _, fun k _ hk => ⟨rfl, .inr (.inl hk), by show (g0 k).map _ = none; rw [hOk k hk]; rfl⟩⟩ hy
  have hal := argVals_length B.ps as
  have hil := (initArgs_rep (σ := []) (tm := #[]) B.ps hy').1
  refine calls_of_wp hf hbody ?_
  let σ0 : St := ⟨.box ⟨B.t, x, B.bm⟩, 0, 0⟩ :: (initArgs [] B.ps y ++ List.replicate (fn.ntmps - (B.ps.length + 1)) topSlot)
  let av : List Value := Value.pointer (some ⟨b, 0, none⟩) :: argVals B.ps as
  have hav : av.length = B.ps.length + 1 := by show (argVals B.ps as).length + 1 = _; rw [hal]
  have hlen : σ0.length = fn.ntmps := by
    show (initArgs [] B.ps y ++ _).length + 1 = _
    rw [List.length_append, hil, List.length_replicate]; omega
  have tm_at : ∀ s, s < av.length → (av.toArray ++ Array.replicate (fn.ntmps - av.toArray.size) undef).getD s undef = av[s]?.getD undef := fun s hs => by
    rw [Array.getD_eq_getD_getElem?, Array.getElem?_append_left (by rw [List.size_toArray]; exact hs), List.getElem?_toArray]
  have h0 : SRep C g σ0 (av.toArray ++ Array.replicate (fn.ntmps - av.toArray.size) undef) w := by
    refine ⟨?_, fun s hs => ?_, fun s hs => ?_, fun k hk => ?_, fun _ _ _ => rfl, Nat.le_refl _, .refl w, fun s v hv _ => ?_⟩
    · rw [hlen, Array.size_append, Array.size_replicate, List.size_toArray, hav]; omega
    · cases s with
      | zero =>
        rw [tm_at 0 (by rw [hav]; omega)]
        have hl0 := RepX.length _ hX
        refine ⟨b, e, cs, rfl, by show (g0 b).map _ = _; rw [hgb]; rfl, hh, ?_⟩
        refine RepX.trans (w := w) (w' := w) (Sh := Ok) ⟨Nat.le_refl _, fun k _ hk => ⟨rfl, .inr (.inl hk), by show (g0 k).map _ = none; rw [hOk k hk]; rfl⟩⟩ B.t hX rfl fun i hi => ?_
        rcases hplain _ (mem_of_markAt B.bm i (by omega)) with e | e <;> rw [e]
        · exact .share _
        · exact .hold _ _ _ _ ⟨Nat.le_refl _, fun k _ hk => ⟨rfl, by show (g0 k).map _ = _; rw [show g0 k = some (some (0 + i)) from hk]; rfl⟩⟩ (fun _ h => h)
      | succ s =>
        show SlotRep C g σ0 _ w (s + 1) _ (listGet (initArgs [] B.ps y ++ List.replicate (fn.ntmps - (B.ps.length + 1)) topSlot) s).a
        rcases Nat.lt_or_ge s B.ps.length with hl | hl
        · rw [listGet_append_left _ _ _ (by omega), tm_at (s + 1) (by omega)]
          exact ((initArgs_rep (σ := σ0) (tm := av.toArray ++ Array.replicate (fn.ntmps - av.toArray.size) undef) B.ps hy').2 s hl (s + 1)).1
        · rw [listGet_append_right _ _ _ (by omega), listGet_replicate]; trivial
    · cases s with
      | zero =>
        intro m hm
        rcases hplain m hm with rfl | rfl <;> trivial
      | succ s =>
        show bndA σ0 (listGet (initArgs [] B.ps y ++ List.replicate (fn.ntmps - (B.ps.length + 1)) topSlot) s).a
        rcases Nat.lt_or_ge s B.ps.length with hl | hl
        · rw [listGet_append_left _ _ _ (by omega)]
          exact ((initArgs_rep (tm := #[]) B.ps hy').2 s hl s).2
        · rw [listGet_append_right _ _ _ (by omega), listGet_replicate]; trivial
    · have : g0 k ≠ none := fun e => hk (by show (g0 k).map _ = none; rw [e]; rfl)
      exact ⟨hg0 k this, .inr this⟩
    · have hv : (if s = 0 then some (Value.pointer (some ⟨b, 0, none⟩)) else none) = some v := hv
      split at hv
      · rename_i hs
        subst hs
        injection hv with hv
        rw [tm_at 0 (by rw [hav]; omega)]
        exact hv
      · cases hv
  refine code_sound (C := C) hm hE ⟨hfn, hbx, fun s hs => ?_⟩ c _ _ g _ _ w h0 hr fun ex g2 σ2 tm2 w2 h2 hk => ?_
  · by_cases h : s = 0
    · subst h; rfl
    · exact absurd (if_neg h) hs
  have fin : readBox fn.results.toList B.t B.bm B.rs σ2 (fun x z => some (x, z)) = some r → bodyPost P fn (fun ex w' => ∃ us g1 e', ∃ cs' : List Value, ex = .returned (resV B.rs us) ∧
      g1 b = some none ∧ w'.heap[b]? = some (.cells cs'.toArray e' (0, 0)) ∧ RepX P w' (Left w Ok g0 g1) (clB g1) B.t 0 cs' r.1 B.bm ∧ RepC P (pk B.rs) w' (Left w Ok g0 g1) us r.2 ∧
      w.heap.size ≤ w'.heap.size ∧ (∀ k, k < w.heap.size → g0 k = none → w'.heap[k]? = w.heap[k]?) ∧ (∀ k, g1 k ≠ none → (w.heap.size ≤ k ∨ g0 k ≠ none) ∧ k < w'.heap.size) ∧ SameIO w w') .normal ⟨tm2, []⟩ w2 := by
    intro hk
    unfold readBox at hk
    split at hk
    case h_2 => cases hk
    rename_i v hbox
    split at hk
    case isFalse => cases hk
    rename_i hmk
    split at hk
    case h_2 => cases hk
    rename_i u hu
    obtain ⟨vt, vx, vms⟩ := v
    have hmk2 : vms = B.bm := marksBeq_eq hmk
    clear hmk
    simp only at hu
    obtain ⟨ety, rfl⟩ := castO_some hu
    subst ety
    subst hmk2
    have hl2 := h2.lt (s := 0) (by rw [hbox]; intro e; cases e)
    have hs2 := h2.slots 0 hl2
    rw [hbox] at hs2
    obtain ⟨b2, e2, cs2, hv2, hg2, hh2, hx2⟩ := hs2
    have hpin := h2.pin 0 _ rfl (by rw [hbox]; rfl)
    rw [hv2] at hpin
    injection hpin with hpin
    injection hpin with hpin
    injection hpin with hb2 _ _
    subst hb2
    let gE : Nat → Option (Option Nat) := fun k => match g2 k with
      | some (s, p) => if s = 0 then some p else none
      | none => none
    have gE_some : ∀ k p, g2 k = some (0, p) → gE k = some p := fun k p hk => by simp [gE, hk]
    have gE_none : ∀ k, g2 k = none → gE k = none := fun k hk => by simp [gE, hk]
    have gE_other : ∀ k s p, s ≠ 0 → g2 k = some (s, p) → gE k = none := fun k s p hs hk => by simp [gE, hk, hs]
    have hsh : Mono w2 (Shd C g2) w2 (Left w Ok g0 gE) := ⟨Nat.le_refl _, fun k _ hk => ⟨rfl, hk.1, gE_none k hk.2⟩⟩
    obtain ⟨y', us, q1, q2, q3⟩ := read_results (own := false) (g' := fun _ => none) h2 hE hsh (S := fun s => s ≠ 0) (fun _ k _ s c hs hk => ⟨(h2.gok k (by rw [hk]; simp)).2.imp (fun h => h) .inr, gE_other k s _ hs hk⟩) fn.results.toList B.rs (c := 0)
      (fun s hs e => by subst e; rw [(memNat_iff _ _).2 hs] at h0r; cases h0r) hres hnd (fun ho => by cases ho) hk
    injection q1 with q1
    subst q1
    have hl0 : cs2.length = B.t.size ∧ B.bm.length = B.t.size := RepX.length _ hx2
    refine ⟨rfl, resV B.rs us, run_results q2, us, gE, e2, cs2, rfl, gE_some b2 _ hg2, hh2, ?_, ?_, h2.size, fun k hk h0 => h2.frame k hk (fun hG => hG h0), fun k hk => ?_, h2.io⟩
    · refine RepX.trans hsh B.t hx2 rfl fun i hi => ?_
      rcases hplain _ (mem_of_markAt B.bm i (by omega)) with e | e <;> rw [e]
      · exact .share _
      · exact .hold _ _ _ _ ⟨Nat.le_refl _, fun k _ hk => ⟨rfl, gE_some k _ hk⟩⟩ (fun _ h => h)
    · have hl3 := RepX.length _ q3
      refine repC_of_repX _ (RepX.trans (cl' := shareAll) (c' := 0) (Mono.refl _ _) _ q3 rfl fun i hi => ?_)
      rw [show markAt (rMarks false (pk B.rs)) i = .shr from markAt_shrMarks _ i hi]
      exact .share _
    · cases hgk : g2 k with
      | none => exact absurd (gE_none k hgk) hk
      | some p =>
        have := h2.gok k (by rw [hgk]; simp)
        exact ⟨this.2, this.1⟩
  cases ex with
  | normal => exact fin hk
  | exit id => cases hk
  | ret => exact fin hk
theorem BxContract.of {f : Nat} {t : Ty} {bm : List Mk} {ps rs : List Ty} {φ : t.den → (pk ps).den → Option (t.den × (pk rs).den)} (k : Callable P f) (p : plainMarks bm = true) (d : BoxDoes P f { t, bm, ps, rs, φ }) : BxContract P f { t, bm, ps, rs, φ } := ⟨k, p, fun _ => d, fun e => by cases e⟩
theorem BoxDoes.none {f : Nat} {t : Ty} {bm : List Mk} {ps rs : List Ty} {φ : t.den → (pk ps).den → Option (t.den × (pk rs).den)} (h : ∀ x y, φ x y = Option.none) : BoxDoes P f { t, bm, ps, rs, φ } :=
  fun _ _ _ _ _ _ _ x y _ _ _ _ _ _ _ hr => by
    have : φ x y = some _ := hr
    rw [h] at this; cases this
theorem fn_boxP {bx : Nat → Option BxSig} {f : Nat} {fn : Func} {t : Ty} {bm : List Mk} {ps rs : List Ty} {φ : t.den → (pk ps).den → Option (t.den × (pk rs).den)} (hm : P.follows .mixedOrders = true) (hE : TabOK P tab)
    (hfn : ∀ f sg, fnE f = some sg → Contract P f sg) (hbx : ∀ f b, bx f = some b → BxContract P f b) (hf : P.funcs[f]? = some fn) (hres : resOK tab fn.results.toList rs = true) (hnd : nodupB (fn.results.toList.map rSlot) = true)
    (h0r : memNat (fn.results.toList.map rSlot) 0 = false) (hps : ps.length + 1 ≤ fn.ntmps) (hplain : plainMarks bm = true)
    (hφ : ∀ x y r, φ x y = some r → fnB tab fnE bx nv ann fuel fn t bm ps rs x y = some r) : BoxDoes P f { t, bm, ps, rs, φ } := fn_box hm hE hfn hbx hf hres hnd h0r hps hplain hφ
end
end Go.GD
