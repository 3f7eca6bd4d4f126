import Derived.Test.YtbapfiaglcllnaaGDcc
namespace Go.GD
open Go
section
variable {P : Program} {tab : List TE} {fnE : Nat → Option Sig} {nv : Nat} {ann : List LoopAnn} {fuel : Nat}
theorem eatInit {C : Ctx} {g : Own} {w : World} {Ok B : Nat → Prop} {t : Ty} (hm : Mono w Ok w (Shd C g)) (hB : Mono w B w (fun b => g b = some (0, some 0))) : (ts : List Ty) → ∀ {cs : List Value} {x : (pk (.sl t :: ts)).den},
    RepX C.P w Ok (clE B) (pk (.sl t :: ts)) 0 cs x (eatMarks (.sl t :: ts)) →
    (initArgs [[.own]] (.sl t :: ts) x).length = ts.length + 1 ∧ ∀ σ tm i, i < ts.length + 1 → SlotRep C g σ tm w i ((argVals (.sl t :: ts) cs)[i]?.getD undef) (listGet (initArgs [[.own]] (.sl t :: ts) x) i).a ∧ bndA σ (listGet (initArgs [[.own]] (.sl t :: ts) x) i).a := by
  have head : ∀ {cs : List Value} {x : (Ty.sl t).den}, RepX C.P w Ok (clE B) (.sl t) 0 cs x [.own] → ∀ σ tm, SlotRep C g σ tm w 0 (mkV (.sl t) cs) (.val ⟨.sl t, x, [.own]⟩) ∧ bndA σ (.val ⟨.sl t, x, [.own]⟩) := by
    intro cs x h σ tm
    refine ⟨⟨cs, rfl, RepX.trans hm (.sl t) h rfl fun i hi => ?_⟩, fun m hm => ?_⟩
    · have hi : i < 1 := hi
      have : i = 0 := by omega
      subst this
      exact .hold _ _ _ _ hB (fun _ h => h)
    · have : m = .own := by simpa using hm
      subst this; trivial
  intro ts
  cases ts with
  | nil =>
    intro cs x h
    refine ⟨rfl, fun σ tm i hi => ?_⟩
    have : i = 0 := by simp at hi; omega
    subst this
    have hl := (RepX.length _ h).1
    have := head h σ tm
    simp only [argVals, List.getElem?_cons_zero, Option.getD_some]
    rw [take_all hl]
    exact this
  | cons t' ts =>
    intro cs x h
    obtain ⟨c1, c2, m1, m2, rfl, em, h1, h2⟩ := h
    have hl := RepX.length _ h1
    obtain ⟨a, len, cap, m, e0, e1, hs⟩ := h1
    subst e1
    have em : ([.own] : List Mk) ++ shrMarks (pk (t' :: ts)) = [m] ++ m2 := em
    simp only [List.singleton_append, List.cons.injEq] at em
    obtain ⟨rfl, rfl⟩ := em
    have h1 : RepX C.P w Ok (clE B) (.sl t) 0 c1 x.1 [.own] := ⟨a, len, cap, .own, e0, rfl, hs⟩
    have hl2 := RepX.length _ h2
    have hrc : RepC C.P (pk (t' :: ts)) w (Shd C g) c2 x.2 := by
      refine repC_of_repX _ (RepX.trans (cl' := shareAll) (c' := 0) hm _ h2 rfl fun i hi => ?_)
      rw [markAt_shrMarks _ i hi]
      exact .share _
    have q := fun (σ : St) (tm : Array Value) => initArgs_rep (C := C) (g := g) (σ := σ) (tm := tm) (w := w) (t' :: ts) hrc
    have e1 : (c1 ++ c2).take (Ty.sl t).size = c1 := by rw [List.take_append_of_le_length (by omega), take_all hl.1]
    have e2 : (c1 ++ c2).drop (Ty.sl t).size = c2 := by rw [← hl.1, List.drop_left]
    refine ⟨?_, fun σ tm i hi => ?_⟩
    · show (initSlot (.sl t) x.1 (headM [[.own]] (.sl t)) :: initArgs [] (t' :: ts) x.2).length = _
      rw [List.length_cons, (q [] #[]).1]
    · cases i with
      | zero =>
        show SlotRep C g σ tm w 0 (mkV (.sl t) ((c1 ++ c2).take (Ty.sl t).size)) (.val ⟨.sl t, x.1, [.own]⟩) ∧ _
        rw [e1]
        exact head h1 σ tm
      | succ i =>
        show SlotRep C g σ tm w (i + 1) ((argVals (t' :: ts) ((c1 ++ c2).drop (Ty.sl t).size))[i]?.getD undef) (listGet (initArgs [] (t' :: ts) x.2) i).a ∧ bndA σ (listGet (initArgs [] (t' :: ts) x.2) i).a
        rw [e2]
        exact (q σ tm).2 i (by simpa using hi) (i + 1)
theorem fn_eats {bx : Nat → Option BxSig} {f : Nat} {fn : Func} {t : Ty} {ts rs : List Ty} {φ : (pk (.sl t :: ts)).den → Option (pk rs).den} (hm : P.follows .mixedOrders = true) (hE : TabOK P tab)
    (hfn : ∀ f sg, fnE f = some sg → Contract P f sg) (hbx : ∀ f b, bx f = some b → BxContract P f b) (hf : P.funcs[f]? = some fn) (hres : resOK tab fn.results.toList rs = true) (hnd : nodupB (fn.results.toList.map rSlot) = true)
    (hps : ts.length + 1 ≤ fn.ntmps) (hfl : allFlat rs = true)
    (hφ : ∀ x y, φ x = some y → fnX tab fnE bx nv ann fuel fn [[.own]] (.sl t :: ts) rs true x = some y) : EatDoes P f (.sl t :: ts) rs φ := by
  intro w Ok B cs x y hx hBO hBs hy
  have hr := hφ x y hy
  unfold fnX at hr
  split at hr
  case h_1 => cases hr
  rename_i c hbody
  let C : Ctx := { P, base := w.heap.size, Ok0 := Ok, G := B, h0 := w.heap, w0 := w }
  let g : Own := fun b => open Classical in if B b then some (0, some 0) else none
  have gB : ∀ b, B b → g b = some (0, some 0) := fun b hb => if_pos hb
  have gN : ∀ b, ¬ B b → g b = none := fun b hb => if_neg hb
  have hmS : Mono w Ok w (Shd C g) := ⟨Nat.le_refl _, fun b _ hb => ⟨rfl, .inr (.inl hb), gN b fun h => hBO b h hb⟩⟩
  have hmB : Mono w B w (fun b => g b = some (0, some 0)) := ⟨Nat.le_refl _, fun b _ hb => ⟨rfl, gB b hb⟩⟩
  have hal := argVals_length (.sl t :: ts) cs
  obtain ⟨hil, hini⟩ := eatInit (C := C) hmS hmB ts hx
  refine calls_of_wp hf hbody ?_
  rw [List.length_cons] at hal
  have hlen : (initArgs [[.own]] (.sl t :: ts) x ++ List.replicate (fn.ntmps - (Ty.sl t :: ts).length) topSlot).length = fn.ntmps := by
    rw [List.length_append, hil, List.length_replicate, List.length_cons]; omega
  have h0 : SRep C g (initArgs [[.own]] (.sl t :: ts) x ++ List.replicate (fn.ntmps - (Ty.sl t :: ts).length) topSlot) ((argVals (.sl t :: ts) cs).toArray ++ Array.replicate (fn.ntmps - (argVals (.sl t :: ts) cs).toArray.size) undef) w := by
    refine ⟨?_, fun s hs => ?_, fun s hs => ?_, fun b hb => ?_, fun _ _ _ => rfl, Nat.le_refl _, .refl w, fun _ _ hv => by cases hv⟩
    · rw [hlen, Array.size_append, Array.size_replicate, List.size_toArray, hal]; omega
    · rcases Nat.lt_or_ge s (ts.length + 1) with hl | hl
      · rw [listGet_append_left _ _ _ (by omega)]
        have e : ((argVals (.sl t :: ts) cs).toArray ++ Array.replicate (fn.ntmps - (argVals (.sl t :: ts) cs).toArray.size) undef).getD s undef = (argVals (.sl t :: ts) cs)[s]?.getD undef := by
          rw [Array.getD_eq_getD_getElem?, Array.getElem?_append_left (by rw [List.size_toArray, hal]; exact hl), List.getElem?_toArray]
        rw [e]; exact (hini _ _ s hl).1
      · rw [listGet_append_right _ _ _ (by omega), listGet_replicate]; trivial
    · rcases Nat.lt_or_ge s (ts.length + 1) with hl | hl
      · rw [listGet_append_left _ _ _ (by omega)]
        exact (hini _ #[] s hl).2
      · rw [listGet_append_right _ _ _ (by omega), listGet_replicate]; trivial
    · have : B b := open Classical in byContradiction fun h => hb (gN b h)
      exact ⟨hBs b this, .inr this⟩
  refine code_sound (C := C) hm hE ⟨hfn, hbx, fun s hs => absurd rfl hs⟩ c _ _ g _ _ w h0 hr fun e g2 σ2 tm2 w2 h2 hk => ?_
  have fin : readRes fn.results.toList true rs σ2 some = some y → bodyPost P fn (fun e w' => ∃ us g', e = .returned (resV rs us) ∧
      RepX P w' (fun b => (w.heap.size ≤ b ∨ Ok b) ∧ g' b = none) (clR g') (pk rs) 0 us y (ownMarks (pk rs)) ∧
      w.heap.size ≤ w'.heap.size ∧ (∀ b, b < w.heap.size → ¬ B b → w'.heap[b]? = w.heap[b]?) ∧ (∀ b, g' b ≠ none → (w.heap.size ≤ b ∨ B b) ∧ b < w'.heap.size) ∧ SameIO w w') .normal ⟨tm2, []⟩ w2 := by
    intro hk
    let g' : Nat → Option Nat := resOwn g2 fn.results.toList rs 0
    have hsh : Mono w2 (Shd C g2) w2 (Shd C g2) := Mono.refl _ _
    obtain ⟨y', us, q1, q2, q3⟩ := read_results (own := true) (g' := g') h2 hE hsh (S := fun _ => True) (fun ho => by cases ho) fn.results.toList rs (c := 0) (fun _ _ => trivial) hres hnd (fun ho b s j _ _ => rfl) hk
    injection q1 with q1
    subst q1
    refine ⟨rfl, resV rs us, run_results q2, us, g', rfl, RepX.flat _ (allFlat_pk _ hfl) q3, h2.size, fun b hb hn => h2.frame b hb hn, fun b hb => ?_, h2.io⟩
    have hgb : g2 b ≠ none := fun e => hb (resOwn_none e _ _ _)
    have := h2.gok b hgb
    exact ⟨this.2, this.1⟩
  cases e with
  | normal => exact fin hk
  | exit id => cases hk
  | pan T => cases hk
  | ret => exact fin hk
theorem Contract.ofEat {f : Nat} {ps rs : List Ty} {φ : (pk ps).den → Option (pk rs).den} (k : Callable P f) (d : EatDoes P f ps rs φ) : Contract P f { ps, rs, own := true, eat := true, φ } := ⟨k, (fun e => by cases e), fun _ => d⟩
end
end Go.GD
