import Derived.Test.YtbapfiaglcllnaaGDdd
section
namespace Go.GD
open Go
theorem region_inv {P : Program} {ops : Array Oper} {Q : Exit → Act → World → Prop} {id : Nat} {a : Act} {w : World} (hm : P.follows .mixedOrders = true)
    (hback : ∀ j o, ops.toList[j]? = some o → ∀ e, e ∈ o.after.toList → Region.binds .any e = true → e.on < j)
    (I : (Nat → Bool) → Act → World → Prop)
    (step : ∀ (D : Nat → Bool) j o a w, ops.toList[j]? = some o → D j = false → (∀ e, e ∈ o.after.toList → Region.binds .any e = true → D e.on = true) →
      (∀ j o, D j = true → ops.toList[j]? = some o → ∀ e, e ∈ o.after.toList → Region.binds .any e = true → D e.on = true) → I D a w →
      o.guard = none ∧ o.wp P a w (fun a' w' => I (fun i => decide (i = j) || D i) a' w') Q)
    (fin : ∀ D a w, (∀ i, i < ops.size → D i = true) → I D a w → Q .normal a w)
    (h0 : I (fun _ => false) a { w with drawn := w.drawn + 1 }) : (Code.region id ops true).wp P Q a w := by
  refine wp_region_any hm ?_
  have notReady : ∀ (listed : Array Bool), listed.size = ops.size → Region.ready .any ops listed = [] → ∀ i, i < ops.size → listed.getD i false = true := by
    intro listed hsz hr i
    induction i using Nat.strongRecOn with
    | _ i ih =>
      intro hi
      have hio : ops.toList[i]? = some ops.toList[i] := List.getElem?_eq_getElem (by simpa using hi)
      have hnot : i ∉ Region.ready .any ops listed := by rw [hr]; simp
      rw [mem_ready] at hnot
      cases hli : listed.getD i false with
      | true => rfl
      | false =>
        exfalso
        refine hnot ⟨?_, ops.toList[i], by simp, fun e he hb => ?_⟩
        · simp only [Array.getD_eq_getD_getElem?] at hli ⊢
          rw [Array.getElem?_eq_getElem (by omega)] at hli ⊢
          exact hli
        · have := hback i _ hio e (by simpa using he) hb
          exact ih e.on this (by omega)
  suffices key : ∀ (fuel : Nat) (U : List Nat) (listed : Array Bool) (a : Act) (w : World), U.Nodup → U.length = fuel → (∀ i, i ∈ U ↔ i < ops.size ∧ listed.getD i false = false) → listed.size = ops.size →
      (∀ j o, listed.getD j false = true → ops.toList[j]? = some o → ∀ e, e ∈ o.after.toList → Region.binds .any e = true → listed.getD e.on false = true) →
      I (fun i => listed.getD i false) a w → wpAny P .any ops Q fuel listed a w by
    refine key ops.size (List.range ops.size) _ a _ List.nodup_range (by simp) (fun i => ?_) (by simp) (fun j o hj => ?_) ?_
    · rw [List.mem_range]
      constructor
      · intro hi; exact ⟨hi, by simp [hi]⟩
      · exact fun h => h.1
    · exfalso
      simp only [Array.getD_eq_getD_getElem?] at hj
      rcases Nat.lt_or_ge j ops.size with hl | hl
      · simp [hl] at hj
      · simp [Nat.not_lt.2 hl] at hj
    · have : (fun i => (Array.replicate ops.size false).getD i false) = fun _ => false := by
        funext i
        simp only [Array.getD_eq_getD_getElem?]
        rcases Nat.lt_or_ge i ops.size with hl | hl
        · simp [hl]
        · simp [Nat.not_lt.2 hl]
      rw [this]; exact h0
  intro fuel
  induction fuel with
  | zero =>
    intro U listed a w hnd hU hUi hsz hdown h
    have hall : ∀ i, i < ops.size → listed.getD i false = true := fun i hi => by
      cases hli : listed.getD i false with
      | true => rfl
      | false =>
        have := (hUi i).2 ⟨hi, hli⟩
        rw [List.eq_nil_of_length_eq_zero hU] at this
        cases this
    refine ⟨?_, fin _ a w hall h⟩
    rw [List.eq_nil_iff_forall_not_mem]
    intro i hi
    rw [mem_ready] at hi
    obtain ⟨h1, o, ho, _⟩ := hi
    have hlt : i < ops.size := (Array.getElem?_eq_some_iff.1 ho).1
    have := hall i hlt
    simp only [Array.getD_eq_getD_getElem?] at this h1
    rw [Array.getElem?_eq_getElem (by omega)] at this h1
    rw [Option.getD_some] at this h1
    rw [this] at h1; cases h1
  | succ fuel ih =>
    intro U listed a w hnd hU hUi hsz hdown h
    refine ⟨fun hr => fin _ a w (notReady listed hsz hr) h, fun j hj => ?_⟩
    rw [mem_ready] at hj
    obtain ⟨hj0, o, ho, hbind⟩ := hj
    have hjn : j < ops.size := (Array.getElem?_eq_some_iff.1 ho).1
    have hoL : ops.toList[j]? = some o := by simpa using ho
    have hj1 : listed.getD j false = false := by
      simp only [Array.getD_eq_getD_getElem?] at hj0 ⊢
      rw [Array.getElem?_eq_getElem (by omega)] at hj0 ⊢
      exact hj0
    obtain ⟨hgd, hwp⟩ := step (fun i => listed.getD i false) j o a w hoL hj1 (fun e he hb => hbind e (by simpa using he) hb) hdown h
    have hset : ∀ i, (listed.setIfInBounds j true).getD i false = (decide (i = j) || listed.getD i false) := by
      intro i
      by_cases e : i = j
      · subst e
        simp [show i < listed.size by omega]
      · rw [getD_set_ne false (Ne.symm e)]; simp [e]
    have hUj : j ∈ U := (hUi j).2 ⟨hjn, hj1⟩
    have hw : Region.wanted o (yielded ops a.tmps) = true := by simp [Region.wanted, hgd]
    unfold wpOp
    simp only [ho]
    rw [if_pos hw]
    refine .inl (Oper.wp_mono (fun a' w' h' => ?_) hwp)
    refine ih (U.erase j) _ a' w' (hnd.erase j) (by rw [List.length_erase_of_mem hUj, hU]; rfl) (fun i => ?_) (by simpa using hsz) (fun i o' hi ho' e he hb => ?_) ?_
    · rw [hnd.mem_erase_iff, hUi, hset]
      by_cases e : i = j <;> simp [e]
    · rw [hset] at hi ⊢
      by_cases e' : i = j
      · subst e'
        rw [ho'] at hoL
        injection hoL with hoL
        subst hoL
        rw [hbind e (by simpa using he) hb, Bool.or_true]
      · simp only [e', decide_false, Bool.false_or] at hi
        rw [hdown i o' hi ho' e he hb, Bool.or_true]
    · have : (fun i => (listed.setIfInBounds j true).getD i false) = fun i => decide (i = j) || listed.getD i false := funext hset
      rw [this]; exact h'
end Go.GD
end
