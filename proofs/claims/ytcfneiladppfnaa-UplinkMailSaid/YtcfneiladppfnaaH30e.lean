import Derived.Test.YtcfneiladppfnaaH30d
import Derived.Test.YtcfneiladppfnaaET30a
import Derived.LoopTactic
namespace Go.Proofs.Ytcfneiladppfnaa.D
open Go Go.GD Go.Proofs Go.RowKit Go.Shelf Go.Lib Go.Sort

theorem wpList_builtin1 {P : Program} {w w' : World} {ops : Array Oper} {rest : List Oper} {o : Oper} {a : Act} {Q : Exit → Act → World → Prop}
    (hg : o.guard = none) (b : Builtin) (s : Operand) (t : TypeId) (hop : o.op = Op.call { callee := Callee.builtin b, args := #[s], argTypes := #[t] })
    (sv v : Value) (hs : a.eval s = sv) (hap : ∀ ty cs, (builtin b #[t] ty cs #[sv]).run P w = .ok (.value v) w') (hK : wpList P ops Q rest (a.put o.dst v) w') :
    wpList P ops Q (o :: rest) a w := by
  refine wpList_plain hg fun K hK' => ?_
  unfold Oper.wp
  simp [execOp, hop, resolve, invoke, hs, hap]
  exact hK' _ _ hK

def rc (x : Rd) : List Value := [.int .i64 x.1, .int .i64 x.2.1, .int .i64 x.2.2.1, .int .i64 x.2.2.2.1, .int .i64 x.2.2.2.2.1, .int .i64 x.2.2.2.2.2.1, .int .i64 x.2.2.2.2.2.2]
abbrev rdV (x : Rd) : Value := .agg #[.int .i64 x.1, .int .i64 x.2.1, .int .i64 x.2.2.1, .int .i64 x.2.2.2.1, .int .i64 x.2.2.2.2.1, .int .i64 x.2.2.2.2.2.1, .int .i64 x.2.2.2.2.2.2]

theorem splice_cons {α : Type} (cs : List α) (o : Nat) (v : α) (vs : List α) (h : o + 1 + vs.length ≤ cs.length) : splice (cs.set o v) (o + 1) vs = splice cs o (v :: vs) := by
  apply List.ext_getElem?
  intro k
  rw [getElem?_splice _ _ _ _ (by rw [List.length_set]; exact h), getElem?_splice _ _ _ _ (by rw [List.length_cons]; omega), List.length_cons, List.getElem?_set]
  by_cases h1 : k < o
  · rw [if_pos (by omega), if_neg (by omega), if_pos h1]
  · by_cases h2 : k = o
    · subst h2
      rw [if_pos (by omega), if_pos rfl, if_pos (by omega), if_neg (by omega), if_pos (by omega), Nat.sub_self]
      rfl
    · rw [if_neg (by omega), if_neg h1]
      by_cases h3 : k < o + 1 + vs.length
      · rw [if_pos h3, if_pos (by omega), show k - o = (k - (o + 1)) + 1 by omega, List.getElem?_cons_succ]
      · rw [if_neg h3, if_neg (by omega), if_neg (by omega)]
theorem setCell_heap {W : World} {b o : Nat} {cur : List Value} {et : TypeId} (h : W.heap[b]? = some (.cells cur.toArray et (0, 0))) (v : Value) : (W.setCell ⟨b, o, none⟩ v).heap[b]? = some (.cells (cur.set o v).toArray et (0, 0)) := by
  obtain ⟨hlt, hk⟩ := Array.getElem?_eq_some_iff.1 h
  show (W.heap.modify b _)[b]? = _
  rw [Array.getElem?_eq_getElem (by rw [Array.size_modify]; exact hlt), Array.getElem_modify_self, hk]
  simp

theorem set7 {W : World} {b o : Nat} {cur : List Value} {et : TypeId} (h : W.heap[b]? = some (.cells cur.toArray et (0, 0))) (hl : o + 7 ≤ cur.length) (v0 v1 v2 v3 v4 v5 v6 : Value) :
    (((((((W.setCell ⟨b, o, none⟩ v0).setCell ⟨b, o + 1, none⟩ v1).setCell ⟨b, o + 2, none⟩ v2).setCell ⟨b, o + 3, none⟩ v3).setCell ⟨b, o + 4, none⟩ v4).setCell ⟨b, o + 5, none⟩ v5).setCell ⟨b, o + 6, none⟩ v6).heap[b]? =
      some (.cells (splice cur o [v0, v1, v2, v3, v4, v5, v6]).toArray et (0, 0)) := by
  rw [setCell_heap (setCell_heap (setCell_heap (setCell_heap (setCell_heap (setCell_heap (setCell_heap h v0) v1) v2) v3) v4) v5) v6]
  have e : ∀ (cs : List Value) (o : Nat) (v : Value), o + 1 ≤ cs.length → cs.set o v = splice cs o [v] := fun cs o v hh => by
    rw [← splice_cons cs o v [] (by simpa using hh)]
    unfold splice
    rw [List.append_nil, List.length_nil, Nat.add_zero, List.take_append_drop]
  rw [← splice_cons cur o v0 _ (by simp; omega), ← splice_cons _ (o + 1) v1 _ (by simp; omega), ← splice_cons _ (o + 1 + 1) v2 _ (by simp; omega), ← splice_cons _ (o + 1 + 1 + 1) v3 _ (by simp; omega), ← splice_cons _ (o + 1 + 1 + 1 + 1) v4 _ (by simp; omega),
    ← splice_cons _ (o + 1 + 1 + 1 + 1 + 1) v5 _ (by simp; omega), ← e _ _ v6 (by simp; omega)]

/-- slices.DeleteFunc, where there is one to delete -/
def SameB (b : Nat) (w W : World) : Prop := w.heap.size ≤ W.heap.size ∧ (∀ c, c < w.heap.size → c ≠ b → W.heap[c]? = w.heap[c]?) ∧ SameIO w W
theorem SameB.trans {b : Nat} {w1 w2 w3 : World} (h : SameB b w1 w2) (k : SameB b w2 w3) : SameB b w1 w3 :=
  ⟨Nat.le_trans h.1 k.1, fun c hc hb => (k.2.1 c (Nat.lt_of_lt_of_le hc h.1) hb).trans (h.2.1 c hc hb), k.2.2.1.trans h.2.2.1, k.2.2.2.1.trans h.2.2.2.1, k.2.2.2.2.trans h.2.2.2.2⟩
theorem SameB.setCell {b : Nat} {w W : World} (h : SameB b w W) (o : Nat) (v : Value) : SameB b w (W.setCell ⟨b, o, none⟩ v) :=
  ⟨by simpa [World.setCell] using h.1, fun c hc hb => (Below.heap_setCell _ _ _ c hb).trans (h.2.1 c hc hb), h.2.2⟩
theorem SameB.alloc {b : Nat} {w W : World} (h : SameB b w W) (o : Obj) : SameB b w (W.alloc o) :=
  ⟨by rw [World.size_alloc]; exact Nat.le_succ_of_le h.1, fun c hc hb => (heap_alloc_old W o (Nat.lt_of_lt_of_le hc h.1)).trans (h.2.1 c hc hb), h.2.2⟩

def natOf : Value → Nat
  | .int _ n => n.toNat
  | _ => 0
def kept (p : Rd → Bool) (xs : List Rd) (j : Nat) : List Rd := (xs.take j).filter (fun x => !p x)
theorem kept_succ (p : Rd → Bool) (xs : List Rd) (j : Nat) (h : j < xs.length) : kept p xs (j + 1) = kept p xs j ++ (bif p xs[j] then [] else [xs[j]]) := by
  unfold kept
  rw [List.take_succ_eq_append_getElem h, List.filter_append]
  congr 1
  cases hp : p xs[j] <;> simp [hp]
theorem kept_first (p : Rd → Bool) (xs : List Rd) : ∀ j, j ≤ xs.length → (∀ i (h : i < xs.length), i < j → p xs[i] = false) → kept p xs j = xs.take j
  | 0, _, _ => rfl
  | j + 1, hj, h => by
    rw [kept_succ p xs j (by omega), kept_first p xs j (by omega) (fun i hi hlt => h i hi (by omega)), h j (by omega) (by omega), cond_false, List.take_succ_eq_append_getElem (show j < xs.length by omega)]

set_option maxHeartbeats 8000000 in
set_option maxRecDepth 1000000 in
theorem df_run (f : Nat) (first caps : Array Value) (hcf : Callable Try.prog f) (p : Rd → Bool) (b off len cap k0 : Nat) (w : World) (xs : List Rd) (hxl : xs.length = len) (hM : len ≤ maxLen) (hlc : len ≤ cap) (hk0 : k0 < len)
    (hp0 : ∀ j (h : j < xs.length), j < k0 → p xs[j] = false) (hpk : ∀ (h : k0 < xs.length), p xs[k0] = true)
    (vs : List Value) (et : TypeId) (hbk : w.heap[b]? = some (.cells vs.toArray et (0, 0))) (hfit : off + cap * 7 ≤ vs.length)
    (hrow : ∀ j (h : j < xs.length) c, c < 7 → vs[off + j * 7 + c]? = (rc xs[j])[c]?)
    (hidx : Calls Try.prog 30 #[.slice (some ⟨b, off, none⟩) len cap, .func (.func f) first caps] w fun e W => e = .returned (.int .i64 (k0 : Int)) ∧ SameB b w W ∧ W.heap[b]? = w.heap[b]?)
    (hfn : ∀ W x, SameB b w W → x ∈ xs → Calls Try.prog f (first.push (rdV x) ++ caps) W fun e W' => e = .returned (.bool (p x)) ∧ W.heap.size ≤ W'.heap.size ∧ (∀ c, c < W.heap.size → W'.heap[c]? = W.heap[c]?) ∧ SameIO W W') :
    Calls Try.prog 28 #[.slice (some ⟨b, off, none⟩) len cap, .func (.func f) first caps] w fun e W => ∃ cur : List Value, e = .returned (.slice (some ⟨b, off, none⟩) (xs.filter (fun x => !p x)).length cap) ∧ SameB b w W ∧ W.heap[b]? = some (.cells cur.toArray et (0, 0)) ∧ cur.length = vs.length ∧
      ∀ j (h : j < (xs.filter (fun x => !p x)).length) c, c < 7 → cur[off + j * 7 + c]? = (rc (xs.filter (fun x => !p x))[j])[c]? := by
  have hMv : maxLen = 9223372036854775807 := rfl
  generalize hks0 : xs.filter (fun x => !p x) = ks
  go_enter Try.func28, Try.ntmps28
  go_wp2_with (go_at_call 30; refine hidx.mono ?_; rintro e w1 ⟨rfl, hs1, hb1⟩)
  go_loopw [5, 6] (fun vi vj wr => ∃ (i j : Nat) (cur : List Value), vi = .int .i64 i ∧ vj = .int .i64 j ∧ i < j ∧ j ≤ len ∧ i = (kept p xs j).length ∧ SameB b w wr ∧ wr.heap[b]? = some (.cells cur.toArray et (0, 0)) ∧ cur.length = vs.length ∧
      (∀ q, off + j * 7 ≤ q → q < off + len * 7 → cur[q]? = vs[q]?) ∧ ∀ m (h : m < (kept p xs j).length) c, c < 7 → cur[off + m * 7 + c]? = (rc (kept p xs j)[m])[c]?)
    (fun _ vj _ => len - natOf vj)
  case atStart =>
    have hk1 : kept p xs (k0 + 1) = xs.take k0 := by
      rw [kept_succ p xs k0 (by omega), hpk (by omega), cond_true, List.append_nil, kept_first p xs k0 (by omega) hp0]
    refine ⟨k0, k0 + 1, vs, rfl, by simp, by omega, by omega, by rw [hk1, List.length_take]; omega, hs1, hb1.trans hbk, rfl, fun _ _ _ => rfl, fun m hm c hc => ?_⟩
    have hm' : m < k0 := by rw [hk1, List.length_take] at hm; omega
    rw [hrow m (by omega) c hc]
    simp only [hk1, List.getElem_take]
  case round =>
    obtain ⟨i, j, cur, rfl, rfl, hij, hjl, hil, hsm, hbw, hcl, htail, hkeep⟩ := hrel
    have hmul : len * 7 ≤ cap * 7 := Nat.mul_le_mul_right _ hlc
    by_cases hlt : j < len
    · have hjx : j < xs.length := by omega
      have hrj : ∀ c, c < 7 → wr.cell? ⟨b, off + j * 7 + c, none⟩ = (rc xs[j])[c]? := fun c hc => by
        rw [cell_of_block hbw, htail _ (by omega) (by omega), hrow j hjx c hc]
      have c0 := hrj 0 (by decide)
      have c1 := hrj 1 (by decide)
      have c2 := hrj 2 (by decide)
      have c3 := hrj 3 (by decide)
      have c4 := hrj 4 (by decide)
      have c5 := hrj 5 (by decide)
      have c6 := hrj 6 (by decide)
      simp only [rc, Nat.add_zero, List.getElem?_cons_zero, List.getElem?_cons_succ] at c0 c1 c2 c3 c4 c5 c6
      clear hrj
      go_wp2_with (simp only [hcf.run])
      have hbs : b < wr.heap.size := (Array.getElem?_eq_some_iff.1 hbw).1
      refine (hfn _ xs[j] (hsm.alloc _) (List.getElem_mem hjx)).mono ?_
      rintro e W3 ⟨rfl, hz3, hh3, hio3⟩
      have hb3 : W3.heap[b]? = some (.cells cur.toArray et (0, 0)) := (hh3 b (by rw [World.size_alloc]; omega)).trans ((heap_alloc_old wr _ hbs).trans hbw)
      have hn3 : W3.heap[wr.heap.size]? = some (.cells (rc xs[j]).toArray 26 (0, 0)) := (hh3 _ (by rw [World.size_alloc]; omega)).trans (heap_alloc_new wr _)
      have hs3 : SameB b w W3 := (hsm.alloc _).trans ⟨hz3, fun c hc _ => hh3 c hc, hio3⟩
      have e0 : W3.cell? ⟨wr.heap.size, 0, none⟩ = some (.int .i64 xs[j].1) := by rw [cell_of_block hn3]; rfl
      have e1 : W3.cell? ⟨wr.heap.size, 1, none⟩ = some (.int .i64 xs[j].2.1) := by rw [cell_of_block hn3]; rfl
      have e2 : W3.cell? ⟨wr.heap.size, 2, none⟩ = some (.int .i64 xs[j].2.2.1) := by rw [cell_of_block hn3]; rfl
      have e3 : W3.cell? ⟨wr.heap.size, 3, none⟩ = some (.int .i64 xs[j].2.2.2.1) := by rw [cell_of_block hn3]; rfl
      have e4 : W3.cell? ⟨wr.heap.size, 4, none⟩ = some (.int .i64 xs[j].2.2.2.2.1) := by rw [cell_of_block hn3]; rfl
      have e5 : W3.cell? ⟨wr.heap.size, 5, none⟩ = some (.int .i64 xs[j].2.2.2.2.2.1) := by rw [cell_of_block hn3]; rfl
      have e6 : W3.cell? ⟨wr.heap.size, 6, none⟩ = some (.int .i64 xs[j].2.2.2.2.2.2) := by rw [cell_of_block hn3]; rfl
      have hm2 : (kept p xs j).length * 7 + 7 ≤ len * 7 := by omega
      have hex : ∀ c, c < 7 → ∃ v, W3.cell? ⟨b, off + (kept p xs j).length * 7 + c, none⟩ = some v := fun c hc => by
        rw [cell_of_block hb3, List.getElem?_eq_getElem (by omega)]; exact ⟨_, rfl⟩
      obtain ⟨y0, g0⟩ := hex 0 (by decide)
      obtain ⟨y1, g1⟩ := hex 1 (by decide)
      obtain ⟨y2, g2⟩ := hex 2 (by decide)
      obtain ⟨y3, g3⟩ := hex 3 (by decide)
      obtain ⟨y4, g4⟩ := hex 4 (by decide)
      obtain ⟨y5, g5⟩ := hex 5 (by decide)
      obtain ⟨y6, g6⟩ := hex 6 (by decide)
      simp only [Nat.add_zero] at g0
      have fz : ∀ o, W3.frozen? ⟨b, o, none⟩ = false := fun o => by simp [World.frozen?, hb3]
      clear hex c0 c1 c2 c3 c4 c5 c6
      cases hp : p xs[j] with
      | true =>
        go_wp2
        go_roundw
        case rel =>
          have hks : kept p xs (j + 1) = kept p xs j := by rw [kept_succ p xs j hjx, hp, cond_true, List.append_nil]
          refine ⟨_, _, _, _, _, _, _, _, _, _, _, _, _, _, _, _, _, _, _, _, _, _, _, ?_, rfl⟩
          refine ⟨_, j + 1, cur, rfl, by simp, by omega, by omega, by rw [hks], hs3, hb3, hcl, fun q h1 h2 => htail q (by omega) h2, ?_⟩
          rw [hks]
          exact hkeep
        case measure => simp [natOf]; omega
      | false =>
        go_wp2
        go_roundw
        case rel =>
          have hks : kept p xs (j + 1) = kept p xs j ++ [xs[j]] := by rw [kept_succ p xs j hjx, hp, cond_false]
          have hlen : (kept p xs (j + 1)).length = (kept p xs j).length + 1 := by rw [hks, List.length_append]; rfl
          have hin : off + (kept p xs j).length * 7 + 7 ≤ cur.length := by omega
          refine ⟨_, _, _, _, _, _, _, _, _, _, _, _, _, _, _, _, _, _, _, _, _, _, _, ?_, rfl⟩
          refine ⟨(kept p xs j).length + 1, j + 1, splice cur (off + (kept p xs j).length * 7) (rc xs[j]), by simp, by simp, by omega, by omega, by rw [hlen], ?_, set7 hb3 hin _ _ _ _ _ _ _, by rw [splice_length _ _ _ hin]; exact hcl, fun q h1 h2 => ?_, fun m hm c hc => ?_⟩
          · exact ((((((hs3.setCell _ _).setCell _ _).setCell _ _).setCell _ _).setCell _ _).setCell _ _).setCell _ _
          · rw [getElem?_splice _ _ _ _ hin, if_neg (by omega), if_neg (by show ¬ q < _ + 7; omega)]
            exact htail q (by omega) h2
          · rw [getElem?_splice _ _ _ _ hin]
            simp only [hks]
            by_cases h1 : m < (kept p xs j).length
            · rw [if_pos (by omega), List.getElem_append_left h1]
              exact hkeep m h1 c hc
            · have hme : m = (kept p xs j).length := by omega
              subst hme
              rw [if_neg (by omega), if_pos (by show _ < _ + 7; omega), List.getElem_concat_length rfl, show off + (kept p xs j).length * 7 + c - (off + (kept p xs j).length * 7) = c by omega]
        case measure => simp [natOf]; omega
    · obtain rfl : j = len := by omega
      have hka : kept p xs j = ks := by rw [kept, ← hxl, List.take_length, hks0]
      rw [hka] at hil hkeep
      clear hka hidx hfn htail
      obtain ⟨n, hn⟩ : ∃ n, ks.length = n := ⟨_, rfl⟩
      rw [hn] at hil
      subst hil
      have hm2 : i * 7 ≤ j * 7 := by omega
      have n1 : ¬ (cap = i) := by omega
      have n2 : i ≤ j := by omega
      have n3 : i ≤ cap := by omega
      obtain ⟨L4, hL4⟩ : ∃ L4, L4 = splice cur (off + i * 7) (Builtin.zeroCells (Value.agg #[.int .i64 0, .int .i64 0, .int .i64 0, .int .i64 0, .int .i64 0, .int .i64 0, .int .i64 0]).cells (j - i)).toList := ⟨_, rfl⟩
      obtain ⟨W4, hW4⟩ : ∃ W4, W4 = wr.setRow b L4.toArray := ⟨_, rfl⟩
      obtain ⟨i0, hti, htz, _, _⟩ := info_parts i26
      have hv : (zeroValue 26).run Try.prog wr = .ok (Value.agg #[.int .i64 0, .int .i64 0, .int .i64 0, .int .i64 0, .int .i64 0, .int .i64 0, .int .i64 0]) wr := by simp [zeroValue, Go.typeInfo, hti, htz]
      have hin : off + i * 7 + (j - i) * 7 ≤ cur.length := by rw [Nat.sub_mul]; omega
      have hclr := fun ty => run_clear_at (P := Try.prog) 22 26 ty _ 7 Ytcfneiladppfnaa.D.u22 hv rfl (by decide) b (off + i * 7) (j - i) (cap - i) (by omega) (by decide) hbw hin
      rw [← hL4, ← hW4] at hclr
      have hclr2 : ∀ ty cs, (builtin .clear #[22] ty cs #[.slice (some ⟨b, off + i * 7, none⟩) (j - i) (cap - i)]).run Try.prog wr = .ok (.value (.tuple #[])) W4 := fun ty cs => by
        rw [BigFrame.builtin_clear]; simp only [Sem.run_bind, hclr ty, Result.andThen_ok, Sem.run_pure]
      have hclr3 : Hid _ := hclr2
      have hzl : (Builtin.zeroCells (Value.agg #[.int .i64 0, .int .i64 0, .int .i64 0, .int .i64 0, .int .i64 0, .int .i64 0, .int .i64 0]).cells (j - i)).toList.length = (j - i) * 7 := by rw [Array.length_toList, size_zeroCells]; rfl
      have hb4 : W4.heap[b]? = some (.cells L4.toArray et (0, 0)) := by rw [hW4]; exact setRow_heap wr _ _ _ et _ hbw
      have hs4 : SameB b w W4 := hsm.trans ⟨by rw [hW4, size_setRow]; exact Nat.le_refl _, fun c hc hb => by rw [hW4]; exact setRow_other wr _ _ _ hb, by rw [hW4]; exact ⟨rfl, rfl, rfl⟩⟩
      have hl4 : L4.length = vs.length := by rw [hL4, splice_length _ _ _ (by rw [hzl]; exact hin), hcl]
      have hk4 : ∀ m (h : m < ks.length) c, c < 7 → L4[off + m * 7 + c]? = (rc ks[m])[c]? := fun m hm c hc => by
        rw [hL4, getElem?_splice _ _ _ _ (by rw [hzl]; exact hin), if_pos (by omega)]
        exact hkeep m (by omega) c hc
      clear hclr2 hclr hL4 hW4 hkeep hcl hv hin hzl
      go_wp2_with (refine wpList_builtin1 rfl .clear _ _ rfl _ _ rfl hclr3.out ?_)
      go_ret
      exact ⟨L4, by rw [hn]; rfl, hs4, hb4, hl4, hk4⟩
end Go.Proofs.Ytcfneiladppfnaa.D
