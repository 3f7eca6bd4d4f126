import Derived.Test.YtbapfiaglcllnaaXHaa
import Derived.Test.YtbapfiaglcllnaaEXT30a
import Derived.LoopTactic
section
namespace Go.Proofs.Ytbapfiaglcllnaa.D.Up
set_option maxRecDepth 10000
open Go Go.GD Go.Proofs Go.RowKit Go.Shelf Go.Lib Go.Sort
theorem wpList_builtin1 {P : Program} {w w' : World} {ops : Array Oper} {rest : List Oper} {o : Oper} {a : Act} {Q : Exit → Act → World → Prop}
    (hg : o.guard = none) (b : Builtin) (s : Operand) (t : TypeId) (hop : o.op = Op.call { callee := Callee.builtin b, args := #[s], argTypes := #[t] })
    (sv v : Value) (hs : a.eval s = sv) (hap : ∀ ty cs, (builtin b #[t] ty cs #[sv]).run P w = .ok (.value v) w') (hK : wpList P ops Q rest (a.put o.dst v) w') :
    wpList P ops Q (o :: rest) a w := by
  refine wpList_plain hg fun K hK' => ?_
  unfold Oper.wp
  simp [execOp, hop, resolve, invoke, hs, hap]
  exact hK' _ _ hK
def rc (x : Rd) : List Value := [.int .i64 x.1, .int .i64 x.2.1, .int .i64 x.2.2.1, .int .i64 x.2.2.2.1, .int .i64 x.2.2.2.2.1, .int .i64 x.2.2.2.2.2.1, .int .i64 x.2.2.2.2.2.2]
abbrev rdV (x : Rd) : Value := .agg #[.int .i64 x.1, .int .i64 x.2.1, .int .i64 x.2.2.1, .int .i64 x.2.2.2.1, .int .i64 x.2.2.2.2.1, .int .i64 x.2.2.2.2.2.1, .int .i64 x.2.2.2.2.2.2]
theorem splice_cons {α : Type} (cs : List α) (o : Nat) (v : α) (vs : List α) (h : o + 1 + vs.length ≤ cs.length) : splice (cs.set o v) (o + 1) vs = splice cs o (v :: vs) := by
  apply List.ext_getElem?
  intro k
  rw [getElem?_splice _ _ _ _ (by rw [List.length_set]; exact h), getElem?_splice _ _ _ _ (by rw [List.length_cons]; omega), List.length_cons, List.getElem?_set]
  by_cases h1 : k < o
  · rw [if_pos (by omega), if_neg (by omega), if_pos h1]
  · by_cases h2 : k = o
    · subst h2
      rw [if_pos (by omega), if_pos rfl, if_pos (by omega), if_neg (by omega), if_pos (by omega), Nat.sub_self]
      rfl
    · rw [if_neg (by omega), if_neg h1]
      by_cases h3 : k < o + 1 + vs.length
      · rw [if_pos h3, if_pos (by omega), show k - o = (k - (o + 1)) + 1 by omega, List.getElem?_cons_succ]
      · rw [if_neg h3, if_neg (by omega), if_neg (by omega)]
theorem setCell_heap {W : World} {b o : Nat} {cur : List Value} {et : TypeId} (h : W.heap[b]? = some (.cells cur.toArray et (0, 0))) (v : Value) : (W.setCell ⟨b, o, none⟩ v).heap[b]? = some (.cells (cur.set o v).toArray et (0, 0)) := by
  obtain ⟨hlt, hk⟩ := Array.getElem?_eq_some_iff.1 h
  show (W.heap.modify b _)[b]? = _
  rw [Array.getElem?_eq_getElem (by rw [Array.size_modify]; exact hlt), Array.getElem_modify_self, hk]
  simp
theorem set7 {W : World} {b o : Nat} {cur : List Value} {et : TypeId} (h : W.heap[b]? = some (.cells cur.toArray et (0, 0))) (hl : o + 7 ≤ cur.length) (v0 v1 v2 v3 v4 v5 v6 : Value) :
    (((((((W.setCell ⟨b, o, none⟩ v0).setCell ⟨b, o + 1, none⟩ v1).setCell ⟨b, o + 2, none⟩ v2).setCell ⟨b, o + 3, none⟩ v3).setCell ⟨b, o + 4, none⟩ v4).setCell ⟨b, o + 5, none⟩ v5).setCell ⟨b, o + 6, none⟩ v6).heap[b]? =
      some (.cells (splice cur o [v0, v1, v2, v3, v4, v5, v6]).toArray et (0, 0)) := by
  rw [setCell_heap (setCell_heap (setCell_heap (setCell_heap (setCell_heap (setCell_heap (setCell_heap h v0) v1) v2) v3) v4) v5) v6]
  have e : ∀ (cs : List Value) (o : Nat) (v : Value), o + 1 ≤ cs.length → cs.set o v = splice cs o [v] := fun cs o v hh => by
    rw [← splice_cons cs o v [] (by simpa using hh)]
    unfold splice
    rw [List.append_nil, List.length_nil, Nat.add_zero, List.take_append_drop]
  rw [← splice_cons cur o v0 _ (by simp; omega), ← splice_cons _ (o + 1) v1 _ (by simp; omega), ← splice_cons _ (o + 1 + 1) v2 _ (by simp; omega), ← splice_cons _ (o + 1 + 1 + 1) v3 _ (by simp; omega), ← splice_cons _ (o + 1 + 1 + 1 + 1) v4 _ (by simp; omega),
    ← splice_cons _ (o + 1 + 1 + 1 + 1 + 1) v5 _ (by simp; omega), ← e _ _ v6 (by simp; omega)]
def SameB (b : Nat) (w W : World) : Prop := w.heap.size ≤ W.heap.size ∧ (∀ c, c < w.heap.size → c ≠ b → W.heap[c]? = w.heap[c]?) ∧ SameIO w W
theorem SameB.trans {b : Nat} {w1 w2 w3 : World} (h : SameB b w1 w2) (k : SameB b w2 w3) : SameB b w1 w3 :=
  ⟨Nat.le_trans h.1 k.1, fun c hc hb => (k.2.1 c (Nat.lt_of_lt_of_le hc h.1) hb).trans (h.2.1 c hc hb), h.2.2.trans k.2.2⟩
theorem SameB.setCell {b : Nat} {w W : World} (h : SameB b w W) (o : Nat) (v : Value) : SameB b w (W.setCell ⟨b, o, none⟩ v) :=
  ⟨by simpa [World.setCell] using h.1, fun c hc hb => (Below.heap_setCell _ _ _ c hb).trans (h.2.1 c hc hb), h.2.2⟩
theorem SameB.alloc {b : Nat} {w W : World} (h : SameB b w W) (o : Obj) : SameB b w (W.alloc o) :=
  ⟨by rw [World.size_alloc]; exact Nat.le_succ_of_le h.1, fun c hc hb => (heap_alloc_old W o (Nat.lt_of_lt_of_le hc h.1)).trans (h.2.1 c hc hb), h.2.2⟩
def natOf : Value → Nat
  | .int _ n => n.toNat
  | _ => 0
def kept (p : Rd → Bool) (xs : List Rd) (j : Nat) : List Rd := (xs.take j).filter (fun x => !p x)
theorem kept_succ (p : Rd → Bool) (xs : List Rd) (j : Nat) (h : j < xs.length) : kept p xs (j + 1) = kept p xs j ++ (bif p xs[j] then [] else [xs[j]]) := by
  unfold kept
  rw [List.take_succ_eq_append_getElem h, List.filter_append]
  congr 1
  cases hp : p xs[j] <;> simp [hp]
theorem kept_first (p : Rd → Bool) (xs : List Rd) : ∀ j, j ≤ xs.length → (∀ i (h : i < xs.length), i < j → p xs[i] = false) → kept p xs j = xs.take j
  | 0, _, _ => rfl
  | j + 1, hj, h => by
    rw [kept_succ p xs j (by omega), kept_first p xs j (by omega) (fun i hi hlt => h i hi (by omega)), h j (by omega) (by omega), cond_false, List.take_succ_eq_append_getElem (show j < xs.length by omega)]
set_option maxHeartbeats 8000000 in
set_option maxRecDepth 1000000 in
theorem df_run (f : Nat) (first caps : Array Value) (hcf : Callable Try.prog f) (p : Rd → Bool) (b off len cap k0 : Nat) (w : World) (xs : List Rd) (hxl : xs.length = len) (hM : len ≤ maxLen) (hlc : len ≤ cap) (hk0 : k0 < len)
    (hp0 : ∀ j (h : j < xs.length), j < k0 → p xs[j] = false) (hpk : ∀ (h : k0 < xs.length), p xs[k0] = true)
    (vs : List Value) (et : TypeId) (hbk : w.heap[b]? = some (.cells vs.toArray et (0, 0))) (hfit : off + cap * 7 ≤ vs.length)
    (hrow : ∀ j (h : j < xs.length) c, c < 7 → vs[off + j * 7 + c]? = (rc xs[j])[c]?)
    (hidx : Calls Try.prog 30 #[.slice (some ⟨b, off, none⟩) len cap, .func (.func f) first caps] w fun e W => e = .returned (.int .i64 (k0 : Int)) ∧ SameB b w W ∧ W.heap[b]? = w.heap[b]?)
    (hfn : ∀ W x, SameB b w W → x ∈ xs → Calls Try.prog f (first.push (rdV x) ++ caps) W fun e W' => e = .returned (.bool (p x)) ∧ W.heap.size ≤ W'.heap.size ∧ (∀ c, c < W.heap.size → W'.heap[c]? = W.heap[c]?) ∧ SameIO W W') :
    Calls Try.prog 64 #[.slice (some ⟨b, off, none⟩) len cap, .func (.func f) first caps] w fun e W => ∃ cur : List Value, e = .returned (.slice (some ⟨b, off, none⟩) (xs.filter (fun x => !p x)).length cap) ∧ SameB b w W ∧ W.heap[b]? = some (.cells cur.toArray et (0, 0)) ∧ cur.length = vs.length ∧
      ∀ j (h : j < (xs.filter (fun x => !p x)).length) c, c < 7 → cur[off + j * 7 + c]? = (rc (xs.filter (fun x => !p x))[j])[c]? := by
  have hMv : maxLen = 9223372036854775807 := rfl
  generalize hks0 : xs.filter (fun x => !p x) = ks
  go_enter Try.func64, Try.ntmps64
  go_wp2_with (go_at_call 30; refine hidx.mono ?_; rintro e w1 ⟨rfl, hs1, hb1⟩)
  go_loopw [5, 6] (fun vi vj wr => ∃ (i j : Nat) (cur : List Value), vi = .int .i64 i ∧ vj = .int .i64 j ∧ i < j ∧ j ≤ len ∧ i = (kept p xs j).length ∧ SameB b w wr ∧ wr.heap[b]? = some (.cells cur.toArray et (0, 0)) ∧ cur.length = vs.length ∧
      (∀ q, off + j * 7 ≤ q → q < off + len * 7 → cur[q]? = vs[q]?) ∧ ∀ m (h : m < (kept p xs j).length) c, c < 7 → cur[off + m * 7 + c]? = (rc (kept p xs j)[m])[c]?)
    (fun _ vj _ => len - natOf vj)
  case atStart =>
    have hk1 : kept p xs (k0 + 1) = xs.take k0 := by
      rw [kept_succ p xs k0 (by omega), hpk (by omega), cond_true, List.append_nil, kept_first p xs k0 (by omega) hp0]
    refine ⟨k0, k0 + 1, vs, rfl, by simp, by omega, by omega, by rw [hk1, List.length_take]; omega, hs1, hb1.trans hbk, rfl, fun _ _ _ => rfl, fun m hm c hc => ?_⟩
    have hm' : m < k0 := by rw [hk1, List.length_take] at hm; omega
    rw [hrow m (by omega) c hc]
    simp only [hk1, List.getElem_take]
  case round =>
    obtain ⟨i, j, cur, rfl, rfl, hij, hjl, hil, hsm, hbw, hcl, htail, hkeep⟩ := hrel
    have hmul : len * 7 ≤ cap * 7 := Nat.mul_le_mul_right _ hlc
    by_cases hlt : j < len
    · have hjx : j < xs.length := by omega
      have hrj : ∀ c, c < 7 → wr.cell? ⟨b, off + j * 7 + c, none⟩ = (rc xs[j])[c]? := fun c hc => by
        rw [cell_of_block hbw, htail _ (by omega) (by omega), hrow j hjx c hc]
      have c0 := hrj 0 (by decide)
      have c1 := hrj 1 (by decide)
      have c2 := hrj 2 (by decide)
      have c3 := hrj 3 (by decide)
      have c4 := hrj 4 (by decide)
      have c5 := hrj 5 (by decide)
      have c6 := hrj 6 (by decide)
      simp only [rc, Nat.add_zero, List.getElem?_cons_zero, List.getElem?_cons_succ] at c0 c1 c2 c3 c4 c5 c6
      clear hrj
      go_wp2_with (simp only [hcf.run])
      have hbs : b < wr.heap.size := (Array.getElem?_eq_some_iff.1 hbw).1
      refine (hfn _ xs[j] (hsm.alloc _) (List.getElem_mem hjx)).mono ?_
      rintro e W3 ⟨rfl, hz3, hh3, hio3⟩
      have hb3 : W3.heap[b]? = some (.cells cur.toArray et (0, 0)) := (hh3 b (by rw [World.size_alloc]; omega)).trans ((heap_alloc_old wr _ hbs).trans hbw)
      have hn3 : W3.heap[wr.heap.size]? = some (.cells (rc xs[j]).toArray 40 (0, 0)) := (hh3 _ (by rw [World.size_alloc]; omega)).trans (heap_alloc_new wr _)
      have hs3 : SameB b w W3 := (hsm.alloc _).trans ⟨hz3, fun c hc _ => hh3 c hc, hio3⟩
      have e0 : W3.cell? ⟨wr.heap.size, 0, none⟩ = some (.int .i64 xs[j].1) := by rw [cell_of_block hn3]; rfl
      have e1 : W3.cell? ⟨wr.heap.size, 1, none⟩ = some (.int .i64 xs[j].2.1) := by rw [cell_of_block hn3]; rfl
      have e2 : W3.cell? ⟨wr.heap.size, 2, none⟩ = some (.int .i64 xs[j].2.2.1) := by rw [cell_of_block hn3]; rfl
      have e3 : W3.cell? ⟨wr.heap.size, 3, none⟩ = some (.int .i64 xs[j].2.2.2.1) := by rw [cell_of_block hn3]; rfl
      have e4 : W3.cell? ⟨wr.heap.size, 4, none⟩ = some (.int .i64 xs[j].2.2.2.2.1) := by rw [cell_of_block hn3]; rfl
      have e5 : W3.cell? ⟨wr.heap.size, 5, none⟩ = some (.int .i64 xs[j].2.2.2.2.2.1) := by rw [cell_of_block hn3]; rfl
      have e6 : W3.cell? ⟨wr.heap.size, 6, none⟩ = some (.int .i64 xs[j].2.2.2.2.2.2) := by rw [cell_of_block hn3]; rfl
      have hm2 : (kept p xs j).length * 7 + 7 ≤ len * 7 := by omega
      have hex : ∀ c, c < 7 → ∃ v, W3.cell? ⟨b, off + (kept p xs j).length * 7 + c, none⟩ = some v := fun c hc => by
        rw [cell_of_block hb3, List.getElem?_eq_getElem (by omega)]; exact ⟨_, rfl⟩
      obtain ⟨y0, g0⟩ := hex 0 (by decide)
      obtain ⟨y1, g1⟩ := hex 1 (by decide)
      obtain ⟨y2, g2⟩ := hex 2 (by decide)
      obtain ⟨y3, g3⟩ := hex 3 (by decide)
      obtain ⟨y4, g4⟩ := hex 4 (by decide)
      obtain ⟨y5, g5⟩ := hex 5 (by decide)
      obtain ⟨y6, g6⟩ := hex 6 (by decide)
      simp only [Nat.add_zero] at g0
      have fz : ∀ o, W3.frozen? ⟨b, o, none⟩ = false := fun o => by simp [World.frozen?, hb3]
      clear hex c0 c1 c2 c3 c4 c5 c6
      cases hp : p xs[j] with
      | true =>
        go_wp2
        go_roundw
        case rel =>
          have hks : kept p xs (j + 1) = kept p xs j := by rw [kept_succ p xs j hjx, hp, cond_true, List.append_nil]
          refine ⟨_, _, _, _, _, _, _, _, _, _, _, _, _, _, _, _, _, _, _, _, _, _, _, ?_, rfl⟩
          refine ⟨_, j + 1, cur, rfl, by simp, by omega, by omega, by rw [hks], hs3, hb3, hcl, fun q h1 h2 => htail q (by omega) h2, ?_⟩
          rw [hks]
          exact hkeep
        case measure => simp [natOf]; omega
      | false =>
        go_wp2
        go_roundw
        case rel =>
          have hks : kept p xs (j + 1) = kept p xs j ++ [xs[j]] := by rw [kept_succ p xs j hjx, hp, cond_false]
          have hlen : (kept p xs (j + 1)).length = (kept p xs j).length + 1 := by rw [hks, List.length_append]; rfl
          have hin : off + (kept p xs j).length * 7 + 7 ≤ cur.length := by omega
          refine ⟨_, _, _, _, _, _, _, _, _, _, _, _, _, _, _, _, _, _, _, _, _, _, _, ?_, rfl⟩
          refine ⟨(kept p xs j).length + 1, j + 1, splice cur (off + (kept p xs j).length * 7) (rc xs[j]), by simp, by simp, by omega, by omega, by rw [hlen], ?_, set7 hb3 hin _ _ _ _ _ _ _, by rw [splice_length _ _ _ hin]; exact hcl, fun q h1 h2 => ?_, fun m hm c hc => ?_⟩
          · exact ((((((hs3.setCell _ _).setCell _ _).setCell _ _).setCell _ _).setCell _ _).setCell _ _).setCell _ _
          · rw [getElem?_splice _ _ _ _ hin, if_neg (by omega), if_neg (by show ¬ q < _ + 7; omega)]
            exact htail q (by omega) h2
          · rw [getElem?_splice _ _ _ _ hin]
            simp only [hks]
            by_cases h1 : m < (kept p xs j).length
            · rw [if_pos (by omega), List.getElem_append_left h1]
              exact hkeep m h1 c hc
            · have hme : m = (kept p xs j).length := by omega
              subst hme
              rw [if_neg (by omega), if_pos (by show _ < _ + 7; omega), List.getElem_concat_length rfl, show off + (kept p xs j).length * 7 + c - (off + (kept p xs j).length * 7) = c by omega]
        case measure => simp [natOf]; omega
    · obtain rfl : j = len := by omega
      have hka : kept p xs j = ks := by rw [kept, ← hxl, List.take_length, hks0]
      rw [hka] at hil hkeep
      clear hka hidx hfn htail
      obtain ⟨n, hn⟩ : ∃ n, ks.length = n := ⟨_, rfl⟩
      rw [hn] at hil
      subst hil
      have hm2 : i * 7 ≤ j * 7 := by omega
      have n1 : ¬ (cap = i) := by omega
      have n2 : i ≤ j := by omega
      have n3 : i ≤ cap := by omega
      obtain ⟨L4, hL4⟩ : ∃ L4, L4 = splice cur (off + i * 7) (Builtin.zeroCells (Value.agg #[.int .i64 0, .int .i64 0, .int .i64 0, .int .i64 0, .int .i64 0, .int .i64 0, .int .i64 0]).cells (j - i)).toList := ⟨_, rfl⟩
      obtain ⟨W4, hW4⟩ : ∃ W4, W4 = wr.setRow b L4.toArray := ⟨_, rfl⟩
      obtain ⟨i0, hti, htz, _, _⟩ := info_parts i26
      have hv : (zeroValue 40).run Try.prog wr = .ok (Value.agg #[.int .i64 0, .int .i64 0, .int .i64 0, .int .i64 0, .int .i64 0, .int .i64 0, .int .i64 0]) wr := by simp [zeroValue, Go.typeInfo, hti, htz]
      have hin : off + i * 7 + (j - i) * 7 ≤ cur.length := by rw [Nat.sub_mul]; omega
      have hclr := fun ty => run_clear_at (P := Try.prog) 24 40 ty _ 7 D.Up.u22 hv rfl (by decide) b (off + i * 7) (j - i) (cap - i) (by omega) (by decide) hbw hin
      rw [← hL4, ← hW4] at hclr
      have hclr2 : ∀ ty cs, (builtin .clear #[24] ty cs #[.slice (some ⟨b, off + i * 7, none⟩) (j - i) (cap - i)]).run Try.prog wr = .ok (.value (.tuple #[])) W4 := fun ty cs => by
        rw [BigFrame.builtin_clear]; simp only [Sem.run_bind, hclr ty, Result.andThen_ok, Sem.run_pure]
      have hclr3 : Hid _ := hclr2
      have hzl : (Builtin.zeroCells (Value.agg #[.int .i64 0, .int .i64 0, .int .i64 0, .int .i64 0, .int .i64 0, .int .i64 0, .int .i64 0]).cells (j - i)).toList.length = (j - i) * 7 := by rw [Array.length_toList, size_zeroCells]; rfl
      have hb4 : W4.heap[b]? = some (.cells L4.toArray et (0, 0)) := by rw [hW4]; exact setRow_heap wr _ _ _ et _ hbw
      have hs4 : SameB b w W4 := hsm.trans ⟨by rw [hW4, size_setRow]; exact Nat.le_refl _, fun c hc hb => by rw [hW4]; exact setRow_other wr _ _ _ hb, by rw [hW4]; exact ⟨rfl, rfl, rfl, by first | exact Nat.le_refl _ | exact Nat.le_succ _ | exact Nat.le_add_right _ 2 | (show w.drawn ≤ w.drawn + 1 + 1; omega) | (simp; done) | (simp; omega)⟩⟩
      have hl4 : L4.length = vs.length := by rw [hL4, splice_length _ _ _ (by rw [hzl]; exact hin), hcl]
      have hk4 : ∀ m (h : m < ks.length) c, c < 7 → L4[off + m * 7 + c]? = (rc ks[m])[c]? := fun m hm c hc => by
        rw [hL4, getElem?_splice _ _ _ _ (by rw [hzl]; exact hin), if_pos (by omega)]
        exact hkeep m (by omega) c hc
      clear hclr2 hclr hL4 hW4 hkeep hcl hv hin hzl
      go_wp2_with (refine wpList_builtin1 rfl .clear _ _ rfl _ _ rfl hclr3.out ?_)
      go_ret
      exact ⟨L4, by rw [hn]; rfl, hs4, hb4, hl4, hk4⟩
end Go.Proofs.Ytbapfiaglcllnaa.D.Up
end

section
namespace Go.Proofs.Ytbapfiaglcllnaa.D.Up
set_option maxRecDepth 10000
open Go Go.GD Go.Proofs Go.RowKit Go.Shelf Go.Lib Go.Sort
set_option maxHeartbeats 8000000 in
set_option maxRecDepth 1000000 in
theorem df_none (fv : Value) (a : Option Addr) (len cap : Nat) (w : World) (R : World → Prop)
    (hidx : Calls Try.prog 30 #[.slice a len cap, fv] w fun e W => e = .returned (.int .i64 (-1)) ∧ R W) :
    Calls Try.prog 64 #[.slice a len cap, fv] w fun e W => e = .returned (.slice a len cap) ∧ R W := by
  go_enter Try.func64, Try.ntmps64
  go_wp2_with (go_at_call 30; refine hidx.mono ?_; rintro e w1 ⟨rfl, hs1⟩)
  all_goals (go_ret; exact ⟨rfl, hs1⟩)
theorem repC_rc {P : Program} {w : World} {Ok : Nat → Prop} {cs : List Value} {x : Rd} : RepC P rideTy w Ok cs x ↔ cs = rc x := by
  constructor
  · rintro ⟨a0, b0, rfl, h0, a1, b1, rfl, h1, a2, b2, rfl, h2, a3, b3, rfl, h3, a4, b4, rfl, h4, a5, b5, rfl, h5, h6⟩
    rw [show a0 = _ from h0, show a1 = _ from h1, show a2 = _ from h2, show a3 = _ from h3, show a4 = _ from h4, show a5 = _ from h5, show b5 = _ from h6]
    rfl
  · rintro rfl
    exact ⟨[_], _, rfl, rfl, [_], _, rfl, rfl, [_], _, rfl, rfl, [_], _, rfl, rfl, [_], _, rfl, rfl, [_], [_], rfl, rfl, rfl⟩
theorem eat_done2 {P : Program} {t : Ty} {w w' : World} {Ok B H : Nat → Prop} (hH : ∀ b, H b → (w.heap.size ≤ b ∨ B b) ∧ b < w'.heap.size) (hBO : ∀ b, B b → ¬ Ok b) (hsz : w.heap.size ≤ w'.heap.size)
    (hother : ∀ b, b < w.heap.size → ¬ B b → w'.heap[b]? = w.heap[b]?) (hio : SameIO w w') {a : Option Addr} {len cap : Nat} {ys : List t.den} (hl : ys.length = len) (hlc : len ≤ cap)
    (hmem : cap = 0 ∨ ∃ ad : Addr, a = some ad ∧ ad.spot = none ∧ H ad.block ∧ (∃ vs e, w'.heap[ad.block]? = some (.cells vs e (0, 0)) ∧ ad.off + cap * t.size ≤ vs.size) ∧ GD.Rows t.size w' (RepC P t w Ok) ad ys) :
    ∃ us g', Ending.returned (.slice a len cap) = .returned (resV [.sl t] us) ∧
      RepX P w' (fun b => (w.heap.size ≤ b ∨ Ok b) ∧ g' b = none) (clR g') (pk [.sl t]) 0 us ys (ownMarks (pk [.sl t])) ∧
      w.heap.size ≤ w'.heap.size ∧ (∀ b, b < w.heap.size → ¬ B b → w'.heap[b]? = w.heap[b]?) ∧ (∀ b, g' b ≠ none → (w.heap.size ≤ b ∨ B b) ∧ b < w'.heap.size) ∧ SameIO w w' := by
  classical
  have hg : ∀ b, (if H b then some 0 else none : Option Nat) ≠ none → H b := by
    intro b hb
    by_cases h : H b
    · exact h
    · rw [if_neg h] at hb; exact absurd rfl hb
  refine ⟨[.slice a len cap], fun b => if H b then some 0 else none, rfl, ⟨_, _, _, .own, rfl, rfl, ?_⟩, hsz, hother, fun b hb => hH b (hg b hb), hio⟩
  show HoldS _ _ _ _ _ _ _ _ ∧ True
  have hmono : Mono w Ok w' (fun b => (w.heap.size ≤ b ∨ Ok b) ∧ (if H b then some 0 else none : Option Nat) = none) := by
    refine ⟨hsz, fun b hlt hok => ⟨hother b hlt fun h => hBO b h hok, .inr hok, if_neg fun h => ?_⟩⟩
    rcases (hH b h).1 with h1 | h1
    · omega
    · exact hBO b h1 hok
  refine ⟨⟨hl, hlc, hmem.imp id ?_⟩, trivial⟩
  rintro ⟨ad, e, sp, hb, hv, hr⟩
  exact ⟨ad, e, sp, if_pos hb, hv, hr.mono rfl fun _ _ => RepC.mono t hmono⟩
def filterO (f : Rd → Option Bool) : List Rd → Option (List Rd)
  | [] => some []
  | x :: xs => (f x).bind fun b => (filterO f xs).bind fun r => some (bif b then r else x :: r)
def dfD (x : List Rd × (Rd → Option Bool)) : Option (List Rd) := bif Nat.ble x.1.length 9223372036854775807 then filterO x.2 x.1 else none
theorem filterO_some {f : Rd → Option Bool} : ∀ {xs y : List Rd}, filterO f xs = some y → (∀ x, x ∈ xs → f x = some ((f x).getD false)) ∧ y = xs.filter (fun x => !(f x).getD false)
  | [], y, h => ⟨fun x hx => (by cases hx), (Option.some.inj h).symm⟩
  | x :: xs, y, h => by
    unfold filterO at h
    cases hf : f x with
    | none => rw [hf] at h; cases h
    | some b =>
      rw [hf] at h
      simp only [Option.bind_some] at h
      cases hr : filterO f xs with
      | none => rw [hr] at h; cases h
      | some r =>
        rw [hr] at h
        simp only [Option.bind_some] at h
        obtain ⟨h1, h2⟩ := filterO_some hr
        refine ⟨fun z hz => ?_, ?_⟩
        · rcases List.mem_cons.1 hz with rfl | hz
          · rw [hf]; rfl
          · exact h1 z hz
        · rw [← Option.some.inj h, List.filter_cons, hf, ← h2]
          cases b <;> rfl
theorem index30 (xs : List Rd) (f : Rd → Option Bool) (p : Rd → Bool) (hf : ∀ x, x ∈ xs → f x = some (p x)) (hl : xs.length ≤ maxLen) : D30 xs f = some (findI p 0 xs) := by
  rw [e30, f30_1 xs f hl]
  have := forI_congr (body := fun ix el (_ : Unit) K => ((f el).bind fun r => bif r then some (ix : Int) else K () : Option Int)) (body' := fun ix el (s : Unit) K => bif p el then some (ix : Int) else K s) (fin := fun (_ : Unit) => some (-1)) (fin' := fun _ => some (-1)) xs 0
    (fun i h u K => by rw [hf _ (List.getElem_mem h), bindS]) (fun _ => rfl) ()
  rw [this, forI_find p xs 0 ()]
theorem df_eats : EatDoes Try.prog 64 [.sl rideTy, .fn rideTy .bool] [.sl rideTy] dfD := by
  intro w Ok B cs x y hX hBO hBs hy
  obtain ⟨xs, f⟩ := x
  simp only [dfD] at hy
  cases hcond : Nat.ble xs.length 9223372036854775807 with
  | false => rw [hcond] at hy; cases hy
  | true =>
  rw [hcond, cond_true] at hy
  have hM : xs.length ≤ maxLen := Nat.le_of_ble_eq_true hcond
  obtain ⟨hf, rfl⟩ := filterO_some hy
  obtain ⟨p, hp⟩ : ∃ p : Rd → Bool, p = fun x => (f x).getD false := ⟨_, rfl⟩
  have hf : ∀ x, x ∈ xs → f x = some (p x) := fun x hx => by rw [hp]; exact hf x hx
  rw [show xs.filter (fun x => !(f x).getD false) = xs.filter (fun x => !p x) by rw [hp]]
  clear hp hy
  obtain ⟨c1, c2, m1, m2, rfl, hm, hX1, hX2⟩ := hX
  obtain ⟨a, len, cap, m, rfl, rfl, hsay⟩ := hX1
  obtain ⟨v, m3, rfl, rfl, _, hX2⟩ := hX2
  simp only [eatMarks, shrMarks, List.cons_append, List.nil_append, List.cons.injEq] at hm
  obtain ⟨rfl, rfl, _⟩ := hm
  have hX2 := hX2 (by simp [clE])
  simp only [clE, Claim.says] at hsay
  obtain ⟨⟨hl, hlc, hblk⟩, _⟩ := hsay
  subst hl
  obtain ⟨fi, first, caps, e, hcf, hfn⟩ := hX2
  obtain rfl : v = .func (.func fi) first caps := by simpa using e
  have hokb : ∀ k, (Ok k ∨ (clE B 1 Mk.shr).blocks k) → Ok k := fun k hk => hk.resolve_right (by simp [clE, Claim.blocks])
  show Calls Try.prog 64 #[.slice a xs.length cap, .func (.func fi) first caps] w _
  have hR : RepC Try.prog (pk ps30) w (fun c => Ok c ∨ B c) [.slice a xs.length cap, .func (.func fi) first caps] (xs, f) := by
    refine ⟨[_], [_], rfl, ⟨a, xs.length, cap, rfl, rfl, hlc, ?_⟩, fi, first, caps, rfl, hcf, ?_⟩
    · rcases hblk with h | ⟨ad, h1, h2, h3, h4, h5⟩
      · exact .inl (by omega)
      · exact .inr ⟨ad, h1, h2, hBs _ h3, .inr h3, h5.mono rfl fun _ _ hr => repC_rc.2 (repC_rc.1 hr)⟩
    · intro w' hs hc
      exact hfn w' hs (fun c hcl hok => hc c hcl (.inl (hokb c hok)))
  have hidx := does30 w (fun c => Ok c ∨ B c) _ (xs, f) _ hR (index30 xs f p hf hM)
  have hidx : Calls Try.prog 30 #[.slice a xs.length cap, .func (.func fi) first caps] w fun e W => e = .returned (.int .i64 (findI p 0 xs)) ∧ w.heap.size ≤ W.heap.size ∧ (∀ c, c < w.heap.size → W.heap[c]? = w.heap[c]?) ∧ SameIO w W := by
    refine Calls.mono hidx ?_
    rintro e W ⟨us, g', rfl, hr, h1, h2, _, h3⟩
    obtain ⟨_, _, hr⟩ := hr
    obtain rfl : us = [.int .i64 (findI p 0 xs)] := hr
    exact ⟨rfl, h1, h2, h3⟩
  cases hany : xs.any p with
  | false =>
    rw [findI_neg p xs 0 hany] at hidx
    have hall : xs.filter (fun x => !p x) = xs := by
      rw [List.filter_eq_self]
      intro x hx
      have := List.any_eq_false.1 hany x hx
      simpa using this
    refine (df_none _ a xs.length cap w _ hidx).mono ?_
    rintro e W ⟨rfl, h1, h2, h3⟩
    rw [hall]
    refine eat_done2 (H := B) (fun c hc => ⟨.inr hc, Nat.lt_of_lt_of_le (hBs c hc) h1⟩) hBO h1 (fun c hc _ => h2 c hc) h3 rfl hlc (hblk.imp id ?_)
    rintro ⟨ad, q1, q2, q3, ⟨vs, et, q4, q5⟩, q6⟩
    exact ⟨ad, q1, q2, q3, ⟨vs, et, (h2 _ (hBs _ q3)).trans q4, q5⟩, q6.mono (h2 _ (hBs _ q3)) fun _ _ h => h⟩
  | true =>
    obtain ⟨k0, hk0, hk1, hk2, hk3⟩ := findI_pos p xs 0 hany
    rw [hk1, Nat.zero_add] at hidx
    rcases hblk with h0 | ⟨⟨b, off, sp⟩, rfl, rfl, hown, ⟨vs, et, hbk, hbfit⟩, hrows⟩
    · omega
    have hvs : vs = vs.toList.toArray := by simp
    rw [hvs] at hbk
    have hrow : ∀ j (h : j < xs.length) c, c < 7 → vs.toList[off + j * 7 + c]? = (rc xs[j])[c]? := fun j h c hc => by
      obtain ⟨us, _, u2, u3⟩ := hrows j h
      rw [repC_rc.1 u3] at u2
      rw [← u2 c hc, cell_of_block hbk]
      rfl
    have hcapp : ∀ z, (first ++ #[mkV rideTy (rc z)] ++ caps) = (first.push (rdV z) ++ caps) := fun z => by simp [mkV, rc, Ty.isAgg]
    refine (df_run fi first caps hcf p b off xs.length cap k0 w xs rfl hM hlc hk0 (fun j h hlt => hk3 j h hlt) (fun _ => hk2) vs.toList et hbk (by rw [Array.length_toList]; exact hbfit) hrow
      (hidx.mono fun e W ⟨h0, h1, h2, h3⟩ => ⟨h0, ⟨h1, fun c hc _ => h2 c hc, h3⟩, h2 b (hBs b hown)⟩) (fun W z hS hz => ?_)).mono ?_
    · have := hfn W hS.1 (fun c hcl hok => hS.2.1 c hcl (fun e => hBO b hown (e ▸ hokb c hok))) (rc z) z (p z) (repC_rc.2 rfl) (hf z hz)
      rw [hcapp z] at this
      refine this.mono ?_
      rintro e W' ⟨us, rfl, hr, h1, h2, h3⟩
      obtain rfl : us = [.bool (p z)] := hr
      exact ⟨rfl, h1, h2, h3⟩
    · rintro e W ⟨cur, rfl, hS, hb, hcl, hk⟩
      have hfl : (xs.filter (fun x => !p x)).length ≤ xs.length := List.length_filter_le _ _
      refine eat_done2 (H := B) (fun c hc => ⟨.inr hc, Nat.lt_of_lt_of_le (hBs c hc) hS.1⟩) hBO hS.1 (fun c hc hn => hS.2.1 c hc (fun e => hn (e ▸ hown))) hS.2.2 rfl (by omega) (.inr ⟨⟨b, off, none⟩, rfl, rfl, hown, ⟨_, et, hb, ?_⟩, fun i hi => ?_⟩)
      · rw [List.size_toArray, hcl, Array.length_toList]; exact hbfit
      · refine ⟨rc _, rfl, fun j hj => ?_, repC_rc.2 rfl⟩
        rw [cell_of_block hb]
        exact hk i hi j hj
end Go.Proofs.Ytbapfiaglcllnaa.D.Up
end
