import Derived.Test.YtbapfiaglcllnaaGDmm
import Derived.Shelf.SlBodiesN
import Derived.Shelf.RegionOpenPlain
import Derived.WalkKit
import Derived.Deep.LoopGhost
import Derived.Deep.RegionLaw
import Derived.Lib.Walk
import Derived.Sort.WalkB12
import Derived.Lib.SliceRun
namespace Go.GD
open Go Go.Proofs Go.Shelf Go.RowKit Go.Lib Go.Sort
theorem step_append_run {P : Program} {ops : Array Oper} {o : Oper} {a : Act} {w w' : World} {K : Act → World → Prop} {Q : Exit → Act → World → Prop} {E : Prop}
    (hg : o.guard = none) (s x : Operand) (t : TypeId) (hop : o.op = Op.call { callee := Callee.builtin Builtin.append, args := #[s, x], argTypes := #[t, t] })
    (sv xv v : Value) (hs : a.eval s = sv) (hx : a.eval x = xv) (hap : ∀ ty, (Builtin.append_ #[t, t] ty #[sv, xv]).run P w = .ok v w') (hK : K (a.put o.dst v) w') :
    if Region.wanted o (yielded ops a.tmps) = true then Oper.wp P o a w K Q else E := by
  have hw : Region.wanted o (yielded ops a.tmps) = true := by simp [Region.wanted, hg]
  rw [if_pos hw]
  have hrun := hap o.type
  unfold Oper.wp
  simp [execOp, hop, resolve, invoke, builtin, hs, hx, hrun, Result.andThen]
  exact hK
set_option linter.unusedVariables false in
set_option maxHeartbeats 4000000 in
set_option maxRecDepth 1000000 in
theorem del_run {P : Program} {ρ : Ren} (mixed : P.follows .mixedOrders = true) (nm : String) (FG : P.funcs[ρ.f 45]? = some { SlBodyN.n45 ρ with name := nm })
    (t0 : P.underlying (ρ.t 0) = some (TypeDesc.tuple #[])) (a0 : ∀ w, (isAgg (ρ.t 0)).run P w = .ok false w) (z0 : ∀ w, (Go.sizeOf (ρ.t 0)).run P w = .ok 1 w) (v0 : ∀ w, (zeroValue (ρ.t 0)).run P w = .ok (Value.tuple #[]) w)
    (t3 : P.underlying (ρ.t 3) = some (TypeDesc.int IntKind.i64)) (a3 : ∀ w, (isAgg (ρ.t 3)).run P w = .ok false w) (z3 : ∀ w, (Go.sizeOf (ρ.t 3)).run P w = .ok 1 w) (v3 : ∀ w, (zeroValue (ρ.t 3)).run P w = .ok (Value.int IntKind.i64 0) w)
    (t4 : P.underlying (ρ.t 4) = some (TypeDesc.bool)) (a4 : ∀ w, (isAgg (ρ.t 4)).run P w = .ok false w) (z4 : ∀ w, (Go.sizeOf (ρ.t 4)).run P w = .ok 1 w) (v4 : ∀ w, (zeroValue (ρ.t 4)).run P w = .ok (Value.bool false) w)
    (t22 : P.underlying (ρ.t 22) = some (TypeDesc.slice (ρ.t 23))) (a22 : ∀ w, (isAgg (ρ.t 22)).run P w = .ok false w) (z22 : ∀ w, (Go.sizeOf (ρ.t 22)).run P w = .ok 1 w) (v22 : ∀ w, (zeroValue (ρ.t 22)).run P w = .ok (Value.slice none 0 0) w)
    (size : Nat) (z23 : ∀ w, (Go.sizeOf (ρ.t 23)).run P w = .ok size w)
    (blk off len cap i j : Nat) (w W1 W2 : World) (hij : i < j) (hj : j ≤ len) (hcap : len ≤ cap) (A : Option Addr)
    (hA : (if cap = j then some (⟨blk, off, none⟩ : Addr) else some ⟨blk, off + j * size, none⟩) = A)
    (hap : ∀ ty, (Builtin.append_ #[ρ.t 22, ρ.t 22] ty #[.slice (some ⟨blk, off, none⟩) i cap, .slice A (len - j) (cap - j)]).run P w.drew = .ok (.slice (some ⟨blk, off, none⟩) (i + (len - j)) cap) W1)
    (hcl : ∀ ty, (Builtin.clear_ #[ρ.t 22] ty #[.slice (some ⟨blk, off + (i + (len - j)) * size, none⟩) (len - (i + (len - j))) (cap - (i + (len - j)))]).run P W1 = .ok (.tuple #[]) W2) :
    Calls P (ρ.f 45) #[.slice (some ⟨blk, off, none⟩) len cap, .int .i64 i, .int .i64 j] w fun e w' => e = .returned (.slice (some ⟨blk, off, none⟩) (i + (len - j)) cap) ∧ w' = W2 := by
  have hic : i ≤ cap := by omega
  have hjc : j ≤ cap := by omega
  have hne : ¬ cap = i + (len - j) := by omega
  have hap2 : Hid _ := hap
  clear hap
  go_enter FG, SlBodyN.n45_ntmps ρ
  go_wp2_with fail
  go_region_law_o (refine step_append_run rfl (.tmp 22) (.tmp 25) (ρ.t 22) rfl _ _ _ (by simp [Act.eval, Act.put]; rfl) (by simp [Act.eval, Act.put]; rfl) (by simpa [hA] using hap2.out) ?_)
  go_wp2
  go_ret
  exact ⟨rfl, rfl⟩
set_option linter.unusedVariables false in
set_option maxHeartbeats 4000000 in
set_option maxRecDepth 1000000 in
theorem del_same {P : Program} {ρ : Ren} (mixed : P.follows .mixedOrders = true) (nm : String) (FG : P.funcs[ρ.f 45]? = some { SlBodyN.n45 ρ with name := nm })
    (t3 : P.underlying (ρ.t 3) = some (TypeDesc.int IntKind.i64)) (a3 : ∀ w, (isAgg (ρ.t 3)).run P w = .ok false w)
    (t4 : P.underlying (ρ.t 4) = some (TypeDesc.bool)) (a4 : ∀ w, (isAgg (ρ.t 4)).run P w = .ok false w)
    (t22 : P.underlying (ρ.t 22) = some (TypeDesc.slice (ρ.t 23))) (a22 : ∀ w, (isAgg (ρ.t 22)).run P w = .ok false w)
    (size : Nat) (z23 : ∀ w, (Go.sizeOf (ρ.t 23)).run P w = .ok size w)
    (a : Option Addr) (len cap i : Nat) (w : World) (hj : i ≤ len) (hcap : len ≤ cap) :
    Calls P (ρ.f 45) #[.slice a len cap, .int .i64 i, .int .i64 i] w fun e w' => e = .returned (.slice a len cap) ∧ w' = w := by
  have hic : i ≤ cap := by omega
  go_enter FG, SlBodyN.n45_ntmps ρ
  cases a with
  | none =>
    go_wp2
    all_goals (go_ret; exact ⟨rfl, rfl⟩)
  | some ad =>
    go_wp2
    all_goals (go_ret; exact ⟨rfl, rfl⟩)
theorem zeroC_one : (t : Ty) → (cs : List Value) → zeroC t cs = true → ∀ v, v ∈ cs → v.oneCell' = true
  | .unit, [], _, v, h => by cases h
  | .unit, _ :: _, h, _, _ => by simp [zeroC] at h
  | .int _, cs, h, v, hv => by
    unfold zeroC at h
    split at h <;> simp_all [Value.oneCell']
  | .bool, cs, h, v, hv => by
    unfold zeroC at h
    split at h <;> simp_all [Value.oneCell']
  | .str, cs, h, v, hv => by
    unfold zeroC at h
    split at h <;> simp_all [Value.oneCell']
  | .ptr _, cs, h, v, hv => by simp [zeroC] at h
  | .fn _ _, cs, h, v, hv => by
    unfold zeroC at h
    split at h <;> simp_all [Value.oneCell']
  | .sl _, cs, h, v, hv => by
    unfold zeroC at h
    split at h <;> simp_all [Value.oneCell']
  | .pair a b, cs, h, v, hv => by
    simp only [zeroC, Bool.and_eq_true] at h
    rw [← List.take_append_drop a.size cs] at hv
    rcases List.mem_append.1 hv with hv | hv
    · exact zeroC_one a _ h.1 v hv
    · exact zeroC_one b _ h.2 v hv
theorem run_clear_at {P : Program} (t e ty : TypeId) (z : Value) (size : Nat) (ht : P.underlying t = some (.slice e)) {w : World} (hv : (zeroValue e).run P w = .ok z w) (hz : z.cells.size = size) (h1 : ∀ v, v ∈ z.cells.toList → v.oneCell' = true)
    (b o n c : Nat) (hn : 0 < n) (hs : 0 < size) {vs : List Value} {et : TypeId} (hb : w.heap[b]? = some (.cells vs.toArray et (0, 0))) (hfit : o + n * size ≤ vs.length) :
    (Builtin.clear_ #[t] ty #[.slice (some ⟨b, o, none⟩) n c]).run P w = .ok (.tuple #[]) (w.setRow b (splice vs o (Builtin.zeroCells z.cells n).toList).toArray) := by
  have hlen : (Builtin.zeroCells z.cells n).toList.length = n * size := by rw [Array.length_toList, size_zeroCells, hz]
  have hone : ∀ v ∈ (Builtin.zeroCells z.cells n).toList, v.oneCell' = true := by
    intro v hv
    simp only [Builtin.zeroCells, Array.toList_map, List.mem_map] at hv
    obtain ⟨i, _, rfl⟩ := hv
    have hi : i % z.cells.size < z.cells.size := Nat.mod_lt _ (by omega)
    rw [getElem!_pos z.cells _ hi]
    exact h1 _ (by simp)
  have hst := run_storeCells_at P b o et (Builtin.zeroCells z.cells n).toList 0 vs.toArray w hb (by simp only [Nat.add_zero, hlen]; simpa using hfit) hone
  simp only [Nat.add_zero] at hst
  have e : (splice vs o (Builtin.zeroCells z.cells n).toList).toArray = (vs.toArray.toList.take o ++ (Builtin.zeroCells z.cells n).toList ++ vs.toArray.toList.drop (o + (Builtin.zeroCells z.cells n).toList.length)).toArray := by simp [splice]
  rw [e]
  obtain ⟨m, rfl⟩ : ∃ m, n = m + 1 := ⟨n - 1, by omega⟩
  simp [Builtin.clear_, run_underlying ht, hv]
  simp at hst
  simp [hst]
@[reducible] def delD (t : Ty) (x : List t.den × Int × Int) : Option (List t.den) :=
  if 0 ≤ x.2.1 ∧ x.2.1 ≤ x.2.2 ∧ x.2.2 ≤ x.1.length then some (x.1.take x.2.1.toNat ++ x.1.drop x.2.2.toNat) else none
theorem Rows.take {α : Type} {size : Nat} {w : World} {R : List Value → α → Prop} {ad : Addr} {xs : List α} (h : Rows size w R ad xs) (n : Nat) : Rows size w R ad (xs.take n) := by
  intro i hi
  rw [List.length_take] at hi
  obtain ⟨cs, h1, h2, h3⟩ := h i (by omega)
  exact ⟨cs, h1, h2, by rw [List.getElem_take]; exact h3⟩
theorem Rows.drop {α : Type} {size : Nat} {w : World} {R : List Value → α → Prop} {ad : Addr} {xs : List α} (h : Rows size w R ad xs) (n : Nat) : Rows size w R ⟨ad.block, ad.off + n * size, none⟩ (xs.drop n) := by
  intro i hi
  rw [List.length_drop] at hi
  obtain ⟨cs, h1, h2, h3⟩ := h (n + i) (by omega)
  refine ⟨cs, h1, fun j hj => ?_, by rw [List.getElem_drop]; exact h3⟩
  rw [← h2 j hj, Nat.add_mul]
  simp only [Nat.add_assoc]
open Classical in
theorem del_eats {P : Program} {ρ : Ren} (mixed : P.follows .mixedOrders = true) (nm : String) (FG : P.funcs[ρ.f 45]? = some { SlBodyN.n45 ρ with name := nm })
    (t0 : P.underlying (ρ.t 0) = some (TypeDesc.tuple #[])) (a0 : ∀ w, (isAgg (ρ.t 0)).run P w = .ok false w) (z0 : ∀ w, (Go.sizeOf (ρ.t 0)).run P w = .ok 1 w) (v0 : ∀ w, (zeroValue (ρ.t 0)).run P w = .ok (Value.tuple #[]) w)
    (t3 : P.underlying (ρ.t 3) = some (TypeDesc.int IntKind.i64)) (a3 : ∀ w, (isAgg (ρ.t 3)).run P w = .ok false w) (z3 : ∀ w, (Go.sizeOf (ρ.t 3)).run P w = .ok 1 w) (v3 : ∀ w, (zeroValue (ρ.t 3)).run P w = .ok (Value.int IntKind.i64 0) w)
    (t4 : P.underlying (ρ.t 4) = some (TypeDesc.bool)) (a4 : ∀ w, (isAgg (ρ.t 4)).run P w = .ok false w) (z4 : ∀ w, (Go.sizeOf (ρ.t 4)).run P w = .ok 1 w) (v4 : ∀ w, (zeroValue (ρ.t 4)).run P w = .ok (Value.bool false) w)
    (t22 : P.underlying (ρ.t 22) = some (TypeDesc.slice (ρ.t 23))) (a22 : ∀ w, (isAgg (ρ.t 22)).run P w = .ok false w) (z22 : ∀ w, (Go.sizeOf (ρ.t 22)).run P w = .ok 1 w) (v22 : ∀ w, (zeroValue (ρ.t 22)).run P w = .ok (Value.slice none 0 0) w)
    {tab : List TE} (hT : TabOK P tab) {te : TE} (hte : findTE tab (ρ.t 23) = some te) (t : Ty) (htt : te.ty = t) {z : t.den} (hz : t.zero = some z) (hs0 : t.size ≠ 0) :
    EatDoes P (ρ.f 45) [.sl t, .int .i64, .int .i64] [.sl t] (delD t) := by
  subst htt
  have hF := hT.find hte
  obtain ⟨ti, hti, htis, _⟩ := hF.info
  have hspos : 0 < te.ty.size := Nat.pos_of_ne_zero hs0
  intro w Ok B cs x y hX hBO hBs hy
  obtain ⟨xs, i, j⟩ := x
  simp only [delD] at hy
  split at hy
  case isFalse => cases hy
  rename_i hc
  obtain ⟨hi0, hij, hjl⟩ := hc
  obtain ⟨i, rfl⟩ : ∃ n : Nat, i = n := ⟨Int.toNat i, (Int.toNat_of_nonneg hi0).symm⟩
  obtain ⟨j, rfl⟩ : ∃ n : Nat, j = n := ⟨Int.toNat j, (Int.toNat_of_nonneg (Int.le_trans hi0 hij)).symm⟩
  simp only [Int.toNat_natCast, Option.some.injEq] at hy
  subst hy
  obtain ⟨c1, c2, m1, m2, rfl, hm, hX1, hX2⟩ := hX
  obtain ⟨a, len, cap, m, rfl, rfl, hsay⟩ := hX1
  obtain ⟨c3, c4, m3, m4, rfl, rfl, hX3, hX4⟩ := hX2
  obtain ⟨_, _, hX3⟩ := hX3
  obtain ⟨_, _, hX4⟩ := hX4
  have e3 : c3 = [.int .i64 i] := hX3
  have e4 : c4 = [.int .i64 j] := hX4
  subst e3
  subst e4
  have hm' : m = .own := by
    simp only [eatMarks, List.cons_append, List.nil_append, List.cons.injEq] at hm
    exact hm.1.symm
  subst hm'
  simp only [clE, Claim.says] at hsay
  obtain ⟨hh, _⟩ := hsay
  have hij : i ≤ j := by omega
  have hjl : j ≤ xs.length := by omega
  show Calls P (ρ.f 45) #[.slice a len cap, .int .i64 i, .int .i64 j] w _
  have hgB : ∀ b, (if B b then some 0 else none : Option Nat) ≠ none → B b := by
    intro b hb
    rcases em (B b) with h | h
    · exact h
    · rw [if_neg h] at hb; exact absurd rfl hb
  obtain ⟨hl, hlc, hblk⟩ := hh
  by_cases heq : i = j
  · subst heq
    refine (del_same mixed nm FG t3 a3 t4 a4 t22 a22 te.ty.size hF.sizeOf a len cap i w (by omega) hlc).mono ?_
    rintro e w' ⟨rfl, rfl⟩
    refine ⟨[.slice a len cap], fun b => if B b then some 0 else none, rfl, ⟨a, len, cap, .own, rfl, rfl, ?_⟩, Nat.le_refl _, fun _ _ _ => rfl, fun b hb => ⟨.inr (hgB b hb), hBs b (hgB b hb)⟩, rfl, rfl, rfl, Nat.le_refl _⟩
    show HoldS _ _ _ _ _ _ _ _ ∧ True
    rw [List.take_append_drop]
    have hmono : Mono w' Ok w' (fun b => (w'.heap.size ≤ b ∨ Ok b) ∧ (if B b then some 0 else none : Option Nat) = none) :=
      ⟨Nat.le_refl _, fun b _ hb => ⟨rfl, .inr hb, if_neg fun h => hBO b h hb⟩⟩
    exact ⟨HoldS.mono (B := B) ⟨Nat.le_refl _, fun b _ hb => ⟨rfl, if_pos hb⟩⟩ (fun _ _ => RepC.mono te.ty hmono) ⟨hl, hlc, hblk⟩, trivial⟩
  · have hlt : i < j := by omega
    rcases hblk with hcap | ⟨ad, rfl, hsp, hown, ⟨vs, et, hblk, hfit⟩, hrows⟩
    · omega
    have had : ad = ⟨ad.block, ad.off, none⟩ := addr_eq hsp
    have hvs : vs = vs.toList.toArray := by simp
    rw [hvs] at hblk
    have hmd : Mono w Ok w.drew Ok := ⟨Nat.le_refl _, fun _ _ h => ⟨rfl, h⟩⟩
    have hrowsD : Rows te.ty.size w.drew (RepC P te.ty w.drew Ok) ad xs := hrows.mono rfl fun _ _ => RepC.mono te.ty hmd
    have hblkD : w.drew.heap[ad.block]? = some (.cells vs.toList.toArray et (0, 0)) := hblk
    obtain ⟨A, hA⟩ : ∃ A, (if cap = j then some (⟨ad.block, ad.off, none⟩ : Addr) else some ⟨ad.block, ad.off + j * te.ty.size, none⟩) = A := ⟨_, rfl⟩
    obtain ⟨news, hsrc, hsegs, _⟩ := src_of_rows (P := P) (T := ρ.t 22) (w := w.drew) (t := te.ty) (a := A) (len := len - j) (cap := cap - j) (xs := xs.drop j) (Sh := Ok) t22 hs0
      ⟨by rw [List.length_drop, hl], by omega, by
        rcases Nat.eq_zero_or_pos (len - j) with h | h
        · exact .inl h
        · refine .inr ⟨⟨ad.block, ad.off + j * te.ty.size, none⟩, ?_, rfl, hrowsD.drop j⟩
          rw [← hA, if_neg (by omega)]⟩
    have hnl : news.length = (len - j) * te.ty.size := hsrc.newsLen
    have hmul : (i + (len - j)) * te.ty.size ≤ cap * te.ty.size := Nat.mul_le_mul_right _ (by omega)
    have hmul2 : (len) * te.ty.size ≤ cap * te.ty.size := Nat.mul_le_mul_right _ (by omega)
    have hin : ad.off + i * te.ty.size + news.length ≤ vs.toList.length := by
      rw [Nat.add_mul] at hmul
      simp only [Array.length_toList]; omega
    have hap := fun ty => run_append_at (w := w.drew) (ρ.t 22) (ρ.t 22) ty (ρ.t 23) te.ty.size t22 hti htis ad.block ad.off i cap (.slice A (len - j) (cap - j)) (len - j) news hsrc (by omega) hblkD hin
    obtain ⟨W1, hW1⟩ : ∃ W1, W1 = w.drew.setRow ad.block (splice vs.toList (ad.off + i * te.ty.size) news).toArray := ⟨_, rfl⟩
    rw [← hW1] at hap
    have hb1 : W1.heap[ad.block]? = some (.cells (splice vs.toList (ad.off + i * te.ty.size) news).toArray et (0, 0)) := by rw [hW1]; exact setRow_heap w.drew _ _ _ et _ hblkD
    obtain ⟨zc, hz1, hz2, hz3, hz4⟩ := hF.zero hz W1
    have hl1 : (splice vs.toList (ad.off + i * te.ty.size) news).length = vs.toList.length := splice_length _ _ _ hin
    have hsum : (i + (len - j)) * te.ty.size + (len - (i + (len - j))) * te.ty.size = len * te.ty.size := by rw [← Nat.add_mul]; congr 1; omega
    have hin2 : ad.off + (i + (len - j)) * te.ty.size + (len - (i + (len - j))) * te.ty.size ≤ vs.toList.length := by
      simp only [Array.length_toList]; omega
    have hcl := fun ty => run_clear_at (ρ.t 22) (ρ.t 23) ty _ te.ty.size t22 hz1 (by rw [hz3, List.size_toArray, hz2]) (by rw [hz3]; simpa using zeroC_one _ _ hz4) ad.block (ad.off + (i + (len - j)) * te.ty.size) (len - (i + (len - j))) (cap - (i + (len - j))) (by omega) hspos hb1 (by rw [hl1]; exact hin2)
    obtain ⟨zs, hzs, hzl⟩ : ∃ zs, zs = (Builtin.zeroCells (mkV te.ty zc).cells (len - (i + (len - j)))).toList ∧ zs.length = (len - (i + (len - j))) * te.ty.size := ⟨_, rfl, by rw [Array.length_toList, size_zeroCells, hz3, List.size_toArray, hz2]⟩
    rw [← hzs] at hcl
    obtain ⟨W2, hW2⟩ : ∃ W2, W2 = W1.setRow ad.block (splice (splice vs.toList (ad.off + i * te.ty.size) news) (ad.off + (i + (len - j)) * te.ty.size) zs).toArray := ⟨_, rfl⟩
    rw [← hW2] at hcl
    rw [had]
    refine (del_run mixed nm FG t0 a0 z0 v0 t3 a3 z3 v3 t4 a4 z4 v4 t22 a22 z22 v22 te.ty.size hF.sizeOf ad.block ad.off len cap i j w W1 W2 hlt (by omega) hlc A hA hap hcl).mono ?_
    rintro e w' ⟨rfl, rfl⟩
    have hb2 : w'.heap[ad.block]? = some (.cells (splice (splice vs.toList (ad.off + i * te.ty.size) news) (ad.off + (i + (len - j)) * te.ty.size) zs).toArray et (0, 0)) := by rw [hW2]; exact setRow_heap W1 _ _ _ et _ hb1
    have hl2 : (splice (splice vs.toList (ad.off + i * te.ty.size) news) (ad.off + (i + (len - j)) * te.ty.size) zs).length = vs.toList.length := by
      rw [splice_length _ _ _ (by rw [hl1, hzl]; exact hin2), hl1]
    have hother : ∀ b, b ≠ ad.block → w'.heap[b]? = w.heap[b]? := fun b hb => by
      rw [hW2, setRow_other W1 _ _ _ hb, hW1, setRow_other w.drew _ _ _ hb]; rfl
    have hsz : w'.heap.size = w.heap.size := by rw [hW2, size_setRow, hW1, size_setRow]; rfl
    have hsio : SameIO w w' := by rw [hW2, hW1]; exact ⟨rfl, rfl, rfl, by first | exact Nat.le_refl _ | exact Nat.le_succ _ | (simp; done) | (simp; omega)⟩
    refine ⟨[.slice (some ⟨ad.block, ad.off, none⟩) (i + (len - j)) cap], fun b => if B b then some 0 else none, rfl, ⟨_, _, _, .own, rfl, rfl, ?_⟩, Nat.le_of_eq hsz.symm, fun b _ hb => hother b (fun e => hb (e ▸ hown)), fun b hb => ⟨.inr (hgB b hb), hsz ▸ hBs b (hgB b hb)⟩, hsio⟩
    show HoldS _ _ _ _ _ _ _ _ ∧ True
    have hmono : Mono w Ok w' (fun b => (w.heap.size ≤ b ∨ Ok b) ∧ (if B b then some 0 else none : Option Nat) = none) :=
      ⟨Nat.le_of_eq hsz.symm, fun b _ hb => ⟨hother b (fun e => hBO b (e ▸ hown) hb), .inr hb, if_neg fun h => hBO b h hb⟩⟩
    have hmonoD : Mono w.drew Ok w' (fun b => (w.heap.size ≤ b ∨ Ok b) ∧ (if B b then some 0 else none : Option Nat) = none) := hmono
    refine ⟨⟨by rw [List.length_append, List.length_take, List.length_drop, hl, Nat.min_eq_left (by omega)], by omega, .inr ⟨_, rfl, rfl, if_pos hown, ⟨_, _, hb2, ?_⟩, ?_⟩⟩, trivial⟩
    · rw [List.size_toArray, hl2]; simpa using hfit
    · obtain ⟨olds, hos, hoc⟩ := (hrowsD.take i).segs hs0
      have hol : olds.length = i * te.ty.size := by rw [hos.1, List.length_take, hl, Nat.min_eq_left (by omega)]
      refine ((hos.append hsegs).mono fun _ _ => RepC.mono te.ty hmonoD).rows fun q hq => ?_
      rw [List.length_append, hol, hnl, ← Nat.add_mul] at hq
      rw [cell_of_block hb2]
      show (splice (splice vs.toList (ad.off + i * te.ty.size) news) (ad.off + (i + (len - j)) * te.ty.size) zs)[ad.off + q]? = _
      rw [getElem?_splice _ _ _ _ (by rw [hl1, hzl]; exact hin2), if_pos (by omega), getElem?_splice _ _ _ _ hin]
      rcases Nat.lt_or_ge q olds.length with hqo | hqo
      · rw [if_pos (by omega), List.getElem?_append_left hqo, ← hoc q hqo, cell_of_block hblkD]
      · rw [if_neg (by omega), if_pos (by rw [Nat.add_mul] at hq; omega), List.getElem?_append_right hqo]
        congr 1; omega
theorem fact_z {P : Program} {T n : Nat} (h : (P.info? T).map (·.size) = some n) (w : World) : (Go.sizeOf T).run P w = .ok n w := by
  obtain ⟨i, hi, hs⟩ := Option.map_eq_some_iff.1 h
  simp [Go.sizeOf, typeInfo, hi, hs]
theorem fact_v {P : Program} {T : Nat} {v : Value} (h : (P.info? T).bind (·.zero) = some v) (w : World) : (zeroValue T).run P w = .ok v w := by
  obtain ⟨i, hi, hs⟩ := Option.bind_eq_some_iff.1 h
  simp [zeroValue, Go.typeInfo, hi, hs]
def delRen (f T El : Nat) : Ren := ⟨fun _ => f, fun n => if n = 22 then T else if n = 23 then El else n, fun n => n⟩
theorem fact_a {P : Program} {T : Nat} {d : TypeDesc} (h : P.underlying T = some d) (hd : (match d with | .struct _ => true | .array _ _ => true | _ => false) = false) (w : World) : (isAgg T).run P w = .ok false w := by
  cases d <;> simp_all [isAgg, Go.underlying]
theorem del_contract {P : Program} {f T El : Nat} (mixed : P.follows .mixedOrders = true) (nm : String) (FG : P.funcs[f]? = some { SlBodyN.n45 (delRen f T El) with name := nm })
    (t0 : P.underlying 0 = some (TypeDesc.tuple #[])) (z0 : (P.info? 0).map (·.size) = some 1) (v0 : (P.info? 0).bind (·.zero) = some (Value.tuple #[]))
    (t3 : P.underlying 3 = some (TypeDesc.int IntKind.i64)) (z3 : (P.info? 3).map (·.size) = some 1) (v3 : (P.info? 3).bind (·.zero) = some (Value.int IntKind.i64 0))
    (t4 : P.underlying 4 = some TypeDesc.bool) (z4 : (P.info? 4).map (·.size) = some 1) (v4 : (P.info? 4).bind (·.zero) = some (Value.bool false))
    (t22 : P.underlying T = some (TypeDesc.slice El)) (z22 : (P.info? T).map (·.size) = some 1) (v22 : (P.info? T).bind (·.zero) = some (Value.slice none 0 0))
    {tab : List TE} (hT : TabOK P tab) (t : Ty) (h23 : (findTE tab El).map (·.ty) = some t) (hz : t.zero.isSome = true) (hs0 : Nat.beq t.size 0 = false) (hk : Callable P f) :
    Contract P f { ps := [.sl t, .int .i64, .int .i64], rs := [.sl t], own := true, eat := true, φ := delD t } :=
  by
  obtain ⟨te, h23, htt⟩ := Option.map_eq_some_iff.1 h23
  obtain ⟨z, hz⟩ := Option.isSome_iff_exists.1 hz
  exact ⟨hk, (fun e => by cases e), fun _ => del_eats (ρ := delRen f T El) mixed nm FG t0 (fact_a t0 rfl) (fact_z z0) (fact_v v0) t3 (fact_a t3 rfl) (fact_z z3) (fact_v v3) t4 (fact_a t4 rfl) (fact_z z4) (fact_v v4)
    t22 (fact_a t22 rfl) (fact_z z22) (fact_v v22) hT h23 t htt hz (fun e => by rw [e] at hs0; cases hs0)⟩
end Go.GD
