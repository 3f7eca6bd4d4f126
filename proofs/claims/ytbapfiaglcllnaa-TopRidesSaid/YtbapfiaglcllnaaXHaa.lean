import Derived.Test.YtbapfiaglcllnaaProg
import Derived.Test.YtbapfiaglcllnaaChecked
import Derived.Test.YtbapfiaglcllnaaGDD
import Derived.Lib.Overlaps
import Derived.Lib.AppendZerosOnto
import Derived.Test.YtbapfiaglcllnaaGDdd
section
namespace Go.Proofs.Ytbapfiaglcllnaa.D.Up
set_option maxRecDepth 10000
open Go Go.GD Go.Proofs Go.RowKit Go.Shelf Go.Lib Go.Sort
theorem wpList_builtin {P : Program} {w w' : World} {ops : Array Oper} {rest : List Oper} {o : Oper} {a : Act} {Q : Exit → Act → World → Prop}
    (hg : o.guard = none) (b : Builtin) (s x : Operand) (t tx : TypeId) (hop : o.op = Op.call { callee := Callee.builtin b, args := #[s, x], argTypes := #[t, tx] })
    (sv xv v : Value) (hs : a.eval s = sv) (hx : a.eval x = xv) (hap : ∀ ty cs, (builtin b #[t, tx] ty cs #[sv, xv]).run P w = .ok (.value v) w') (hK : wpList P ops Q rest (a.put o.dst v) w') :
    wpList P ops Q (o :: rest) a w := by
  refine wpList_plain hg fun K hK' => ?_
  unfold Oper.wp
  simp [execOp, hop, resolve, invoke, hs, hx, hap]
  exact hK' _ _ hK
theorem step_builtin {P : Program} {ops : Array Oper} {o : Oper} {a : Act} {w w' : World} {K : Act → World → Prop} {Q : Exit → Act → World → Prop} {E : Prop}
    (hg : o.guard = none) (b : Builtin) (s x : Operand) (t tx : TypeId) (hop : o.op = Op.call { callee := Callee.builtin b, args := #[s, x], argTypes := #[t, tx] })
    (sv xv v : Value) (hs : a.eval s = sv) (hx : a.eval x = xv) (hap : ∀ ty cs, (builtin b #[t, tx] ty cs #[sv, xv]).run P w = .ok (.value v) w') (hK : K (a.put o.dst v) w') :
    if Region.wanted o (yielded ops a.tmps) = true then Oper.wp P o a w K Q else E := by
  have hw : Region.wanted o (yielded ops a.tmps) = true := by simp [Region.wanted, hg]
  rw [if_pos hw]
  unfold Oper.wp
  simp [execOp, hop, resolve, invoke, hs, hx, hap]
  exact hK
theorem run_overlaps_own {P : Program} (w : World) (tS tR e : TypeId) (ht : P.underlying tS = some (.slice e)) (size : Nat) (hz : ∀ w, (Go.sizeOf e).run P w = .ok size w)
    (a b : Addr) (la ca lb cb : Nat) (hne : a.block ≠ b.block) (tA tB : TypeId) (kA kB : Nat)
    (hsa : w.shape? a.block = some (tA, kA)) (hsb : w.shape? b.block = some (tB, kB)) (hkA : kA ≠ 0) (hkB : kB ≠ 0)
    (hfa : w.frozen? b = false) (hfe : w.frozen? { block := b.block, off := kB } = false) :
    (Extern.SlicesOverlaps.overlaps #[tS, tS] #[tR] #[.slice (some a) la ca, .slice (some b) lb cb]).run P w = .ok (.bool false) w := by
  have hnb : (a.block != b.block) = true := by simpa using hne
  have hnb' : (a.block == b.block) = false := by simpa using hne
  change Sem.run P (α := Value) (do
    let some t := (#[tS, tS] : Array TypeId)[0]? | stuck "slices.overlaps: no parameter types"
    let .slice elem ← underlying t | stuck "slices.overlaps: slice type expected"
    let size ← sizeOf elem
    match (some a : Option Addr), (some b : Option Addr) with
    | some a, some b =>
      if la = 0 ∨ lb = 0 ∨ size = 0 then pure (Value.bool false)
      else if a.block != b.block && (← frozen a) && (← frozen b) then unsupported .addressObserved
      else do
        if a.block != b.block then do
          noView a; noView b
          if ← mayBeOne a b then return Value.bool ((← choose (.extern "sameAddr.stringBytes" 2)) == 1)
        pure (Value.bool (a.block == b.block && a.off < b.off + lb * size && b.off < a.off + la * size))
    | _, _ => pure (Value.bool false)) w = _
  by_cases h0 : la = 0 ∨ lb = 0 ∨ size = 0
  · simp [run_underlying ht, hz, h0]
  · cases kB with
    | zero => exact absurd rfl hkB
    | succ kB =>
      cases kA with
      | zero => exact absurd rfl hkA
      | succ kA =>
      cases hA : w.frozen? a <;> cases hE : w.frozen? { block := a.block, off := kA + 1 } <;>
      simp [run_underlying ht, hz, h0, hnb, hnb', frozen, noView, viewAt, mayBeOne, stringish, shape, Sem.run, hsa, hsb, hfa, hfe, hA, hE]
set_option linter.unusedVariables false in
set_option maxHeartbeats 4000000 in
set_option maxRecDepth 1000000 in
theorem insA (a v : Option Addr) (len cap vcap : Nat) (w W1 : World) (r : Value)
    (hap : ∀ ty cs, (builtin .append #[24, 24] ty cs #[.slice a len cap, .slice v 1 vcap]).run Try.prog w = .ok (.value r) W1) (hl : len ≤ cap) :
    Calls Try.prog 36 #[.slice a len cap, .int .i64 len, .slice v 1 vcap] w fun e w' => e = .returned r ∧ w' = W1 := by
  have hap2 : Hid _ := hap
  clear hap
  go_enter Try.func36, Try.ntmps36
  cases a with
  | none =>
    go_wp2_with (refine wpList_builtin rfl .append _ _ _ _ rfl _ _ _ rfl rfl hap2.out ?_)
    all_goals (go_ret; exact ⟨rfl, rfl⟩)
  | some ad =>
    go_wp2_with (refine wpList_builtin rfl .append _ _ _ _ rfl _ _ _ rfl rfl hap2.out ?_)
    all_goals (go_ret; exact ⟨rfl, rfl⟩)
end Go.Proofs.Ytbapfiaglcllnaa.D.Up
end

section
namespace Go.Proofs.Ytbapfiaglcllnaa.D.Up
open Go Go.GD Go.Proofs Go.RowKit Go.Shelf Go.Lib Go.Sort
set_option linter.unusedVariables false in
set_option maxHeartbeats 4000000 in
set_option maxRecDepth 1000000 in
theorem insB (b off len cap i g gcap : Nat) (v : Option Addr) (vcap : Nat) (w W1 W2 W3 : World) (r1 r2 : Value) (hi : i < len) (hlc : len ≤ cap) (hg : len + 1 ≤ gcap) (hn : len + 1 ≤ maxLen) (hcap : cap < len + 1)
    (hap : ∀ ty cs, (builtin .append #[24, 3] ty cs #[.slice (some ⟨b, off, none⟩) i cap, .int .i64 ((len : Int) + 1 - i)]).run Try.prog w = .ok (.value (.slice (some ⟨g, 0, none⟩) (len + 1) gcap)) W1)
    (hc1 : ∀ ty cs, (builtin .copy #[24, 24] ty cs #[.slice (some ⟨g, i * 7, none⟩) (len + 1 - i) (gcap - i), .slice v 1 vcap]).run Try.prog W1 = .ok (.value r1) W2)
    (hc2 : ∀ ty cs, (builtin .copy #[24, 24] ty cs #[.slice (some ⟨g, (i + 1) * 7, none⟩) (len - i) (gcap - (i + 1)), .slice (some ⟨b, off + i * 7, none⟩) (len - i) (cap - i)]).run Try.prog W2.drew = .ok (.value r2) W3) :
    Calls Try.prog 36 #[.slice (some ⟨b, off, none⟩) len cap, .int .i64 i, .slice v 1 vcap] w fun e w' => e = .returned (.slice (some ⟨g, 0, none⟩) (len + 1) gcap) ∧ w' = W3 := by
  have hap2 : Hid _ := hap
  have hc12 : Hid _ := hc1
  have hc22 : Hid _ := hc2
  clear hap hc1 hc2
  have hM : maxLen = 9223372036854775807 := rfl
  have w1 : wrap64 ((len : Int) + 1) = (len : Int) + 1 := IntWalk.wrap64_in _ ⟨by omega, by omega⟩
  have w2 : wrap64 ((len : Int) + 1 - (i : Int)) = (len : Int) + 1 - i := IntWalk.wrap64_in _ ⟨by omega, by omega⟩
  have w3 : wrap64 ((i : Int) + 1) = (i : Int) + 1 := IntWalk.wrap64_in _ ⟨by omega, by omega⟩
  have w4 : IntKind.i64.wrap ((i : Int) + 1) = (i : Int) + 1 := wrap_i64 (by omega) (by omega)
  have t1 : ((i : Int) + 1).toNat = i + 1 := by omega
  have t2 : ((i : Int) + 1 ≤ (len : Int) + 1) := by omega
  have t3 : ((0 : Int) ≤ (i : Int) + 1) := by omega
  have mixed : Try.prog.follows .mixedOrders = true := Checked.mixed Try.checked
  have n1 : ¬ (cap = i) := by omega
  have n2 : ¬ (gcap = i) := by omega
  have n3 : ¬ (gcap = i + 1) := by omega
  have n4 : ¬ (len = i) := by omega
  have n5 : i ≤ cap := by omega
  have n6 : i ≤ gcap := by omega
  have n7 : i + 1 ≤ gcap := by omega
  have n9 : i ≤ len := by omega
  go_enter Try.func36, Try.ntmps36
  go_wp2_with (first | (refine wpList_builtin rfl .append _ _ _ _ rfl _ _ _ rfl rfl hap2.out ?_) | (refine wpList_builtin rfl .copy _ _ _ _ rfl _ _ _ rfl rfl hc12.out ?_))
  go_region_law_o (refine step_builtin rfl .copy (.tmp 50) (.tmp 53) 24 24 rfl _ _ _ (by simp [Act.eval, Act.put]) (by simp [Act.eval, Act.put]) hc22.out ?_)
  go_wp2
  go_ret
  exact ⟨rfl, rfl⟩
end Go.Proofs.Ytbapfiaglcllnaa.D.Up
end

section
namespace Go.Proofs.Ytbapfiaglcllnaa.D.Up
set_option maxRecDepth 10000
open Go Go.GD Go.Proofs Go.RowKit Go.Shelf Go.Lib Go.Sort
set_option linter.unusedVariables false in
set_option maxHeartbeats 4000000 in
set_option maxRecDepth 1000000 in
theorem insC (b off len cap i : Nat) (v : Option Addr) (vcap : Nat) (w W2 W3 : World) (r1 r2 : Value) (hi : i < len) (hn : len + 1 ≤ maxLen) (hcap : len + 1 ≤ cap)
    (hov : (callFunc 72 #[.slice v 1 vcap, .slice (some ⟨b, off + (i + 1) * 7, none⟩) (len - i) (cap - (i + 1))]).run Try.prog w = .ok (.value (.bool false)) w)
    (hc1 : ∀ ty cs, (builtin .copy #[24, 24] ty cs #[.slice (some ⟨b, off + (i + 1) * 7, none⟩) (len - i) (cap - (i + 1)), .slice (some ⟨b, off + i * 7, none⟩) (len + 1 - i) (cap - i)]).run Try.prog w.drew = .ok (.value r1) W2)
    (hc2 : ∀ ty cs, (builtin .copy #[24, 24] ty cs #[.slice (some ⟨b, off + i * 7, none⟩) (len + 1 - i) (cap - i), .slice v 1 vcap]).run Try.prog W2 = .ok (.value r2) W3) :
    Calls Try.prog 36 #[.slice (some ⟨b, off, none⟩) len cap, .int .i64 i, .slice v 1 vcap] w fun e w' => e = .returned (.slice (some ⟨b, off, none⟩) (len + 1) cap) ∧ w' = W3 := by
  have hc12 : Hid _ := hc1
  have hc22 : Hid _ := hc2
  clear hc1 hc2
  have hM : maxLen = 9223372036854775807 := rfl
  have w1 : wrap64 ((len : Int) + 1) = (len : Int) + 1 := IntWalk.wrap64_in _ ⟨by omega, by omega⟩
  have w3 : wrap64 ((i : Int) + 1) = (i : Int) + 1 := IntWalk.wrap64_in _ ⟨by omega, by omega⟩
  have w4 : IntKind.i64.wrap ((i : Int) + 1) = (i : Int) + 1 := wrap_i64 (by omega) (by omega)
  have t1 : ((i : Int) + 1).toNat = i + 1 := by omega
  have t2 : ((i : Int) + 1 ≤ (len : Int) + 1) := by omega
  have t3 : ((0 : Int) ≤ (i : Int) + 1) := by omega
  have mixed : Try.prog.follows .mixedOrders = true := Checked.mixed Try.checked
  have n0 : ¬ (cap < len + 1) := by omega
  have n1 : ¬ (cap = i) := by omega
  have n3 : ¬ (cap = i + 1) := by omega
  have n4 : ¬ (len = i) := by omega
  have n5 : i ≤ cap := by omega
  have n6 : i ≤ len := by omega
  have n7 : i + 1 ≤ cap := by omega
  have n8 : i ≤ len + 1 := by omega
  have n9 : (i : Int) ≤ (len : Int) + 1 := by omega
  go_enter Try.func36, Try.ntmps36
  go_wp2_with (first | (refine wpList_builtin rfl .copy _ _ _ _ rfl _ _ _ rfl rfl hc22.out ?_) | simp only [hov])
  go_region_law_o (refine step_builtin rfl .copy (.tmp 73) (.tmp 76) 24 24 rfl _ _ _ (by simp [Act.eval, Act.put]) (by simp [Act.eval, Act.put]) hc12.out ?_)
  go_wp2_with (first | (refine wpList_builtin rfl .copy _ _ _ _ rfl _ _ _ rfl rfl hc22.out ?_) | simp only [hov])
  go_ret
  exact ⟨rfl, rfl⟩
end Go.Proofs.Ytbapfiaglcllnaa.D.Up
end

section
namespace Go.Proofs.Ytbapfiaglcllnaa.D.Up
set_option maxRecDepth 10000
open Go Go.GD Go.Proofs Go.RowKit Go.Lib
abbrev rideTy : Ty := .pair (.int .i64) (.pair (.int .i64) (.pair (.int .i64) (.pair (.int .i64) (.pair (.int .i64) (.pair (.int .i64) (.int .i64))))))
abbrev Rd := Int × Int × Int × Int × Int × Int × Int
theorem u22 : Try.prog.underlying 24 = some (TypeDesc.slice 40) := by kernel_rfl
theorem u3 : Try.prog.underlying 3 = some (TypeDesc.int .i64) := by kernel_rfl
theorem i26 : (Try.prog.info? 40).map (fun i => (i.zero, i.size, i.bytes)) = some (some (Value.agg #[.int .i64 0, .int .i64 0, .int .i64 0, .int .i64 0, .int .i64 0, .int .i64 0, .int .i64 0]), 7, 56) := by kernel_rfl
theorem z26 : ∀ w, (Go.sizeOf 40).run Try.prog w = .ok 7 w := fun w => by
  obtain ⟨i, h1, _, h3, _⟩ := info_parts i26
  simp [Go.sizeOf, typeInfo, h1, h3]
theorem run_copy_at {P : Program} {w : World} (t ty e : TypeId) (size : Nat) (ht : P.underlying t = some (.slice e)) (hz : ∀ w, (Go.sizeOf e).run P w = .ok size w) (b o dLen dCap : Nat) (a : Option Addr) (sLen sCap m : Nat) (news : List Value) (hm : Nat.min sLen dLen = m)
    (hf : (Builtin.firstCells size m (.slice a sLen sCap)).run P w = .ok news.toArray w) (h1 : ∀ v ∈ news, v.oneCell' = true) {vs : List Value} {et : TypeId} (hb : w.heap[b]? = some (.cells vs.toArray et (0, 0))) (hfit : o + news.length ≤ vs.length) :
    (Builtin.copy_ #[t, t] ty #[.slice (some ⟨b, o, none⟩) dLen dCap, .slice a sLen sCap]).run P w = .ok (goInt m) (w.setRow b (splice vs o news).toArray) := by
  have hst := run_storeCells_at P b o et news 0 vs.toArray w hb (by simpa using hfit) h1
  simp only [Nat.add_zero] at hst
  have e : (splice vs o news).toArray = (vs.toArray.toList.take o ++ news ++ vs.toArray.toList.drop (o + news.length)).toArray := by simp [splice]
  rw [e]
  subst hm
  simp [Builtin.copy_, run_underlying ht, hz, Builtin.lenOf, hf, hst]
theorem eat_done {P : Program} {t : Ty} {w w' : World} {Ok B H : Nat → Prop} (hH : ∀ b, H b → (w.heap.size ≤ b ∨ B b) ∧ b < w'.heap.size) (hBO : ∀ b, B b → ¬ Ok b) (hsz : w.heap.size ≤ w'.heap.size)
    (hother : ∀ b, b < w.heap.size → ¬ B b → w'.heap[b]? = w.heap[b]?) (hio : SameIO w w') {blk off len cap : Nat} (hblk : H blk) {us : List Value} {et : TypeId} (hb : w'.heap[blk]? = some (.cells us.toArray et (0, 0))) (hfit : off + cap * t.size ≤ us.length)
    (hlc : len ≤ cap) {cs : List Value} {ys : List t.den} (hs : Segs t.size (RepC P t w Ok) cs ys) (hc : ∀ q, q < cs.length → us[off + q]? = cs[q]?) (hl : ys.length = len) :
    ∃ us g', Ending.returned (.slice (some ⟨blk, off, none⟩) len cap) = .returned (resV [.sl t] us) ∧
      RepX P w' (fun b => (w.heap.size ≤ b ∨ Ok b) ∧ g' b = none) (clR g') (pk [.sl t]) 0 us ys (ownMarks (pk [.sl t])) ∧
      w.heap.size ≤ w'.heap.size ∧ (∀ b, b < w.heap.size → ¬ B b → w'.heap[b]? = w.heap[b]?) ∧ (∀ b, g' b ≠ none → (w.heap.size ≤ b ∨ B b) ∧ b < w'.heap.size) ∧ SameIO w w' := by
  classical
  have hg : ∀ b, (if H b then some 0 else none : Option Nat) ≠ none → H b := by
    intro b hb
    by_cases h : H b
    · exact h
    · rw [if_neg h] at hb; exact absurd rfl hb
  refine ⟨[.slice (some ⟨blk, off, none⟩) len cap], fun b => if H b then some 0 else none, rfl, ⟨_, _, _, .own, rfl, rfl, ?_⟩, hsz, hother, fun b hb => hH b (hg b hb), hio⟩
  show HoldS _ _ _ _ _ _ _ _ ∧ True
  have hmono : Mono w Ok w' (fun b => (w.heap.size ≤ b ∨ Ok b) ∧ (if H b then some 0 else none : Option Nat) = none) := by
    refine ⟨hsz, fun b hlt hok => ⟨hother b hlt fun h => hBO b h hok, .inr hok, if_neg fun h => ?_⟩⟩
    rcases (hH b h).1 with h1 | h1
    · omega
    · exact hBO b h1 hok
  refine ⟨⟨hl, hlc, .inr ⟨_, rfl, rfl, if_pos hblk, ⟨_, _, hb, by simpa using hfit⟩, ?_⟩⟩, trivial⟩
  exact (hs.mono fun _ _ => RepC.mono t hmono).rows fun q hq => by
    rw [cell_of_block hb]
    exact hc q hq
def insD (x : List Rd × Int × List Rd) : Option (List Rd) :=
  bif decide (0 ≤ x.2.1) && (decide (x.2.1 ≤ (x.1.length : Int)) && (Nat.beq x.2.2.length 1 && Nat.ble ((x.1.length + 1) * 56) appendLimit)) then some (x.1.take x.2.1.toNat ++ x.2.2 ++ x.1.drop x.2.1.toNat) else none
theorem segs_take {α : Type} {size : Nat} {R : List Value → α → Prop} {cs : List Value} {xs : List α} (h : Segs size R cs xs) (n : Nat) (hn : n ≤ xs.length) : Segs size R (cs.take (n * size)) (xs.take n) := by
  have hle : n * size ≤ xs.length * size := Nat.mul_le_mul_right _ hn
  refine ⟨by rw [List.length_take, List.length_take, h.1, Nat.min_eq_left hle, Nat.min_eq_left hn], fun i hi => ?_⟩
  rw [List.length_take] at hi
  have h2 := h.2 i (by omega)
  rw [List.getElem_take]
  have : (i + 1) * size ≤ n * size := Nat.mul_le_mul_right _ (by omega)
  rw [Nat.add_mul] at this
  rw [List.drop_take, List.take_take, Nat.min_eq_left (by omega)]
  exact h2
theorem segs_drop {α : Type} {size : Nat} {R : List Value → α → Prop} {cs : List Value} {xs : List α} (h : Segs size R cs xs) (n : Nat) : Segs size R (cs.drop (n * size)) (xs.drop n) := by
  refine ⟨by rw [List.length_drop, List.length_drop, h.1, ← Nat.sub_mul], fun i hi => ?_⟩
  rw [List.length_drop] at hi
  have h2 := h.2 (n + i) (by omega)
  rw [List.getElem_drop, List.drop_drop, ← Nat.add_mul]
  exact h2
theorem first_at {P : Program} {W : World} {ad : Addr} (hsp : ad.spot = none) {cs : List Value} {size n : Nat} (len cap : Nat) (hl : cs.length = n * size) (hc : ∀ q, q < cs.length → W.cell? ⟨ad.block, ad.off + q, none⟩ = cs[q]?) :
    (Builtin.firstCells size n (.slice (some ad) len cap)).run P W = .ok cs.toArray W :=
  run_firstCells_some W size n ad len cap cs hl fun j v hj => by
    have hlt : j < cs.length := by
      rcases Nat.lt_or_ge j cs.length with h | h
      · exact h
      · rw [List.getElem?_eq_none h] at hj; cases hj
    rw [addr_add hsp, hc j hlt, hj]
theorem mid_get {olds news : List Value} {n i q : Nat} (hol : olds.length = n * 7) (hnl : news.length = 7) (hi : i ≤ n) (_ : q < (n + 1) * 7) :
    (olds.take (i * 7) ++ news ++ olds.drop (i * 7))[q]? = if q < i * 7 then olds[q]? else if q < i * 7 + 7 then news[q - i * 7]? else olds[q - 7]? := by
  have hle : i * 7 ≤ n * 7 := Nat.mul_le_mul_right _ hi
  have hlt : (olds.take (i * 7)).length = i * 7 := by rw [List.length_take, hol]; omega
  by_cases h1 : q < i * 7
  · rw [if_pos h1, List.append_assoc, List.getElem?_append_left (by rw [hlt]; exact h1), List.getElem?_take_of_lt h1]
  · rw [if_neg h1]
    by_cases h2 : q < i * 7 + 7
    · rw [if_pos h2, List.getElem?_append_left (by rw [List.length_append, hlt, hnl]; exact h2), List.getElem?_append_right (by rw [hlt]; omega), hlt]
    · rw [if_neg h2, List.getElem?_append_right (by rw [List.length_append, hlt, hnl]; omega), List.length_append, hlt, hnl, List.getElem?_drop]
      congr 1; omega
theorem run_builtin2 {P : Program} {w w' : World} {ts : Array TypeId} {ty : TypeId} {cs : Array Bool} {args : Array Value} {v : Value} : ((Builtin.copy_ ts ty args).run P w = .ok v w' → (builtin .copy ts ty cs args).run P w = .ok (.value v) w') ∧ ((Builtin.append_ ts ty args).run P w = .ok v w' → (builtin .append ts ty cs args).run P w = .ok (.value v) w') := by
  constructor
  · intro h; rw [BigFrame.builtin_copy]; simp only [Sem.run_bind, h, Result.andThen_ok, Sem.run_pure]
  · intro h; rw [BigFrame.builtin_append]; simp only [Sem.run_bind, h, Result.andThen_ok, Sem.run_pure]
theorem ins_eats : EatDoes Try.prog 36 [.sl rideTy, .int .i64, .sl rideTy] [.sl rideTy] insD := by
  intro w Ok B cs x y hX hBO hBs hy
  obtain ⟨xs, i, ys⟩ := x
  simp only [insD] at hy
  cases hcond : (decide (0 ≤ i) && (decide (i ≤ (xs.length : Int)) && (Nat.beq ys.length 1 && Nat.ble ((xs.length + 1) * 56) appendLimit))) with
  | false => rw [hcond] at hy; cases hy
  | true =>
  rw [hcond, cond_true] at hy
  simp only [Bool.and_eq_true, decide_eq_true_eq] at hcond
  obtain ⟨hi0, hil, hy1, hlim⟩ := hcond
  have hy1 := Nat.eq_of_beq_eq_true hy1
  have hlim : (xs.length + 1) * 56 ≤ 140737488355328 := Nat.le_of_ble_eq_true hlim
  obtain ⟨i, rfl⟩ : ∃ n : Nat, i = n := ⟨Int.toNat i, (Int.toNat_of_nonneg hi0).symm⟩
  have hil : i ≤ xs.length := Int.ofNat_le.1 hil
  simp only [Int.toNat_natCast, Option.some.injEq] at hy
  subst hy
  obtain ⟨c1, c2, m1, m2, rfl, hm, hX1, hX2⟩ := hX
  obtain ⟨a, len, cap, m, rfl, rfl, hsay⟩ := hX1
  obtain ⟨c3, c4, m3, m4, rfl, rfl, hX3, hX4⟩ := hX2
  obtain ⟨q3, rfl, hX3⟩ := hX3
  have e3 : c3 = [.int .i64 i] := hX3
  subst e3
  obtain ⟨va, vlen, vcap, m5, rfl, rfl, hsay2⟩ := hX4
  simp only [eatMarks, shrMarks, List.cons_append, List.nil_append, List.cons.injEq] at hm
  obtain ⟨rfl, _, rfl, _⟩ := hm
  simp only [clE, Claim.says] at hsay hsay2
  obtain ⟨⟨hl, hlc, hblk⟩, _⟩ := hsay
  obtain ⟨⟨hvl, hvc, hvb⟩, _⟩ := hsay2
  have hv1 : vlen = 1 := by omega
  subst hv1
  subst hl
  have hvb := hvb.resolve_left (by decide)
  obtain ⟨vad, rfl, hvsp, hvlt, hvok, hvrows⟩ := hvb
  obtain ⟨i0, hti, htz, htis, htib⟩ := info_parts i26
  obtain ⟨news, hsegv, hcv⟩ := hvrows.segs (by decide)
  have hnl : news.length = 7 := by rw [hsegv.1, hy1]; rfl
  have hone := hsegv.oneCell (by decide)
  have hlim2 : xs.length + 1 ≤ maxLen := by rw [maxLen_val]; omega
  have hfv : ∀ (W : World), W.heap[vad.block]? = w.heap[vad.block]? → (Builtin.firstCells 7 1 (.slice (some vad) 1 vcap)).run Try.prog W = .ok news.toArray W := fun W hW =>
    first_at hvsp 1 vcap (by rw [hnl]) fun q hq => by rw [cell_congr hW]; exact hcv q hq
  have hcl : ∀ j u, news[j]? = some u → w.cell? (vad.add j) = some u := fun j u hj => by
    have hlt : j < news.length := by
      rcases Nat.lt_or_ge j news.length with h | h
      · exact h
      · rw [List.getElem?_eq_none h] at hj; cases hj
    rw [addr_add hvsp, hcv j hlt, hj]
  have hsrc : Src Try.prog 7 24 (.slice (some vad) 1 vcap) 1 news w := Src.ofSlice w u22 vad 1 vcap news (by rw [hnl]) hcl hone
  obtain ⟨olds, hsego, hfo, hco⟩ : ∃ olds : List Value, Segs 7 (RepC Try.prog rideTy w Ok) olds xs ∧ (Builtin.firstCells 7 xs.length (.slice a xs.length cap)).run Try.prog w.drew = .ok olds.toArray w.drew ∧
      (0 < cap → ∃ b off, a = some ⟨b, off, none⟩ ∧ B b ∧ (∃ vs : List Value, ∃ e, w.heap[b]? = some (.cells vs.toArray e (0, 0)) ∧ off + cap * 7 ≤ vs.length) ∧ ∀ q, q < olds.length → w.cell? ⟨b, off + q, none⟩ = olds[q]?) := by
    rcases hblk with h0 | ⟨⟨b, off, sp⟩, rfl, rfl, hown, ⟨vs, et, hbk, hbfit⟩, hrows⟩
    · have hx : xs = [] := List.eq_nil_of_length_eq_zero (by omega)
      subst hx
      refine ⟨[], ⟨rfl, fun i hi => by cases hi⟩, ?_, fun h => by omega⟩
      cases a with
      | none => exact run_firstCells_none w.drew _ _ _ _
      | some ad => exact run_firstCells_some w.drew _ _ ad 0 cap [] (by simp) (by simp)
    · obtain ⟨olds, h1, h2⟩ := hrows.segs (by decide)
      refine ⟨olds, h1, first_at (ad := ⟨b, off, none⟩) rfl _ _ h1.1 (fun q hq => h2 q hq), fun _ => ⟨b, off, rfl, hown, ⟨vs.toList, et, by simpa using hbk, by rw [Array.length_toList]; exact hbfit⟩, h2⟩⟩
  have hol : olds.length = xs.length * 7 := hsego.1
  have honeo := hsego.oneCell (by decide)
  have hsegR : Segs 7 (RepC Try.prog rideTy w Ok) (olds.take (i * 7) ++ news ++ olds.drop (i * 7)) (xs.take i ++ ys ++ xs.drop i) := ((segs_take hsego i hil).append hsegv).append (segs_drop hsego i)
  have hlenR : (xs.take i ++ ys ++ xs.drop i).length = xs.length + 1 := by
    rw [List.length_append, List.length_append, List.length_take, List.length_drop, hy1]; omega
  have hmul : i * 7 ≤ xs.length * 7 := Nat.mul_le_mul_right _ hil
  show Calls Try.prog 36 #[.slice a xs.length cap, .int .i64 i, .slice (some vad) 1 vcap] w _
  rcases Nat.lt_or_ge cap (xs.length + 1) with hroom | hroom
  · -- no room
    have hfit := growslice_fits (need := xs.length + 1) (old := cap) (bytes := i0.bytes) hroom (by rw [htib]; exact hlim)
    have hge := grownCap_ge w (xs.length + 1) cap 40
    have hge7 : (xs.length + 1) * 7 ≤ grownCap w (xs.length + 1) cap 40 * 7 := Nat.mul_le_mul_right _ hge
    have fin : ∀ (w' : World) (us : List Value) (gcap : Nat), (w'.heap[w.heap.size]? = some (.cells us.toArray 40 (0, 0))) → w'.heap.size = w.heap.size + 1 → (∀ b, b < w.heap.size → w'.heap[b]? = w.heap[b]?) → SameIO w w' → xs.length + 1 ≤ gcap → gcap * 7 ≤ us.length →
        (∀ q, q < (xs.length + 1) * 7 → us[q]? = (olds.take (i * 7) ++ news ++ olds.drop (i * 7))[q]?) →
        ∃ us g', Ending.returned (.slice (some ⟨w.heap.size, 0, none⟩) (xs.length + 1) gcap) = .returned (resV [.sl rideTy] us) ∧
          RepX Try.prog w' (fun b => (w.heap.size ≤ b ∨ Ok b) ∧ g' b = none) (clR g') (pk [.sl rideTy]) 0 us (xs.take i ++ ys ++ xs.drop i) (ownMarks (pk [.sl rideTy])) ∧
          w.heap.size ≤ w'.heap.size ∧ (∀ b, b < w.heap.size → ¬ B b → w'.heap[b]? = w.heap[b]?) ∧ (∀ b, g' b ≠ none → (w.heap.size ≤ b ∨ B b) ∧ b < w'.heap.size) ∧ SameIO w w' :=
      fun w' us gcap hb hsz hoth hio hg hus hc => eat_done (H := fun b => b = w.heap.size) (fun b e => by subst e; exact ⟨.inl (Nat.le_refl _), by omega⟩) hBO (by omega) (fun b h1 _ => hoth b h1) hio rfl hb (by rw [Nat.zero_add]; exact hus) hg hsegR
        (fun q hq => by rw [Nat.zero_add]; refine hc q ?_; rw [hsegR.1, hlenR] at hq; exact hq) hlenR
    have zlen : ∀ n, (Builtin.zeroCells (Value.agg #[.int .i64 0, .int .i64 0, .int .i64 0, .int .i64 0, .int .i64 0, .int .i64 0, .int .i64 0]).cells n).size = n * 7 := fun n => by rw [size_zeroCells]; rfl
    have harr : ∀ (A : Array Value), A = A.toList.toArray := fun A => by simp
    rcases Nat.lt_or_ge i xs.length with hlt | hge2
    · obtain ⟨b, off, rfl, hown, ⟨vs, et, hbk, hbfit⟩, hco⟩ := hco (by omega)
      have hbN : b < w.heap.size := hBs b hown
      have hvb : vad.block ≠ b := fun e => hBO b hown (e ▸ hvok)
      obtain ⟨k, hk⟩ : ∃ k, i + k = xs.length + 1 := ⟨xs.length + 1 - i, by omega⟩
      have hkI : ((xs.length : Int) + 1 - i) = (k : Int) := by omega
      have hfd : (Builtin.firstCells i0.size i (.slice (some ⟨b, off, none⟩) i cap)).run Try.prog w.drew = .ok (olds.take (i * 7)).toArray w.drew := by
        rw [htis]
        refine first_at (ad := ⟨b, off, none⟩) rfl _ _ (by rw [List.length_take, hol]; omega) fun q hq => ?_
        rw [List.length_take, hol] at hq
        rw [List.getElem?_take_of_lt (by omega)]
        exact hco q (by omega)
      have hap := fun ty => run_append_grow_zeros (P := Try.prog) w 24 3 ty 40 i0 _ .i64 .i64 u22 u3 hti htz (some ⟨b, off, none⟩) i cap (olds.take (i * 7)) hfd k (by omega) (by rw [htis]; decide) (by omega) (by rw [maxLen_val] at hlim2; omega)
        (by rw [htib]; omega) (by rw [hk]; exact hfit)
      rw [hk] at hap
      obtain ⟨L1, hL1⟩ : ∃ L1, L1 = ((olds.take (i * 7)).toArray ++ Builtin.zeroCells (Value.agg #[.int .i64 0, .int .i64 0, .int .i64 0, .int .i64 0, .int .i64 0, .int .i64 0, .int .i64 0]).cells k ++ Builtin.zeroCells (Value.agg #[.int .i64 0, .int .i64 0, .int .i64 0, .int .i64 0, .int .i64 0, .int .i64 0, .int .i64 0]).cells (grownCap w (xs.length + 1) cap 40 - (xs.length + 1))).toList := ⟨_, rfl⟩
      have hL1l : L1.length = grownCap w (xs.length + 1) cap 40 * 7 := by
        rw [hL1, Array.length_toList, Array.size_append, Array.size_append, zlen, zlen, List.size_toArray, List.length_take, hol, Nat.sub_mul]
        omega
      have hL1g : ∀ q, q < i * 7 → L1[q]? = olds[q]? := fun q hq => by
        rw [hL1, Array.getElem?_toList, Array.getElem?_append_left (by rw [Array.size_append, List.size_toArray, List.length_take, hol]; omega), Array.getElem?_append_left (by rw [List.size_toArray, List.length_take, hol]; omega), List.getElem?_toArray, List.getElem?_take_of_lt hq]
      obtain ⟨W1, hW1⟩ : ∃ W1, W1 = w.drew.alloc (.cells L1.toArray 40) := ⟨_, rfl⟩
      have hap : ∀ ty, (Builtin.append_ #[24, 3] ty #[.slice (some ⟨b, off, none⟩) i cap, .int .i64 ((xs.length : Int) + 1 - i)]).run Try.prog w = .ok (.slice (some ⟨w.heap.size, 0, none⟩) (xs.length + 1) (grownCap w (xs.length + 1) cap 40)) W1 := fun ty => by
        rw [hkI, hap ty, hW1, hL1, ← harr]
      have hb1 : W1.heap[w.heap.size]? = some (.cells L1.toArray 40 (0, 0)) := by rw [hW1]; exact heap_alloc_new w.drew _
      have ho1 : ∀ c, c < w.heap.size → W1.heap[c]? = w.heap[c]? := fun c hc => by rw [hW1]; exact heap_alloc_old w.drew _ hc
      have hc1 := fun ty => run_copy_at (P := Try.prog) (w := W1) 24 ty 40 7 u22 z26 w.heap.size (i * 7) (xs.length + 1 - i) (grownCap w (xs.length + 1) cap 40 - i) (some vad) 1 vcap 1 news (Nat.min_eq_left (by omega)) (hfv W1 (ho1 _ hvlt)) hone hb1 (by rw [hL1l, hnl]; omega)
      obtain ⟨W2, hW2⟩ : ∃ W2, W2 = W1.setRow w.heap.size (splice L1 (i * 7) news).toArray := ⟨_, rfl⟩
      rw [← hW2] at hc1
      have hl2 : (splice L1 (i * 7) news).length = L1.length := splice_length _ _ _ (by rw [hL1l, hnl]; omega)
      have hb2 : W2.heap[w.heap.size]? = some (.cells (splice L1 (i * 7) news).toArray 40 (0, 0)) := by rw [hW2]; exact setRow_heap W1 _ _ _ 40 _ hb1
      have ho2 : ∀ c, c < w.heap.size → W2.heap[c]? = w.heap[c]? := fun c hc => by rw [hW2, setRow_other W1 _ _ _ (by omega)]; exact ho1 c hc
      have htl : (olds.drop (i * 7)).length = (xs.length - i) * 7 := by rw [List.length_drop, hol, Nat.sub_mul]
      have hft : (Builtin.firstCells 7 (xs.length - i) (.slice (some ⟨b, off + i * 7, none⟩) (xs.length - i) (cap - i))).run Try.prog W2.drew = .ok (olds.drop (i * 7)).toArray W2.drew := by
        refine first_at (ad := ⟨b, off + i * 7, none⟩) rfl _ _ htl fun q hq => ?_
        rw [List.length_drop] at hq
        show W2.cell? ⟨b, off + i * 7 + q, none⟩ = _
        rw [List.getElem?_drop, cell_congr (ho2 b hbN), Nat.add_assoc]
        exact hco _ (by omega)
      have hc2 := fun ty => run_copy_at (P := Try.prog) (w := W2.drew) 24 ty 40 7 u22 z26 w.heap.size ((i + 1) * 7) (xs.length - i) (grownCap w (xs.length + 1) cap 40 - (i + 1)) (some ⟨b, off + i * 7, none⟩) (xs.length - i) (cap - i) (xs.length - i) (olds.drop (i * 7)) (Nat.min_self _) hft
        (fun v hv => honeo v (List.mem_of_mem_drop hv)) hb2 (by rw [hl2, hL1l, htl, Nat.sub_mul]; omega)
      refine (insB b off xs.length cap i w.heap.size (grownCap w (xs.length + 1) cap 40) (some vad) vcap w W1 W2 _ _ _ hlt hlc hge hlim2 hroom (fun ty cs => run_builtin2.2 (hap ty)) (fun ty cs => run_builtin2.1 (hc1 ty)) (fun ty cs => run_builtin2.1 (hc2 ty))).mono ?_
      rintro e w' ⟨rfl, rfl⟩
      have hin : (i + 1) * 7 + (olds.drop (i * 7)).length ≤ (splice L1 (i * 7) news).length := by rw [hl2, hL1l, htl, Nat.sub_mul]; omega
      refine fin _ (splice (splice L1 (i * 7) news) ((i + 1) * 7) (olds.drop (i * 7))) _ (setRow_heap W2.drew _ _ _ 40 _ hb2) (by rw [size_setRow]; show W2.heap.size = _; rw [hW2, size_setRow, hW1, World.size_alloc]; rfl)
        (fun c hc => by rw [setRow_other W2.drew _ _ _ (by omega)]; exact ho2 c hc) (by rw [hW2, hW1]; exact ⟨rfl, rfl, rfl, by first | exact Nat.le_refl _ | exact Nat.le_succ _ | exact Nat.le_add_right _ 2 | (show w.drawn ≤ w.drawn + 1 + 1; omega) | (simp; done) | (simp; omega)⟩) hge (by rw [splice_length _ _ _ hin, hl2, hL1l]; exact Nat.le_refl _) (fun q hq => ?_)
      rw [mid_get hol hnl hil hq, getElem?_splice _ _ _ _ hin, getElem?_splice _ _ _ _ (by rw [hL1l, hnl]; omega), hnl, htl, Nat.sub_mul]
      by_cases h1 : q < i * 7
      · rw [if_pos (by omega), if_pos h1, if_pos h1, hL1g q h1]
      · by_cases h2 : q < i * 7 + 7
        · rw [if_pos (by omega), if_neg h1, if_pos h2, if_neg h1, if_pos h2]
        · rw [if_neg (by omega), if_pos (by omega), if_neg h1, if_neg h2, List.getElem?_drop]
          congr 1; omega
    · have hie : i = xs.length := by omega
      subst hie
      have hap := fun ty => run_append_grow_src (P := Try.prog) w 24 24 ty 40 i0 _ u22 hti htz a xs.length cap olds (by rw [htis]; exact hfo) (.slice (some vad) 1 vcap) 1 news (by rw [htis]; exact hsrc) hroom (by rw [maxLen_val] at hlim2; omega) hfit
      refine (insA a (some vad) xs.length cap vcap w _ _ (fun ty cs => run_builtin2.2 (hap ty)) hlc).mono ?_
      rintro e w' ⟨rfl, rfl⟩
      obtain ⟨L, hL⟩ : ∃ L, L = ((olds ++ news).toArray ++ Builtin.zeroCells (Value.agg #[.int .i64 0, .int .i64 0, .int .i64 0, .int .i64 0, .int .i64 0, .int .i64 0, .int .i64 0]).cells (grownCap w (xs.length + 1) cap 40 - (xs.length + 1))).toList := ⟨_, rfl⟩
      refine fin _ L (grownCap w (xs.length + 1) cap 40) ?_ (by rw [World.size_alloc]; rfl) (fun b hb => heap_alloc_old w.drew _ hb) ⟨rfl, rfl, rfl, by first | exact Nat.le_refl _ | exact Nat.le_succ _ | exact Nat.le_add_right _ 2 | (show w.drawn ≤ w.drawn + 1 + 1; omega) | (simp; done) | (simp; omega)⟩ hge ?_ (fun q hq => ?_)
      · rw [hL, ← harr]; exact heap_alloc_new w.drew _
      · have hLl : L.length = (xs.length * 7 + 7) + (grownCap w (xs.length + 1) cap 40 - (xs.length + 1)) * 7 := by
          rw [hL, Array.length_toList, Array.size_append, zlen, List.size_toArray, List.length_append, hol, hnl]
        rw [hLl, Nat.sub_mul]
        omega
      · rw [hL, Array.getElem?_toList, Array.getElem?_append_left (by rw [List.size_toArray, List.length_append, hol, hnl]; omega), List.getElem?_toArray, ← hol, List.take_length, List.drop_length, List.append_nil]
  · -- room
    obtain ⟨b, off, rfl, hown, ⟨vs, et, hbk, hbfit⟩, hco⟩ := hco (by omega)
    have hbN : b < w.heap.size := hBs b hown
    have hvb : vad.block ≠ b := fun e => hBO b hown (e ▸ hvok)
    have hcap7 : (xs.length + 1) * 7 ≤ cap * 7 := Nat.mul_le_mul_right _ hroom
    have fin : ∀ (w' : World) (us : List Value), (w'.heap[b]? = some (.cells us.toArray et (0, 0))) → w'.heap.size = w.heap.size → (∀ c, c ≠ b → w'.heap[c]? = w.heap[c]?) → SameIO w w' → us.length = vs.length →
        (∀ q, q < (xs.length + 1) * 7 → us[off + q]? = (olds.take (i * 7) ++ news ++ olds.drop (i * 7))[q]?) →
        ∃ us g', Ending.returned (.slice (some ⟨b, off, none⟩) (xs.length + 1) cap) = .returned (resV [.sl rideTy] us) ∧
          RepX Try.prog w' (fun b => (w.heap.size ≤ b ∨ Ok b) ∧ g' b = none) (clR g') (pk [.sl rideTy]) 0 us (xs.take i ++ ys ++ xs.drop i) (ownMarks (pk [.sl rideTy])) ∧
          w.heap.size ≤ w'.heap.size ∧ (∀ b, b < w.heap.size → ¬ B b → w'.heap[b]? = w.heap[b]?) ∧ (∀ b, g' b ≠ none → (w.heap.size ≤ b ∨ B b) ∧ b < w'.heap.size) ∧ SameIO w w' :=
      fun w' us hb hsz hoth hio hus hc => eat_done (H := B) (fun c hc => ⟨.inr hc, by rw [hsz]; exact hBs c hc⟩) hBO (by omega) (fun c h1 h2 => hoth c (fun e => h2 (e ▸ hown))) hio hown hb (by rw [hus]; exact hbfit) hroom hsegR
        (fun q hq => hc q (by rw [hsegR.1, hlenR] at hq; exact hq)) hlenR
    have hvsq : ∀ q, q < xs.length * 7 → vs[off + q]? = olds[q]? := fun q hq => by rw [← hco q (by omega), cell_of_block hbk]
    rcases Nat.lt_or_ge i xs.length with hlt | hge2
    · have htl : (olds.drop (i * 7)).length = (xs.length - i) * 7 := by rw [List.length_drop, hol, Nat.sub_mul]
      have hft : (Builtin.firstCells 7 (xs.length - i) (.slice (some ⟨b, off + i * 7, none⟩) (xs.length + 1 - i) (cap - i))).run Try.prog w.drew = .ok (olds.drop (i * 7)).toArray w.drew := by
        refine first_at (ad := ⟨b, off + i * 7, none⟩) rfl _ _ htl fun q hq => ?_
        rw [List.length_drop] at hq
        show w.cell? ⟨b, off + i * 7 + q, none⟩ = _
        rw [List.getElem?_drop, Nat.add_assoc]
        exact hco _ (by omega)
      have hbd : w.drew.heap[b]? = some (.cells vs.toArray et (0, 0)) := hbk
      have hin1 : off + (i + 1) * 7 + (olds.drop (i * 7)).length ≤ vs.length := by rw [htl, Nat.sub_mul]; omega
      have hc1 := fun ty => run_copy_at (P := Try.prog) (w := w.drew) 24 ty 40 7 u22 z26 b (off + (i + 1) * 7) (xs.length - i) (cap - (i + 1)) (some ⟨b, off + i * 7, none⟩) (xs.length + 1 - i) (cap - i) (xs.length - i) (olds.drop (i * 7)) (Nat.min_eq_right (by omega)) hft
        (fun v hv => honeo v (List.mem_of_mem_drop hv)) hbd hin1
      obtain ⟨W2, hW2⟩ : ∃ W2, W2 = w.drew.setRow b (splice vs (off + (i + 1) * 7) (olds.drop (i * 7))).toArray := ⟨_, rfl⟩
      rw [← hW2] at hc1
      have hl2 := splice_length _ _ _ hin1
      have hb2 : W2.heap[b]? = some (.cells (splice vs (off + (i + 1) * 7) (olds.drop (i * 7))).toArray et (0, 0)) := by rw [hW2]; exact setRow_heap w.drew _ _ _ et _ hbd
      have ho2 : ∀ c, c ≠ b → W2.heap[c]? = w.heap[c]? := fun c hc => by rw [hW2]; exact setRow_other w.drew _ _ _ hc
      have hin2 : off + i * 7 + news.length ≤ (splice vs (off + (i + 1) * 7) (olds.drop (i * 7))).length := by rw [hl2, hnl]; omega
      have hc2 := fun ty => run_copy_at (P := Try.prog) (w := W2) 24 ty 40 7 u22 z26 b (off + i * 7) (xs.length + 1 - i) (cap - i) (some vad) 1 vcap 1 news (Nat.min_eq_left (by omega)) (hfv W2 (ho2 _ hvb)) hone hb2 hin2
      have hov : (callFunc 72 #[.slice (some vad) 1 vcap, .slice (some ⟨b, off + (i + 1) * 7, none⟩) (xs.length - i) (cap - (i + 1))]).run Try.prog w = .ok (.value (.bool false)) w := by
        have hvc0 : ∃ c, w.cell? ⟨vad.block, vad.off + 0, none⟩ = some c := by
          rw [hcv 0 (by omega), List.getElem?_eq_getElem (by omega)]; exact ⟨_, rfl⟩
        obtain ⟨tA, kA, hsa, hkA⟩ : ∃ tA kA, w.shape? vad.block = some (tA, kA) ∧ kA ≠ 0 := by
          obtain ⟨c, hc⟩ := hvc0
          unfold World.cell? at hc
          unfold World.shape?
          cases hh : w.heap[vad.block]? with
          | none => rw [hh] at hc; simp at hc
          | some ob =>
            rw [hh] at hc
            cases ob with
            | cells us e fz =>
              refine ⟨_, _, rfl, fun h0 => ?_⟩
              simp at hc
              have : us = #[] := by simpa using h0
              subst this
              simp at hc
            | _ => simp at hc
        rw [run_callFunc_extern Try.func72 (by kernel_rfl) (by kernel_rfl) (by kernel_rfl) (e := Extern.SlicesOverlaps.overlaps #[24, 24] #[4]) (by kernel_rfl),
          run_overlaps_own w 24 4 40 u22 7 z26 vad ⟨b, off + (i + 1) * 7, none⟩ 1 vcap (xs.length - i) (cap - (i + 1)) hvb tA et kA vs.length hsa (by simp [World.shape?, hbk]) hkA (by omega) (by simp [World.frozen?, hbk]) (by simp [World.frozen?, hbk])]
        rfl
      refine (insC b off xs.length cap i (some vad) vcap w W2 _ _ _ hlt hlim2 hroom hov (fun ty cs => run_builtin2.1 (hc1 ty)) (fun ty cs => run_builtin2.1 (hc2 ty))).mono ?_
      rintro e w' ⟨rfl, rfl⟩
      refine fin _ (splice (splice vs (off + (i + 1) * 7) (olds.drop (i * 7))) (off + i * 7) news) (setRow_heap W2 _ _ _ et _ hb2) (by rw [size_setRow, hW2, size_setRow]; rfl)
        (fun c hc => by rw [setRow_other W2 _ _ _ hc]; exact ho2 c hc) (by rw [hW2]; exact ⟨rfl, rfl, rfl, by first | exact Nat.le_refl _ | exact Nat.le_succ _ | exact Nat.le_add_right _ 2 | (show w.drawn ≤ w.drawn + 1 + 1; omega) | (simp; done) | (simp; omega)⟩) (by rw [splice_length _ _ _ hin2, hl2]) (fun q hq => ?_)
      rw [mid_get hol hnl hil hq, getElem?_splice _ _ _ _ hin2, getElem?_splice _ _ _ _ hin1, hnl, htl, Nat.sub_mul]
      by_cases h1 : q < i * 7
      · rw [if_pos (by omega), if_pos (by omega), if_pos h1, hvsq q (by omega)]
      · by_cases h2 : q < i * 7 + 7
        · rw [if_neg (by omega), if_pos (by omega), if_neg h1, if_pos h2, show off + q - (off + i * 7) = q - i * 7 by omega]
        · rw [if_neg (by omega), if_neg (by omega), if_neg (by omega), if_pos (by omega), if_neg h1, if_neg h2, List.getElem?_drop, show i * 7 + (off + q - (off + (i + 1) * 7)) = q - 7 by omega]
    · have hie : i = xs.length := by omega
      subst hie
      have hin : off + xs.length * 7 + news.length ≤ vs.length := by rw [hnl]; omega
      have hap := fun ty => run_append_at (P := Try.prog) (w := w) 24 24 ty 40 7 u22 hti htis b off xs.length cap (.slice (some vad) 1 vcap) 1 news hsrc hroom hbk hin
      refine (insA (some ⟨b, off, none⟩) (some vad) xs.length cap vcap w _ _ (fun ty cs => run_builtin2.2 (hap ty)) hlc).mono ?_
      rintro e w' ⟨rfl, rfl⟩
      refine fin _ (splice vs (off + xs.length * 7) news) (setRow_heap w _ _ _ et _ hbk) (by rw [size_setRow]) (fun c hc => setRow_other w _ _ _ hc) ⟨rfl, rfl, rfl, by first | exact Nat.le_refl _ | exact Nat.le_succ _ | exact Nat.le_add_right _ 2 | (show w.drawn ≤ w.drawn + 1 + 1; omega) | (simp; done) | (simp; omega)⟩ (splice_length _ _ _ hin) (fun q hq => ?_)
      rw [mid_get hol hnl (Nat.le_refl _) hq, getElem?_splice _ _ _ _ hin, hnl]
      by_cases h1 : q < xs.length * 7
      · rw [if_pos (by omega), if_pos h1, hvsq q h1]
      · rw [if_neg (by omega), if_pos (by omega), if_neg h1, if_pos (by omega), show off + q - (off + xs.length * 7) = q - xs.length * 7 by omega]
end Go.Proofs.Ytbapfiaglcllnaa.D.Up
end
