import Derived.Test.YtcfneiladppfnaaProg
import Derived.Test.YtcfneiladppfnaaChecked
import Derived.Test.YtcfneiladppfnaaGDD
import Derived.Lib.Overlaps
import Derived.Lib.AppendZerosOnto
namespace Go.Proofs.Ytcfneiladppfnaa.D
open Go Go.GD Go.Proofs Go.RowKit Go.Shelf Go.Lib Go.Sort

theorem wpList_builtin {P : Program} {w w' : World} {ops : Array Oper} {rest : List Oper} {o : Oper} {a : Act} {Q : Exit → Act → World → Prop}
    (hg : o.guard = none) (b : Builtin) (s x : Operand) (t tx : TypeId) (hop : o.op = Op.call { callee := Callee.builtin b, args := #[s, x], argTypes := #[t, tx] })
    (sv xv v : Value) (hs : a.eval s = sv) (hx : a.eval x = xv) (hap : ∀ ty cs, (builtin b #[t, tx] ty cs #[sv, xv]).run P w = .ok (.value v) w') (hK : wpList P ops Q rest (a.put o.dst v) w') :
    wpList P ops Q (o :: rest) a w := by
  refine wpList_plain hg fun K hK' => ?_
  unfold Oper.wp
  simp [execOp, hop, resolve, invoke, hs, hx, hap]
  exact hK' _ _ hK

theorem step_builtin {P : Program} {ops : Array Oper} {o : Oper} {a : Act} {w w' : World} {K : Act → World → Prop} {Q : Exit → Act → World → Prop} {E : Prop}
    (hg : o.guard = none) (b : Builtin) (s x : Operand) (t tx : TypeId) (hop : o.op = Op.call { callee := Callee.builtin b, args := #[s, x], argTypes := #[t, tx] })
    (sv xv v : Value) (hs : a.eval s = sv) (hx : a.eval x = xv) (hap : ∀ ty cs, (builtin b #[t, tx] ty cs #[sv, xv]).run P w = .ok (.value v) w') (hK : K (a.put o.dst v) w') :
    if Region.wanted o (yielded ops a.tmps) = true then Oper.wp P o a w K Q else E := by
  have hw : Region.wanted o (yielded ops a.tmps) = true := by simp [Region.wanted, hg]
  rw [if_pos hw]
  unfold Oper.wp
  simp [execOp, hop, resolve, invoke, hs, hx, hap]
  exact hK

theorem run_overlaps_own {P : Program} (w : World) (tS tR e : TypeId) (ht : P.underlying tS = some (.slice e)) (size : Nat) (hz : ∀ w, (Go.sizeOf e).run P w = .ok size w)
    (a b : Addr) (la ca lb cb : Nat) (hne : a.block ≠ b.block) (tA tB : TypeId) (kA kB : Nat)
    (hsa : w.shape? a.block = some (tA, kA)) (hsb : w.shape? b.block = some (tB, kB)) (hkA : kA ≠ 0) (hkB : kB ≠ 0)
    (hfa : w.frozen? b = false) (hfe : w.frozen? { block := b.block, off := kB } = false) :
    (Extern.SlicesOverlaps.overlaps #[tS, tS] #[tR] #[.slice (some a) la ca, .slice (some b) lb cb]).run P w = .ok (.bool false) w := by
  have hnb : (a.block != b.block) = true := by simpa using hne
  have hnb' : (a.block == b.block) = false := by simpa using hne
  change Sem.run P (α := Value) (do
    let some t := (#[tS, tS] : Array TypeId)[0]? | stuck "slices.overlaps: no parameter types"
    let .slice elem ← underlying t | stuck "slices.overlaps: slice type expected"
    let size ← sizeOf elem
    match (some a : Option Addr), (some b : Option Addr) with
    | some a, some b =>
      if la = 0 ∨ lb = 0 ∨ size = 0 then pure (Value.bool false)
      else if a.block != b.block && (← frozen a) && (← frozen b) then unsupported .addressObserved
      else do
        if a.block != b.block then do
          noView a; noView b
          if ← mayBeOne a b then return Value.bool ((← choose (.extern "sameAddr.stringBytes" 2)) == 1)
        pure (Value.bool (a.block == b.block && a.off < b.off + lb * size && b.off < a.off + la * size))
    | _, _ => pure (Value.bool false)) w = _
  by_cases h0 : la = 0 ∨ lb = 0 ∨ size = 0
  · simp [run_underlying ht, hz, h0]
  · cases kB with
    | zero => exact absurd rfl hkB
    | succ kB =>
      cases kA with
      | zero => exact absurd rfl hkA
      | succ kA =>
      cases hA : w.frozen? a <;> cases hE : w.frozen? { block := a.block, off := kA + 1 } <;>
      simp [run_underlying ht, hz, h0, hnb, hnb', frozen, noView, viewAt, mayBeOne, stringish, shape, Sem.run, hsa, hsb, hfa, hfe, hA, hE]
set_option linter.unusedVariables false in
set_option maxHeartbeats 4000000 in
set_option maxRecDepth 1000000 in
/-- at the end: append -/
theorem insA (a v : Option Addr) (len cap vcap : Nat) (w W1 : World) (r : Value)
    (hap : ∀ ty cs, (builtin .append #[22, 22] ty cs #[.slice a len cap, .slice v 1 vcap]).run Try.prog w = .ok (.value r) W1) (hl : len ≤ cap) :
    Calls Try.prog 36 #[.slice a len cap, .int .i64 len, .slice v 1 vcap] w fun e w' => e = .returned r ∧ w' = W1 := by
  have hap2 : Hid _ := hap
  clear hap
  go_enter Try.func36, Try.ntmps36
  cases a with
  | none =>
    go_wp2_with (refine wpList_builtin rfl .append _ _ _ _ rfl _ _ _ rfl rfl hap2.out ?_)
    all_goals (go_ret; exact ⟨rfl, rfl⟩)
  | some ad =>
    go_wp2_with (refine wpList_builtin rfl .append _ _ _ _ rfl _ _ _ rfl rfl hap2.out ?_)
    all_goals (go_ret; exact ⟨rfl, rfl⟩)

end Go.Proofs.Ytcfneiladppfnaa.D
