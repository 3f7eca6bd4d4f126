import Derived.Test.YtbapfiaglcllnaaXH24all
section
namespace Go.Proofs.Ytbapfiaglcllnaa.D
open Go Go.GD Go.Proofs
structure Hp (B : List Nat) (H : Nat) (w0 : World) (o : Option Nat) (vals : Nat → List Value) (w : World) : Prop where
  lo : ∀ b, b ∈ B → w0.heap.size ≤ b ∧ b < H
  sz : H ≤ w.heap.size
  old : Later w0 w
  wH : w0.heap.size ≤ H
  at_ : ∀ b, b ∈ B → ∃ e, w.heap[b]? = some (.cells (vals b).toArray e (0, 0))
  hn : ∀ b, o = some b → H ≤ b ∧ b < w.heap.size
def putV (vals : Nat → List Value) (x : Nat) (cs : List Value) : Nat → List Value := fun b => if b = x then cs else vals b
theorem putV_same (vals : Nat → List Value) (x : Nat) (cs : List Value) : putV vals x cs x = cs := if_pos rfl
theorem putV_ne (vals : Nat → List Value) (x : Nat) (cs : List Value) {b : Nat} (h : b ≠ x) : putV vals x cs b = vals b := if_neg h
section
variable {B : List Nat} {H : Nat} {w0 w w1 : World} {o o' : Option Nat} {vals : Nat → List Value}
theorem Hp.later (h : Hp B H w0 o vals w) (k : Later w w1) : Hp B H w0 o vals w1 :=
  ⟨h.lo, Nat.le_trans h.sz k.1, h.old.trans k, h.wH, fun b hb => by
    obtain ⟨e, he⟩ := h.at_ b hb
    exact ⟨e, (k.2.1 b (heap_lt he)).trans he⟩, fun b hb => ⟨(h.hn b hb).1, Nat.lt_of_lt_of_le (h.hn b hb).2 k.1⟩⟩
theorem Hp.set (h : Hp B H w0 o vals w) {x : Nat} (hx : x ∈ B) (cs : List Value) : Hp B H w0 o (putV vals x cs) (w.setRow x cs.toArray) := by
  refine ⟨h.lo, by rw [setRow_size]; exact h.sz, ⟨by rw [setRow_size]; exact h.old.1, fun b hb => (setRow_other _ _ _ _ ?_).trans (h.old.2.1 b hb), h.old.2.2.trans ⟨rfl, rfl, rfl, Nat.le_refl _⟩⟩, h.wH, fun b hb => ?_, fun b hb => by rw [setRow_size]; exact h.hn b hb⟩
  · have := (h.lo x hx).1; omega
  · obtain ⟨e, he⟩ := h.at_ b hb
    by_cases hbx : b = x
    · subst hbx
      exact ⟨e, by rw [putV_same]; exact setRow_heap w b _ _ e _ he⟩
    · exact ⟨e, by rw [putV_ne _ _ _ hbx]; exact (setRow_other _ _ _ _ hbx).trans he⟩
theorem Hp.turn (h : Hp B H w0 o vals w) (hs : w.heap.size ≤ w1.heap.size) (hf : ∀ b, b < w.heap.size → o ≠ some b → w1.heap[b]? = w.heap[b]?) (hio : SameIO w w1)
    (hn' : ∀ b, o' = some b → (o = some b ∨ w.heap.size ≤ b) ∧ b < w1.heap.size) : Hp B H w0 o' vals w1 := by
  have hB : ∀ b, b ∈ B → o ≠ some b := fun b hb e => by
    have := (h.hn b e).1; have := (h.lo b hb).2; omega
  refine ⟨h.lo, Nat.le_trans h.sz hs, ⟨Nat.le_trans h.old.1 hs, fun b hb => (hf b (Nat.lt_of_lt_of_le hb h.old.1) fun e => ?_).trans (h.old.2.1 b hb), h.old.2.2.trans hio⟩, h.wH, fun b hb => ?_, fun b hb => ⟨?_, (hn' b hb).2⟩⟩
  · have := (h.hn b e).1; have := h.wH; omega
  · obtain ⟨e, he⟩ := h.at_ b hb
    exact ⟨e, (hf b (heap_lt he) (hB b hb)).trans he⟩
  · rcases (hn' b hb).1 with e | e
    · exact (h.hn b e).1
    · have := h.sz; omega
theorem Hp.cell (h : Hp B H w0 o vals w) {b : Nat} (hb : b ∈ B) (j : Nat) : w.cell? ⟨b, j, none⟩ = (vals b)[j]? := by
  obtain ⟨e, he⟩ := h.at_ b hb
  exact cell_of_block he
theorem Hp.cell1 (h : Hp B H w0 o vals w) {b : Nat} (hb : b ∈ B) {v : Value} (hv : vals b = [v]) : w.cell? ⟨b, 0, none⟩ = some v := by
  rw [h.cell hb, hv]; rfl
theorem Hp.row1 (h : Hp B H w0 o vals w) {b : Nat} (hb : b ∈ B) {v : Value} (hv : vals b = [v]) : ∃ e, w.heap[b]? = some (.cells #[v] e (0, 0)) := by
  obtain ⟨e, he⟩ := h.at_ b hb
  rw [hv] at he
  exact ⟨e, he⟩
end
def ShB (w0 : World) (Ok : Nat → Prop) (B : List Nat) (o : Option Nat) (b : Nat) : Prop := (Ok b ∧ b < w0.heap.size) ∨ (w0.heap.size ≤ b ∧ b ∉ B ∧ o ≠ some b)
section
variable {B : List Nat} {H : Nat} {w0 w w1 : World} {o o' : Option Nat} {vals : Nat → List Value} {Ok : Nat → Prop}
theorem shB_turn (h : Hp B H w0 o vals w) (hs : w.heap.size ≤ w1.heap.size) (hf : ∀ b, b < w.heap.size → b ∉ B → o ≠ some b → w1.heap[b]? = w.heap[b]?) (hn' : ∀ b, o' = some b → o = some b ∨ w.heap.size ≤ b) :
    Mono w (ShB w0 Ok B o) w1 (ShB w0 Ok B o') := by
  refine ⟨hs, fun b hb hk => ?_⟩
  rcases hk with ⟨h1, h2⟩ | ⟨h1, h2, h3⟩
  · refine ⟨hf b hb (fun e => by have := (h.lo b e).1; omega) fun e => ?_, .inl ⟨h1, h2⟩⟩
    have := (h.hn b e).1; have := h.wH; omega
  · refine ⟨hf b hb h2 h3, .inr ⟨h1, h2, fun e => ?_⟩⟩
    rcases hn' b e with k | k
    · exact h3 k
    · omega
theorem shB_later (h : Hp B H w0 o vals w) (k : Later w w1) : Mono w (ShB w0 Ok B o) w1 (ShB w0 Ok B o) := shB_turn h k.1 (fun b hb _ _ => k.2.1 b hb) fun _ e => .inl e
theorem shB_set (h : Hp B H w0 o vals w) {x : Nat} (hx : x ∈ B) (cs : Array Value) : Mono w (ShB w0 Ok B o) (w.setRow x cs) (ShB w0 Ok B o) :=
  shB_turn h (by rw [setRow_size]; exact Nat.le_refl _) (fun b _ hb _ => setRow_other _ _ _ _ fun e => hb (by rw [e]; exact hx)) fun _ e => .inl e
theorem own_later (k : Later w w1) : Mono w (fun b => o = some b) w1 (fun b => o = some b) := ⟨k.1, fun b hb hk => ⟨k.2.1 b hb, hk⟩⟩
theorem own_set (h : Hp B H w0 o vals w) {x : Nat} (hx : x ∈ B) (cs : Array Value) : Mono w (fun b => o = some b) (w.setRow x cs) (fun b => o = some b) :=
  ⟨by rw [setRow_size]; exact Nat.le_refl _, fun b _ hk => ⟨setRow_other _ _ _ _ fun e => by have := (h.hn b hk).1; have := (h.lo x hx).2; omega, hk⟩⟩
theorem shB_old (h : Hp B H w0 o vals w) : Mono w0 Ok w (ShB w0 Ok B o) := ⟨h.old.1, fun b hb hk => ⟨h.old.2.1 b hb, .inl ⟨hk, hb⟩⟩⟩
end
abbrev RI (cs : List Value) (x : Int) : Prop := cs = [.int .i64 x]
end Go.Proofs.Ytbapfiaglcllnaa.D
end

section
namespace Go.Proofs.Ytbapfiaglcllnaa.D.As
set_option maxRecDepth 10000
open Go Go.GD Go.Proofs
noncomputable def ops83 (n : Nat) : Array Oper := ((Try.f83.body).bind (regOf n)).getD #[]
noncomputable abbrev R (n : Nat) : Code := .region n (ops83 n) false
theorem sh0 : shg (ops83 0).toList = [(.load 4 (.tmp 1), some 10, none), (.move (.tmp 10), some 11, none), (.move (.tmp 0), some 12, some (1, true)), (.load 3 (.tmp 2), some 13, some (1, true)), (.binOp .geq 3 (.tmp 12) (.tmp 13) 3, some 14, some (1, true)), (.pick (.tmp 11) (.tmp 14) (.const (.bool false)), some 15, none)] := by kernel_rfl
theorem sh1 : shg (ops83 1).toList = [(.load 22 (.tmp 3), some 16, none), (.call { callee := .builtin .len, args := #[(.tmp 16)], argTypes := #[22] }, some 17, none), (.load 101 (.tmp 4), some 18, none), (.call { callee := .builtin .len, args := #[(.tmp 18)], argTypes := #[101] }, some 19, none), (.binOp .eql 3 (.tmp 17) (.tmp 19) 3, some 20, none)] := by kernel_rfl
theorem sh2 : shg (ops83 2).toList = [(.load 22 (.tmp 3), some 21, none), (.call { callee := .value (.func 84), args := #[(.tmp 21)], argTypes := #[22] }, some 22, none), (.move (.tmp 0), some 23, none), (.store 22 (.tmp 5) (.tmp 22), none, none), (.store 3 (.tmp 2) (.tmp 23), none, none), (.store 4 (.tmp 1) (.const (.bool true)), none, none)] := by kernel_rfl
theorem sh3 : shg (ops83 3).toList = [(.load 101 (.tmp 4), some 24, none), (.load 22 (.tmp 3), some 25, none), (.call { callee := .builtin .len, args := #[(.tmp 25)], argTypes := #[22] }, some 26, none), (.indexAddr 101 (.tmp 24) (.tmp 26), some 27, none), (.load 22 (.tmp 27), some 28, none), (.call { callee := .builtin .len, args := #[(.tmp 28)], argTypes := #[22] }, some 29, none), (.move (.const (.int .i64 0)), some 30, none)] := by kernel_rfl
theorem sh4 : shg (ops83 4).toList = [(.binOp .lss 3 (.tmp 30) (.tmp 29) 3, some 31, none)] := by kernel_rfl
theorem sh5 : shg (ops83 5).toList = [(.move (.tmp 30), some 32, none), (.indexAddr 22 (.tmp 28) (.tmp 30), some 33, none), (.load 3 (.tmp 33), some 34, none), (.assign (.tmp 32), some 8, none), (.assign (.tmp 34), some 9, none)] := by kernel_rfl
theorem sh6 : shg (ops83 6).toList = [(.load 22 (.tmp 3), some 35, none), (.move (.tmp 8), some 36, none), (.call { callee := .value (.func 85), args := #[(.tmp 35), (.tmp 36)], argTypes := #[22, 3] }, some 37, none), (.unOp .not 4 (.tmp 37), some 38, none)] := by kernel_rfl
theorem sh7 : shg (ops83 7).toList = [(.load 22 (.tmp 3), some 39, none), (.move (.tmp 8), some 40, none), (.buildSlice 22 1 #[(0, (.tmp 40))], some 41, none), (.call { callee := .builtin .append, args := #[(.tmp 39), (.tmp 41)], argTypes := #[22, 22] }, some 42, none), (.store 22 (.tmp 3) (.tmp 42), none, none)] := by kernel_rfl
theorem sh8 : shg (ops83 8).toList = [(.load 156 (.tmp 6), some 43, none), (.move (.tmp 0), some 44, none), (.move (.tmp 9), some 45, none), (.binOp .add 3 (.tmp 44) (.tmp 45) 3, some 46, none), (.call { callee := .value (.tmp 43), args := #[(.tmp 46)], argTypes := #[3] }, some 47, none)] := by kernel_rfl
theorem sh9 : shg (ops83 9).toList = [(.load 22 (.tmp 3), some 48, none), (.load 22 (.tmp 3), some 49, none), (.call { callee := .builtin .len, args := #[(.tmp 49)], argTypes := #[22] }, some 50, none), (.binOp .sub 3 (.tmp 50) (.const (.int .i64 1)) 3, some 51, none), (.slice 22 (.tmp 48) none (some (.tmp 51)) none, some 52, none), (.store 22 (.tmp 3) (.tmp 52), none, none)] := by kernel_rfl
theorem sh10 : shg (ops83 10).toList = [(.binOp .add 3 (.tmp 30) (.const (.int .i64 1)) 3, some 53, none), (.move (.tmp 53), some 30, none)] := by kernel_rfl
noncomputable def round83 : Code := .seq (R 4) (.seq (.cond (.tmp 31) .skip (.exit 0)) (.seq (.block 1 (.seq (R 5) (.seq (R 6) (.cond (.tmp 38) (.seq (R 7) (.seq (R 8) (R 9))) .skip)))) (R 10)))
theorem body83 : Try.f83.body = some (.seq (.seq (R 0) (.cond (.tmp 15) .ret .skip)) (.seq (.seq (R 1) (.cond (.tmp 20) (.seq (R 2) .ret) .skip)) (.seq (R 3) (.block 0 (.loop round83))))) := by kernel_rfl
theorem size83 : Try.f83.ntmps = 54 := by kernel_rfl
theorem res83 : Try.f83.results.toList = [] := by kernel_rfl
theorem k83 : Callable Try.prog 83 := ⟨Try.f83, Try.func83, by kernel_rfl, by kernel_rfl⟩
theorem u101 : Try.prog.underlying 101 = some (TypeDesc.slice 22) := by kernel_rfl
theorem s4 : scalB Try.prog 4 = true := by kernel_rfl
theorem s101 : scalB Try.prog 101 = true := by kernel_rfl
theorem s156 : scalB Try.prog 156 = true := by kernel_rfl
theorem g_idx {T el : TypeId} {size : Nat} (hu : Try.prog.underlying T = some (.slice el)) (hs : ∀ w, (sizeOf el).run Try.prog w = .ok size w) (w : World) (ad : Addr) (hsp : ad.spot = none) (n cl i : Nat) (h : i < n) :
    (Instr.indexAt T (.slice (some ad) n cl) (.int .i64 i)).run Try.prog w = .ok (.pointer (some ⟨ad.block, ad.off + i * size, none⟩)) w := by
  have hsz := hs w
  have hu : (Go.underlying T).run Try.prog w = .ok (TypeDesc.slice el) w := by simp [Go.underlying, hu]
  simp [Instr.indexAt, asIntOf, hu, h, addr_add hsp, hsz]
abbrev S4 := List Int × List Int × Int × Bool
noncomputable def roundsA (rec : Int → S4 → Option S4) (total : Int) : List Int → Nat → S4 → Option S4
  | [], _, s => some s
  | c :: rest, k, s => (d85 (s.1, (k : Int))).bind fun b =>
    (bif b then some s else
      bif Nat.ble ((s.1.length + 1) * 8) appendLimit then
        (rec (IntKind.i64.wrap (total + c)) (s.1 ++ [(k : Int)], s.2)).bind fun s' =>
        bif Nat.ble 1 s'.1.length && Nat.ble (s'.1.length * 8) appendLimit then some (s'.1.take (s'.1.length - 1), s'.2) else none
      else none).bind fun s1 => roundsA rec total rest (k + 1) s1
noncomputable def tryA (cost : List (List Int)) : Nat → Int → S4 → Option S4
  | 0, _, _ => none
  | n + 1, total, s =>
    bif s.2.2.2 && decide (total ≥ s.2.2.1) then some s else
    bif ((s.1.length : Int) == (cost.length : Int)) then (d84 s.1).bind fun c => some (s.1, c, total, true) else
    match cost[s.1.length]? with
    | some row => bif Nat.ble row.length 1000000 then roundsA (tryA cost n) total row 0 s else none
    | none => none
structure Aq where
  w0 : World
  Ok : Nat → Prop
  bF : Nat
  bL : Nat
  bP : Nat
  bC : Nat
  bB : Nat
  bE : Nat
  vc : Value
  H : Nat
  cost : List (List Int)
def Aq.boxes (C : Aq) : List Nat := [C.bF, C.bL, C.bP, C.bC, C.bB, C.bE]
def Aq.caps (C : Aq) : Array Value := #[ptr C.bF, ptr C.bL, ptr C.bP, ptr C.bC, ptr C.bB, ptr C.bE]
structure Aq.OK (C : Aq) : Prop where
  nd : C.boxes.Nodup
  cost : RepC Try.prog (.sl (.sl (.int .i64))) C.w0 C.Ok [C.vc] C.cost
abbrev Aq.Sh (C : Aq) (o : Option Nat) : Nat → Prop := ShB C.w0 C.Ok C.boxes o
structure Vals (C : Aq) (o : Option Nat) (s : S4) (w : World) (vals : Nat → List Value) : Prop where
  f : vals C.bF = [.bool s.2.2.2]
  l : vals C.bL = [.int .i64 s.2.2.1]
  p : ∃ a cap, vals C.bP = [.slice a s.1.length cap] ∧ HoldS 1 w (fun b => o = some b) RI a s.1.length cap s.1
  c : vals C.bC = [C.vc]
  b : ∃ a len cap, vals C.bB = [.slice a len cap] ∧ ShareS 1 w (C.Sh o) RI a len cap s.2.1
  e : vals C.bE = [.func (.func 83) #[] C.caps]
def Sta (C : Aq) (o : Option Nat) (s : S4) (w : World) : Prop := ∃ vals, Hp C.boxes C.H C.w0 o vals w ∧ Vals C o s w vals
section
variable {C : Aq} {o o' : Option Nat} {s : S4} {w w1 : World}
theorem Sta.later (h : Sta C o s w) (k : Later w w1) : Sta C o s w1 := by
  obtain ⟨vals, hp, hv⟩ := h
  obtain ⟨a, cap, q1, q2⟩ := hv.p
  obtain ⟨ab, len, cb, r1, r2⟩ := hv.b
  exact ⟨vals, hp.later k, hv.f, hv.l, ⟨a, cap, q1, q2.mono (own_later k) fun _ _ h => h⟩, hv.c, ⟨ab, len, cb, r1, r2.mono (shB_later hp k) fun _ _ h => h⟩, hv.e⟩
theorem Sta.setF (hC : C.OK) (h : Sta C o s w) (b : Bool) : Sta C o (s.1, s.2.1, s.2.2.1, b) (w.setRow C.bF #[.bool b]) := by
  obtain ⟨vals, hp, hv⟩ := h
  have nd := hC.nd
  simp only [Aq.boxes, List.nodup_cons, List.mem_cons, not_or, List.not_mem_nil, not_false_eq_true, and_true, List.nodup_nil] at nd
  obtain ⟨⟨n1, n2, n3, n4, n5⟩, ⟨p2, p3, p4, p5⟩, ⟨q3, q4, q5⟩, ⟨r4, r5⟩, t5⟩ := nd
  have hx : C.bF ∈ C.boxes := by simp [Aq.boxes]
  obtain ⟨a, cap, q1, q2⟩ := hv.p
  obtain ⟨ab, len, cb, r1, r2⟩ := hv.b
  refine ⟨_, hp.set hx [.bool b], putV_same _ _ _, (putV_ne _ _ _ (fun e => n1 e.symm)).trans hv.l, ⟨a, cap, (putV_ne _ _ _ (fun e => n2 e.symm)).trans q1, q2.mono (own_set hp hx _) fun _ _ h => h⟩, (putV_ne _ _ _ (fun e => n3 e.symm)).trans hv.c,
    ⟨ab, len, cb, (putV_ne _ _ _ (fun e => n4 e.symm)).trans r1, r2.mono (shB_set hp hx _) fun _ _ h => h⟩, (putV_ne _ _ _ (fun e => n5 e.symm)).trans hv.e⟩
theorem Sta.setL (hC : C.OK) (h : Sta C o s w) (n : Int) : Sta C o (s.1, s.2.1, n, s.2.2.2) (w.setRow C.bL #[.int .i64 n]) := by
  obtain ⟨vals, hp, hv⟩ := h
  have nd := hC.nd
  simp only [Aq.boxes, List.nodup_cons, List.mem_cons, not_or, List.not_mem_nil, not_false_eq_true, and_true, List.nodup_nil] at nd
  obtain ⟨⟨n1, n2, n3, n4, n5⟩, ⟨p2, p3, p4, p5⟩, ⟨q3, q4, q5⟩, ⟨r4, r5⟩, t5⟩ := nd
  have hx : C.bL ∈ C.boxes := by simp [Aq.boxes]
  obtain ⟨a, cap, q1, q2⟩ := hv.p
  obtain ⟨ab, len, cb, r1, r2⟩ := hv.b
  refine ⟨_, hp.set hx [.int .i64 n], (putV_ne _ _ _ n1).trans hv.f, putV_same _ _ _, ⟨a, cap, (putV_ne _ _ _ (fun e => p2 e.symm)).trans q1, q2.mono (own_set hp hx _) fun _ _ h => h⟩, (putV_ne _ _ _ (fun e => p3 e.symm)).trans hv.c,
    ⟨ab, len, cb, (putV_ne _ _ _ (fun e => p4 e.symm)).trans r1, r2.mono (shB_set hp hx _) fun _ _ h => h⟩, (putV_ne _ _ _ (fun e => p5 e.symm)).trans hv.e⟩
theorem Sta.setB (hC : C.OK) (h : Sta C o s w) {a : Option Addr} {len cap : Nat} {xs : List Int} (hs : ShareS 1 w (C.Sh o) RI a len cap xs) : Sta C o (s.1, xs, s.2.2) (w.setRow C.bB #[.slice a len cap]) := by
  obtain ⟨vals, hp, hv⟩ := h
  have nd := hC.nd
  simp only [Aq.boxes, List.nodup_cons, List.mem_cons, not_or, List.not_mem_nil, not_false_eq_true, and_true, List.nodup_nil] at nd
  obtain ⟨⟨n1, n2, n3, n4, n5⟩, ⟨p2, p3, p4, p5⟩, ⟨q3, q4, q5⟩, ⟨r4, r5⟩, t5⟩ := nd
  have hx : C.bB ∈ C.boxes := by simp [Aq.boxes]
  obtain ⟨a1, cap1, q1, q2⟩ := hv.p
  refine ⟨_, hp.set hx [.slice a len cap], (putV_ne _ _ _ n4).trans hv.f, (putV_ne _ _ _ p4).trans hv.l, ⟨a1, cap1, (putV_ne _ _ _ q4).trans q1, q2.mono (own_set hp hx _) fun _ _ h => h⟩, (putV_ne _ _ _ r4).trans hv.c,
    ⟨a, len, cap, putV_same _ _ _, hs.mono (shB_set hp hx _) fun _ _ h => h⟩, (putV_ne _ _ _ (fun e => t5 e.symm)).trans hv.e⟩
theorem Sta.setP (hC : C.OK) (h : Sta C o s w) {a : Option Addr} {cap : Nat} {xs : List Int} (hs : w.heap.size ≤ w1.heap.size) (hf : ∀ b, b < w.heap.size → o ≠ some b → w1.heap[b]? = w.heap[b]?) (hio : SameIO w w1)
    (hn' : ∀ b, o' = some b → (o = some b ∨ w.heap.size ≤ b) ∧ b < w1.heap.size) (hold : HoldS 1 w1 (fun b => o' = some b) RI a xs.length cap xs) : Sta C o' (xs, s.2) (w1.setRow C.bP #[.slice a xs.length cap]) := by
  obtain ⟨vals, hp, hv⟩ := h
  have nd := hC.nd
  simp only [Aq.boxes, List.nodup_cons, List.mem_cons, not_or, List.not_mem_nil, not_false_eq_true, and_true, List.nodup_nil] at nd
  obtain ⟨⟨n1, n2, n3, n4, n5⟩, ⟨p2, p3, p4, p5⟩, ⟨q3, q4, q5⟩, ⟨r4, r5⟩, t5⟩ := nd
  have hx : C.bP ∈ C.boxes := by simp [Aq.boxes]
  have hp1 := hp.turn hs hf hio hn'
  have mt := shB_turn (Ok := C.Ok) (o' := o') hp hs (fun b hb _ ho => hf b hb ho) fun b hb => (hn' b hb).1
  obtain ⟨ab, len, cb, r1, r2⟩ := hv.b
  refine ⟨_, hp1.set hx [.slice a xs.length cap], (putV_ne _ _ _ n2).trans hv.f, (putV_ne _ _ _ p2).trans hv.l, ⟨a, cap, putV_same _ _ _, hold.mono (own_set hp1 hx _) fun _ _ h => h⟩, (putV_ne _ _ _ (fun e => q3 e.symm)).trans hv.c,
    ⟨ab, len, cb, (putV_ne _ _ _ (fun e => q4 e.symm)).trans r1, (r2.mono mt fun _ _ h => h).mono (shB_set hp1 hx _) fun _ _ h => h⟩, (putV_ne _ _ _ (fun e => q5 e.symm)).trans hv.e⟩
end
end Go.Proofs.Ytbapfiaglcllnaa.D.As
end

section
namespace Go.Proofs.Ytbapfiaglcllnaa.D.As
set_option maxRecDepth 10000
open Go Go.GD Go.Proofs
structure FA (C : Aq) (total : Int) (f : Nat → Value) : Prop where
  t0 : f 0 = .int .i64 total
  t1 : f 1 = ptr C.bF
  t2 : f 2 = ptr C.bL
  t3 : f 3 = ptr C.bP
  t4 : f 4 = ptr C.bC
  t5 : f 5 = ptr C.bB
  t6 : f 6 = ptr C.bE
theorem FA.keep {C : Aq} {total : Int} {f f' : Nat → Value} (h : FA C total f) (k : KeepN 7 f f') : FA C total f' :=
  ⟨(k 0 (by decide)).trans h.t0, (k 1 (by decide)).trans h.t1, (k 2 (by decide)).trans h.t2, (k 3 (by decide)).trans h.t3, (k 4 (by decide)).trans h.t4, (k 5 (by decide)).trans h.t5, (k 6 (by decide)).trans h.t6⟩
structure FL (C : Aq) (total : Int) (ar : Option Addr) (lr cr : Nat) (i : Nat) (f : Nat → Value) : Prop where
  fa : FA C total f
  t28 : f 28 = .slice ar lr cr
  t29 : f 29 = .int .i64 lr
  t30 : f 30 = .int .i64 i
theorem gd1 : ((ops83 0)[1]?).bind (·.dst) = some 11 := by kernel_rfl
theorem i3 : (Try.prog.info? 3).map (fun i => (i.zero, i.size, i.bytes)) = some (some (Value.int .i64 0), 1, 8) := by kernel_rfl
theorem sz1 {T : TypeId} (h : scalB Try.prog T = true) (w : World) : (sizeOf T).run Try.prog w = .ok 1 w := scalB_size h w
section
variable {C : Aq} {o : Option Nat} {s : S4} {w : World} {total : Int} {f : Nat → Value} {Q : Exit → Act → World → Prop}
theorem Sta.cells (hS : Sta C o s w) : w.cell? ⟨C.bF, 0, none⟩ = some (.bool s.2.2.2) ∧ w.cell? ⟨C.bL, 0, none⟩ = some (.int .i64 s.2.2.1) ∧
    (∃ a cap, w.cell? ⟨C.bP, 0, none⟩ = some (.slice a s.1.length cap) ∧ HoldS 1 w (fun b => o = some b) RI a s.1.length cap s.1) ∧ w.cell? ⟨C.bC, 0, none⟩ = some C.vc ∧ w.cell? ⟨C.bE, 0, none⟩ = some (.func (.func 83) #[] C.caps) := by
  obtain ⟨vals, hp, hv⟩ := hS
  obtain ⟨a, cap, q1, q2⟩ := hv.p
  exact ⟨hp.cell1 (by simp [Aq.boxes]) hv.f, hp.cell1 (by simp [Aq.boxes]) hv.l, ⟨a, cap, hp.cell1 (by simp [Aq.boxes]) q1, q2⟩, hp.cell1 (by simp [Aq.boxes]) hv.c, hp.cell1 (by simp [Aq.boxes]) hv.e⟩
theorem Sta.rows (hS : Sta C o s w) : (∃ v e, w.heap[C.bF]? = some (.cells #[v] e (0, 0))) ∧ (∃ v e, w.heap[C.bL]? = some (.cells #[v] e (0, 0))) ∧ (∃ v e, w.heap[C.bP]? = some (.cells #[v] e (0, 0))) ∧ ∃ v e, w.heap[C.bB]? = some (.cells #[v] e (0, 0)) := by
  obtain ⟨vals, hp, hv⟩ := hS
  obtain ⟨a, cap, q1, q2⟩ := hv.p
  obtain ⟨ab, len, cb, r1, r2⟩ := hv.b
  exact ⟨⟨_, hp.row1 (by simp [Aq.boxes]) hv.f⟩, ⟨_, hp.row1 (by simp [Aq.boxes]) hv.l⟩, ⟨_, hp.row1 (by simp [Aq.boxes]) q1⟩, ⟨_, hp.row1 (by simp [Aq.boxes]) r1⟩⟩
theorem Sta.mono0 (hS : Sta C o s w) : Mono C.w0 C.Ok w (C.Sh o) := by
  obtain ⟨vals, hp, _⟩ := hS
  exact shB_old hp
theorem Sta.fresh (hS : Sta C o s w) {b : Nat} (hb : w.heap.size ≤ b) : C.Sh o b := by
  obtain ⟨vals, hp, _⟩ := hS
  refine .inr ⟨Nat.le_trans hp.old.1 hb, fun e => ?_, fun e => ?_⟩
  · have := (hp.lo b e).2; have := hp.sz; omega
  · have := (hp.hn b e).2; omega
theorem reg0 (hF : FA C total f) (hS : Sta C o s w) (hQ : ∀ f', FA C total f' → f' 15 = .bool (s.2.2.2 && decide (total ≥ s.2.2.1)) → Q .normal (Fr 54 f' []) w) : (R 0).wp Try.prog Q (Fr 54 f []) w := by
  obtain ⟨cF, cL, _⟩ := hS.cells
  refine reg_sh sh0 ?_
  refine sh_load (v := .bool s.2.2.2) (by decide) s4 (by rw [Fr.tmp (by decide)]; exact hF.t1) cF ?_
  refine sh_move (v := .bool s.2.2.2) (by decide) (by simp [Fr.tmp, put_]) ?_
  cases hb : s.2.2.2 with
  | true =>
    refine sh_on (s := 11) gd1 (by decide) (by simp [put_]) (sh_move (v := .int .i64 total) (by decide) (by simp [Fr.tmp, put_, hF.t0]) ?_)
    refine sh_on (s := 11) gd1 (by decide) (by simp [put_]) (sh_load (v := .int .i64 s.2.2.1) (by decide) s3 (by rw [Fr.tmp (by decide)]; simp only [put_]; exact hF.t2) cL ?_)
    refine sh_on (s := 11) gd1 (by decide) (by simp [put_]) (sh_bin (k := .i64) (a := total) (b := s.2.2.1) (v := .bool (decide (total ≥ s.2.2.1))) (by decide) (by simp [Fr.tmp, put_]) (by simp [Fr.tmp, put_]) (by simp [binOp, Op.intCmp]) ?_)
    refine sh_pick (b := true) (v := .bool (decide (total ≥ s.2.2.1))) (by decide) (by simp [Fr.tmp, put_]) (by simp [Fr.tmp, put_]) ?_
    exact hQ _ (hF.keep (by repeat (first | exact KeepN.refl _ _ | refine KeepN.put (by decide) ?_))) (by rw [hb, Bool.true_and]; exact fr_same _ _ _)
  | false =>
    refine sh_off (s := 11) (by decide) gd1 (by decide) (.inl (by simp [put_])) ?_
    refine sh_off (s := 11) (by decide) gd1 (by decide) (.inl (by simp [put_])) ?_
    refine sh_off (s := 11) (by decide) gd1 (by decide) (.inl (by simp [put_])) ?_
    refine sh_pick (b := false) (v := .bool false) (by decide) (by simp [Fr.tmp, put_]) (by simp [Fr.const]) ?_
    exact hQ _ (hF.keep (by repeat (first | exact KeepN.refl _ _ | refine KeepN.put (by decide) ?_))) (by rw [hb, Bool.false_and]; exact fr_same _ _ _)
theorem Aq.OK.vc (hC : C.OK) : ∃ a cap, C.vc = .slice a C.cost.length cap ∧ ShareS 1 C.w0 C.Ok (RepC Try.prog (.sl (.int .i64)) C.w0 C.Ok) a C.cost.length cap C.cost := by
  obtain ⟨a, len, cap, h1, h2⟩ := hC.cost
  simp only [List.cons.injEq, and_true] at h1
  have := h2.1
  subst this
  exact ⟨a, cap, h1, h2⟩
theorem reg1 (hC : C.OK) (hF : FA C total f) (hS : Sta C o s w) (hQ : ∀ f', FA C total f' → f' 20 = .bool ((s.1.length : Int) == (C.cost.length : Int)) → Q .normal (Fr 54 f' []) w) : (R 1).wp Try.prog Q (Fr 54 f []) w := by
  obtain ⟨_, _, ⟨aP, cP, cpP, _⟩, cC, _⟩ := hS.cells
  obtain ⟨aC, cC2, hvc, _⟩ := hC.vc
  rw [hvc] at cC
  refine reg_sh sh1 ?_
  refine sh_load (v := .slice aP s.1.length cP) (by decide) s22 (by rw [Fr.tmp (by decide)]; exact hF.t3) cpP ?_
  refine sh_len (al := aP) (n := s.1.length) (cl := cP) (by decide) u22 (by simp [Fr.tmp, put_]) ?_
  refine sh_load (v := .slice aC C.cost.length cC2) (by decide) s101 (by rw [Fr.tmp (by decide)]; simp only [put_]; exact hF.t4) cC ?_
  refine sh_len (al := aC) (n := C.cost.length) (cl := cC2) (by decide) u101 (by simp [Fr.tmp, put_]) ?_
  refine sh_bin (k := .i64) (a := s.1.length) (b := C.cost.length) (v := .bool ((s.1.length : Int) == (C.cost.length : Int))) (by decide) (by simp [Fr.tmp, put_]) (by simp [Fr.tmp, put_]) (by simp [binOp, Op.intCmp]) ?_
  exact hQ _ (hF.keep (by repeat (first | exact KeepN.refl _ _ | refine KeepN.put (by decide) ?_))) (fr_same _ _ _)
theorem hold_rep {a : Option Addr} {cap : Nat} {xs : List Int} (h : HoldS 1 w (fun b => o = some b) RI a xs.length cap xs) : RepC Try.prog (.sl (.int .i64)) w (fun _ => True) [.slice a xs.length cap] xs :=
  ⟨a, xs.length, cap, rfl, HoldS.share (B' := fun _ => True) ⟨Nat.le_refl _, fun _ _ _ => ⟨rfl, trivial⟩⟩ (fun _ _ h => h) h⟩
theorem reg2 (hC : C.OK) (hF : FA C total f) (hS : Sta C o s w) {c : List Int} (hc : d84 s.1 = some c) (hQ : ∀ f' w', Sta C o (s.1, c, total, true) w' → Q .normal (Fr 54 f' []) w') : (R 2).wp Try.prog Q (Fr 54 f []) w := by
  obtain ⟨_, _, ⟨aP, cP, cpP, hP⟩, _⟩ := hS.cells
  refine reg_sh sh2 ?_
  refine sh_load (v := .slice aP s.1.length cP) (by decide) s22 (by rw [Fr.tmp (by decide)]; exact hF.t3) cpP ?_
  refine sh_call (g := 84) (args := #[.slice aP s.1.length cP]) (w' := w) (by decide) (fun p hp => by
    have kf : ∀ a : Act, a.eval (.func 84) = .func (.func 84) #[] #[] := fun _ => rfl
    simp [execOp, hp, resolve, Deferred.ofValue, invoke, kf, Fr.tmp, put_, k84.run]) ?_
  refine (does84 w (fun _ => True) [.slice aP s.1.length cP] s.1 c (hold_rep hP) hc).mono ?_
  rintro ex w1 ⟨us, g', rfl, hx, z1, z2, z3, z4⟩
  obtain ⟨a', len', cap', m, rfl, hm, hs⟩ := hx
  have hm : m = .own := by simpa [rMarks, ownMarks] using hm.symm
  subst hm
  have hL : Later w w1 := ⟨z1, z2, z4⟩
  have hS1 := hS.later hL
  have hsh : ShareS 1 w1 (C.Sh o) RI a' len' cap' c := HoldS.share (B' := C.Sh o) ⟨Nat.le_refl _, fun b _ hk => ⟨rfl, hS.fresh (z3 b (by rw [hk]; simp)).1⟩⟩ (fun _ _ h => h) hs.1
  refine ⟨_, rfl, ?_⟩
  refine sh_move (v := .int .i64 total) (by decide) (by simp [Fr.tmp, put_, hF.t0]) ?_
  have hS2 := hS1.setB hC hsh
  have hS3 := hS2.setL hC total
  have hS4 := hS3.setF hC true
  obtain ⟨_, _, _, v1, e1, r1⟩ := hS1.rows
  obtain ⟨_, ⟨v2, e2, r2⟩, _⟩ := hS2.rows
  obtain ⟨⟨v3, e3, r3⟩, _⟩ := hS3.rows
  refine sh_store (v := .slice a' len' cap') s22 (by rw [Fr.tmp (by decide)]; simp only [put_]; exact hF.t5) (by simp [Fr.tmp, put_, resV, argVals, mkV, Ty.isAgg, Ty.size]) rfl rfl r1 ?_
  refine sh_store (v := .int .i64 total) s3 (by rw [Fr.tmp (by decide)]; simp only [put_]; exact hF.t2) (by simp [Fr.tmp, put_]) rfl rfl r2 ?_
  refine sh_store (v := .bool true) s4 (by rw [Fr.tmp (by decide)]; simp only [put_]; exact hF.t1) rfl rfl rfl r3 ?_
  exact hQ _ _ hS4
theorem reg3 (hC : C.OK) (hF : FA C total f) (hS : Sta C o s w) {row : List Int} (hr : C.cost[s.1.length]? = some row) (hQ : ∀ f' ar cr, FL C total ar row.length cr 0 f' → ShareS 1 C.w0 C.Ok RI ar row.length cr row → Q .normal (Fr 54 f' []) w) : (R 3).wp Try.prog Q (Fr 54 f []) w := by
  obtain ⟨_, _, ⟨aP, cP, cpP, hP⟩, cC, _⟩ := hS.cells
  obtain ⟨aC, cC2, hvc, h1, h2, h3⟩ := hC.vc
  rw [hvc] at cC
  obtain ⟨hlt, hrow⟩ := List.getElem?_eq_some_iff.1 hr
  rcases h3 with h3 | ⟨ad, rfl, hsp, hblt, hok, hrows⟩
  · omega
  obtain ⟨cs, g1, g2, g3⟩ := hrows s.1.length hlt
  rw [hrow] at g3
  obtain ⟨ar, lr, cr, rfl, hsh⟩ := g3
  have := hsh.1
  subst this
  have hcell : w.cell? ⟨ad.block, ad.off + s.1.length * 1, none⟩ = some (.slice ar row.length cr) := by
    have := g2 0 (by decide)
    have e := (hS.mono0.2 ad.block hblt hok).1
    simp only [World.cell?] at this ⊢
    rw [e]
    exact this
  refine reg_sh sh3 ?_
  refine sh_load (v := .slice (some ad) C.cost.length cC2) (by decide) s101 (by rw [Fr.tmp (by decide)]; exact hF.t4) cC ?_
  refine sh_load (v := .slice aP s.1.length cP) (by decide) s22 (by rw [Fr.tmp (by decide)]; simp only [put_]; exact hF.t3) cpP ?_
  refine sh_len (al := aP) (n := s.1.length) (cl := cP) (by decide) u22 (by simp [Fr.tmp, put_]) ?_
  have hix := g_idx u101 (sz1 s22) w ad hsp C.cost.length cC2 s.1.length hlt
  refine sh_val (v := .pointer (some ⟨ad.block, ad.off + s.1.length * 1, none⟩)) (w' := w) (by decide) (fun p hp => by
    simp only [execOp, hp]
    simp [Fr.tmp, put_, hix]) ?_
  refine sh_load (v := .slice ar row.length cr) (by decide) s22 (by rw [Fr.tmp (by decide)]; simp only [put_]; rfl) hcell ?_
  refine sh_len (al := ar) (n := row.length) (cl := cr) (by decide) u22 (by simp [Fr.tmp, put_]) ?_
  refine sh_move (v := .int .i64 0) (by decide) rfl ?_
  exact hQ _ ar cr ⟨hF.keep (by repeat (first | exact KeepN.refl _ _ | refine KeepN.put (by decide) ?_)), by simp [put_], by simp [put_], by simp [put_]⟩ hsh
end
end Go.Proofs.Ytbapfiaglcllnaa.D.As
end

section
namespace Go.Proofs.Ytbapfiaglcllnaa.D.As
set_option maxRecDepth 10000
open Go Go.GD Go.Proofs
theorem FL.keep {C : Aq} {total : Int} {ar : Option Addr} {lr cr i : Nat} {f f' : Nat → Value} (h : FL C total ar lr cr i f) (k : KeepN 7 f f') (h28 : f' 28 = f 28) (h29 : f' 29 = f 29) (h30 : f' 30 = f 30) : FL C total ar lr cr i f' :=
  ⟨h.fa.keep k, h28.trans h.t28, h29.trans h.t29, h30.trans h.t30⟩
theorem hold_take1 {w : World} {B : Nat → Prop} {a : Option Addr} {len cap : Nat} {xs : List Int} (h : HoldS 1 w B RI a len cap xs) (k : Nat) (hk : k ≤ len) : HoldS 1 w B RI a k cap (xs.take k) := by
  obtain ⟨h1, h2, h3⟩ := h
  refine ⟨by rw [List.length_take]; omega, by omega, h3.imp (fun h => h) ?_⟩
  rintro ⟨ad, q1, q2, q3, q4, q5⟩
  refine ⟨ad, q1, q2, q3, q4, fun i hi => ?_⟩
  rw [List.length_take] at hi
  obtain ⟨cs, r1, r2, r3⟩ := q5 i (by omega)
  exact ⟨cs, r1, r2, by rw [List.getElem_take]; exact r3⟩
section
variable {C : Aq} {o : Option Nat} {s : S4} {w : World} {total : Int} {ar : Option Addr} {lr cr i : Nat} {f : Nat → Value} {Q : Exit → Act → World → Prop}
theorem reg5 {row : List Int} (hF : FL C total ar row.length cr i f) (hS : Sta C o s w) (hrow : ShareS 1 C.w0 C.Ok RI ar row.length cr row) (hi : i < row.length)
    (hQ : ∀ f', FL C total ar row.length cr i f' → f' 8 = .int .i64 i → f' 9 = .int .i64 row[i] → Q .normal (Fr 54 f' []) w) : (R 5).wp Try.prog Q (Fr 54 f []) w := by
  obtain ⟨h1, h2, h3⟩ := hrow
  rcases h3 with h3 | ⟨ad, rfl, hsp, hblt, hok, hrows⟩
  · omega
  obtain ⟨cs, g1, g2, g3⟩ := hrows i hi
  have g3 : cs = [.int .i64 row[i]] := g3
  subst g3
  have hcell : w.cell? ⟨ad.block, ad.off + i * 1, none⟩ = some (.int .i64 row[i]) := by
    have := g2 0 (by decide)
    have e := (hS.mono0.2 ad.block hblt hok).1
    simp only [World.cell?] at this ⊢
    rw [e]
    exact this
  refine reg_sh sh5 ?_
  refine sh_move (v := .int .i64 i) (by decide) (by simp [Fr.tmp, hF.t30]) ?_
  have hix := g_idx u22 (sz1 s3) w ad hsp row.length cr i hi
  refine sh_val (v := .pointer (some ⟨ad.block, ad.off + i * 1, none⟩)) (w' := w) (by decide) (fun p hp => by
    simp only [execOp, hp]
    simp [Fr.tmp, put_, hF.t28, hF.t30, hix]) ?_
  refine sh_load (v := .int .i64 row[i]) (by decide) s3 (by rw [Fr.tmp (by decide)]; simp only [put_]; rfl) hcell ?_
  refine sh_assign (v := .int .i64 i) (by decide) (by simp [Fr.tmp, put_]) ?_
  refine sh_assign (v := .int .i64 row[i]) (by decide) (by simp [Fr.tmp, put_]) ?_
  exact hQ _ (hF.keep (by repeat (first | exact KeepN.refl _ _ | refine KeepN.put (by decide) ?_)) (by simp [put_]) (by simp [put_]) (by simp [put_])) (by simp [put_]) (by simp [put_])
theorem reg6 (hF : FL C total ar lr cr i f) (hS : Sta C o s w) {c : Int} (h8 : f 8 = .int .i64 i) (h9 : f 9 = .int .i64 c) {b : Bool} (hb : d85 (s.1, (i : Int)) = some b)
    (hQ : ∀ f' w', FL C total ar lr cr i f' → f' 8 = .int .i64 i → f' 9 = .int .i64 c → f' 38 = .bool (!b) → Sta C o s w' → Q .normal (Fr 54 f' []) w') : (R 6).wp Try.prog Q (Fr 54 f []) w := by
  obtain ⟨_, _, ⟨aP, cP, cpP, hP⟩, _⟩ := hS.cells
  refine reg_sh sh6 ?_
  refine sh_load (v := .slice aP s.1.length cP) (by decide) s22 (by rw [Fr.tmp (by decide)]; exact hF.fa.t3) cpP ?_
  refine sh_move (v := .int .i64 i) (by decide) (by simp [Fr.tmp, put_, h8]) ?_
  refine sh_call (g := 85) (args := #[.slice aP s.1.length cP, .int .i64 i]) (w' := w) (by decide) (fun p hp => by
    have kf : ∀ a : Act, a.eval (.func 85) = .func (.func 85) #[] #[] := fun _ => rfl
    simp [execOp, hp, resolve, Deferred.ofValue, invoke, kf, Fr.tmp, put_, k85.run]) ?_
  refine (does85 w (fun _ => True) [.slice aP s.1.length cP, .int .i64 i] (s.1, (i : Int)) b ⟨[_], [_], rfl, hold_rep hP, rfl⟩ hb).mono ?_
  rintro ex w1 ⟨us, g', rfl, ⟨_, _, hu⟩, z1, z2, _, z4⟩
  have hu : us = [.bool b] := hu
  subst hu
  refine ⟨_, rfl, ?_⟩
  refine sh_val (v := .bool (!b)) (w' := w1) (by decide) (fun p hp => by
    simp only [execOp, hp]
    simp [Fr.tmp, put_, resV, argVals, mkV, Ty.isAgg, Ty.size, Op.unary]) ?_
  exact hQ _ _ (hF.keep (by repeat (first | exact KeepN.refl _ _ | refine KeepN.put (by decide) ?_)) (by simp [put_]) (by simp [put_]) (by simp [put_])) (by simp [put_, h8]) (by simp [put_, h9]) (fr_same _ _ _) (hS.later ⟨z1, z2, z4⟩)
set_option maxHeartbeats 1000000 in
theorem reg7 (hC : C.OK) (hF : FL C total ar lr cr i f) (hS : Sta C o s w) {c : Int} (h8 : f 8 = .int .i64 i) (h9 : f 9 = .int .i64 c) (hlim : (s.1.length + 1) * 8 ≤ appendLimit)
    (hQ : ∀ f' o' w', FL C total ar lr cr i f' → f' 9 = .int .i64 c → Sta C o' (s.1 ++ [(i : Int)], s.2) w' → Q .normal (Fr 54 f' []) w') : (R 7).wp Try.prog Q (Fr 54 f []) w := by
  obtain ⟨_, _, ⟨aP, cP, cpP, hP⟩, _⟩ := hS.cells
  obtain ⟨ti, hi, hz, hs, hb⟩ := info_at i3
  refine reg_sh sh7 ?_
  refine sh_load (v := .slice aP s.1.length cP) (by decide) s22 (by rw [Fr.tmp (by decide)]; exact hF.fa.t3) cpP ?_
  refine sh_move (v := .int .i64 i) (by decide) (by simp [Fr.tmp, put_, h8]) ?_
  have hzv : (zeroValue 3).run Try.prog w = .ok (.int .i64 0) w := by simp [zeroValue, Go.typeInfo, hi, hz]
  have hbs := run_buildSlice' (w := w) (P := Try.prog) (T := 22) (n := 1) (el := 3) (size := 1) (zv := .int .i64 0) (parts := #[(0, .int .i64 i)]) (final := #[.int .i64 i]) u22 (sz1 s3 w) hzv (by decide) (fun init hi => by
    match init, hi with
    | ⟨[a]⟩, _ => rfl)
  refine sh_val (v := .slice (some ⟨w.heap.size, 0, none⟩) 1 1) (w' := w.alloc (.cells #[.int .i64 i] 3 (0, 0))) (by decide) (fun p hp => by
    simp [execOp, hp, Fr.tmp, put_, hbs]) ?_
  have hL := Later.alloc w (.cells #[.int .i64 i] 3 (0, 0))
  have hS1 := hS.later hL
  have hnew : (w.alloc (.cells #[.int .i64 i] 3 (0, 0))).heap[w.heap.size]? = some (.cells [Value.int .i64 i].toArray 3 (0, 0)) := heap_alloc_new w _
  have hold : HoldS 1 (w.alloc (.cells #[.int .i64 i] 3 (0, 0))) (fun b => o = some b) RI aP s.1.length cP s.1 := hP.mono (own_later hL) fun _ _ h => h
  obtain ⟨a', cap', o', w2, q1, q2, q3, q4, q5, q6⟩ := own_append (P := Try.prog) (w := w.alloc (.cells #[.int .i64 i] 3 (0, 0))) (size := 1) (bytes := 8) (T := 22) (el := 3) (ty := 0) (zv := .int .i64 0) (i := ti) u22 hi hz hs hb rfl (by decide) hold hlim (by unfold appendLimit at hlim; omega) hnew rfl (fun v hv => by rw [List.mem_singleton.1 hv]; rfl) (x := (i : Int)) (R' := RI) (fun _ _ h => h) rfl
  have q1' : ∀ ty, (Builtin.append_ #[22, 22] ty #[.slice aP s.1.length cP, .slice (some ⟨w.heap.size, 0, none⟩) 1 1]).run Try.prog (w.alloc (.cells #[.int .i64 i] 3 (0, 0))) = .ok (.slice a' (s.1.length + 1) cap') w2 := fun ty => by
    rw [← q1]; rfl
  refine sh_val (v := .slice a' (s.1.length + 1) cap') (w' := w2) (by decide) (fun p hp => by
    simp [execOp, hp, resolve, invoke, builtin, Fr.tmp, put_, q1']) ?_
  have hlen : (s.1 ++ [(i : Int)]).length = s.1.length + 1 := by simp
  have hS2 := hS1.setP hC (o' := o') (w1 := w2) (a := a') (cap := cap') (xs := s.1 ++ [(i : Int)]) q3 q4 q6 q5 (by rw [hlen]; exact q2)
  rw [hlen] at hS2
  have hNw : ∃ v e, w2.heap[C.bP]? = some (.cells #[v] e (0, 0)) := by
    obtain ⟨vals, hp, hv⟩ := hS1
    obtain ⟨a, cap, r1, _⟩ := hv.p
    obtain ⟨e, he⟩ := hp.row1 (b := C.bP) (by simp [Aq.boxes]) r1
    refine ⟨_, e, (q4 C.bP (heap_lt he) (fun e' => ?_)).trans he⟩
    have := (hp.hn _ e').1
    have := (hp.lo C.bP (by simp [Aq.boxes])).2
    omega
  obtain ⟨v1, e1, hNw⟩ := hNw
  refine sh_store (v := .slice a' (s.1.length + 1) cap') s22 (by rw [Fr.tmp (by decide)]; simp only [put_]; exact hF.fa.t3) (by simp [Fr.tmp, put_]) rfl rfl hNw ?_
  exact hQ _ o' _ (hF.keep (by repeat (first | exact KeepN.refl _ _ | refine KeepN.put (by decide) ?_)) (by simp [put_]) (by simp [put_]) (by simp [put_])) (by simp [put_, h9]) hS2
theorem reg9 (hC : C.OK) (hF : FL C total ar lr cr i f) (hS : Sta C o s w) (h1 : 1 ≤ s.1.length) (hlim : s.1.length * 8 ≤ appendLimit)
    (hQ : ∀ f' w', FL C total ar lr cr i f' → Sta C o (s.1.take (s.1.length - 1), s.2) w' → Q .normal (Fr 54 f' []) w') : (R 9).wp Try.prog Q (Fr 54 f []) w := by
  obtain ⟨_, _, ⟨aP, cP, cpP, hP⟩, _⟩ := hS.cells
  have hcap := hP.2.1
  refine reg_sh sh9 ?_
  refine sh_load (v := .slice aP s.1.length cP) (by decide) s22 (by rw [Fr.tmp (by decide)]; exact hF.fa.t3) cpP ?_
  refine sh_load (v := .slice aP s.1.length cP) (by decide) s22 (by rw [Fr.tmp (by decide)]; simp only [put_]; exact hF.fa.t3) cpP ?_
  refine sh_len (al := aP) (n := s.1.length) (cl := cP) (by decide) u22 (by simp [Fr.tmp, put_]) ?_
  have hsub : IntKind.i64.wrap ((s.1.length : Int) - 1) = ((s.1.length - 1 : Nat) : Int) := by
    unfold appendLimit at hlim
    rw [wrap_i64 (by omega) (by omega)]; omega
  refine sh_bin (k := .i64) (a := s.1.length) (b := 1) (by decide) (by simp [Fr.tmp, put_]) rfl (sub_run _ _ _) ?_
  rw [hsub]
  have hsl := g_slice (P := Try.prog) u22 (sz1 s3) aP (fun ad e => by
    rcases hP.2.2 with h | ⟨ad', q1, q2, _⟩
    · omega
    · rw [e] at q1; injection q1 with q1; rw [q1]; exact q2) s.1.length cP (s.1.length - 1) (by omega) w
  refine sh_val (v := .slice aP (s.1.length - 1) cP) (w' := w) (by decide) (fun p hp => by
    simp [execOp, hp, Fr.tmp, put_, hsl]) ?_
  have hlen : (s.1.take (s.1.length - 1)).length = s.1.length - 1 := by rw [List.length_take]; omega
  have hn : ∀ b, o = some b → b < w.heap.size := by
    obtain ⟨vals, hp, _⟩ := hS
    exact fun b hb => (hp.hn b hb).2
  have hS2 := hS.setP hC (o' := o) (w1 := w) (a := aP) (cap := cP) (xs := s.1.take (s.1.length - 1)) (Nat.le_refl _) (fun _ _ _ => rfl) (.refl w) (fun b hb => ⟨.inl hb, hn b hb⟩) (by
    rw [hlen]
    exact hold_take1 hP _ (by omega))
  rw [hlen] at hS2
  obtain ⟨_, _, ⟨v1, e1, hNw⟩, _⟩ := hS.rows
  refine sh_store (v := .slice aP (s.1.length - 1) cP) s22 (by rw [Fr.tmp (by decide)]; simp only [put_]; exact hF.fa.t3) (by simp [Fr.tmp, put_]) rfl rfl hNw ?_
  exact hQ _ _ (hF.keep (by repeat (first | exact KeepN.refl _ _ | refine KeepN.put (by decide) ?_)) (by simp [put_]) (by simp [put_]) (by simp [put_])) hS2
def Tries (C : Aq) (rec : Int → S4 → Option S4) : Prop := ∀ total s s' o w, Sta C o s w → rec total s = some s' →
  Calls Try.prog 83 (#[.int .i64 total] ++ C.caps) w fun ex w' => ∃ v o', ex = .returned v ∧ Sta C o' s' w'
set_option maxHeartbeats 2000000 in
theorem loop83 (hC : C.OK) {rec : Int → S4 → Option S4} (hrec : Tries C rec) {row : List Int} (hrow : ShareS 1 C.w0 C.Ok RI ar row.length cr row) (hlen : row.length ≤ 1000000) {s' : S4} (hF : FL C total ar row.length cr 0 f) (hS : Sta C o s w) (hr : roundsA rec total row 0 s = some s')
    (hQ : ∀ f' o' w', Sta C o' s' w' → Q .normal (Fr 54 f' []) w') : (Code.block 0 (.loop round83)).wp Try.prog Q (Fr 54 f []) w := by
  refine wp_block (wp_loop_nat (fun m a w => ∃ f o s i, a = Fr 54 f [] ∧ i ≤ row.length ∧ m = row.length - i + 1 ∧ FL C total ar row.length cr i f ∧ Sta C o s w ∧ roundsA rec total (row.drop i) i s = some s') (n0 := row.length + 1) ⟨f, o, s, 0, rfl, Nat.zero_le _, by omega, hF, hS, hr⟩ ?_)
  clear hr hS hF
  rintro m _ w ⟨f, o, s, i, rfl, hi, rfl, hF, hS, hr⟩
  refine ⟨row.length - i, rfl, ?_⟩
  unfold round83
  refine wp_seq (reg_sh sh4 ?_)
  refine sh_lss (k := .i64) (a := i) (b := row.length) (by decide) (by simp [Fr.tmp, hF.t30]) (by simp [Fr.tmp, hF.t29]) ?_
  have hF1 : FL C total ar row.length cr i (put_ f 31 (.bool (decide ((i : Int) < row.length)))) := hF.keep (by repeat (first | exact KeepN.refl _ _ | refine KeepN.put (by decide) ?_)) (by simp [put_]) (by simp [put_]) (by simp [put_])
  refine wp_seq (wp_cond_split (t := decide ((i : Int) < row.length)) (by rw [Fr.tmp (by decide), fr_same]) (fun ht => ?_) (fun ht => ?_))
  · have hlt : i < row.length := by have := of_decide_eq_true ht; omega
    refine Go.wp_skip ?_
    rw [List.drop_eq_getElem_cons hlt] at hr
    simp only [roundsA] at hr
    obtain ⟨b, hb, hr⟩ := Option.bind_eq_some_iff.1 hr
    obtain ⟨s1, hr1, hr⟩ := Option.bind_eq_some_iff.1 hr
    have rest : ∀ f' o' w', FL C total ar row.length cr i f' → Sta C o' s1 w' → (R 10).wp Try.prog (Exit.then (fun a w => ∃ f o s i_1, a = Fr 54 f [] ∧ i_1 ≤ row.length ∧ row.length - i = row.length - i_1 + 1 ∧ FL C total ar row.length cr i_1 f ∧ Sta C o s w ∧ roundsA rec total (row.drop i_1) i_1 s = some s') (Exit.inBlock 0 Q)) (Fr 54 f' []) w' := by
      intro f' o' w' hF' hS'
      refine reg_sh sh10 ?_
      refine sh_add (k := .i64) (a := i) (b := 1) (by decide) (by simp [Fr.tmp, hF'.t30]) rfl ?_
      have hw : IntKind.i64.wrap ((i : Int) + 1) = ((i + 1 : Nat) : Int) := by rw [wrap_i64 (by omega) (by omega)]; omega
      rw [hw]
      refine sh_move (v := .int .i64 ((i + 1 : Nat) : Int)) (by decide) (by simp [Fr.tmp, put_]) ?_
      exact ⟨_, o', s1, i + 1, rfl, hlt, by omega, ⟨hF'.fa.keep (by repeat (first | exact KeepN.refl _ _ | refine KeepN.put (by decide) ?_)), by simp [put_, hF'.t28], by simp [put_, hF'.t29], by simp [put_]⟩, hS', hr⟩
    refine wp_seq (wp_block (wp_seq (reg5 hF1 hS hrow hlt fun f1 hF2 h8 h9 => ?_)))
    refine wp_seq (reg6 hF2 hS h8 h9 hb fun f2 w2 hF3 h8 h9 h38 hS2 => ?_)
    refine wp_cond_split (t := !b) (by rw [Fr.tmp (by decide)]; exact h38) (fun hn => ?_) (fun hn => ?_)
    · have hbf : b = false := by simpa using hn
      rw [hbf, cond_false] at hr1
      cases hl : Nat.ble ((s.1.length + 1) * 8) appendLimit with
      | false => rw [hl] at hr1; cases hr1
      | true =>
      rw [hl, cond_true] at hr1
      obtain ⟨s2, hr2, hr3⟩ := Option.bind_eq_some_iff.1 hr1
      cases hl2 : Nat.ble 1 s2.1.length && Nat.ble (s2.1.length * 8) appendLimit with
      | false => rw [hl2] at hr3; cases hr3
      | true =>
      rw [hl2, cond_true] at hr3
      injection hr3 with hr3
      subst hr3
      rw [Bool.and_eq_true] at hl2
      refine wp_seq (reg7 hC hF3 hS2 h8 h9 (Nat.le_of_ble_eq_true hl) fun f3 o3 w3 hF4 h9 hS3 => ?_)
      obtain ⟨_, _, _, _, cE⟩ := hS3.cells
      refine wp_seq (reg_sh sh8 ?_)
      refine sh_load (v := .func (.func 83) #[] C.caps) (by decide) s156 (by rw [Fr.tmp (by decide)]; exact hF4.fa.t6) cE ?_
      refine sh_move (v := .int .i64 total) (by decide) (by simp [Fr.tmp, put_, hF4.fa.t0]) ?_
      refine sh_move (v := .int .i64 row[i]) (by decide) (by simp [Fr.tmp, put_, h9]) ?_
      refine sh_add (k := .i64) (a := total) (b := row[i]) (by decide) (by simp [Fr.tmp, put_]) (by simp [Fr.tmp, put_]) ?_
      refine sh_call (g := 83) (args := #[.int .i64 (IntKind.i64.wrap (total + row[i]))] ++ C.caps) (w' := w3) (by decide) (fun p hp => by
        simp [execOp, hp, resolve, Deferred.ofValue, invoke, Fr.tmp, put_, k83.run]) ?_
      refine (hrec _ _ s2 o3 w3 hS3 hr2).mono ?_
      rintro ex w4 ⟨v, o4, rfl, hS4⟩
      refine ⟨v, rfl, ?_⟩
      exact reg9 hC (hF4.keep (by repeat (first | exact KeepN.refl _ _ | refine KeepN.put (by decide) ?_)) (by simp [put_]) (by simp [put_]) (by simp [put_])) hS4 (Nat.le_of_ble_eq_true hl2.1) (Nat.le_of_ble_eq_true hl2.2) fun f5 w5 hF5 hS5 => rest f5 o4 w5 hF5 hS5
    · have hbt : b = true := by simpa using hn
      rw [hbt, cond_true] at hr1
      injection hr1 with hr1
      subst hr1
      exact Go.wp_skip (rest f2 o w2 hF3 hS2)
  · have hge : i = row.length := by have := of_decide_eq_false ht; omega
    subst hge
    rw [List.drop_length] at hr
    simp only [roundsA, Option.some.injEq] at hr
    subst hr
    exact Go.wp_exit (hQ _ o w hS)
end
theorem start83 (a : Value) (C : Aq) : ((#[a] ++ C.caps) ++ Array.replicate (Try.f83.ntmps - (#[a] ++ C.caps).size) undef).size = 54 := by
  rw [Array.size_append, Array.size_replicate, size83]; rfl
theorem try_does {C : Aq} (hC : C.OK) : ∀ n, Tries C (tryA C.cost n)
  | 0 => fun _ _ _ _ _ _ hr => by cases hr
  | n + 1 => by
    intro total s s' o w hS hr
    have ih := try_does hC n
    refine calls_of_wp Try.func83 body83 ?_
    rw [Fr.of (N := 54) (a := { tmps := (#[Value.int .i64 total] ++ C.caps) ++ Array.replicate (Try.f83.ntmps - (#[Value.int .i64 total] ++ C.caps).size) undef, defers := [] }) (start83 _ C)]
    simp only []
    generalize hf : (fun s => ((#[Value.int .i64 total] ++ C.caps) ++ Array.replicate (Try.f83.ntmps - (#[Value.int .i64 total] ++ C.caps).size) undef).getD s undef) = f
    have hF : FA C total f := by
      constructor <;> rw [← hf] <;> simp [Aq.caps]
    clear hf
    have ret : ∀ f' o' w', Sta C o' s' w' → bodyPost Try.prog Try.f83 (fun ex w' => ∃ v o', ex = .returned v ∧ Sta C o' s' w') .normal (Fr 54 f' []) w' := fun f' o' w' h => by
      refine ⟨rfl, .tuple #[], ?_, .tuple #[], o', rfl, h⟩
      exact (run_results (vs := []) (by rw [res83]; rfl)).trans rfl
    simp only [tryA] at hr
    refine wp_seq (wp_seq (reg0 hF hS fun f1 hF1 h15 => ?_))
    refine wp_cond_split (t := s.2.2.2 && decide (total ≥ s.2.2.1)) (by rw [Fr.tmp (by decide)]; exact h15) (fun ht => ?_) (fun ht => ?_)
    · rw [ht, cond_true] at hr
      injection hr with hr
      subst hr
      exact Go.wp_ret (ret f1 o w hS)
    · rw [ht, cond_false] at hr
      refine Go.wp_skip (wp_seq (wp_seq (reg1 hC hF1 hS fun f2 hF2 h20 => ?_)))
      refine wp_cond_split (t := (s.1.length : Int) == (C.cost.length : Int)) (by rw [Fr.tmp (by decide)]; exact h20) (fun hb => ?_) (fun hb => ?_)
      · rw [hb, cond_true] at hr
        obtain ⟨c, hc, hr⟩ := Option.bind_eq_some_iff.1 hr
        injection hr with hr
        subst hr
        exact wp_seq (reg2 hC hF2 hS hc fun f3 w3 hS3 => Go.wp_ret (ret f3 o w3 hS3))
      · rw [hb, cond_false] at hr
        split at hr
        case h_2 => cases hr
        rename_i row hrow
        cases hl : Nat.ble row.length 1000000 with
        | false => rw [hl] at hr; cases hr
        | true =>
        rw [hl, cond_true] at hr
        refine Go.wp_skip (wp_seq (reg3 hC hF2 hS hrow fun f3 ar cr hF3 hsh => ?_))
        exact loop83 hC ih hsh (Nat.le_of_ble_eq_true hl) hF3 hS hr ret
end Go.Proofs.Ytbapfiaglcllnaa.D.As
end

section
namespace Go.Proofs.Ytbapfiaglcllnaa.D.As
set_option maxRecDepth 10000
open Go Go.GD Go.Proofs
noncomputable def ops44 (n : Nat) : Array Oper := ((Try.f44.body).bind (regOf n)).getD #[]
noncomputable abbrev B (n : Nat) : Code := .region n (ops44 n) false
theorem sb0 : shg (ops44 0).toList = [(.box 101 (.tmp 0), some 1, none), (.assign (.const (.slice none 0 0)), some 2, none), (.assign (.const (.int .i64 0)), some 3, none), (.assign (.const (.int .i64 0)), some 4, none)] := by kernel_rfl
theorem sb1 : shg (ops44 1).toList = [(.load 101 (.tmp 1), some 11, none), (.call { callee := .value (.func 82), args := #[(.tmp 11)], argTypes := #[101] }, some 12, none), (.assign (.tmp 12), some 5, none)] := by kernel_rfl
theorem sb2 : shg (ops44 2).toList = [(.move (.tmp 5), some 13, none), (.binOp .neq 27 (.tmp 13) (.const (.int .i64 0)) 27, some 14, none)] := by kernel_rfl
theorem sb4 : shg (ops44 4).toList = [(.alloc 22, some 6, none), (.alloc 22, some 7, none)] := by kernel_rfl
theorem sb5 : shg (ops44 5).toList = [(.alloc 3, some 8, none), (.alloc 4, some 9, none), (.store 3 (.tmp 8) (.const (.int .i64 0)), none, none), (.store 4 (.tmp 9) (.const (.bool false)), none, none)] := by kernel_rfl
theorem sb6 : shg (ops44 6).toList = [(.alloc 156, some 10, none)] := by kernel_rfl
theorem sb7 : shg (ops44 7).toList = [(.makeFunc (.func 83) #[] #[(.tmp 9), (.tmp 8), (.tmp 7), (.tmp 1), (.tmp 6), (.tmp 10)], some 16, none), (.store 156 (.tmp 10) (.tmp 16), none, none)] := by kernel_rfl
theorem sb8 : shg (ops44 8).toList = [(.load 156 (.tmp 10), some 17, none), (.call { callee := .value (.tmp 17), args := #[(.const (.int .i64 0))], argTypes := #[3] }, some 18, none)] := by kernel_rfl
theorem sb9 : shg (ops44 9).toList = [(.load 22 (.tmp 6), some 19, none), (.load 3 (.tmp 8), some 20, none), (.assign (.tmp 19), some 2, none), (.assign (.tmp 20), some 3, none), (.assign (.const (.int .i64 0)), some 4, none)] := by kernel_rfl
theorem body44 : Try.f44.body = some (.seq (B 0) (.seq (.seq (B 1) (.seq (B 2) (.cond (.tmp 14) (.seq (B 3) .ret) .skip))) (.seq (B 4) (.seq (B 5) (.seq (B 6) (.seq (B 7) (.seq (B 8) (.seq (.region 9 (ops44 9) true) .ret)))))))) := by kernel_rfl
theorem size44 : Try.f44.ntmps = 21 := by kernel_rfl
theorem res44 : Try.f44.results.toList = [.tmp 2, .tmp 3, .tmp 4] := by kernel_rfl
theorem aft10 : ((ops44 9).toList.map fun o => (o.after.toList.filter fun e => Region.binds .any e).map (·.on)) = [[], [], [0, 0], [1, 2, 0, 1, 2], [3, 0, 1, 2, 3]] := by kernel_rfl
theorem k44 : Callable Try.prog 44 := ⟨Try.f44, Try.func44, by kernel_rfl, by kernel_rfl⟩
theorem res3 {f : Nat → Value} {a b c : Value} (w : World) (h6 : f 2 = a) (h7 : f 3 = b) (h8 : f 4 = c) : (results Try.f44 (Fr 21 f []).tmps).run Try.prog w = .ok (.tuple #[a, b, c]) w := by
  have g : ∀ s v, s < 21 → f s = v → (Fr 21 f []).tmps[s]?.getD undef = v := fun s v hs h => by rw [← Array.getD_eq_getD_getElem?, Fr.get hs, h]
  refine (run_results (vs := [a, b, c]) (by
    rw [res44]
    simp [readOne, g 2 a (by decide) h6, g 3 b (by decide) h7, g 4 c (by decide) h8])).trans rfl
theorem regE {f : Nat → Value} {w : World} {bB bL : Nat} {vB vL : Value} {eB eL : TypeId} (h12 : f 6 = ptr bB) (h13 : f 8 = ptr bL) (hB : w.heap[bB]? = some (.cells #[vB] eB (0, 0))) (hL : w.heap[bL]? = some (.cells #[vL] eL (0, 0))) {Q : Exit → Act → World → Prop}
    (hQ : ∀ f', f' 2 = vB → f' 3 = vL → f' 4 = .int .i64 0 → Q .normal (Fr 21 f' []) { w with drawn := w.drawn + 1 }) : (Code.region 9 (ops44 9) true).wp Try.prog Q (Fr 21 f []) w := by
  have len10 : (ops44 9).toList.length = 5 := by
    have := congrArg List.length aft10
    simpa using this
  have aft : ∀ (j : Nat) (o : Oper), (ops44 9).toList[j]? = some o → ∀ e, e ∈ o.after.toList → Region.binds .any e = true → ∃ l, ([[], [], [0, 0], [1, 2, 0, 1, 2], [3, 0, 1, 2, 3]] : List (List Nat))[j]? = some l ∧ e.on ∈ l := by
    intro j o ho e he hb
    have := congrArg (fun l => l[j]?) aft10
    rw [List.getElem?_map, ho] at this
    exact ⟨_, this.symm, List.mem_map.2 ⟨e, List.mem_filter.2 ⟨he, hb⟩, rfl⟩⟩
  have aft' : ∀ (j : Nat) (o : Oper), (ops44 9).toList[j]? = some o → ∀ l, ([[], [], [0, 0], [1, 2, 0, 1, 2], [3, 0, 1, 2, 3]] : List (List Nat))[j]? = some l → ∀ n, n ∈ l → ∃ e, e ∈ o.after.toList ∧ Region.binds .any e = true ∧ e.on = n := by
    intro j o ho l hl n hn
    have := congrArg (fun l => l[j]?) aft10
    rw [List.getElem?_map, ho] at this
    have := Option.some.inj (this.trans hl)
    rw [← this] at hn
    obtain ⟨e, he, rfl⟩ := List.mem_map.1 hn
    have := List.mem_filter.1 he
    exact ⟨e, this.1, this.2, rfl⟩
  refine region_inv (Checked.mixed Try.checked) (fun j o ho e he hb => ?_) (fun D a w' => ∃ f', a = Fr 21 f' [] ∧ w' = { w with drawn := w.drawn + 1 } ∧ f' 6 = ptr bB ∧ f' 8 = ptr bL ∧ (D 0 = true → f' 19 = vB) ∧ (D 1 = true → f' 20 = vL) ∧ (D 2 = true → f' 2 = vB) ∧ (D 3 = true → f' 3 = vL) ∧ (D 4 = true → f' 4 = .int .i64 0))
    (fun D j o a w' ho hD hedge _ hI => ?_) (fun D a w' hall hI => ?_) ⟨f, rfl, rfl, h12, h13, (fun h => by cases h), (fun h => by cases h), (fun h => by cases h), (fun h => by cases h), (fun h => by cases h)⟩
  · obtain ⟨l, hl, hm⟩ := aft j o ho e he hb
    have hj : j < 5 := by rw [← len10]; exact (List.getElem?_eq_some_iff.1 ho).1
    have : j = 0 ∨ j = 1 ∨ j = 2 ∨ j = 3 ∨ j = 4 := by omega
    rcases this with rfl | rfl | rfl | rfl | rfl <;> simp only [List.getElem?_cons_zero, List.getElem?_cons_succ, Option.some.injEq] at hl <;> subst hl <;> simp at hm <;> omega
  · obtain ⟨f', rfl, rfl, q12, q13, q0, q1, q2, q3, q4⟩ := hI
    have hj : j < 5 := by rw [← len10]; exact (List.getElem?_eq_some_iff.1 ho).1
    have hsh := congrArg (fun l => l[j]?) sb9
    simp only [shg] at hsh
    rw [List.getElem?_map, ho] at hsh
    have hcB : (Instr.loadAt 22 (ptr bB)).run Try.prog w.drew = .ok vB w.drew := g_load s22 (cell1 (w := w.drew) hB)
    have hcL : (Instr.loadAt 3 (ptr bL)).run Try.prog w.drew = .ok vL w.drew := g_load s3 (cell1 (w := w.drew) hL)
    have need : ∀ n l, ([[], [], [0, 0], [1, 2, 0, 1, 2], [3, 0, 1, 2, 3]] : List (List Nat))[j]? = some l → n ∈ l → D n = true := fun n l hl hn => by
      obtain ⟨e, he, hb, rfl⟩ := aft' j o ho l hl n hn
      exact hedge e he hb
    have fin : ∀ (d : Nat) (v : Value), d < 21 → o.dst = some d → o.guard = none → (execOp (Fr 21 f' []).eval o).run Try.prog { w with drawn := w.drawn + 1 } = .ok (.value v) { w with drawn := w.drawn + 1 } →
        (∃ f2, Fr 21 (put_ f' d v) [] = Fr 21 f2 [] ∧ ({ w with drawn := w.drawn + 1 } : World) = { w with drawn := w.drawn + 1 } ∧ f2 6 = ptr bB ∧ f2 8 = ptr bL ∧ ((decide (0 = j) || D 0) = true → f2 19 = vB) ∧ ((decide (1 = j) || D 1) = true → f2 20 = vL) ∧ ((decide (2 = j) || D 2) = true → f2 2 = vB) ∧ ((decide (3 = j) || D 3) = true → f2 3 = vL) ∧ ((decide (4 = j) || D 4) = true → f2 4 = .int .i64 0)) →
        o.guard = none ∧ o.wp Try.prog (Fr 21 f' []) { w with drawn := w.drawn + 1 } (fun a' w' => ∃ f', a' = Fr 21 f' [] ∧ w' = { w with drawn := w.drawn + 1 } ∧ f' 6 = ptr bB ∧ f' 8 = ptr bL ∧ ((decide (0 = j) || D 0) = true → f' 19 = vB) ∧ ((decide (1 = j) || D 1) = true → f' 20 = vL) ∧ ((decide (2 = j) || D 2) = true → f' 2 = vB) ∧ ((decide (3 = j) || D 3) = true → f' 3 = vL) ∧ ((decide (4 = j) || D 4) = true → f' 4 = .int .i64 0)) Q := by
      intro d v hd h1 h2 h3 h4
      refine ⟨h2, ?_⟩
      unfold Oper.wp
      rw [h3, Oper.upon_value, h1, Fr.put hd]
      exact h4
    have : j = 0 ∨ j = 1 ∨ j = 2 ∨ j = 3 ∨ j = 4 := by omega
    rcases this with rfl | rfl | rfl | rfl | rfl <;> simp only [Option.map_some, List.getElem?_cons_zero, List.getElem?_cons_succ, Option.some.injEq, Prod.mk.injEq] at hsh <;> obtain ⟨e1, e2, e3⟩ := hsh
    · refine fin 19 vB (by decide) e2 e3 (by simp [execOp, e1, Fr.tmp, q12, hcB]) ⟨_, rfl, rfl, ?_, ?_, fun _ => fr_same _ _ _, ?_, ?_, ?_, ?_⟩ <;> simp [put_] <;> (clear fin need hcB hcL ho hedge len10; assumption)
    · refine fin 20 vL (by decide) e2 e3 (by simp [execOp, e1, Fr.tmp, q13, hcL]) ⟨_, rfl, rfl, ?_, ?_, ?_, fun _ => fr_same _ _ _, ?_, ?_, ?_⟩ <;> simp [put_] <;> (clear fin need hcB hcL ho hedge len10; assumption)
    · have d0 := need 0 _ rfl (by simp)
      refine fin 2 vB (by decide) e2 e3 (by simp [execOp, e1, Fr.tmp, q0 d0]) ⟨_, rfl, rfl, ?_, ?_, ?_, ?_, fun _ => fr_same _ _ _, ?_, ?_⟩ <;> simp [put_] <;> (clear fin need hcB hcL ho hedge len10; assumption)
    · have d1 := need 1 _ rfl (by simp)
      refine fin 3 vL (by decide) e2 e3 (by simp [execOp, e1, Fr.tmp, q1 d1]) ⟨_, rfl, rfl, ?_, ?_, ?_, ?_, ?_, fun _ => fr_same _ _ _, ?_⟩ <;> simp [put_] <;> (clear fin need hcB hcL ho hedge len10; assumption)
    · refine fin 4 (.int .i64 0) (by decide) e2 e3 (by simp [execOp, e1, Fr.const]) ⟨_, rfl, rfl, ?_, ?_, ?_, ?_, ?_, ?_, fun _ => fr_same _ _ _⟩ <;> simp [put_] <;> (clear fin need hcB hcL ho hedge len10; assumption)
  · obtain ⟨f', rfl, rfl, _, _, _, _, q2, q3, q4⟩ := hI
    have hsz : (ops44 9).size = 5 := by rw [← Array.length_toList, len10]
    exact hQ f' (q2 (hall 2 (by omega))) (q3 (hall 3 (by omega))) (q4 (hall 4 (by omega)))
theorem i22 : (Try.prog.info? 22).map (fun i => (i.zero, i.size, i.bytes)) = some (some (Value.slice none 0 0), 1, 24) := by kernel_rfl
theorem i4 : (Try.prog.info? 4).map (fun i => (i.zero, i.size, i.bytes)) = some (some (Value.bool false), 1, 1) := by kernel_rfl
theorem i156 : (Try.prog.info? 156).map (fun i => (i.zero, i.size, i.bytes)) = some (some Value.nilFunc, 1, 8) := by kernel_rfl
noncomputable def bestA (cost : List (List Int)) : Option (List Int × Int × Int) :=
  (d82 cost).bind fun e => bif e != 0 then none else (tryA cost 10 0 ([], [], 0, false)).bind fun s => some (s.2.1, s.2.2.1, 0)
noncomputable def tailC : Code := .seq (B 4) (.seq (B 5) (.seq (B 6) (.seq (B 7) (.seq (B 8) (.seq (.region 9 (ops44 9) true) .ret)))))
set_option maxHeartbeats 2000000 in
theorem tail44 {w w2 : World} {Ok : Nat → Prop} {bC : Nat} {vc : Value} {cost : List (List Int)} {f : Nat → Value} (hL : Later w w2)
    (hA : RepC Try.prog (.sl (.sl (.int .i64))) w Ok [vc] cost) (lo1 : w.heap.size ≤ bC ∧ bC < w2.heap.size) (t1 : f 1 = ptr bC)
    (hbC : w2.heap[bC]? = some (.cells #[vc] 101 (0, 0)))
    {s : S4} (hext : tryA cost 10 0 ([], [], 0, false) = some s) {R : Ending → World → Prop}
    (hR : ∀ w' C o a len cap, Aq.OK C → C.w0 = w → C.Ok = Ok → Sta C o s w' → ShareS 1 w' (C.Sh o) RI a len cap s.2.1 → R (.returned (.tuple #[.slice a len cap, .int .i64 s.2.2.1, .int .i64 0])) { w' with drawn := w'.drawn + 1 }) :
    tailC.wp Try.prog (bodyPost Try.prog Try.f44 R) (Fr 21 f []) w2 := by
  let C : Aq := { w0 := w, Ok := Ok, bF := w2.heap.size + 3, bL := w2.heap.size + 2, bP := w2.heap.size + 1, bC := bC, bB := w2.heap.size, bE := w2.heap.size + 4, vc := vc, H := w2.heap.size + 5, cost := cost }
  have hC : C.OK := by
    refine ⟨?_, hA⟩
    show [w2.heap.size + 3, w2.heap.size + 2, w2.heap.size + 1, bC, w2.heap.size, w2.heap.size + 4].Nodup
    simp only [List.nodup_cons, List.mem_cons, not_or, List.not_mem_nil, not_false_eq_true, and_true, List.nodup_nil]
    omega
  unfold tailC
  refine wp_seq (reg_sh sb4 ?_)
  refine sh_alloc i22 (by decide) ?_
  refine sh_alloc i22 (by decide) ?_
  simp only [show (Value.slice none 0 0).cells = #[Value.slice none 0 0] from rfl]
  show (Code.seq (B 5) _).wp Try.prog _ _ ((w2.alloc (.cells #[.slice none 0 0] 22 (0, 0))).alloc (.cells #[.slice none 0 0] 22 (0, 0)))
  have z2 : ((w2.alloc (.cells #[.slice none 0 0] 22 (0, 0))).alloc (.cells #[.slice none 0 0] 22 (0, 0))).heap.size = w2.heap.size + 2 := by rw [World.size_alloc, World.size_alloc]
  have L2 : Later w2 ((w2.alloc (.cells #[.slice none 0 0] 22 (0, 0))).alloc (.cells #[.slice none 0 0] 22 (0, 0))) := (Later.alloc w2 _).trans (Later.alloc _ _)
  have H2 : ((w2.alloc (.cells #[.slice none 0 0] 22 (0, 0))).alloc (.cells #[.slice none 0 0] 22 (0, 0))).heap[w2.heap.size]? = some (.cells #[.slice none 0 0] 22 (0, 0)) :=
    ((Later.alloc (w2.alloc (.cells #[.slice none 0 0] 22 (0, 0))) _).2.1 _ (by rw [World.size_alloc]; omega)).trans (heap_alloc_new w2 _)
  have H3 : ((w2.alloc (.cells #[.slice none 0 0] 22 (0, 0))).alloc (.cells #[.slice none 0 0] 22 (0, 0))).heap[w2.heap.size + 1]? = some (.cells #[.slice none 0 0] 22 (0, 0)) := by
    have := heap_alloc_new (w2.alloc (.cells #[.slice none 0 0] 22 (0, 0))) (.cells #[.slice none 0 0] 22 (0, 0))
    rwa [World.size_alloc] at this
  have e12 : (w2.alloc (.cells #[.slice none 0 0] 22 (0, 0))).heap.size = w2.heap.size + 1 := World.size_alloc _ _
  rw [e12]
  generalize (w2.alloc (.cells #[.slice none 0 0] 22 (0, 0))).alloc (.cells #[.slice none 0 0] 22 (0, 0)) = W2 at z2 L2 H2 H3
  refine wp_seq (reg_sh sb5 ?_)
  refine sh_alloc i3 (by decide) ?_
  refine sh_alloc i4 (by decide) ?_
  simp only [show (Value.int .i64 0).cells = #[Value.int .i64 0] from rfl, show (Value.bool false).cells = #[Value.bool false] from rfl]
  have z3 : ((W2.alloc (.cells #[.int .i64 0] 3 (0, 0))).alloc (.cells #[.bool false] 4 (0, 0))).heap.size = w2.heap.size + 4 := by rw [World.size_alloc, World.size_alloc, z2]
  have L3 : Later W2 ((W2.alloc (.cells #[.int .i64 0] 3 (0, 0))).alloc (.cells #[.bool false] 4 (0, 0))) := (Later.alloc W2 _).trans (Later.alloc _ _)
  have H4 : ((W2.alloc (.cells #[.int .i64 0] 3 (0, 0))).alloc (.cells #[.bool false] 4 (0, 0))).heap[w2.heap.size + 2]? = some (.cells #[.int .i64 0] 3 (0, 0)) := by
    have := heap_alloc_new W2 (.cells #[.int .i64 0] 3 (0, 0))
    rw [z2] at this
    exact ((Later.alloc (W2.alloc (.cells #[.int .i64 0] 3 (0, 0))) _).2.1 _ (by rw [World.size_alloc, z2]; omega)).trans this
  have H5 : ((W2.alloc (.cells #[.int .i64 0] 3 (0, 0))).alloc (.cells #[.bool false] 4 (0, 0))).heap[w2.heap.size + 3]? = some (.cells #[.bool false] 4 (0, 0)) := by
    have := heap_alloc_new (W2.alloc (.cells #[.int .i64 0] 3 (0, 0))) (.cells #[.bool false] 4 (0, 0))
    rwa [World.size_alloc, z2] at this
  have e13 : (W2.alloc (.cells #[.int .i64 0] 3 (0, 0))).heap.size = w2.heap.size + 3 := by rw [World.size_alloc, z2]
  rw [e13, z2]
  generalize (W2.alloc (.cells #[.int .i64 0] 3 (0, 0))).alloc (.cells #[.bool false] 4 (0, 0)) = W3 at z3 L3 H4 H5
  refine sh_store (v := .int .i64 0) s3 (by simp [Fr.tmp, put_]) rfl rfl rfl H4 ?_
  have L3a : Later W2 (W3.setRow (w2.heap.size + 2) #[.int .i64 0]) := L3.setFresh (by omega) _
  have z3a : (W3.setRow (w2.heap.size + 2) #[.int .i64 0]).heap.size = w2.heap.size + 4 := by rw [setRow_size, z3]
  have H4a : (W3.setRow (w2.heap.size + 2) #[.int .i64 0]).heap[w2.heap.size + 2]? = some (.cells #[.int .i64 0] 3 (0, 0)) := setRow_heap _ _ _ _ _ _ H4
  have H5a : (W3.setRow (w2.heap.size + 2) #[.int .i64 0]).heap[w2.heap.size + 3]? = some (.cells #[.bool false] 4 (0, 0)) := (setRow_other _ _ _ _ (by omega)).trans H5
  clear L3 z3 H4 H5
  generalize W3.setRow (w2.heap.size + 2) #[.int .i64 0] = W4 at L3a z3a H4a H5a
  refine sh_store (v := .bool false) s4 (by simp [Fr.tmp, put_]) rfl rfl rfl H5a ?_
  have L4 : Later W2 (W4.setRow (w2.heap.size + 3) #[.bool false]) := L3a.setFresh (by omega) _
  have z4 : (W4.setRow (w2.heap.size + 3) #[.bool false]).heap.size = w2.heap.size + 4 := by rw [setRow_size, z3a]
  have H5 : (W4.setRow (w2.heap.size + 3) #[.bool false]).heap[w2.heap.size + 3]? = some (.cells #[.bool false] 4 (0, 0)) := setRow_heap _ _ _ _ _ _ H5a
  have H4 : (W4.setRow (w2.heap.size + 3) #[.bool false]).heap[w2.heap.size + 2]? = some (.cells #[.int .i64 0] 3 (0, 0)) := (setRow_other _ _ _ _ (by omega)).trans H4a
  clear L3a z3a H4a H5a
  show (Code.seq (B 6) _).wp Try.prog _ _ (W4.setRow (w2.heap.size + 3) #[.bool false])
  generalize W4.setRow (w2.heap.size + 3) #[.bool false] = W5 at L4 z4 H4 H5
  refine wp_seq (reg_sh sb6 ?_)
  refine sh_alloc i156 (by decide) ?_
  rw [z4]
  refine wp_seq (reg_sh sb7 ?_)
  refine sh_val (v := .func (.func 83) #[] C.caps) (w' := W5.alloc (.cells #[.nilFunc] 156 (0, 0))) (by decide) (fun p hp => by
    simp [execOp, hp, Instr.makeFunc, Fr.tmp, put_, t1]
    exact ⟨rfl, rfl⟩) ?_
  have hnf := heap_alloc_new W5 (.cells #[.nilFunc] 156 (0, 0))
  rw [z4] at hnf
  refine sh_store (v := .func (.func 83) #[] C.caps) (u := .nilFunc) (et := 156) s156 (by simp [Fr.tmp, put_]) (by simp [Fr.tmp, put_]) rfl rfl hnf ?_
  obtain ⟨z6, L6, H6⟩ := alloc_set W5 .nilFunc (.func (.func 83) #[] C.caps) 156
  rw [z4] at z6 L6 H6
  generalize (W5.alloc (.cells #[.nilFunc] 156 (0, 0))).setRow (w2.heap.size + 4) #[.func (.func 83) #[] C.caps] = W6 at z6 L6 H6
  have LA : Later w2 W6 := (L2.trans L4).trans L6
  have l46 := L4.trans L6
  have hS : Sta C none ([], [], 0, false) W6 := by
    refine ⟨fun b => if b = w2.heap.size + 3 then [.bool false] else if b = w2.heap.size + 2 then [.int .i64 0] else if b = bC then [vc] else if b = w2.heap.size + 4 then [.func (.func 83) #[] C.caps] else [.slice none 0 0], ⟨fun b hb => ?_, by show w2.heap.size + 5 ≤ _; omega, hL.trans LA, by have := hL.1; show w.heap.size ≤ w2.heap.size + 5; omega, fun b hb => ?_, fun b hb => by cases hb⟩, ?_⟩
    · have hle := hL.1
      have hb : b = w2.heap.size + 3 ∨ b = w2.heap.size + 2 ∨ b = w2.heap.size + 1 ∨ b = bC ∨ b = w2.heap.size ∨ b = w2.heap.size + 4 := by simpa [C, Aq.boxes] using hb
      show w.heap.size ≤ b ∧ b < w2.heap.size + 5
      omega
    · have hb : b = w2.heap.size + 3 ∨ b = w2.heap.size + 2 ∨ b = w2.heap.size + 1 ∨ b = bC ∨ b = w2.heap.size ∨ b = w2.heap.size + 4 := by simpa [C, Aq.boxes] using hb
      rcases hb with rfl | rfl | rfl | rfl | rfl | rfl
      · exact ⟨4, by rw [if_pos rfl]; exact (L6.2.1 _ (by omega)).trans H5⟩
      · exact ⟨3, by rw [if_neg (by omega), if_pos rfl]; exact (L6.2.1 _ (by omega)).trans H4⟩
      · exact ⟨22, by rw [if_neg (by omega), if_neg (by omega), if_neg (by omega), if_neg (by omega)]; exact (l46.2.1 _ (by omega)).trans H3⟩
      · exact ⟨101, by rw [if_neg (by omega), if_neg (by omega), if_pos rfl]; exact (LA.2.1 _ (by omega)).trans hbC⟩
      · exact ⟨22, by rw [if_neg (by omega), if_neg (by omega), if_neg (by omega), if_neg (by omega)]; exact (l46.2.1 _ (by omega)).trans H2⟩
      · exact ⟨156, by rw [if_neg (by omega), if_neg (by omega), if_neg (by omega), if_pos rfl]; exact H6⟩
    · refine ⟨if_pos rfl, ?_, ⟨none, 0, ?_, rfl, Nat.le_refl _, .inl rfl⟩, ?_, ⟨none, 0, 0, ?_, rfl, Nat.le_refl _, .inl rfl⟩, ?_⟩
      · show (if _ then _ else _) = _
        rw [if_neg (by show ¬ w2.heap.size + 2 = w2.heap.size + 3; omega), if_pos rfl]
      · show (if _ then _ else _) = _
        rw [if_neg (by show ¬ w2.heap.size + 1 = w2.heap.size + 3; omega), if_neg (by show ¬ w2.heap.size + 1 = w2.heap.size + 2; omega), if_neg (by show ¬ w2.heap.size + 1 = bC; omega), if_neg (by show ¬ w2.heap.size + 1 = w2.heap.size + 4; omega)]
        rfl
      · show (if _ then _ else _) = _
        rw [if_neg (by show ¬ bC = w2.heap.size + 3; omega), if_neg (by show ¬ bC = w2.heap.size + 2; omega), if_pos rfl]
      · show (if _ then _ else _) = _
        rw [if_neg (by show ¬ w2.heap.size = w2.heap.size + 3; omega), if_neg (by show ¬ w2.heap.size = w2.heap.size + 2; omega), if_neg (by show ¬ w2.heap.size = bC; omega), if_neg (by show ¬ w2.heap.size = w2.heap.size + 4; omega)]
      · show (if _ then _ else _) = _
        rw [if_neg (by show ¬ w2.heap.size + 4 = w2.heap.size + 3; omega), if_neg (by show ¬ w2.heap.size + 4 = w2.heap.size + 2; omega), if_neg (by show ¬ w2.heap.size + 4 = bC; omega), if_pos rfl]
  refine wp_seq (reg_sh sb8 ?_)
  refine sh_load (v := .func (.func 83) #[] C.caps) (by decide) s156 (by simp [Fr.tmp, put_]) (cell1 H6) ?_
  refine sh_call (g := 83) (args := #[.int .i64 0] ++ C.caps) (w' := W6) (by decide) (fun p hp => by
    simp [execOp, hp, resolve, Deferred.ofValue, invoke, Fr.tmp, Fr.const, put_, k83.run]) ?_
  refine (try_does hC 10 0 ([], [], 0, false) s none W6 hS hext).mono ?_
  rintro ex w' ⟨v, o', rfl, hS'⟩
  refine ⟨v, rfl, ?_⟩
  obtain ⟨vals, hp, hv⟩ := id hS'
  obtain ⟨aB, lB, cB, hB, hB2⟩ := hv.b
  obtain ⟨eB, hB⟩ := hp.row1 (by simp [Aq.boxes]) hB
  obtain ⟨eL, hLl⟩ := hp.row1 (by simp [Aq.boxes]) hv.l
  refine wp_seq (regE (bB := C.bB) (bL := C.bL) (by simp [put_]; rfl) (by simp [put_]; rfl) hB hLl fun f' h6 h7 h8 => ?_)
  exact Go.wp_ret ⟨rfl, _, res3 _ h6 h7 h8, hR w' C o' aB lB cB hC rfl rfl hS' hB2⟩
set_option maxHeartbeats 2000000 in
theorem best_does : Does Try.prog 44 [.sl (.sl (.int .i64))] [.sl (.int .i64), .int .i64, .int .i64] false bestA := by
  intro w Ok cs x y hA hy
  obtain ⟨aa, la, ca, rfl, hA2⟩ := id hA
  show Calls Try.prog 44 #[.slice aa la ca] w _
  simp only [bestA] at hy
  obtain ⟨e, he, hy⟩ := Option.bind_eq_some_iff.1 hy
  cases hn : (e != 0) with
  | true => rw [hn] at hy; cases hy
  | false =>
  rw [hn, cond_false] at hy
  obtain ⟨s, hext, hy⟩ := Option.bind_eq_some_iff.1 hy
  injection hy with hy
  refine calls_of_wp Try.func44 body44 ?_
  have hsz : (#[Value.slice aa la ca] ++ Array.replicate (Try.f44.ntmps - #[Value.slice aa la ca].size) undef).size = 21 := by
    rw [Array.size_append, Array.size_replicate, size44]; rfl
  rw [Fr.of (N := 21) (a := { tmps := #[Value.slice aa la ca] ++ Array.replicate (Try.f44.ntmps - #[Value.slice aa la ca].size) undef, defers := [] }) hsz]
  simp only []
  generalize hf : (fun s => (#[Value.slice aa la ca] ++ Array.replicate (Try.f44.ntmps - #[Value.slice aa la ca].size) undef).getD s undef) = f
  have f0 : f 0 = .slice aa la ca := by rw [← hf]; simp
  clear hf hsz
  refine wp_seq (reg_sh sb0 ?_)
  refine sh_box (v := .slice aa la ca) (by decide) (by simp [Fr.tmp, f0]) rfl ?_
  refine sh_assign (v := .slice none 0 0) (by decide) rfl ?_
  refine sh_assign (v := .int .i64 0) (by decide) rfl ?_
  refine sh_assign (v := .int .i64 0) (by decide) rfl ?_
  generalize hw1 : w.alloc (.cells #[.slice aa la ca] 101 (0, 0)) = w1
  have hs1 : w1.heap.size = w.heap.size + 1 := by rw [← hw1]; simp [World.size_alloc]
  have hL1 : Later w w1 := by rw [← hw1]; exact Later.alloc w _
  have hbA : w1.heap[w.heap.size]? = some (.cells #[.slice aa la ca] 101 (0, 0)) := by
    rw [← hw1]; exact heap_alloc_new w _
  refine wp_seq (wp_seq (reg_sh sb1 ?_))
  refine sh_load (v := .slice aa la ca) (by decide) s101 (by simp [Fr.tmp, put_]) (cell1 hbA) ?_
  refine sh_call (g := 82) (args := #[.slice aa la ca]) (w' := w1) (by decide) (fun p hp => by
    have kf : ∀ a : Act, a.eval (.func 82) = .func (.func 82) #[] #[] := fun _ => rfl
    simp [execOp, hp, resolve, Deferred.ofValue, invoke, kf, Fr.tmp, put_, k82.run]) ?_
  have hm1 : Mono w Ok w1 Ok := ⟨hL1.1, fun b hb hk => ⟨hL1.2.1 b hb, hk⟩⟩
  refine (does82 w1 Ok [.slice aa la ca] x e (RepC.mono _ hm1 hA) he).mono ?_
  rintro ex w2 ⟨us, g', rfl, ⟨_, _, hu⟩, z1, z2, _, z4⟩
  have hu : us = [.int .i64 e] := hu
  subst hu
  have hL2 : Later w1 w2 := ⟨z1, z2, z4⟩
  refine ⟨_, rfl, ?_⟩
  refine sh_assign (v := .int .i64 e) (by decide) (by simp [Fr.tmp, put_]; rfl) ?_
  refine wp_seq (reg_sh sb2 ?_)
  refine sh_move (v := .int .i64 e) (by decide) (by simp [Fr.tmp, put_]) ?_
  refine sh_val (v := .bool (e != 0)) (w' := w2) (by decide) (fun p hp => by
    simp [execOp, hp, Fr.tmp, Fr.const, put_, run_guard, binOp, Op.intCmp]) ?_
  refine wp_cond_split (t := (e != 0)) (by rw [Fr.tmp (by decide), fr_same]) (fun ht => ?_) (fun ht => ?_)
  · rw [hn] at ht; cases ht
  · refine Go.wp_skip ?_
    refine tail44 (w := w) (w2 := w2) (Ok := Ok) (bC := w.heap.size) (hL1.trans hL2) hA (by have := hL2.1; omega) (by simp [put_])
      ((hL2.2.1 _ (by omega)).trans hbA) hext fun w' C o a len cap hC hw0 hOk hS hsh => ?_
    subst hy
    obtain ⟨vals, hp, _⟩ := hS
    have hold := hp.old
    rw [hw0] at hold
    refine ⟨[.slice a len cap, .int .i64 s.2.2.1, .int .i64 0], fun _ => none, rfl, ?_, hold.1, hold.2.1, fun b hb => absurd rfl hb, hold.2.2.trans ⟨rfl, rfl, rfl, Nat.le_succ _⟩⟩
    have hm : Mono w' (C.Sh o) { w' with drawn := w'.drawn + 1 } (fun b => (w.heap.size ≤ b ∨ Ok b) ∧ (none : Option Nat) = none) := ⟨Nat.le_refl _, fun b _ hk => ⟨rfl, by
      rcases hk with ⟨h1, _⟩ | ⟨h1, _⟩
      · rw [hOk] at h1; exact ⟨.inr h1, rfl⟩
      · rw [hw0] at h1; exact ⟨.inl h1, rfl⟩⟩⟩
    exact ⟨[_], [_, _], [_], [_, _], rfl, rfl, ⟨a, len, cap, .shr, rfl, rfl, hsh.mono hm fun _ _ h => h, by simp⟩, [_], [_], [_], [_], rfl, rfl, ⟨.shr, rfl, rfl⟩, .shr, rfl, rfl⟩
example : bestA [[5, 1], [1, 5]] = some ([1, 0], 2, 0) := by kernel_rfl
end Go.Proofs.Ytbapfiaglcllnaa.D.As
end
