import Derived.Test.YtbapfiaglcllnaaXT24a
import Derived.Test.YtbapfiaglcllnaaGDG
import Derived.Test.YtbapfiaglcllnaaH47all
import Derived.Test.YtbapfiaglcllnaaXP24
section
namespace Go.Proofs.Ytbapfiaglcllnaa.D
open Go Go.GD Go.Proofs
noncomputable def ops30 (n : Nat) : Array Oper := ((Try.f57.body).bind (regOf n)).getD #[]
noncomputable abbrev R (n : Nat) : Code := .region n (ops30 n) false
theorem sh0 : shg (ops30 0).toList = [(.move (.tmp 0), some 19, none), (.load 3 (.tmp 2), some 20, none), (.binOp .eql 3 (.tmp 19) (.tmp 20) 3, some 21, none)] := by kernel_rfl
theorem sh1 : shg (ops30 1).toList = [(.load 3 (.tmp 3), some 22, none), (.binOp .lss 3 (.tmp 22) (.const (.int .i64 0)) 3, some 23, none), (.move (.tmp 23), some 24, none), (.move (.tmp 1), some 25, some (2, false)), (.load 3 (.tmp 3), some 26, some (2, false)), (.binOp .lss 3 (.tmp 25) (.tmp 26) 3, some 27, some (2, false)), (.pick (.tmp 24) (.const (.bool true)) (.tmp 27), some 28, none), (.move (.tmp 28), some 29, none), (.move (.tmp 1), some 30, some (7, false)), (.load 3 (.tmp 3), some 31, some (7, false)), (.binOp .eql 3 (.tmp 30) (.tmp 31) 3, some 32, some (7, false)), (.move (.tmp 32), some 33, some (7, false)), (.load 53 (.tmp 4), some 34, some (11, true)), (.call { callee := .builtin .len, args := #[(.tmp 34)], argTypes := #[53] }, some 35, some (11, true)), (.load 53 (.tmp 5), some 36, some (11, true)), (.call { callee := .builtin .len, args := #[(.tmp 36)], argTypes := #[53] }, some 37, some (11, true)), (.binOp .lss 3 (.tmp 35) (.tmp 37) 3, some 38, some (11, true)), (.pick (.tmp 33) (.tmp 38) (.const (.bool false)), some 39, some (7, false)), (.pick (.tmp 29) (.const (.bool true)) (.tmp 39), some 40, none)] := by kernel_rfl
theorem sh2 : shg (ops30 2).toList = [(.load 53 (.tmp 4), some 41, none), (.call { callee := .value (.func 58), args := #[(.tmp 41)], argTypes := #[53] }, some 42, none), (.move (.tmp 1), some 43, none), (.store 53 (.tmp 5) (.tmp 42), none, none), (.store 3 (.tmp 3) (.tmp 43), none, none)] := by kernel_rfl
theorem sh3 : shg (ops30 3).toList = [(.load 3 (.tmp 2), some 44, none), (.move (.tmp 0), some 45, none), (.binOp .andNot 3 (.tmp 44) (.tmp 45) 3, some 46, none), (.assign (.tmp 46), some 12, none)] := by kernel_rfl
theorem sh4 : shg (ops30 4).toList = [(.move (.tmp 12), some 47, none), (.move (.tmp 12), some 48, none), (.unOp .neg 3 (.tmp 48), some 49, none), (.binOp .and 3 (.tmp 47) (.tmp 49) 3, some 50, none), (.assign (.tmp 50), some 13, none)] := by kernel_rfl
theorem sh5 : shg (ops30 5).toList = [(.move (.tmp 12), some 51, none), (.move (.tmp 13), some 52, none), (.binOp .andNot 3 (.tmp 51) (.tmp 52) 3, some 53, none), (.assign (.tmp 53), some 14, none)] := by kernel_rfl
theorem sh6 : shg (ops30 6).toList = [(.move (.tmp 14), some 54, none), (.assign (.tmp 54), some 15, none)] := by kernel_rfl
theorem sh8 : shg (ops30 8).toList = [(.load 22 (.tmp 6), some 60, none), (.load 22 (.tmp 7), some 61, none), (.load 52 (.tmp 8), some 62, none), (.move (.tmp 13), some 63, none), (.move (.tmp 15), some 64, none), (.binOp .or 3 (.tmp 63) (.tmp 64) 3, some 65, none), (.call { callee := .value (.func 59), args := #[(.tmp 60), (.tmp 61), (.tmp 62), (.tmp 65)], argTypes := #[22, 22, 52, 3] }, some 66, none), (.move (.tmp 66), some 59, none), (.extract (.tmp 59) 0, some 67, none), (.extract (.tmp 59) 1, some 68, none), (.extract (.tmp 59) 2, some 69, none), (.alloc 59, some 16, none), (.store 59 (.tmp 16) (.tmp 67), none, none), (.assign (.tmp 68), some 17, none), (.assign (.tmp 69), some 18, none)] := by kernel_rfl
theorem sh9 : shg (ops30 9).toList = [(.move (.tmp 18), some 70, none)] := by kernel_rfl
theorem sh10 : shg (ops30 10).toList = [(.load 53 (.tmp 4), some 71, none), (.load 59 (.tmp 16), some 72, none), (.buildSlice 53 1 #[(0, (.tmp 72))], some 73, none), (.call { callee := .builtin .append, args := #[(.tmp 71), (.tmp 73)], argTypes := #[53, 53] }, some 74, none), (.store 53 (.tmp 4) (.tmp 74), none, none)] := by kernel_rfl
theorem sh11 : shg (ops30 11).toList = [(.load 117 (.tmp 9), some 75, none), (.move (.tmp 0), some 76, none), (.move (.tmp 13), some 77, none), (.binOp .or 3 (.tmp 76) (.tmp 77) 3, some 78, none), (.move (.tmp 15), some 79, none), (.binOp .or 3 (.tmp 78) (.tmp 79) 3, some 80, none), (.move (.tmp 1), some 81, none), (.move (.tmp 17), some 82, none), (.binOp .add 3 (.tmp 81) (.tmp 82) 3, some 83, none), (.call { callee := .value (.tmp 75), args := #[(.tmp 80), (.tmp 83)], argTypes := #[3, 3] }, some 84, none)] := by kernel_rfl
theorem sh12 : shg (ops30 12).toList = [(.load 53 (.tmp 4), some 85, none), (.load 53 (.tmp 4), some 86, none), (.call { callee := .builtin .len, args := #[(.tmp 86)], argTypes := #[53] }, some 87, none), (.binOp .sub 3 (.tmp 87) (.const (.int .i64 1)) 3, some 88, none), (.slice 53 (.tmp 85) none (some (.tmp 88)) none, some 89, none), (.store 53 (.tmp 4) (.tmp 89), none, none)] := by kernel_rfl
theorem sh13 : shg (ops30 13).toList = [(.move (.tmp 15), some 90, none), (.binOp .eql 3 (.tmp 90) (.const (.int .i64 0)) 3, some 91, none)] := by kernel_rfl
theorem sh7 : shg (ops30 7).toList = [(.move (.tmp 15), some 55, none), (.binOp .sub 3 (.tmp 55) (.const (.int .i64 1)) 3, some 56, none), (.move (.tmp 14), some 57, none), (.binOp .and 3 (.tmp 56) (.tmp 57) 3, some 58, none), (.assign (.tmp 58), some 15, none)] := by kernel_rfl
noncomputable def round30 : Code := .seq (.block 1 (.seq (.seq (R 8) (.seq (R 9) (.cond (.tmp 70) (.seq (R 10) (.seq (R 11) (R 12))) .skip))) (.seq (R 13) (.cond (.tmp 91) (.exit 0) .skip)))) (R 7)
theorem body30 : Try.f57.body = some (.seq (.seq (R 0) (.cond (.tmp 21) (.seq (.seq (R 1) (.cond (.tmp 40) (R 2) .skip)) .ret) .skip)) (.seq (R 3) (.seq (R 4) (.seq (R 5) (.seq (R 6) (.block 0 (.loop round30))))))) := by kernel_rfl
theorem size30 : Try.f57.ntmps = 92 := by kernel_rfl
theorem res30 : Try.f57.results.toList = [] := by kernel_rfl
theorem k30 : Callable Try.prog 57 := ⟨Try.f57, Try.func57, by kernel_rfl, by kernel_rfl⟩
theorem u22 : Try.prog.underlying 22 = some (TypeDesc.slice 3) := by kernel_rfl
theorem u30 : Try.prog.underlying 53 = some (TypeDesc.slice 59) := by kernel_rfl
theorem s3 : scalB Try.prog 3 = true := by kernel_rfl
theorem s22 : scalB Try.prog 22 = true := by kernel_rfl
theorem s23 : scalB Try.prog 52 = true := by kernel_rfl
theorem s30 : scalB Try.prog 53 = true := by kernel_rfl
theorem s57 : scalB Try.prog 117 = true := by kernel_rfl
abbrev bdTy : Ty := .pair (.int .i64) (.sl (.int .i64))
abbrev ofTy : Ty := .pair (.int .i64) (.pair (.int .i64) (.pair (.int .i64) (.int .i64)))
abbrev Bd := Int × List Int
abbrev Of := Int × Int × Int × Int
def bAnd (x y : Int) : Int := IntKind.i64.wrap (BitVec.ofInt 64 x &&& BitVec.ofInt 64 y).toNat
def bOr (x y : Int) : Int := IntKind.i64.wrap (BitVec.ofInt 64 x ||| BitVec.ofInt 64 y).toNat
def bDiff (x y : Int) : Int := IntKind.i64.wrap (BitVec.ofInt 64 x &&& ~~~ BitVec.ofInt 64 y).toNat
abbrev S3 := List Bd × List Bd × Int
abbrev Che := Int → Option (Bd × Int × Bool)
def rounds (rec : Int → Int → S3 → Option S3) (che : Che) (cov cost first others : Int) : Nat → Int → S3 → Option S3
  | 0, _, _ => none
  | m + 1, set, s => (che (bOr first set)).bind fun r =>
    (bif r.2.2 then
      bif Nat.ble ((s.1.length + 1) * 32) appendLimit then
        (rec (bOr (bOr cov first) set) (IntKind.i64.wrap (cost + r.2.1)) (s.1 ++ [r.1], s.2.1, s.2.2)).bind fun s' =>
        bif Nat.ble 1 s'.1.length then some (s'.1.take (s'.1.length - 1), s'.2) else none
      else none
    else some s).bind fun s1 =>
    bif set == 0 then some s1 else rounds rec che cov cost first others m (bAnd (IntKind.i64.wrap (set - 1)) others) s1
def better (cost : Int) (s : S3) : Bool := decide (s.2.2 < 0) || (decide (cost < s.2.2) || ((cost == s.2.2) && decide ((s.1.length : Int) < (s.2.1.length : Int))))
def ext (clone : List Bd → Option (List Bd)) (che : Che) (full : Int) : Nat → Int → Int → S3 → Option S3
  | 0, _, _, _ => none
  | n + 1, cov, cost, s => bif cov == full then
      (bif better cost s then (clone s.1).bind fun c => some (s.1, c, cost) else some s)
    else
      let rest := bDiff full cov
      let first := bAnd rest (IntKind.i64.wrap (0 - rest))
      let others := bDiff rest first
      rounds (ext clone che full n) che cov cost first others 300 others s
end Go.Proofs.Ytbapfiaglcllnaa.D
end

section
namespace Go.Proofs.Ytbapfiaglcllnaa.D
open Go Go.GD Go.Proofs
def Later (w w' : World) : Prop := w.heap.size ≤ w'.heap.size ∧ (∀ b, b < w.heap.size → w'.heap[b]? = w.heap[b]?) ∧ SameIO w w'
theorem Later.refl (w : World) : Later w w := ⟨Nat.le_refl _, fun _ _ => rfl, .refl w⟩
theorem Later.trans {a b c : World} (h : Later a b) (k : Later b c) : Later a c := ⟨Nat.le_trans h.1 k.1, fun x hx => (k.2.1 x (Nat.lt_of_lt_of_le hx h.1)).trans (h.2.1 x hx), h.2.2.trans k.2.2⟩
theorem Later.alloc (w : World) (o : Obj) : Later w (w.alloc o) := ⟨by rw [World.size_alloc]; omega, fun b hb => heap_alloc_old w o hb, ⟨rfl, rfl, rfl, by first | exact Nat.le_refl _ | exact Nat.le_succ _ | (simp; done) | (simp; omega)⟩⟩
theorem Later.setFresh {w w1 : World} (h : Later w w1) {b : Nat} (hb : w.heap.size ≤ b) (cs : Array Value) : Later w (w1.setRow b cs) :=
  ⟨by rw [setRow_size]; exact h.1, fun c hc => (setRow_other w1 b c _ (by omega)).trans (h.2.1 c hc), h.2.2.trans ⟨rfl, rfl, rfl, by first | exact Nat.le_refl _ | exact Nat.le_succ _ | (simp; done) | (simp; omega)⟩⟩
structure Cq where
  w0 : World
  Ok : Nat → Prop
  bF : Nat
  bL : Nat
  bN : Nat
  bB : Nat
  bA : Nat
  bP : Nat
  bO : Nat
  bE : Nat
  full : Int
  va : Value
  vp : Value
  vo : Value
  H : Nat
  ages : List Int
  prices : List Int
  offers : List Of
def Cq.boxes (C : Cq) : List Nat := [C.bF, C.bL, C.bN, C.bB, C.bA, C.bP, C.bO, C.bE]
abbrev ptr (b : Nat) : Value := .pointer (some ⟨b, 0, none⟩)
def Cq.caps (C : Cq) : Array Value := #[ptr C.bF, ptr C.bL, ptr C.bN, ptr C.bB, ptr C.bA, ptr C.bP, ptr C.bO, ptr C.bE]
structure Cq.OK (C : Cq) : Prop where
  lo : ∀ b, b ∈ C.boxes → C.w0.heap.size ≤ b ∧ b < C.H
  nd : C.boxes.Nodup
  ages : RepC Try.prog (.sl (.int .i64)) C.w0 C.Ok [C.va] C.ages
  prices : RepC Try.prog (.sl (.int .i64)) C.w0 C.Ok [C.vp] C.prices
  offers : RepC Try.prog (.sl ofTy) C.w0 C.Ok [C.vo] C.offers
def Cq.Sh (C : Cq) (o : Option Nat) (b : Nat) : Prop := (C.Ok b ∧ b < C.w0.heap.size) ∨ (C.w0.heap.size ≤ b ∧ b ∉ C.boxes ∧ o ≠ some b)
structure Stt (C : Cq) (o : Option Nat) (s : S3) (w : World) : Prop where
  sz : C.H ≤ w.heap.size
  old : Later C.w0 w
  f : ∃ e, w.heap[C.bF]? = some (.cells #[.int .i64 C.full] e (0, 0))
  l : ∃ e, w.heap[C.bL]? = some (.cells #[.int .i64 s.2.2] e (0, 0))
  n : ∃ e a cap, w.heap[C.bN]? = some (.cells #[.slice a s.1.length cap] e (0, 0)) ∧ HoldS 2 w (fun b => o = some b) (RepC Try.prog bdTy w (C.Sh o)) a s.1.length cap s.1
  b : ∃ e a len cap, w.heap[C.bB]? = some (.cells #[.slice a len cap] e (0, 0)) ∧ ShareS 2 w (C.Sh o) (RepC Try.prog bdTy w (C.Sh o)) a len cap s.2.1
  a : ∃ e, w.heap[C.bA]? = some (.cells #[C.va] e (0, 0))
  p : ∃ e, w.heap[C.bP]? = some (.cells #[C.vp] e (0, 0))
  q : ∃ e, w.heap[C.bO]? = some (.cells #[C.vo] e (0, 0))
  e : ∃ e, w.heap[C.bE]? = some (.cells #[.func (.func 57) #[] C.caps] e (0, 0))
  hn : ∀ b, o = some b → C.H ≤ b ∧ b < w.heap.size
section
variable {C : Cq} {o : Option Nat} {s : S3} {w w' : World}
theorem Cq.OK.w0H (hC : C.OK) : C.w0.heap.size < C.H := by
  have := hC.lo C.bF (by simp [Cq.boxes])
  omega
theorem sh_mono (hC : C.OK) (hn : ∀ b, o = some b → C.H ≤ b) (hs : w.heap.size ≤ w'.heap.size) (hf : ∀ b, b < w.heap.size → b ∉ C.boxes → o ≠ some b → w'.heap[b]? = w.heap[b]?) : Mono w (C.Sh o) w' (C.Sh o) := by
  refine ⟨hs, fun b hb hk => ⟨?_, hk⟩⟩
  rcases hk with ⟨h1, h2⟩ | ⟨h1, h2, h3⟩
  · refine hf b hb (fun h => by have := (hC.lo b h).1; omega) fun h => ?_
    have := hn b h
    have := hC.w0H
    omega
  · exact hf b hb h2 h3
theorem sh_turn (hC : C.OK) {o' : Option Nat} (hn : ∀ b, o = some b → C.H ≤ b) (hn' : ∀ b, o' = some b → o = some b ∨ w.heap.size ≤ b) (hs : w.heap.size ≤ w'.heap.size) (hf : ∀ b, b < w.heap.size → b ∉ C.boxes → o ≠ some b → w'.heap[b]? = w.heap[b]?) :
    Mono w (C.Sh o) w' (C.Sh o') := by
  have h := sh_mono hC hn hs hf
  refine ⟨hs, fun b hb hk => ⟨(h.2 b hb hk).1, ?_⟩⟩
  rcases hk with ⟨h1, h2⟩ | ⟨h1, h2, h3⟩
  · exact .inl ⟨h1, h2⟩
  · refine .inr ⟨h1, h2, fun e => ?_⟩
    rcases hn' b e with h | h
    · exact h3 h
    · omega
theorem Stt.later (hC : C.OK) (h : Stt C o s w) (k : Later w w') : Stt C o s w' := by
  have lt : ∀ b, b ∈ C.boxes → w'.heap[b]? = w.heap[b]? := fun b hb => k.2.1 b (by have := (hC.lo b hb).2; have := h.sz; omega)
  have hm := sh_mono (w' := w') hC (fun b hb => (h.hn b hb).1) k.1 (fun b hb _ _ => k.2.1 b hb)
  have hr : ∀ cs (x : Bd), RepC Try.prog bdTy w (C.Sh o) cs x → RepC Try.prog bdTy w' (C.Sh o) cs x := fun _ _ => RepC.mono bdTy hm
  obtain ⟨e1, h1⟩ := h.f
  obtain ⟨e2, h2⟩ := h.l
  obtain ⟨e3, a3, c3, h3, g3⟩ := h.n
  obtain ⟨e4, a4, l4, c4, h4, g4⟩ := h.b
  obtain ⟨e5, h5⟩ := h.a
  obtain ⟨e6, h6⟩ := h.p
  obtain ⟨e7, h7⟩ := h.q
  obtain ⟨e8, h8⟩ := h.e
  exact ⟨Nat.le_trans h.sz k.1, h.old.trans k, ⟨e1, (lt _ (by simp [Cq.boxes])).trans h1⟩, ⟨e2, (lt _ (by simp [Cq.boxes])).trans h2⟩,
    ⟨e3, a3, c3, (lt _ (by simp [Cq.boxes])).trans h3, g3.mono ⟨k.1, fun b hb hk => ⟨k.2.1 b hb, hk⟩⟩ hr⟩, ⟨e4, a4, l4, c4, (lt _ (by simp [Cq.boxes])).trans h4, g4.mono hm hr⟩,
    ⟨e5, (lt _ (by simp [Cq.boxes])).trans h5⟩, ⟨e6, (lt _ (by simp [Cq.boxes])).trans h6⟩, ⟨e7, (lt _ (by simp [Cq.boxes])).trans h7⟩, ⟨e8, (lt _ (by simp [Cq.boxes])).trans h8⟩,
    fun b hb => ⟨(h.hn b hb).1, Nat.lt_of_lt_of_le (h.hn b hb).2 k.1⟩⟩
theorem set_frame (hC : C.OK) (h : Stt C o s w) {x : Nat} (hx : x ∈ C.boxes) (v : Value) : (∀ b, b ≠ x → (w.setRow x #[v]).heap[b]? = w.heap[b]?) ∧ Mono w (C.Sh o) (w.setRow x #[v]) (C.Sh o) ∧ Mono w (fun b => o = some b) (w.setRow x #[v]) (fun b => o = some b) ∧ Later C.w0 (w.setRow x #[v]) := by
  have h1 : ∀ b, b ≠ x → (w.setRow x #[v]).heap[b]? = w.heap[b]? := fun b hb => setRow_other _ _ _ _ hb
  refine ⟨h1, sh_mono hC (fun b hb => (h.hn b hb).1) (by rw [setRow_size]; exact Nat.le_refl _) (fun b _ hb _ => h1 b fun e => hb (by rw [e]; exact hx)), ⟨by rw [setRow_size]; exact Nat.le_refl _, fun b hb hk => ⟨h1 b fun e => ?_, hk⟩⟩, ⟨by rw [setRow_size]; exact h.old.1, fun b hb => (h1 b fun e => ?_).trans (h.old.2.1 b hb), h.old.2.2.trans ⟨rfl, rfl, rfl, by first | exact Nat.le_refl _ | exact Nat.le_succ _ | (simp; done) | (simp; omega)⟩⟩⟩
  · have := (h.hn b hk).1
    have := (hC.lo x hx).2
    omega
  · have := (hC.lo x hx).1
    omega
end
end Go.Proofs.Ytbapfiaglcllnaa.D
end

section
namespace Go.Proofs.Ytbapfiaglcllnaa.D
open Go Go.GD Go.Proofs
section
variable {C : Cq} {o : Option Nat} {s : S3} {w : World}
theorem Stt.setL (hC : C.OK) (h : Stt C o s w) (n : Int) : Stt C o (s.1, s.2.1, n) (w.setRow C.bL #[.int .i64 n]) := by
  obtain ⟨fr, m1, m2, ol⟩ := set_frame hC h (x := C.bL) (by simp [Cq.boxes]) (.int .i64 n)
  have nd := hC.nd
  simp only [Cq.boxes, List.nodup_cons, List.mem_cons, not_or, List.not_mem_nil, not_false_eq_true, and_true, List.nodup_nil] at nd
  obtain ⟨⟨n1, n2, n3, n4, n5, n6, n7⟩, ⟨p2, p3, p4, p5, p6, p7⟩, _⟩ := nd
  have hr : ∀ cs (x : Bd), RepC Try.prog bdTy w (C.Sh o) cs x → RepC Try.prog bdTy (w.setRow C.bL #[.int .i64 n]) (C.Sh o) cs x := fun _ _ => RepC.mono bdTy m1
  obtain ⟨e1, h1⟩ := h.f
  obtain ⟨e2, h2⟩ := h.l
  obtain ⟨e3, a3, c3, h3, g3⟩ := h.n
  obtain ⟨e4, a4, l4, c4, h4, g4⟩ := h.b
  obtain ⟨e5, h5⟩ := h.a
  obtain ⟨e6, h6⟩ := h.p
  obtain ⟨e7, h7⟩ := h.q
  obtain ⟨e8, h8⟩ := h.e
  exact ⟨by rw [setRow_size]; exact h.sz, ol, ⟨e1, (fr _ n1).trans h1⟩, ⟨e2, setRow_heap w C.bL _ _ e2 _ h2⟩, ⟨e3, a3, c3, (fr _ (fun e => p2 e.symm)).trans h3, g3.mono m2 hr⟩, ⟨e4, a4, l4, c4, (fr _ (fun e => p3 e.symm)).trans h4, g4.mono m1 hr⟩,
    ⟨e5, (fr _ (fun e => p4 e.symm)).trans h5⟩, ⟨e6, (fr _ (fun e => p5 e.symm)).trans h6⟩, ⟨e7, (fr _ (fun e => p6 e.symm)).trans h7⟩, ⟨e8, (fr _ (fun e => p7 e.symm)).trans h8⟩, fun b hb => by rw [setRow_size]; exact h.hn b hb⟩
theorem Stt.setB (hC : C.OK) (h : Stt C o s w) {a : Option Addr} {len cap : Nat} {xs : List Bd} (hs : ShareS 2 w (C.Sh o) (RepC Try.prog bdTy w (C.Sh o)) a len cap xs) : Stt C o (s.1, xs, s.2.2) (w.setRow C.bB #[.slice a len cap]) := by
  obtain ⟨fr, m1, m2, ol⟩ := set_frame hC h (x := C.bB) (by simp [Cq.boxes]) (.slice a len cap)
  have nd := hC.nd
  simp only [Cq.boxes, List.nodup_cons, List.mem_cons, not_or, List.not_mem_nil, not_false_eq_true, and_true, List.nodup_nil] at nd
  obtain ⟨⟨n1, n2, n3, n4, n5, n6, n7⟩, ⟨p2, p3, p4, p5, p6, p7⟩, ⟨q3, q4, q5, q6, q7⟩, ⟨r4, r5, r6, r7⟩, _⟩ := nd
  have hr : ∀ cs (x : Bd), RepC Try.prog bdTy w (C.Sh o) cs x → RepC Try.prog bdTy (w.setRow C.bB #[.slice a len cap]) (C.Sh o) cs x := fun _ _ => RepC.mono bdTy m1
  obtain ⟨e1, h1⟩ := h.f
  obtain ⟨e2, h2⟩ := h.l
  obtain ⟨e3, a3, c3, h3, g3⟩ := h.n
  obtain ⟨e4, a4, l4, c4, h4, g4⟩ := h.b
  obtain ⟨e5, h5⟩ := h.a
  obtain ⟨e6, h6⟩ := h.p
  obtain ⟨e7, h7⟩ := h.q
  obtain ⟨e8, h8⟩ := h.e
  exact ⟨by rw [setRow_size]; exact h.sz, ol, ⟨e1, (fr _ n3).trans h1⟩, ⟨e2, (fr _ p3).trans h2⟩, ⟨e3, a3, c3, (fr _ q3).trans h3, g3.mono m2 hr⟩, ⟨e4, a, len, cap, setRow_heap w C.bB _ _ e4 _ h4, hs.mono m1 hr⟩,
    ⟨e5, (fr _ (fun e => r4 e.symm)).trans h5⟩, ⟨e6, (fr _ (fun e => r5 e.symm)).trans h6⟩, ⟨e7, (fr _ (fun e => r6 e.symm)).trans h7⟩, ⟨e8, (fr _ (fun e => r7 e.symm)).trans h8⟩, fun b hb => by rw [setRow_size]; exact h.hn b hb⟩
theorem Stt.setN (hC : C.OK) (h : Stt C o s w) {o' : Option Nat} {w1 : World} {a : Option Addr} {cap : Nat} {xs : List Bd} (hs : w.heap.size ≤ w1.heap.size) (hf : ∀ b, b < w.heap.size → o ≠ some b → w1.heap[b]? = w.heap[b]?) (hio : SameIO w w1)
    (hn' : ∀ b, o' = some b → (o = some b ∨ w.heap.size ≤ b) ∧ b < w1.heap.size) (hold : HoldS 2 w1 (fun b => o' = some b) (RepC Try.prog bdTy w1 (C.Sh o')) a xs.length cap xs) : Stt C o' (xs, s.2) (w1.setRow C.bN #[.slice a xs.length cap]) := by
  have hno : ∀ b, o = some b → C.H ≤ b := fun b hb => (h.hn b hb).1
  have hno' : ∀ b, o' = some b → C.H ≤ b := fun b hb => by
    rcases (hn' b hb).1 with e | e
    · exact hno b e
    · have := h.sz; omega
  have nd := hC.nd
  simp only [Cq.boxes, List.nodup_cons, List.mem_cons, not_or, List.not_mem_nil, not_false_eq_true, and_true, List.nodup_nil] at nd
  obtain ⟨⟨n1, n2, n3, n4, n5, n6, n7⟩, ⟨p2, p3, p4, p5, p6, p7⟩, ⟨q3, q4, q5, q6, q7⟩, _⟩ := nd
  have hNlt := (hC.lo C.bN (by simp [Cq.boxes])).2
  have hNlo := (hC.lo C.bN (by simp [Cq.boxes])).1
  have fr1 : ∀ b, b ≠ C.bN → (w1.setRow C.bN #[.slice a xs.length cap]).heap[b]? = w1.heap[b]? := fun b hb => setRow_other _ _ _ _ hb
  have fr : ∀ b, b < w.heap.size → b ≠ C.bN → o ≠ some b → (w1.setRow C.bN #[.slice a xs.length cap]).heap[b]? = w.heap[b]? := fun b hb hN ho => (fr1 b hN).trans (hf b hb ho)
  have hsz : w.heap.size ≤ (w1.setRow C.bN #[.slice a xs.length cap]).heap.size := by rw [setRow_size]; exact hs
  have box : ∀ b, b ∈ C.boxes → b ≠ C.bN → (w1.setRow C.bN #[.slice a xs.length cap]).heap[b]? = w.heap[b]? := fun b hb hN => fr b (by have := (hC.lo b hb).2; have := h.sz; omega) hN fun e => by
    have := hno b e; have := (hC.lo b hb).2; omega
  have mt := sh_turn (o' := o') (w' := w1.setRow C.bN #[.slice a xs.length cap]) hC hno (fun b hb => (hn' b hb).1) hsz (fun b hb hB ho => fr b hb (fun e => hB (by rw [e]; simp [Cq.boxes])) ho)
  have m1 : Mono w1 (C.Sh o') (w1.setRow C.bN #[.slice a xs.length cap]) (C.Sh o') := sh_mono hC hno' (by rw [setRow_size]; exact Nat.le_refl _) fun b _ hB _ => fr1 b fun e => hB (by rw [e]; simp [Cq.boxes])
  have m2 : Mono w1 (fun b => o' = some b) (w1.setRow C.bN #[.slice a xs.length cap]) (fun b => o' = some b) := ⟨by rw [setRow_size]; exact Nat.le_refl _, fun b _ hk => ⟨fr1 b fun e => by have := hno' b hk; omega, hk⟩⟩
  obtain ⟨e1, h1⟩ := h.f
  obtain ⟨e2, h2⟩ := h.l
  obtain ⟨e3, a3, c3, h3, g3⟩ := h.n
  obtain ⟨e4, a4, l4, c4, h4, g4⟩ := h.b
  obtain ⟨e5, h5⟩ := h.a
  obtain ⟨e6, h6⟩ := h.p
  obtain ⟨e7, h7⟩ := h.q
  obtain ⟨e8, h8⟩ := h.e
  have hN1 : w1.heap[C.bN]? = some (.cells #[Value.slice a3 s.1.length c3] e3 (0, 0)) := (hf C.bN (by have := h.sz; omega) (fun e => by have := hno _ e; omega)).trans h3
  refine ⟨Nat.le_trans h.sz hsz, ⟨Nat.le_trans h.old.1 hsz, fun b hb => (fr b (Nat.lt_of_lt_of_le hb h.old.1) (by omega) (fun e => by have := hno b e; have := hC.w0H; omega)).trans (h.old.2.1 b hb), h.old.2.2.trans (hio.trans ⟨rfl, rfl, rfl, by first | exact Nat.le_refl _ | exact Nat.le_succ _ | (simp; done) | (simp; omega)⟩)⟩, ⟨e1, (box _ (by simp [Cq.boxes]) n2).trans h1⟩, ⟨e2, (box _ (by simp [Cq.boxes]) p2).trans h2⟩,
    ⟨e3, a, cap, setRow_heap w1 C.bN _ _ e3 _ hN1, hold.mono m2 fun _ _ => RepC.mono bdTy m1⟩, ⟨e4, a4, l4, c4, (box _ (by simp [Cq.boxes]) (fun e => q3 e.symm)).trans h4, g4.mono mt fun _ _ => RepC.mono bdTy mt⟩,
    ⟨e5, (box _ (by simp [Cq.boxes]) (fun e => q4 e.symm)).trans h5⟩, ⟨e6, (box _ (by simp [Cq.boxes]) (fun e => q5 e.symm)).trans h6⟩, ⟨e7, (box _ (by simp [Cq.boxes]) (fun e => q6 e.symm)).trans h7⟩, ⟨e8, (box _ (by simp [Cq.boxes]) (fun e => q7 e.symm)).trans h8⟩, fun b hb => ⟨hno' b hb, by rw [setRow_size]; exact (hn' b hb).2⟩⟩
theorem cheapest_run (hC : C.OK) (h : Stt C o s w) (set : Int) {y : Bd × Int × Bool} (hy : d59 (C.ages, C.prices, C.offers, set) = some y) :
    Calls Try.prog 59 #[C.va, C.vp, C.vo, .int .i64 set] w fun ex w' => ∃ c : List Value, ex = .returned (.tuple #[.agg c.toArray, .int .i64 y.2.1, .bool y.2.2]) ∧ c.length = 2 ∧ RepC Try.prog bdTy w' (C.Sh o) c y.1 ∧ Later w w' := by
  have hm0 : Mono C.w0 C.Ok w (C.Sh o) := ⟨h.old.1, fun b hb hk => ⟨h.old.2.1 b hb, .inl ⟨hk, hb⟩⟩⟩
  have := does59 w (C.Sh o) [C.va, C.vp, C.vo, .int .i64 set] (C.ages, C.prices, C.offers, set) y ⟨[_], _, rfl, RepC.mono _ hm0 hC.ages, [_], _, rfl, RepC.mono _ hm0 hC.prices, [_], _, rfl, RepC.mono _ hm0 hC.offers, rfl⟩ hy
  refine this.mono ?_
  rintro ex w' ⟨us, g', rfl, hx, h1, h2, h3, h4⟩
  obtain ⟨c1, c2, m1, m2, rfl, hms, hx1, hx2⟩ := hx
  obtain ⟨d1, d2, k1, k2, rfl, hk, ⟨m3, rfl, hi⟩, hx3⟩ := hx1
  obtain ⟨a, len, cap, m4, rfl, rfl, hs⟩ := hx3
  obtain ⟨b1, b2, l1, l2, rfl, rfl, ⟨m5, rfl, hn⟩, m6, rfl, hb⟩ := hx2
  have hi : d1 = [.int .i64 y.1.1] := hi
  have hn : b1 = [.int .i64 y.2.1] := hn
  have hb : b2 = [.bool y.2.2] := hb
  subst hi hn hb
  rw [hk] at hms
  have hms : [Mk.shr, .own, .shr, .shr] = [m3] ++ [m4] ++ ([m5] ++ [m6]) := hms
  simp only [List.cons_append, List.nil_append, List.cons.injEq, and_true] at hms
  obtain ⟨rfl, rfl, rfl, rfl⟩ := hms
  have hsh : ShareS 1 w' (C.Sh o) (RepC Try.prog (.int .i64) w' (C.Sh o)) a len cap y.1.2 := by
    refine HoldS.share (B' := C.Sh o) (w' := w') ⟨Nat.le_refl _, fun b _ hk => ⟨rfl, ?_⟩⟩ (fun _ _ h => h) hs.1
    have := (h3 b (by rw [hk]; simp)).1
    refine .inr ⟨by have := h.old.1; omega, fun hB => ?_, fun e => ?_⟩
    · have := (hC.lo b hB).2
      have := h.sz
      omega
    · have := (h.hn b e).2
      omega
  exact ⟨[.int .i64 y.1.1, .slice a len cap], rfl, rfl, ⟨[_], [_], rfl, rfl, a, len, cap, rfl, hsh⟩, h1, h2, h4⟩
end
end Go.Proofs.Ytbapfiaglcllnaa.D
end

section
namespace Go.Proofs.Ytbapfiaglcllnaa.D
open Go Go.GD Go.Proofs
noncomputable def ops31 (n : Nat) : Array Oper := ((Try.f58.body).bind (regOf n)).getD #[]
theorem sc0 : shg (ops31 0).toList = [(.assign (.const (.slice none 0 0)), some 2, none)] := by kernel_rfl
theorem sc1 : shg (ops31 1).toList = [(.move (.tmp 0), some 3, none), (.binOp .eql 53 (.tmp 3) (.const (.slice none 0 0)) 53, some 4, none)] := by kernel_rfl
theorem sc2 : shg (ops31 2).toList = [(.assign (.const (.slice none 0 0)), some 2, none)] := by kernel_rfl
theorem sc3 : shg (ops31 3).toList = [(.buildSlice 53 0 #[], some 5, none), (.move (.tmp 0), some 6, none), (.call { callee := .builtin .append, args := #[(.tmp 5), (.tmp 6)], argTypes := #[53, 53] }, some 7, none), (.assign (.tmp 7), some 2, none)] := by kernel_rfl
theorem body31 : Try.f58.body = some (.seq (.region 0 (ops31 0) false) (.seq (.seq (.region 1 (ops31 1) false) (.cond (.tmp 4) (.seq (.region 2 (ops31 2) false) .ret) .skip)) (.seq (.region 3 (ops31 3) false) .ret))) := by kernel_rfl
theorem i43 : (Try.prog.info? 59).map (fun i => (i.zero, i.size, i.bytes)) = some (some (Value.agg #[.int .i64 0, .slice none 0 0]), 2, 32) := by kernel_rfl
theorem info_at {P : Program} {T : TypeId} {z : Value} {s b : Nat} (h : (P.info? T).map (fun i => (i.zero, i.size, i.bytes)) = some (some z, s, b)) : ∃ i, P.info? T = some i ∧ i.zero = some z ∧ i.size = s ∧ i.bytes = b := by
  cases hi : P.info? T with
  | none => rw [hi] at h; cases h
  | some i =>
    rw [hi] at h
    simp only [Option.map_some, Option.some.injEq, Prod.mk.injEq] at h
    exact ⟨i, rfl, h.1, h.2.1, h.2.2⟩
theorem res_at {fn : Func} {N s : Nat} {f : Nat → Value} {v : Value} (w : World) (hr : fn.results.toList = [.tmp s]) (hs : s < N) (h : f s = v) : (results fn (Fr N f []).tmps).run Try.prog w = .ok v w := by
  have hg : (Fr N f []).tmps[s]?.getD undef = v := by rw [← Array.getD_eq_getD_getElem?, Fr.get hs, h]
  refine (run_results (vs := [v]) (by
    rw [hr]
    simp [readOne, hg])).trans rfl
set_option maxHeartbeats 1000000 in
theorem clone_run {Sh : Nat → Prop} {w : World} {a : Option Addr} {len cap : Nat} {xs : List Bd} (hh : xs.length = len ∧ len ≤ cap ∧ (len = 0 ∨ ∃ ad : Addr, a = some ad ∧ ad.spot = none ∧ ad.block < w.heap.size ∧ GD.Rows 2 w (RepC Try.prog bdTy w Sh) ad xs)) (hlim : len * 32 ≤ appendLimit) :
    Calls Try.prog 58 #[.slice a len cap] w fun ex w' => ∃ a' cap', ex = .returned (.slice a' len cap') ∧ Later w w' ∧ len ≤ cap' ∧ (len = 0 ∨ ∃ b, a' = some ⟨b, 0, none⟩ ∧ w.heap.size ≤ b ∧ b < w'.heap.size ∧ GD.Rows 2 w' (RepC Try.prog bdTy w Sh) ⟨b, 0, none⟩ xs) := by
  refine calls_of_wp Try.func58 body31 ?_
  have hsz : (#[Value.slice a len cap] ++ Array.replicate (Try.f58.ntmps - #[Value.slice a len cap].size) undef).size = 8 := by
    rw [Array.size_append, Array.size_replicate, show Try.f58.ntmps = 8 from by kernel_rfl]; rfl
  rw [Fr.of (N := 8) (a := { tmps := #[Value.slice a len cap] ++ Array.replicate (Try.f58.ntmps - #[Value.slice a len cap].size) undef, defers := [] }) hsz]
  simp only []
  generalize hf : (fun s => (#[Value.slice a len cap] ++ Array.replicate (Try.f58.ntmps - #[Value.slice a len cap].size) undef).getD s undef) = f
  have f0 : f 0 = .slice a len cap := by rw [← hf]; simp
  clear hf
  have hr : Try.f58.results.toList = [.tmp 2] := by kernel_rfl
  refine wp_seq (reg_sh sc0 (sh_assign (v := .slice none 0 0) (by decide) rfl ?_))
  refine wp_seq (wp_seq (reg_sh sc1 ?_))
  refine sh_move (v := .slice a len cap) (by decide) (by simp [Fr.tmp, put_, f0]) ?_
  have hq : (Op.equal 53 (.slice a len cap) (.slice none 0 0)).run Try.prog w = .ok a.isNone w := by
    unfold Op.equal Op.maxDepth
    exact eq_nil_run u30 9999 a len cap
  refine sh_val (v := .bool a.isNone) (w' := w) (by decide) (fun p hp => by
    simp [execOp, hp, Fr.tmp, Fr.const, put_, eqGuard, binOp, hq]) ?_
  refine wp_cond_split (t := a.isNone) (by rw [Fr.tmp (by decide), fr_same]) (fun ht => ?_) (fun ht => ?_)
  · have hl0 : len = 0 := by
      rcases hh.2.2 with h | ⟨ad, h, _⟩
      · exact h
      · rw [h] at ht; cases ht
    subst hl0
    refine wp_seq (reg_sh sc2 (sh_assign (v := .slice none 0 0) (by decide) rfl (Go.wp_ret ⟨rfl, .slice none 0 0, res_at w hr (by decide) (fr_same _ _ _), none, 0, rfl, Later.refl w, Nat.le_refl _, .inl rfl⟩)))
  · refine Go.wp_skip (wp_seq (reg_sh sc3 ?_))
    obtain ⟨i, hi, hz, hs, hb⟩ := info_at i43
    have hzv : (zeroValue 59).run Try.prog w = .ok (.agg #[.int .i64 0, .slice none 0 0]) w := by simp [zeroValue, Go.typeInfo, hi, hz]
    have hs43 : (sizeOf 59).run Try.prog w = .ok 2 w := by simp [sizeOf, Go.typeInfo, hi, hs]
    have hbs := run_buildSlice' (w := w) (P := Try.prog) (T := 53) (n := 0) (el := 59) (size := 2) (zv := .agg #[.int .i64 0, .slice none 0 0]) (parts := #[]) (final := #[]) u30 hs43 hzv (by decide) (fun init hi => by
      match init, hi with
      | ⟨[]⟩, _ => rfl)
    refine sh_val (v := .slice (some ⟨w.heap.size, 0, none⟩) 0 0) (w' := w.alloc (.cells #[] 59 (0, 0))) (by decide) (fun p hp => by
      simp [execOp, hp, hbs]) ?_
    refine sh_move (v := .slice a len cap) (by decide) (by simp [Fr.tmp, put_, f0]) ?_
    have hL1 : Later w (w.alloc (.cells #[] 59 (0, 0))) := Later.alloc w _
    rcases Nat.eq_zero_or_pos len with hl0 | hlp
    · subst hl0
      have hsrc : Src Try.prog 2 53 (.slice a 0 cap) 0 [] (w.alloc (.cells #[] 59 (0, 0))) := by
        cases a with
        | none => exact Src.ofNil _ u30 cap
        | some ad => exact Src.ofSlice _ u30 ad 0 cap [] rfl (fun j u h => by simp at h) (fun u hu => by cases hu)
      have hap : ∀ ty, (Builtin.append_ #[53, 53] ty #[.slice (some ⟨w.heap.size, 0, none⟩) 0 0, .slice a 0 cap]).run Try.prog (w.alloc (.cells #[] 59 (0, 0))) = .ok (.slice (some ⟨w.heap.size, 0, none⟩) 0 0) (w.alloc (.cells #[] 59 (0, 0))) :=
        fun ty => run_append_none (P := Try.prog) (w := w.alloc (.cells #[] 59 (0, 0))) 53 53 ty 59 2 u30 hi hs 0 0 (.slice a 0 cap) hsrc (Nat.le_refl _) (some ⟨w.heap.size, 0, none⟩)
      refine sh_val (v := .slice (some ⟨w.heap.size, 0, none⟩) 0 0) (w' := w.alloc (.cells #[] 59 (0, 0))) (by decide) (fun p hp => by
        simp [execOp, hp, resolve, invoke, builtin, Fr.tmp, put_, hap]) ?_
      refine sh_assign (v := .slice (some ⟨w.heap.size, 0, none⟩) 0 0) (by decide) ((Fr.tmp (by decide)).trans (fr_same _ _ _)) ?_
      exact Go.wp_ret ⟨rfl, _, res_at _ hr (by decide) (fr_same _ _ _), _, _, rfl, hL1, Nat.le_refl _, .inl rfl⟩
    · obtain ⟨h1, h2, h3⟩ := hh
      rcases h3 with h3 | ⟨ad, rfl, hsp, hlt, hrow⟩
      · omega
      obtain ⟨news, ho1, ho2⟩ := hrow.segs (by decide)
      have hnl : news.length = len * 2 := by rw [ho1.1, h1]
      have hsrc : Src Try.prog i.size 53 (.slice (some ad) len cap) len news (w.alloc (.cells #[] 59 (0, 0))) := by
        rw [hs]
        refine Src.ofSlice _ u30 ad len cap news hnl (fun j u hj => ?_) (Segs.oneCell (t := bdTy) ho1 (by decide))
        have hj' : j < news.length := by
          rcases Nat.lt_or_ge j news.length with h | h
          · exact h
          · rw [List.getElem?_eq_none h] at hj; cases hj
        rw [addr_add hsp, cell_congr (hL1.2.1 ad.block hlt)]
        exact (ho2 j hj').trans hj
      have hfc : (Builtin.firstCells i.size 0 (.slice (some ⟨w.heap.size, 0, none⟩) 0 0)).run Try.prog (w.alloc (.cells #[] 59 (0, 0))).drew = .ok ([] : List Value).toArray (w.alloc (.cells #[] 59 (0, 0))).drew :=
        run_firstCells_some _ i.size 0 _ _ _ [] (by simp) (fun j v hj => by simp at hj)
      have hfit := growslice_fits (need := 0 + len) (old := 0) (bytes := i.bytes) (by omega) (by rw [hb]; unfold appendLimit at hlim; omega)
      have hap := fun ty => run_append_grow_src (P := Try.prog) (w.alloc (.cells #[] 59 (0, 0))) 53 53 ty 59 i _ u30 hi hz (some ⟨w.heap.size, 0, none⟩) 0 0 [] hfc (.slice (some ad) len cap) len news hsrc (by omega) (by unfold appendLimit at hlim; omega) hfit
      have hge := grownCap_ge (w.alloc (.cells #[] 59 (0, 0))) (0 + len) 0 59
      obtain ⟨v, w2, q1, q2, q3, q4⟩ : ∃ v w2, (∀ ty, (Builtin.append_ #[53, 53] ty #[.slice (some ⟨w.heap.size, 0, none⟩) 0 0, .slice (some ad) len cap]).run Try.prog (w.alloc (.cells #[] 59 (0, 0))) = .ok v w2) ∧ (∃ c, v = .slice (some ⟨w.heap.size + 1, 0, none⟩) len c ∧ len ≤ c) ∧ Later w w2 ∧
          (w.heap.size + 1 < w2.heap.size ∧ ∀ q, q < news.length → w2.cell? ⟨w.heap.size + 1, 0 + q, none⟩ = news[q]?) := by
        rw [Nat.zero_add] at hap hge
        have hsz1 : (w.alloc (.cells #[] 59 (0, 0))).heap.size = w.heap.size + 1 := World.size_alloc _ _
        rw [hsz1] at hap
        refine ⟨_, _, hap, ⟨_, rfl, hge⟩, ⟨?_, fun b hb => ?_, ⟨rfl, rfl, rfl, by first | exact Nat.le_refl _ | exact Nat.le_succ _ | (simp; done) | (simp; omega)⟩⟩, ?_, fun q hq => ?_⟩
        · rw [World.size_alloc]
          show _ ≤ (w.alloc (.cells #[] 59 (0, 0))).heap.size + 1
          rw [hsz1]; omega
        · exact (heap_alloc_old (w.alloc (.cells #[] 59 (0, 0))).drew _ (by show b < (w.alloc (.cells #[] 59 (0, 0))).heap.size; rw [hsz1]; omega)).trans (hL1.2.1 b hb)
        · rw [World.size_alloc]
          show _ < (w.alloc (.cells #[] 59 (0, 0))).heap.size + 1
          rw [hsz1]; omega
        · have hb1 : w.heap.size + 1 = (w.alloc (.cells #[] 59 (0, 0))).drew.heap.size := hsz1.symm
          rw [hb1, World.cell?_alloc_new, Nat.zero_add, Array.getElem?_append_left (by rw [List.nil_append, List.size_toArray]; exact hq), List.nil_append, List.getElem?_toArray]
      obtain ⟨c, rfl, hc⟩ := q2
      refine sh_val (v := .slice (some ⟨w.heap.size + 1, 0, none⟩) len c) (w' := w2) (by decide) (fun p hp => by
        simp [execOp, hp, resolve, invoke, builtin, Fr.tmp, put_, q1]) ?_
      refine sh_assign (v := .slice (some ⟨w.heap.size + 1, 0, none⟩) len c) (by decide) ((Fr.tmp (by decide)).trans (fr_same _ _ _)) ?_
      exact Go.wp_ret ⟨rfl, _, res_at _ hr (by decide) (fr_same _ _ _), _, _, rfl, q3, hc, .inr ⟨_, rfl, by omega, q4.1, ho1.rows q4.2⟩⟩
end Go.Proofs.Ytbapfiaglcllnaa.D
end

section
namespace Go.Proofs.Ytbapfiaglcllnaa.D
open Go Go.GD Go.Proofs
structure FC (C : Cq) (cov cost : Int) (f : Nat → Value) : Prop where
  t0 : f 0 = .int .i64 cov
  t1 : f 1 = .int .i64 cost
  t2 : f 2 = ptr C.bF
  t3 : f 3 = ptr C.bL
  t4 : f 4 = ptr C.bN
  t5 : f 5 = ptr C.bB
  t6 : f 6 = ptr C.bA
  t7 : f 7 = ptr C.bP
  t8 : f 8 = ptr C.bO
  t9 : f 9 = ptr C.bE
def Keeps (f f' : Nat → Value) : Prop := ∀ i, i < 10 → f' i = f i
theorem Keeps.refl (f : Nat → Value) : Keeps f f := fun _ _ => rfl
theorem Keeps.put {f f' : Nat → Value} {d : Nat} {v : Value} (hd : 10 ≤ d) (h : Keeps f f') : Keeps f (put_ f' d v) := fun i hi => by
  rw [fr_ne _ _ _ (by omega)]; exact h i hi
theorem FC.keep {C : Cq} {cov cost : Int} {f f' : Nat → Value} (h : FC C cov cost f) (k : Keeps f f') : FC C cov cost f' :=
  ⟨(k 0 (by decide)).trans h.t0, (k 1 (by decide)).trans h.t1, (k 2 (by decide)).trans h.t2, (k 3 (by decide)).trans h.t3, (k 4 (by decide)).trans h.t4, (k 5 (by decide)).trans h.t5, (k 6 (by decide)).trans h.t6, (k 7 (by decide)).trans h.t7, (k 8 (by decide)).trans h.t8, (k 9 (by decide)).trans h.t9⟩
theorem cell1 {w : World} {b : Nat} {v : Value} {e : TypeId} (h : w.heap[b]? = some (.cells #[v] e (0, 0))) : w.cell? ⟨b, 0, none⟩ = some v := cell_of_block (cs := [v]) h
theorem gd2 : ((ops30 1)[2]?).bind (·.dst) = some 24 := by kernel_rfl
theorem gd7 : ((ops30 1)[7]?).bind (·.dst) = some 29 := by kernel_rfl
theorem gd11 : ((ops30 1)[11]?).bind (·.dst) = some 33 := by kernel_rfl
section
variable {C : Cq} {o : Option Nat} {s : S3} {w : World} {cov cost : Int} {f : Nat → Value} {Q : Exit → Act → World → Prop}
set_option maxHeartbeats 1000000 in
theorem reg1 (hF : FC C cov cost f) (hS : Stt C o s w) (hQ : ∀ f', Keeps f f' → f' 40 = .bool (better cost s) → Q .normal (Fr 92 f' []) w) : (R 1).wp Try.prog Q (Fr 92 f []) w := by
  obtain ⟨eL, hL⟩ := hS.l
  obtain ⟨eN, aN, cN, hN, _⟩ := hS.n
  obtain ⟨eB, aB, lB, cB, hB, hB2⟩ := hS.b
  have hlB := hB2.1
  subst hlB
  refine reg_sh sh1 ?_
  refine sh_load (v := .int .i64 s.2.2) (by decide) s3 (by rw [Fr.tmp (by decide)]; exact hF.t3) (cell1 hL) ?_
  refine sh_lss (k := .i64) (a := s.2.2) (b := 0) (by decide) (by simp [Fr.tmp, put_]) rfl ?_
  refine sh_move (v := .bool (decide (s.2.2 < 0))) (by decide) (by simp [Fr.tmp, put_]) ?_
  by_cases h1 : s.2.2 < 0
  · have hb : better cost s = true := by unfold better; rw [decide_eq_true h1]; rfl
    rw [decide_eq_true h1]
    refine sh_off (s := 24) (by decide) gd2 (by decide) (.inl (by simp [put_])) ?_
    refine sh_off (s := 24) (by decide) gd2 (by decide) (.inl (by simp [put_])) ?_
    refine sh_off (s := 24) (by decide) gd2 (by decide) (.inl (by simp [put_])) ?_
    refine sh_pick (b := true) (v := .bool true) (by decide) (by simp [Fr.tmp, put_]) rfl ?_
    refine sh_move (v := .bool true) (by decide) (by simp [Fr.tmp, put_]) ?_
    refine sh_off (s := 29) (by decide) gd7 (by decide) (.inl (by simp [put_])) ?_
    refine sh_off (s := 29) (by decide) gd7 (by decide) (.inl (by simp [put_])) ?_
    refine sh_off (s := 29) (by decide) gd7 (by decide) (.inl (by simp [put_])) ?_
    refine sh_off (s := 29) (by decide) gd7 (by decide) (.inl (by simp [put_])) ?_
    refine sh_off (s := 33) (by decide) gd11 (by decide) (.inr (by simp [put_])) ?_
    refine sh_off (s := 33) (by decide) gd11 (by decide) (.inr (by simp [put_])) ?_
    refine sh_off (s := 33) (by decide) gd11 (by decide) (.inr (by simp [put_])) ?_
    refine sh_off (s := 33) (by decide) gd11 (by decide) (.inr (by simp [put_])) ?_
    refine sh_off (s := 33) (by decide) gd11 (by decide) (.inr (by simp [put_])) ?_
    refine sh_off (s := 29) (by decide) gd7 (by decide) (.inl (by simp [put_])) ?_
    refine sh_pick (b := true) (v := .bool true) (by decide) (by simp [Fr.tmp, put_]) rfl ?_
    exact hQ _ (by repeat (first | exact Keeps.refl _ | refine Keeps.put (by decide) ?_)) (by rw [hb]; exact fr_same _ _ _)
  · rw [decide_eq_false h1]
    refine sh_on (s := 24) gd2 (by decide) (by simp [put_]) (sh_move (v := .int .i64 cost) (by decide) (by simp [Fr.tmp, put_, hF.t1]) ?_)
    refine sh_on (s := 24) gd2 (by decide) (by simp [put_]) (sh_load (v := .int .i64 s.2.2) (by decide) s3 (by rw [Fr.tmp (by decide)]; simp only [put_]; exact hF.t3) (cell1 hL) ?_)
    refine sh_on (s := 24) gd2 (by decide) (by simp [put_]) (sh_lss (k := .i64) (a := cost) (b := s.2.2) (by decide) (by simp [Fr.tmp, put_]) (by simp [Fr.tmp, put_]) ?_)
    by_cases h2 : cost < s.2.2
    · have hb : better cost s = true := by unfold better; rw [decide_eq_true h2, Bool.true_or, Bool.or_true]
      rw [decide_eq_true h2]
      refine sh_pick (b := false) (v := .bool true) (by decide) (by simp [Fr.tmp, put_]) (by simp [Fr.tmp, put_]) ?_
      refine sh_move (v := .bool true) (by decide) (by simp [Fr.tmp, put_]) ?_
      refine sh_off (s := 29) (by decide) gd7 (by decide) (.inl (by simp [put_])) ?_
      refine sh_off (s := 29) (by decide) gd7 (by decide) (.inl (by simp [put_])) ?_
      refine sh_off (s := 29) (by decide) gd7 (by decide) (.inl (by simp [put_])) ?_
      refine sh_off (s := 29) (by decide) gd7 (by decide) (.inl (by simp [put_])) ?_
      refine sh_off (s := 33) (by decide) gd11 (by decide) (.inr (by simp [put_])) ?_
      refine sh_off (s := 33) (by decide) gd11 (by decide) (.inr (by simp [put_])) ?_
      refine sh_off (s := 33) (by decide) gd11 (by decide) (.inr (by simp [put_])) ?_
      refine sh_off (s := 33) (by decide) gd11 (by decide) (.inr (by simp [put_])) ?_
      refine sh_off (s := 33) (by decide) gd11 (by decide) (.inr (by simp [put_])) ?_
      refine sh_off (s := 29) (by decide) gd7 (by decide) (.inl (by simp [put_])) ?_
      refine sh_pick (b := true) (v := .bool true) (by decide) (by simp [Fr.tmp, put_]) rfl ?_
      exact hQ _ (by repeat (first | exact Keeps.refl _ | refine Keeps.put (by decide) ?_)) (by rw [hb]; exact fr_same _ _ _)
    · rw [decide_eq_false h2]
      refine sh_pick (b := false) (v := .bool false) (by decide) (by simp [Fr.tmp, put_]) (by simp [Fr.tmp, put_]) ?_
      refine sh_move (v := .bool false) (by decide) (by simp [Fr.tmp, put_]) ?_
      refine sh_on (s := 29) gd7 (by decide) (by simp [put_]) (sh_move (v := .int .i64 cost) (by decide) (by simp [Fr.tmp, put_, hF.t1]) ?_)
      refine sh_on (s := 29) gd7 (by decide) (by simp [put_]) (sh_load (v := .int .i64 s.2.2) (by decide) s3 (by rw [Fr.tmp (by decide)]; simp only [put_]; exact hF.t3) (cell1 hL) ?_)
      refine sh_on (s := 29) gd7 (by decide) (by simp [put_]) (sh_bin (k := .i64) (a := cost) (b := s.2.2) (v := .bool (cost == s.2.2)) (by decide) (by simp [Fr.tmp, put_]) (by simp [Fr.tmp, put_]) (by simp [binOp, Op.intCmp]) ?_)
      refine sh_on (s := 29) gd7 (by decide) (by simp [put_]) (sh_move (v := .bool (cost == s.2.2)) (by decide) (by simp [Fr.tmp, put_]) ?_)
      cases h3 : (cost == s.2.2) with
      | true =>
        have hb : better cost s = decide ((s.1.length : Int) < (s.2.1.length : Int)) := by unfold better; rw [decide_eq_false h1, decide_eq_false h2, h3]; rfl
        refine sh_on (s := 33) gd11 (by decide) (by simp [put_]) (sh_load (v := .slice aN s.1.length cN) (by decide) s30 (by rw [Fr.tmp (by decide)]; simp only [put_]; exact hF.t4) (cell1 hN) ?_)
        refine sh_on (s := 33) gd11 (by decide) (by simp [put_]) (sh_len (al := aN) (n := s.1.length) (cl := cN) (by decide) u30 (by simp [Fr.tmp, put_]) ?_)
        refine sh_on (s := 33) gd11 (by decide) (by simp [put_]) (sh_load (v := .slice aB s.2.1.length cB) (by decide) s30 (by rw [Fr.tmp (by decide)]; simp only [put_]; exact hF.t5) (cell1 hB) ?_)
        refine sh_on (s := 33) gd11 (by decide) (by simp [put_]) (sh_len (al := aB) (n := s.2.1.length) (cl := cB) (by decide) u30 (by simp [Fr.tmp, put_]) ?_)
        refine sh_on (s := 33) gd11 (by decide) (by simp [put_]) (sh_lss (k := .i64) (a := s.1.length) (b := s.2.1.length) (by decide) (by simp [Fr.tmp, put_]) (by simp [Fr.tmp, put_]) ?_)
        refine sh_on (s := 29) gd7 (by decide) (by simp [put_]) (sh_pick (b := true) (v := .bool (decide ((s.1.length : Int) < (s.2.1.length : Int)))) (by decide) (by simp [Fr.tmp, put_]) (by simp [Fr.tmp, put_]) ?_)
        refine sh_pick (b := false) (v := .bool (decide ((s.1.length : Int) < (s.2.1.length : Int)))) (by decide) (by simp [Fr.tmp, put_]) (by simp [Fr.tmp, put_]) ?_
        exact hQ _ (by repeat (first | exact Keeps.refl _ | refine Keeps.put (by decide) ?_)) (by rw [hb]; exact fr_same _ _ _)
      | false =>
        have hb : better cost s = false := by unfold better; rw [decide_eq_false h1, decide_eq_false h2, h3]; rfl
        refine sh_off (s := 33) (by decide) gd11 (by decide) (.inl (by simp [put_])) ?_
        refine sh_off (s := 33) (by decide) gd11 (by decide) (.inl (by simp [put_])) ?_
        refine sh_off (s := 33) (by decide) gd11 (by decide) (.inl (by simp [put_])) ?_
        refine sh_off (s := 33) (by decide) gd11 (by decide) (.inl (by simp [put_])) ?_
        refine sh_off (s := 33) (by decide) gd11 (by decide) (.inl (by simp [put_])) ?_
        refine sh_on (s := 29) gd7 (by decide) (by simp [put_]) (sh_pick (b := false) (v := .bool false) (by decide) (by simp [Fr.tmp, put_]) rfl ?_)
        refine sh_pick (b := false) (v := .bool false) (by decide) (by simp [Fr.tmp, put_]) (by simp [Fr.tmp, put_]) ?_
        exact hQ _ (by repeat (first | exact Keeps.refl _ | refine Keeps.put (by decide) ?_)) (by rw [hb]; exact fr_same _ _ _)
def cloneD (l : List Bd) : Option (List Bd) := bif Nat.ble (l.length * 32) appendLimit then some l else none
theorem reg2 (hC : C.OK) (hF : FC C cov cost f) (hS : Stt C o s w) {c : List Bd} (hc : cloneD s.1 = some c) (hQ : ∀ f' w', Stt C o (s.1, c, cost) w' → Q .normal (Fr 92 f' []) w') : (R 2).wp Try.prog Q (Fr 92 f []) w := by
  obtain ⟨eN, aN, cN, hN, hN2⟩ := hS.n
  have hlim : s.1.length * 32 ≤ appendLimit ∧ c = s.1 := by
    unfold cloneD at hc
    cases hb : Nat.ble (s.1.length * 32) appendLimit with
    | false => rw [hb] at hc; cases hc
    | true =>
      rw [hb, cond_true] at hc
      exact ⟨Nat.le_of_ble_eq_true hb, (Option.some.inj hc).symm⟩
  obtain ⟨hlim, rfl⟩ := hlim
  refine reg_sh sh2 ?_
  refine sh_load (v := .slice aN s.1.length cN) (by decide) s30 (by rw [Fr.tmp (by decide)]; exact hF.t4) (cell1 hN) ?_
  refine sh_call (g := 58) (args := #[.slice aN s.1.length cN]) (w' := w) (by decide) (fun p hp => by
    have kf : ∀ a : Act, a.eval (.func 58) = .func (.func 58) #[] #[] := fun _ => rfl
    simp [execOp, hp, resolve, Deferred.ofValue, invoke, kf, Fr.tmp, put_, k58.run]) ?_
  refine (clone_run (Sh := C.Sh o) (xs := s.1) ⟨rfl, hN2.2.1, hN2.2.2.elim (fun h => .inl (by have := hN2.2.1; omega)) fun ⟨ad, h1, h2, _, ⟨vs, e, h3, _⟩, h4⟩ => .inr ⟨ad, h1, h2, heap_lt h3, h4⟩⟩ hlim).mono ?_
  rintro ex w1 ⟨a', cap', rfl, hL, hcap, hres⟩
  have hS1 := hS.later hC hL
  have hm := sh_mono (w' := w1) hC (fun b hb => (hS.hn b hb).1) hL.1 (fun b hb _ _ => hL.2.1 b hb)
  refine ⟨_, rfl, ?_⟩
  refine sh_move (v := .int .i64 cost) (by decide) (by simp [Fr.tmp, put_, hF.t1]) ?_
  have hsh : ShareS 2 w1 (C.Sh o) (RepC Try.prog bdTy w1 (C.Sh o)) a' s.1.length cap' s.1 := by
    refine ⟨rfl, hcap, hres.imp (fun h => h) ?_⟩
    rintro ⟨b, rfl, h1, h2, h3⟩
    refine ⟨_, rfl, rfl, h2, .inr ⟨Nat.le_trans hS.old.1 h1, fun hB => ?_, fun e => ?_⟩, h3.mono rfl fun _ _ => RepC.mono bdTy hm⟩
    · have := (hC.lo b hB).2
      have := hS.sz
      omega
    · have := (hS.hn b e).2
      omega
  have hS2 := hS1.setB hC hsh
  obtain ⟨eB, aB, lB, cB, hB, _⟩ := hS1.b
  obtain ⟨eL, hL2⟩ := hS2.l
  refine sh_store (v := .slice a' s.1.length cap') s30 (by rw [Fr.tmp (by decide)]; simp only [put_]; exact hF.t5) (by simp [Fr.tmp, put_]) rfl rfl hB ?_
  refine sh_store (v := .int .i64 cost) s3 (by rw [Fr.tmp (by decide)]; simp only [put_]; exact hF.t3) (by simp [Fr.tmp, put_]) rfl rfl hL2 ?_
  exact hQ _ _ (hS2.setL hC cost)
end
end Go.Proofs.Ytbapfiaglcllnaa.D
end

section
namespace Go.Proofs.Ytbapfiaglcllnaa.D
set_option maxRecDepth 10000
open Go Go.GD Go.Proofs
structure FR (C : Cq) (cov cost first others set : Int) (f : Nat → Value) : Prop where
  fc : FC C cov cost f
  t13 : f 13 = .int .i64 first
  t14 : f 14 = .int .i64 others
  t15 : f 15 = .int .i64 set
def KeepN (k : Nat) (f f' : Nat → Value) : Prop := ∀ i, i < k → f' i = f i
theorem KeepN.refl (k : Nat) (f : Nat → Value) : KeepN k f f := fun _ _ => rfl
theorem KeepN.put {k : Nat} {f f' : Nat → Value} {d : Nat} {v : Value} (hd : k ≤ d) (h : KeepN k f f') : KeepN k f (put_ f' d v) := fun i hi => by
  rw [fr_ne _ _ _ (by omega)]; exact h i hi
theorem FR.keep {C : Cq} {cov cost first others set : Int} {f f' : Nat → Value} (h : FR C cov cost first others set f) (k : KeepN 16 f f') : FR C cov cost first others set f' :=
  ⟨h.fc.keep fun i hi => k i (by omega), (k 13 (by decide)).trans h.t13, (k 14 (by decide)).trans h.t14, (k 15 (by decide)).trans h.t15⟩
theorem t43 : (findTE tab 59).map (fun e => (e.ty.size, e.ty.isAgg)) = some (2, true) := by kernel_rfl
theorem t43s : (findTE tab 59).map (·.ty.size) = some 2 := by kernel_rfl
section
variable {C : Cq} {o : Option Nat} {s : S3} {w : World} {cov cost first others set : Int} {f : Nat → Value} {Q : Exit → Act → World → Prop}
theorem or_run (a b : Int) (w : World) : (binOp .or 3 (.int .i64 a) (.int .i64 b)).run Try.prog w = .ok (.int .i64 (bOr a b)) w := by simp [binOp, Op.intBits]; rfl
theorem and_run (a b : Int) (w : World) : (binOp .and 3 (.int .i64 a) (.int .i64 b)).run Try.prog w = .ok (.int .i64 (bAnd a b)) w := by simp [binOp, Op.intBits]; rfl
theorem diff_run (a b : Int) (w : World) : (binOp .andNot 3 (.int .i64 a) (.int .i64 b)).run Try.prog w = .ok (.int .i64 (bDiff a b)) w := by
  show _ = Result.ok (Value.int .i64 (IntKind.i64.wrap (BitVec.ofInt IntKind.i64.bits a &&& ~~~ BitVec.ofInt IntKind.i64.bits b).toNat)) w
  simp [binOp, Op.intBits]
theorem sub_run (a b : Int) (w : World) : (binOp .sub 3 (.int .i64 a) (.int .i64 b)).run Try.prog w = .ok (.int .i64 (IntKind.i64.wrap (a - b))) w := by simp [binOp, Op.intArith]
theorem eql_run (a b : Int) (w : World) : (binOp .eql 3 (.int .i64 a) (.int .i64 b)).run Try.prog w = .ok (.bool (a == b)) w := by simp [binOp, Op.intCmp]
set_option maxHeartbeats 1000000 in
theorem reg8 (hC : C.OK) (hF : FR C cov cost first others set f) (hS : Stt C o s w) {r : Bd × Int × Bool} (hr : d59 (C.ages, C.prices, C.offers, bOr first set) = some r)
    (hQ : ∀ f' w' bb c0 c1, KeepN 16 f f' → f' 16 = ptr bb → f' 17 = .int .i64 r.2.1 → f' 18 = .bool r.2.2 → Stt C o s w' → w'.heap[bb]? = some (.cells #[c0, c1] 59 (0, 0)) → RepC Try.prog bdTy w' (C.Sh o) [c0, c1] r.1 → Q .normal (Fr 92 f' []) w') :
    (R 8).wp Try.prog Q (Fr 92 f []) w := by
  obtain ⟨eA, hA⟩ := hS.a
  obtain ⟨eP, hP⟩ := hS.p
  obtain ⟨eO, hO⟩ := hS.q
  refine reg_sh sh8 ?_
  refine sh_load (v := C.va) (by decide) s22 (by rw [Fr.tmp (by decide)]; exact hF.fc.t6) (cell1 hA) ?_
  refine sh_load (v := C.vp) (by decide) s22 (by rw [Fr.tmp (by decide)]; simp only [put_]; exact hF.fc.t7) (cell1 hP) ?_
  refine sh_load (v := C.vo) (by decide) s23 (by rw [Fr.tmp (by decide)]; simp only [put_]; exact hF.fc.t8) (cell1 hO) ?_
  refine sh_move (v := .int .i64 first) (by decide) (by simp [Fr.tmp, put_, hF.t13]) ?_
  refine sh_move (v := .int .i64 set) (by decide) (by simp [Fr.tmp, put_, hF.t15]) ?_
  refine sh_bin (k := .i64) (a := first) (b := set) (by decide) (by simp [Fr.tmp, put_]) (by simp [Fr.tmp, put_]) (or_run _ _ _) ?_
  refine sh_call (g := 59) (args := #[C.va, C.vp, C.vo, .int .i64 (bOr first set)]) (w' := w) (by decide) (fun p hp => by
    have kf : ∀ a : Act, a.eval (.func 59) = .func (.func 59) #[] #[] := fun _ => rfl
    simp [execOp, hp, resolve, Deferred.ofValue, invoke, kf, Fr.tmp, put_, k59.run]) ?_
  refine (cheapest_run hC hS (bOr first set) hr).mono ?_
  rintro ex w1 ⟨c, rfl, hcl, hrep, hL⟩
  obtain ⟨c0, c1, rfl⟩ : ∃ c0 c1, c = [c0, c1] := by
    match c, hcl with
    | [c0, c1], _ => exact ⟨c0, c1, rfl⟩
  refine ⟨_, rfl, ?_⟩
  refine sh_move (v := .tuple #[.agg #[c0, c1], .int .i64 r.2.1, .bool r.2.2]) (by decide) (by simp [Fr.tmp, put_]) ?_
  refine sh_extract (vs := #[.agg #[c0, c1], .int .i64 r.2.1, .bool r.2.2]) (v := .agg #[c0, c1]) (by decide) (by simp [Fr.tmp, put_]) rfl ?_
  refine sh_extract (vs := #[.agg #[c0, c1], .int .i64 r.2.1, .bool r.2.2]) (v := .int .i64 r.2.1) (by decide) (by simp [Fr.tmp, put_]) rfl ?_
  refine sh_extract (vs := #[.agg #[c0, c1], .int .i64 r.2.1, .bool r.2.2]) (v := .bool r.2.2) (by decide) (by simp [Fr.tmp, put_]) rfl ?_
  obtain ⟨i, hi, hz, hs, hb⟩ := info_at i43
  have hal := g_alloc (T := 59) ⟨i, hi, hz⟩ w1
  refine sh_val (v := ptr w1.heap.size) (w' := w1.alloc (.cells #[.int .i64 0, .slice none 0 0] 59 (0, 0))) (by decide) (fun p hp => by
    simp only [execOp, hp]
    rw [Sem.run_bind, hal]; rfl) ?_
  have hnew : (w1.alloc (.cells #[.int .i64 0, .slice none 0 0] 59 (0, 0))).heap[w1.heap.size]? = some (.cells ([.int .i64 0, .slice none 0 0] : List Value).toArray 59 (0, 0)) := heap_alloc_new w1 _
  have hst := g_storeA (tab := tab) tabOK t43s (b := w1.heap.size) (off := 0) (cs0 := [.int .i64 0, .slice none 0 0]) (cs := [c0, c1]) (et := 59) (v := .agg #[c0, c1]) rfl rfl (fun v hv => RepC.oneCell bdTy hrep v hv) hnew (Nat.le_refl 2)
  rw [splice_all [.int .i64 0, .slice none 0 0] [c0, c1] rfl] at hst
  refine sh_skip (w' := (w1.alloc (.cells #[.int .i64 0, .slice none 0 0] 59 (0, 0))).setRow w1.heap.size #[c0, c1]) (fun p hp => by
    simp only [execOp, hp, Fr.tmp (show 16 < 92 by decide), Fr.tmp (show 67 < 92 by decide)]
    simp only [put_]
    simp [hst]) ?_
  refine sh_assign (v := .int .i64 r.2.1) (by decide) (by simp [Fr.tmp, put_]) ?_
  refine sh_assign (v := .bool r.2.2) (by decide) (by simp [Fr.tmp, put_]) ?_
  have hL2 : Later w1 ((w1.alloc (.cells #[.int .i64 0, .slice none 0 0] 59 (0, 0))).setRow w1.heap.size #[c0, c1]) := (Later.alloc w1 _).setFresh (Nat.le_refl _) _
  have hS1 := hS.later hC hL
  have hm := sh_mono (w' := (w1.alloc (.cells #[.int .i64 0, .slice none 0 0] 59 (0, 0))).setRow w1.heap.size #[c0, c1]) hC (fun b hb => (hS.hn b hb).1) hL2.1 (fun b hb _ _ => hL2.2.1 b hb)
  refine hQ _ _ w1.heap.size c0 c1 (by repeat (first | exact KeepN.refl _ _ | refine KeepN.put (by decide) ?_)) (by simp [put_]) (by simp [put_]) (by simp [put_]) (hS1.later hC hL2) (setRow_heap _ _ _ _ _ _ hnew) (RepC.mono bdTy hm hrep)
set_option maxHeartbeats 1000000 in
theorem reg10 (hC : C.OK) (hF : FR C cov cost first others set f) (hS : Stt C o s w) {bb : Nat} {c0 c1 : Value} {x : Bd} (h16 : f 16 = ptr bb) (hbb : w.heap[bb]? = some (.cells #[c0, c1] 59 (0, 0))) (hrep : RepC Try.prog bdTy w (C.Sh o) [c0, c1] x) (hlim : (s.1.length + 1) * 32 ≤ appendLimit)
    (hQ : ∀ f' o' w', KeepN 19 f f' → Stt C o' (s.1 ++ [x], s.2) w' → Q .normal (Fr 92 f' []) w') : (R 10).wp Try.prog Q (Fr 92 f []) w := by
  obtain ⟨eN, aN, cN, hN, hN2⟩ := hS.n
  obtain ⟨i, hi, hz, hs, hb⟩ := info_at i43
  refine reg_sh sh10 ?_
  refine sh_load (v := .slice aN s.1.length cN) (by decide) s30 (by rw [Fr.tmp (by decide)]; exact hF.fc.t4) (cell1 hN) ?_
  have hld := g_loadA (P := Try.prog) (tab := tab) (w := w) tabOK t43 (b := bb) (off := 0) (cs := [c0, c1]) rfl (fun j _ => by rw [Nat.zero_add]; exact cell_of_block (cs := [c0, c1]) hbb)
  refine sh_val (v := .agg #[c0, c1]) (w' := w) (by decide) (fun p hp => by
    simp only [execOp, hp, Fr.tmp (show 16 < 92 by decide)]
    simp only [put_]
    simp [h16, hld]) ?_
  have hzv : (zeroValue 59).run Try.prog w = .ok (.agg #[.int .i64 0, .slice none 0 0]) w := by simp [zeroValue, Go.typeInfo, hi, hz]
  have hs43 : (sizeOf 59).run Try.prog w = .ok 2 w := by simp [sizeOf, Go.typeInfo, hi, hs]
  have hbs := run_buildSlice' (w := w) (P := Try.prog) (T := 53) (n := 1) (el := 59) (size := 2) (zv := .agg #[.int .i64 0, .slice none 0 0]) (parts := #[(0, .agg #[c0, c1])]) (final := #[c0, c1]) u30 hs43 hzv (by decide) (fun init hi => by
    match init, hi with
    | ⟨[a, b]⟩, _ => rfl)
  refine sh_val (v := .slice (some ⟨w.heap.size, 0, none⟩) 1 1) (w' := w.alloc (.cells #[c0, c1] 59 (0, 0))) (by decide) (fun p hp => by
    simp [execOp, hp, Fr.tmp, put_, hbs]) ?_
  have hL := Later.alloc w (.cells #[c0, c1] 59 (0, 0))
  have hS1 := hS.later hC hL
  have hno : ∀ b, o = some b → C.H ≤ b := fun b hb => (hS.hn b hb).1
  have hm := sh_mono (w' := w.alloc (.cells #[c0, c1] 59 (0, 0))) hC hno hL.1 (fun b hb _ _ => hL.2.1 b hb)
  have hnew : (w.alloc (.cells #[c0, c1] 59 (0, 0))).heap[w.heap.size]? = some (.cells [c0, c1].toArray 59 (0, 0)) := heap_alloc_new w _
  have hold : HoldS 2 (w.alloc (.cells #[c0, c1] 59 (0, 0))) (fun b => o = some b) (RepC Try.prog bdTy (w.alloc (.cells #[c0, c1] 59 (0, 0))) (C.Sh o)) aN s.1.length cN s.1 :=
    hN2.mono ⟨hL.1, fun b hb hk => ⟨hL.2.1 b hb, hk⟩⟩ fun _ _ => RepC.mono bdTy hm
  have happ := fun ty => own_append (P := Try.prog) (w := w.alloc (.cells #[c0, c1] 59 (0, 0))) (size := 2) (bytes := 32) (T := 53) (el := 59) (ty := ty) (zv := .agg #[.int .i64 0, .slice none 0 0]) (i := i) u30 hi hz hs hb rfl (by decide) hold hlim (by unfold appendLimit at hlim; omega) hnew rfl (fun v hv => RepC.oneCell bdTy hrep v hv) (x := x) (fun _ _ h => h) (RepC.mono bdTy hm hrep)
  obtain ⟨a', cap', o', w2, q1, q2, q3, q4, q5, q6⟩ := happ 0
  have q1' : ∀ ty, (Builtin.append_ #[53, 53] ty #[.slice aN s.1.length cN, .slice (some ⟨w.heap.size, 0, none⟩) 1 1]).run Try.prog (w.alloc (.cells #[c0, c1] 59 (0, 0))) = .ok (.slice a' (s.1.length + 1) cap') w2 := fun ty => by
    rw [← q1]; rfl
  refine sh_val (v := .slice a' (s.1.length + 1) cap') (w' := w2) (by decide) (fun p hp => by
    simp [execOp, hp, resolve, invoke, builtin, Fr.tmp, put_, q1']) ?_
  have hm2 := sh_turn (w := w.alloc (.cells #[c0, c1] 59 (0, 0))) (w' := w2) (o := o) (o' := o') hC hno (fun b hb => (q5 b hb).1) q3 (fun b hb _ ho => q4 b hb ho)
  have hlen : (s.1 ++ [x]).length = s.1.length + 1 := by simp
  have hS2 := hS1.setN hC (o' := o') (w1 := w2) (a := a') (cap := cap') (xs := s.1 ++ [x]) q3 q4 q6 q5 (by
    rw [hlen]
    exact q2.mono ⟨Nat.le_refl _, fun b _ hk => ⟨rfl, hk⟩⟩ fun _ _ => RepC.mono bdTy hm2)
  rw [hlen] at hS2
  obtain ⟨eN1, aN1, cN1, hN1, _⟩ := hS1.n
  have hNlt := (hC.lo C.bN (by simp [Cq.boxes])).2
  have hNw : w2.heap[C.bN]? = some (.cells #[.slice aN1 s.1.length cN1] eN1 (0, 0)) := (q4 C.bN (by have := hS1.sz; omega) (fun e => by have := hno _ e; omega)).trans hN1
  refine sh_store (v := .slice a' (s.1.length + 1) cap') s30 (by rw [Fr.tmp (by decide)]; simp only [put_]; exact hF.fc.t4) (by simp [Fr.tmp, put_]) rfl rfl hNw ?_
  exact hQ _ o' _ (by repeat (first | exact KeepN.refl _ _ | refine KeepN.put (by decide) ?_)) hS2
theorem hold_take {w : World} {B : Nat → Prop} {R : List Value → Bd → Prop} {a : Option Addr} {len cap : Nat} {xs : List Bd} (h : HoldS 2 w B R a len cap xs) (k : Nat) (hk : k ≤ len) : HoldS 2 w B R a k cap (xs.take k) := by
  obtain ⟨h1, h2, h3⟩ := h
  refine ⟨by rw [List.length_take]; omega, by omega, h3.imp (fun h => h) ?_⟩
  rintro ⟨ad, q1, q2, q3, q4, q5⟩
  refine ⟨ad, q1, q2, q3, q4, fun i hi => ?_⟩
  rw [List.length_take] at hi
  obtain ⟨cs, r1, r2, r3⟩ := q5 i (by omega)
  exact ⟨cs, r1, r2, by rw [List.getElem_take]; exact r3⟩
theorem reg12 (hC : C.OK) (hF : FR C cov cost first others set f) (hS : Stt C o s w) (h1 : 1 ≤ s.1.length) (hlim : s.1.length * 32 ≤ appendLimit) (hQ : ∀ f' w', KeepN 19 f f' → Stt C o (s.1.take (s.1.length - 1), s.2) w' → Q .normal (Fr 92 f' []) w') : (R 12).wp Try.prog Q (Fr 92 f []) w := by
  obtain ⟨eN, aN, cN, hN, hN2⟩ := hS.n
  obtain ⟨i, hi, hz, hs, hb⟩ := info_at i43
  have hs43 : ∀ w, (sizeOf 59).run Try.prog w = .ok 2 w := fun w => by simp [sizeOf, Go.typeInfo, hi, hs]
  have hcap := hN2.2.1
  refine reg_sh sh12 ?_
  refine sh_load (v := .slice aN s.1.length cN) (by decide) s30 (by rw [Fr.tmp (by decide)]; exact hF.fc.t4) (cell1 hN) ?_
  refine sh_load (v := .slice aN s.1.length cN) (by decide) s30 (by rw [Fr.tmp (by decide)]; simp only [put_]; exact hF.fc.t4) (cell1 hN) ?_
  refine sh_len (al := aN) (n := s.1.length) (cl := cN) (by decide) u30 (by simp [Fr.tmp, put_]) ?_
  have hsub : IntKind.i64.wrap ((s.1.length : Int) - 1) = ((s.1.length - 1 : Nat) : Int) := by
    unfold appendLimit at hlim
    rw [wrap_i64 (by omega) (by omega)]; omega
  refine sh_bin (k := .i64) (a := s.1.length) (b := 1) (by decide) (by simp [Fr.tmp, put_]) rfl (sub_run _ _ _) ?_
  rw [hsub]
  have hsl := g_slice (P := Try.prog) u30 hs43 aN (fun ad e => by
    rcases hN2.2.2 with h | ⟨ad', q1, q2, _⟩
    · omega
    · rw [e] at q1; injection q1 with q1; rw [q1]; exact q2) s.1.length cN (s.1.length - 1) (by omega) w
  refine sh_val (v := .slice aN (s.1.length - 1) cN) (w' := w) (by decide) (fun p hp => by
    simp [execOp, hp, Fr.tmp, put_, hsl]) ?_
  have hlen : (s.1.take (s.1.length - 1)).length = s.1.length - 1 := by rw [List.length_take]; omega
  have hS2 := hS.setN hC (o' := o) (w1 := w) (a := aN) (cap := cN) (xs := s.1.take (s.1.length - 1)) (Nat.le_refl _) (fun _ _ _ => rfl) (.refl w) (fun b hb => ⟨.inl hb, (hS.hn b hb).2⟩) (by
    rw [hlen]
    exact hold_take hN2 _ (by omega))
  rw [hlen] at hS2
  refine sh_store (v := .slice aN (s.1.length - 1) cN) s30 (by rw [Fr.tmp (by decide)]; simp only [put_]; exact hF.fc.t4) (by simp [Fr.tmp, put_]) rfl rfl hN ?_
  exact hQ _ _ (by repeat (first | exact KeepN.refl _ _ | refine KeepN.put (by decide) ?_)) hS2
end
end Go.Proofs.Ytbapfiaglcllnaa.D
end

section
namespace Go.Proofs.Ytbapfiaglcllnaa.D
open Go Go.GD Go.Proofs
noncomputable def cheD (C : Cq) : Che := fun set => d59 (C.ages, C.prices, C.offers, set)
def Extends (C : Cq) (rec : Int → Int → S3 → Option S3) : Prop := ∀ cov cost s s' o w, Stt C o s w → rec cov cost s = some s' →
  Calls Try.prog 57 (#[.int .i64 cov, .int .i64 cost] ++ C.caps) w fun ex w' => ∃ v o', ex = .returned v ∧ Stt C o' s' w'
section
variable {C : Cq} {o : Option Nat} {s s' : S3} {w : World} {cov cost first others set : Int} {f : Nat → Value} {Q : Exit → Act → World → Prop} {rec : Int → Int → S3 → Option S3}
theorem put_on (hC : C.OK) (hrec : Extends C rec) (hF : FR C cov cost first others set f) (hS : Stt C o s w) {bb : Nat} {c0 c1 : Value} {x : Bd} {n : Int} (h16 : f 16 = ptr bb) (h17 : f 17 = .int .i64 n) (hbb : w.heap[bb]? = some (.cells #[c0, c1] 59 (0, 0)))
    (hrep : RepC Try.prog bdTy w (C.Sh o) [c0, c1] x) (hlim : (s.1.length + 1) * 32 ≤ appendLimit) {s1 : S3} (hr : rec (bOr (bOr cov first) set) (IntKind.i64.wrap (cost + n)) (s.1 ++ [x], s.2.1, s.2.2) = some s1) (h1 : 1 ≤ s1.1.length) (hl1 : s1.1.length * 32 ≤ appendLimit)
    (hQ : ∀ f' o' w', FR C cov cost first others set f' → Stt C o' (s1.1.take (s1.1.length - 1), s1.2) w' → Q .normal (Fr 92 f' []) w') : (Code.seq (R 10) (.seq (R 11) (R 12))).wp Try.prog Q (Fr 92 f []) w := by
  refine wp_seq (reg10 hC hF hS h16 hbb hrep hlim fun f1 o1 w1 k1 hS1 => ?_)
  have hF1 := hF.keep (f' := f1) fun i hi => k1 i (by omega)
  have h17 : f1 17 = .int .i64 n := (k1 17 (by decide)).trans h17
  obtain ⟨eE, hE⟩ := hS1.e
  refine wp_seq (reg_sh sh11 ?_)
  refine sh_load (v := .func (.func 57) #[] C.caps) (by decide) s57 (by rw [Fr.tmp (by decide)]; exact hF1.fc.t9) (cell1 hE) ?_
  refine sh_move (v := .int .i64 cov) (by decide) (by simp [Fr.tmp, put_, hF1.fc.t0]) ?_
  refine sh_move (v := .int .i64 first) (by decide) (by simp [Fr.tmp, put_, hF1.t13]) ?_
  refine sh_bin (k := .i64) (a := cov) (b := first) (by decide) (by simp [Fr.tmp, put_]) (by simp [Fr.tmp, put_]) (or_run _ _ _) ?_
  refine sh_move (v := .int .i64 set) (by decide) (by simp [Fr.tmp, put_, hF1.t15]) ?_
  refine sh_bin (k := .i64) (a := bOr cov first) (b := set) (by decide) (by simp [Fr.tmp, put_]) (by simp [Fr.tmp, put_]) (or_run _ _ _) ?_
  refine sh_move (v := .int .i64 cost) (by decide) (by simp [Fr.tmp, put_, hF1.fc.t1]) ?_
  refine sh_move (v := .int .i64 n) (by decide) (by simp [Fr.tmp, put_, h17]) ?_
  refine sh_add (k := .i64) (a := cost) (b := n) (by decide) (by simp [Fr.tmp, put_]) (by simp [Fr.tmp, put_]) ?_
  refine sh_call (g := 57) (args := #[.int .i64 (bOr (bOr cov first) set), .int .i64 (IntKind.i64.wrap (cost + n))] ++ C.caps) (w' := w1) (by decide) (fun p hp => by
    simp [execOp, hp, resolve, Deferred.ofValue, invoke, Fr.tmp, put_, k30.run]) ?_
  refine (hrec _ _ _ s1 o1 w1 hS1 hr).mono ?_
  rintro ex w2 ⟨v, o2, rfl, hS2⟩
  refine ⟨v, rfl, ?_⟩
  refine reg12 hC (hF1.keep ?_) hS2 h1 hl1 fun f3 w3 k3 hS3 => hQ f3 o2 w3 ?_ hS3
  · repeat (first | exact KeepN.refl _ _ | refine KeepN.put (by decide) ?_)
  · refine (hF1.keep ?_).keep fun i hi => k3 i (by omega)
    repeat (first | exact KeepN.refl _ _ | refine KeepN.put (by decide) ?_)
set_option maxHeartbeats 1000000 in
theorem loop30 (hC : C.OK) (hrec : Extends C rec) (hsame : ∀ cov cost s s', rec cov cost s = some s' → s'.1 = s.1) {m : Nat} (hF : FR C cov cost first others set f) (hS : Stt C o s w) (hr : rounds rec (cheD C) cov cost first others m set s = some s') {Q : Exit → Act → World → Prop}
    (hQ : ∀ f' o' w', Stt C o' s' w' → Q .normal (Fr 92 f' []) w') : (Code.block 0 (.loop round30)).wp Try.prog Q (Fr 92 f []) w := by
  refine wp_block (wp_loop_nat (fun m a w => ∃ f o s set, a = Fr 92 f [] ∧ FR C cov cost first others set f ∧ Stt C o s w ∧ rounds rec (cheD C) cov cost first others m set s = some s') ⟨f, o, s, set, rfl, hF, hS, hr⟩ ?_)
  clear hr hS hF
  rintro m _ w ⟨f, o, s, set, rfl, hF, hS, hr⟩
  cases m with
  | zero => cases hr
  | succ m =>
    refine ⟨m, rfl, ?_⟩
    simp only [rounds] at hr
    obtain ⟨r, hr1, hr⟩ := Option.bind_eq_some_iff.1 hr
    obtain ⟨s1, hr2, hr⟩ := Option.bind_eq_some_iff.1 hr
    have rest : ∀ f' o' w', FR C cov cost first others set f' → Stt C o' s1 w' → (Code.seq (R 13) (.cond (.tmp 91) (.exit 0) .skip)).wp Try.prog (Exit.inBlock 1 (Exit.then ((R 7).wp Try.prog (Exit.then (fun a w => ∃ f o s set, a = Fr 92 f [] ∧ FR C cov cost first others set f ∧ Stt C o s w ∧ rounds rec (cheD C) cov cost first others m set s = some s') (Exit.inBlock 0 Q))) (Exit.then (fun a w => ∃ f o s set, a = Fr 92 f [] ∧ FR C cov cost first others set f ∧ Stt C o s w ∧ rounds rec (cheD C) cov cost first others m set s = some s') (Exit.inBlock 0 Q)))) (Fr 92 f' []) w' := by
      intro f' o' w' hF' hS'
      refine wp_seq (reg_sh sh13 ?_)
      refine sh_move (v := .int .i64 set) (by decide) (by simp [Fr.tmp, hF'.t15]) ?_
      refine sh_bin (k := .i64) (a := set) (b := 0) (by decide) (by simp [Fr.tmp, put_]) rfl (eql_run _ _ _) ?_
      refine wp_cond_split (t := (set == 0)) (by rw [Fr.tmp (by decide), fr_same]) (fun ht => ?_) (fun ht => ?_)
      · rw [ht, cond_true] at hr
        injection hr with hr
        subst hr
        exact Go.wp_exit (hQ _ o' w' hS')
      · rw [ht, cond_false] at hr
        refine Go.wp_skip (reg_sh sh7 ?_)
        refine sh_move (v := .int .i64 set) (by decide) (by simp [Fr.tmp, put_, hF'.t15]) ?_
        refine sh_bin (k := .i64) (a := set) (b := 1) (by decide) (by simp [Fr.tmp, put_]) rfl (sub_run _ _ _) ?_
        refine sh_move (v := .int .i64 others) (by decide) (by simp [Fr.tmp, put_, hF'.t14]) ?_
        refine sh_bin (k := .i64) (a := IntKind.i64.wrap (set - 1)) (b := others) (by decide) (by simp [Fr.tmp, put_]) (by simp [Fr.tmp, put_]) (and_run _ _ _) ?_
        refine sh_assign (v := .int .i64 (bAnd (IntKind.i64.wrap (set - 1)) others)) (by decide) (by simp [Fr.tmp, put_]) ?_
        refine ⟨_, o', s1, _, rfl, ⟨hF'.fc.keep (by repeat (first | exact Keeps.refl _ | refine Keeps.put (by decide) ?_)), ?_, ?_, fr_same _ _ _⟩, hS', hr⟩
        · simp [put_, hF'.t13]
        · simp [put_, hF'.t14]
    unfold round30
    refine wp_seq (wp_block (wp_seq (wp_seq (reg8 hC hF hS hr1 fun f1 w1 bb c0 c1 k1 h16 h17 h18 hS1 hbb hrep => ?_))))
    have hF1 := hF.keep (f' := f1) k1
    refine wp_seq (reg_sh sh9 ?_)
    refine sh_move (v := .bool r.2.2) (by decide) (by simp [Fr.tmp, h18]) ?_
    refine wp_cond_split (t := r.2.2) (by rw [Fr.tmp (by decide), fr_same]) (fun ht => ?_) (fun ht => ?_)
    · rw [ht, cond_true] at hr2
      cases hb : Nat.ble ((s.1.length + 1) * 32) appendLimit with
      | false => rw [hb] at hr2; cases hr2
      | true =>
      rw [hb, cond_true] at hr2
      obtain ⟨s2, h1, h2⟩ := Option.bind_eq_some_iff.1 hr2
      cases hb2 : Nat.ble 1 s2.1.length with
      | false => rw [hb2] at h2; cases h2
      | true =>
      rw [hb2, cond_true] at h2
      injection h2 with h2
      subst h2
      refine put_on hC hrec (hF1.keep (by repeat (first | exact KeepN.refl _ _ | refine KeepN.put (by decide) ?_))) hS1 (n := r.2.1) (by simp [put_, h16]) (by simp [put_, h17]) hbb hrep (Nat.le_of_ble_eq_true hb) h1 (Nat.le_of_ble_eq_true hb2) (by rw [hsame _ _ _ _ h1, List.length_append]; exact Nat.le_of_ble_eq_true hb) fun f' o' w' hF' hS' => ?_
      exact rest f' o' w' hF' hS'
    · rw [ht, cond_false] at hr2
      injection hr2 with hr2
      subst hr2
      refine Go.wp_skip ?_
      exact rest _ o w1 (hF1.keep (by repeat (first | exact KeepN.refl _ _ | refine KeepN.put (by decide) ?_))) hS1
end
theorem rounds_same {rec : Int → Int → S3 → Option S3} (h : ∀ cov cost s s', rec cov cost s = some s' → s'.1 = s.1) (che : Che) (cov cost first others : Int) : ∀ (m : Nat) (set : Int) (s s' : S3), rounds rec che cov cost first others m set s = some s' → s'.1 = s.1
  | 0, _, _, _, hr => by cases hr
  | m + 1, set, s, s', hr => by
    simp only [rounds] at hr
    obtain ⟨r, _, hr⟩ := Option.bind_eq_some_iff.1 hr
    obtain ⟨s1, hr2, hr⟩ := Option.bind_eq_some_iff.1 hr
    have h1 : s1.1 = s.1 := by
      cases hb : r.2.2 with
      | false => rw [hb, cond_false] at hr2; injection hr2 with hr2; rw [← hr2]
      | true =>
        rw [hb, cond_true] at hr2
        cases hb : Nat.ble ((s.1.length + 1) * 32) appendLimit with
        | false => rw [hb] at hr2; cases hr2
        | true =>
        rw [hb, cond_true] at hr2
        obtain ⟨s2, q1, q2⟩ := Option.bind_eq_some_iff.1 hr2
        cases hb2 : Nat.ble 1 s2.1.length with
        | false => rw [hb2] at q2; cases q2
        | true =>
        rw [hb2, cond_true] at q2
        injection q2 with q2
        have := h _ _ _ _ q1
        rw [← q2, this]
        simp
    cases hb : set == 0 with
    | true => rw [hb, cond_true] at hr; injection hr with hr; rw [← hr, h1]
    | false => rw [hb, cond_false] at hr; rw [rounds_same h che cov cost first others m _ _ _ hr, h1]
theorem ext_same (che : Che) (full : Int) : ∀ (n : Nat) (cov cost : Int) (s s' : S3), ext cloneD che full n cov cost s = some s' → s'.1 = s.1
  | 0, _, _, _, _, hr => by cases hr
  | n + 1, cov, cost, s, s', hr => by
    simp only [ext] at hr
    cases hb : cov == full with
    | true =>
      rw [hb, cond_true] at hr
      cases hb : better cost s with
      | false => rw [hb, cond_false] at hr; injection hr with hr; rw [← hr]
      | true =>
        rw [hb, cond_true] at hr
        obtain ⟨c, _, hr⟩ := Option.bind_eq_some_iff.1 hr
        injection hr with hr
        rw [← hr]
    | false =>
      rw [hb, cond_false] at hr
      exact rounds_same (ext_same che full n) che _ _ _ _ _ _ _ _ hr
theorem start30 (a b : Value) (C : Cq) : ((#[a, b] ++ C.caps) ++ Array.replicate (Try.f57.ntmps - (#[a, b] ++ C.caps).size) undef).size = 92 := by
  rw [Array.size_append, Array.size_replicate, size30]; rfl
theorem ext_does {C : Cq} (hC : C.OK) : ∀ n, Extends C (ext cloneD (cheD C) C.full n)
  | 0 => fun _ _ _ _ _ _ _ hr => by cases hr
  | n + 1 => by
    intro cov cost s s' o w hS hr
    have ih := ext_does hC n
    refine calls_of_wp Try.func57 body30 ?_
    rw [Fr.of (N := 92) (a := { tmps := (#[Value.int .i64 cov, .int .i64 cost] ++ C.caps) ++ Array.replicate (Try.f57.ntmps - (#[Value.int .i64 cov, .int .i64 cost] ++ C.caps).size) undef, defers := [] }) (start30 _ _ C)]
    simp only []
    generalize hf : (fun s => ((#[Value.int .i64 cov, .int .i64 cost] ++ C.caps) ++ Array.replicate (Try.f57.ntmps - (#[Value.int .i64 cov, .int .i64 cost] ++ C.caps).size) undef).getD s undef) = f
    have hF : FC C cov cost f := by
      constructor <;> rw [← hf] <;> simp [Cq.caps]
    clear hf
    have ret : ∀ f' o' w', Stt C o' s' w' → bodyPost Try.prog Try.f57 (fun ex w' => ∃ v o', ex = .returned v ∧ Stt C o' s' w') .normal (Fr 92 f' []) w' := fun f' o' w' h => by
      refine ⟨rfl, .tuple #[], ?_, .tuple #[], o', rfl, h⟩
      exact (run_results (vs := []) (by rw [res30]; rfl)).trans rfl
    obtain ⟨eF, hFl⟩ := hS.f
    simp only [ext] at hr
    refine wp_seq (wp_seq (reg_sh sh0 ?_))
    refine sh_move (v := .int .i64 cov) (by decide) (by simp [Fr.tmp, hF.t0]) ?_
    refine sh_load (v := .int .i64 C.full) (by decide) s3 (by rw [Fr.tmp (by decide)]; simp only [put_]; exact hF.t2) (cell1 hFl) ?_
    refine sh_bin (k := .i64) (a := cov) (b := C.full) (by decide) (by simp [Fr.tmp, put_]) (by simp [Fr.tmp, put_]) (eql_run _ _ _) ?_
    refine wp_cond_split (t := (cov == C.full)) (by rw [Fr.tmp (by decide), fr_same]) (fun ht => ?_) (fun ht => ?_)
    · rw [ht, cond_true] at hr
      refine wp_seq (wp_seq (reg1 (hF.keep (by repeat (first | exact Keeps.refl _ | refine Keeps.put (by decide) ?_))) hS fun f1 k1 h40 => ?_))
      have hF1 : FC C cov cost f1 := (hF.keep (by repeat (first | exact Keeps.refl _ | refine Keeps.put (by decide) ?_))).keep k1
      refine wp_cond_split (t := better cost s) (by rw [Fr.tmp (by decide)]; exact h40) (fun hb => ?_) (fun hb => ?_)
      · rw [hb, cond_true] at hr
        obtain ⟨c, hc, hr⟩ := Option.bind_eq_some_iff.1 hr
        injection hr with hr
        subst hr
        exact reg2 hC hF1 hS hc fun f2 w2 hS2 => Go.wp_ret (ret f2 o w2 hS2)
      · rw [hb, cond_false] at hr
        injection hr with hr
        subst hr
        exact Go.wp_skip (Go.wp_ret (ret f1 o w hS))
    · rw [ht, cond_false] at hr
      refine Go.wp_skip (wp_seq (reg_sh sh3 ?_))
      refine sh_load (v := .int .i64 C.full) (by decide) s3 (by rw [Fr.tmp (by decide)]; simp only [put_]; exact hF.t2) (cell1 hFl) ?_
      refine sh_move (v := .int .i64 cov) (by decide) (by simp [Fr.tmp, put_, hF.t0]) ?_
      refine sh_bin (k := .i64) (a := C.full) (b := cov) (by decide) (by simp [Fr.tmp, put_]) (by simp [Fr.tmp, put_]) (diff_run _ _ _) ?_
      refine sh_assign (v := .int .i64 (bDiff C.full cov)) (by decide) (by simp [Fr.tmp, put_]) ?_
      refine wp_seq (reg_sh sh4 ?_)
      refine sh_move (v := .int .i64 (bDiff C.full cov)) (by decide) (by simp [Fr.tmp, put_]) ?_
      refine sh_move (v := .int .i64 (bDiff C.full cov)) (by decide) (by simp [Fr.tmp, put_]) ?_
      refine sh_val (v := .int .i64 (IntKind.i64.wrap (0 - bDiff C.full cov))) (w' := w) (by decide) (fun p hp => by
        simp [execOp, hp, Fr.tmp, put_, Op.unary, Op.intArith]) ?_
      refine sh_bin (k := .i64) (a := bDiff C.full cov) (b := IntKind.i64.wrap (0 - bDiff C.full cov)) (by decide) (by simp [Fr.tmp, put_]) (by simp [Fr.tmp, put_]) (and_run _ _ _) ?_
      refine sh_assign (v := .int .i64 (bAnd (bDiff C.full cov) (IntKind.i64.wrap (0 - bDiff C.full cov)))) (by decide) (by simp [Fr.tmp, put_]) ?_
      refine wp_seq (reg_sh sh5 ?_)
      refine sh_move (v := .int .i64 (bDiff C.full cov)) (by decide) (by simp [Fr.tmp, put_]) ?_
      refine sh_move (v := .int .i64 (bAnd (bDiff C.full cov) (IntKind.i64.wrap (0 - bDiff C.full cov)))) (by decide) (by simp [Fr.tmp, put_]) ?_
      refine sh_bin (k := .i64) (a := bDiff C.full cov) (b := bAnd (bDiff C.full cov) (IntKind.i64.wrap (0 - bDiff C.full cov))) (by decide) (by simp [Fr.tmp, put_]) (by simp [Fr.tmp, put_]) (diff_run _ _ _) ?_
      refine sh_assign (v := .int .i64 (bDiff (bDiff C.full cov) (bAnd (bDiff C.full cov) (IntKind.i64.wrap (0 - bDiff C.full cov))))) (by decide) (by simp [Fr.tmp, put_]) ?_
      refine wp_seq (reg_sh sh6 ?_)
      refine sh_move (v := .int .i64 (bDiff (bDiff C.full cov) (bAnd (bDiff C.full cov) (IntKind.i64.wrap (0 - bDiff C.full cov))))) (by decide) (by simp [Fr.tmp, put_]) ?_
      refine sh_assign (v := .int .i64 (bDiff (bDiff C.full cov) (bAnd (bDiff C.full cov) (IntKind.i64.wrap (0 - bDiff C.full cov))))) (by decide) (by simp [Fr.tmp, put_]) ?_
      refine loop30 hC ih (ext_same _ _ n) ⟨hF.keep (by repeat (first | exact Keeps.refl _ | refine Keeps.put (by decide) ?_)), ?_, ?_, fr_same _ _ _⟩ hS hr ret
      · simp [put_]
      · simp [put_]
end Go.Proofs.Ytbapfiaglcllnaa.D
end

section
namespace Go.Proofs.Ytbapfiaglcllnaa.D
open Go Go.GD Go.Proofs
noncomputable def ops22 (n : Nat) : Array Oper := ((Try.f21.body).bind (regOf n)).getD #[]
noncomputable abbrev B (n : Nat) : Code := .region n (ops22 n) false
theorem sb0 : shg (ops22 0).toList = [(.box 22 (.tmp 0), some 3, none), (.box 22 (.tmp 1), some 4, none), (.box 52 (.tmp 2), some 5, none), (.assign (.const (.slice none 0 0)), some 6, none), (.assign (.const (.int .i64 0)), some 7, none), (.assign (.const (.int .i64 0)), some 8, none)] := by kernel_rfl
theorem sb1 : shg (ops22 1).toList = [(.load 22 (.tmp 3), some 15, none), (.load 22 (.tmp 4), some 16, none), (.load 52 (.tmp 5), some 17, none), (.call { callee := .value (.func 22), args := #[(.tmp 15), (.tmp 16), (.tmp 17)], argTypes := #[22, 22, 52] }, some 18, none), (.assign (.tmp 18), some 9, none)] := by kernel_rfl
theorem sb2 : shg (ops22 2).toList = [(.move (.tmp 9), some 19, none), (.binOp .neq 27 (.tmp 19) (.const (.int .i64 0)) 27, some 20, none)] := by kernel_rfl
theorem sb3 : shg (ops22 3).toList = [(.move (.tmp 9), some 21, none), (.assign (.const (.slice none 0 0)), some 6, none), (.assign (.const (.int .i64 0)), some 7, none), (.assign (.tmp 21), some 8, none)] := by kernel_rfl
theorem sb4 : shg (ops22 4).toList = [(.load 22 (.tmp 3), some 22, none), (.call { callee := .builtin .len, args := #[(.tmp 22)], argTypes := #[22] }, some 23, none), (.binOp .shl 3 (.const (.int .i64 1)) (.tmp 23) 3, some 24, none), (.binOp .sub 3 (.tmp 24) (.const (.int .i64 1)) 3, some 25, none), (.alloc 3, some 10, none), (.store 3 (.tmp 10) (.tmp 25), none, none)] := by kernel_rfl
theorem sb5 : shg (ops22 5).toList = [(.alloc 53, some 11, none), (.alloc 53, some 12, none)] := by kernel_rfl
theorem sb6 : shg (ops22 6).toList = [(.alloc 3, some 13, none), (.store 3 (.tmp 13) (.const (.int .i64 (-1))), none, none)] := by kernel_rfl
theorem sb7 : shg (ops22 7).toList = [(.alloc 117, some 14, none)] := by kernel_rfl
theorem sb8 : shg (ops22 8).toList = [(.makeFunc (.func 57) #[] #[(.tmp 10), (.tmp 13), (.tmp 11), (.tmp 12), (.tmp 3), (.tmp 4), (.tmp 5), (.tmp 14)], some 26, none), (.store 117 (.tmp 14) (.tmp 26), none, none)] := by kernel_rfl
theorem sb9 : shg (ops22 9).toList = [(.load 117 (.tmp 14), some 27, none), (.call { callee := .value (.tmp 27), args := #[(.const (.int .i64 0)), (.const (.int .i64 0))], argTypes := #[3, 3] }, some 28, none)] := by kernel_rfl
theorem sb10 : shg (ops22 10).toList = [(.load 53 (.tmp 12), some 29, none), (.load 3 (.tmp 13), some 30, none), (.assign (.tmp 29), some 6, none), (.assign (.tmp 30), some 7, none), (.assign (.const (.int .i64 0)), some 8, none)] := by kernel_rfl
theorem body22 : Try.f21.body = some (.seq (B 0) (.seq (.seq (B 1) (.seq (B 2) (.cond (.tmp 20) (.seq (B 3) .ret) .skip))) (.seq (B 4) (.seq (B 5) (.seq (B 6) (.seq (B 7) (.seq (B 8) (.seq (B 9) (.seq (.region 10 (ops22 10) true) .ret))))))))) := by kernel_rfl
theorem size22 : Try.f21.ntmps = 31 := by kernel_rfl
theorem res22 : Try.f21.results.toList = [.tmp 6, .tmp 7, .tmp 8] := by kernel_rfl
theorem aft10 : ((ops22 10).toList.map fun o => (o.after.toList.filter fun e => Region.binds .any e).map (·.on)) = [[], [], [0, 0], [1, 2, 0, 1, 2], [3, 0, 1, 2, 3]] := by kernel_rfl
theorem k21 : Callable Try.prog 21 := ⟨Try.f21, Try.func21, by kernel_rfl, by kernel_rfl⟩
theorem res3 {f : Nat → Value} {a b c : Value} (w : World) (h6 : f 6 = a) (h7 : f 7 = b) (h8 : f 8 = c) : (results Try.f21 (Fr 31 f []).tmps).run Try.prog w = .ok (.tuple #[a, b, c]) w := by
  have g : ∀ s v, s < 31 → f s = v → (Fr 31 f []).tmps[s]?.getD undef = v := fun s v hs h => by rw [← Array.getD_eq_getD_getElem?, Fr.get hs, h]
  refine (run_results (vs := [a, b, c]) (by
    rw [res22]
    simp [readOne, g 6 a (by decide) h6, g 7 b (by decide) h7, g 8 c (by decide) h8])).trans rfl
theorem reg22 {f : Nat → Value} {w : World} {bB bL : Nat} {vB vL : Value} {eB eL : TypeId} (h12 : f 12 = ptr bB) (h13 : f 13 = ptr bL) (hB : w.heap[bB]? = some (.cells #[vB] eB (0, 0))) (hL : w.heap[bL]? = some (.cells #[vL] eL (0, 0))) {Q : Exit → Act → World → Prop}
    (hQ : ∀ f', f' 6 = vB → f' 7 = vL → f' 8 = .int .i64 0 → Q .normal (Fr 31 f' []) { w with drawn := w.drawn + 1 }) : (Code.region 10 (ops22 10) true).wp Try.prog Q (Fr 31 f []) w := by
  have len10 : (ops22 10).toList.length = 5 := by
    have := congrArg List.length aft10
    simpa using this
  have aft : ∀ (j : Nat) (o : Oper), (ops22 10).toList[j]? = some o → ∀ e, e ∈ o.after.toList → Region.binds .any e = true → ∃ l, ([[], [], [0, 0], [1, 2, 0, 1, 2], [3, 0, 1, 2, 3]] : List (List Nat))[j]? = some l ∧ e.on ∈ l := by
    intro j o ho e he hb
    have := congrArg (fun l => l[j]?) aft10
    rw [List.getElem?_map, ho] at this
    exact ⟨_, this.symm, List.mem_map.2 ⟨e, List.mem_filter.2 ⟨he, hb⟩, rfl⟩⟩
  have aft' : ∀ (j : Nat) (o : Oper), (ops22 10).toList[j]? = some o → ∀ l, ([[], [], [0, 0], [1, 2, 0, 1, 2], [3, 0, 1, 2, 3]] : List (List Nat))[j]? = some l → ∀ n, n ∈ l → ∃ e, e ∈ o.after.toList ∧ Region.binds .any e = true ∧ e.on = n := by
    intro j o ho l hl n hn
    have := congrArg (fun l => l[j]?) aft10
    rw [List.getElem?_map, ho] at this
    have := Option.some.inj (this.trans hl)
    rw [← this] at hn
    obtain ⟨e, he, rfl⟩ := List.mem_map.1 hn
    have := List.mem_filter.1 he
    exact ⟨e, this.1, this.2, rfl⟩
  refine region_inv (Checked.mixed Try.checked) (fun j o ho e he hb => ?_) (fun D a w' => ∃ f', a = Fr 31 f' [] ∧ w' = { w with drawn := w.drawn + 1 } ∧ f' 12 = ptr bB ∧ f' 13 = ptr bL ∧ (D 0 = true → f' 29 = vB) ∧ (D 1 = true → f' 30 = vL) ∧ (D 2 = true → f' 6 = vB) ∧ (D 3 = true → f' 7 = vL) ∧ (D 4 = true → f' 8 = .int .i64 0))
    (fun D j o a w' ho hD hedge _ hI => ?_) (fun D a w' hall hI => ?_) ⟨f, rfl, rfl, h12, h13, (fun h => by cases h), (fun h => by cases h), (fun h => by cases h), (fun h => by cases h), (fun h => by cases h)⟩
  · obtain ⟨l, hl, hm⟩ := aft j o ho e he hb
    have hj : j < 5 := by rw [← len10]; exact (List.getElem?_eq_some_iff.1 ho).1
    have : j = 0 ∨ j = 1 ∨ j = 2 ∨ j = 3 ∨ j = 4 := by omega
    rcases this with rfl | rfl | rfl | rfl | rfl <;> simp only [List.getElem?_cons_zero, List.getElem?_cons_succ, Option.some.injEq] at hl <;> subst hl <;> simp at hm <;> omega
  · obtain ⟨f', rfl, rfl, q12, q13, q0, q1, q2, q3, q4⟩ := hI
    have hj : j < 5 := by rw [← len10]; exact (List.getElem?_eq_some_iff.1 ho).1
    have hsh := congrArg (fun l => l[j]?) sb10
    simp only [shg] at hsh
    rw [List.getElem?_map, ho] at hsh
    have hcB : (Instr.loadAt 53 (ptr bB)).run Try.prog w.drew = .ok vB w.drew := g_load s30 (cell1 (w := w.drew) hB)
    have hcL : (Instr.loadAt 3 (ptr bL)).run Try.prog w.drew = .ok vL w.drew := g_load s3 (cell1 (w := w.drew) hL)
    have need : ∀ n l, ([[], [], [0, 0], [1, 2, 0, 1, 2], [3, 0, 1, 2, 3]] : List (List Nat))[j]? = some l → n ∈ l → D n = true := fun n l hl hn => by
      obtain ⟨e, he, hb, rfl⟩ := aft' j o ho l hl n hn
      exact hedge e he hb
    have fin : ∀ (d : Nat) (v : Value), d < 31 → o.dst = some d → o.guard = none → (execOp (Fr 31 f' []).eval o).run Try.prog { w with drawn := w.drawn + 1 } = .ok (.value v) { w with drawn := w.drawn + 1 } →
        (∃ f2, Fr 31 (put_ f' d v) [] = Fr 31 f2 [] ∧ ({ w with drawn := w.drawn + 1 } : World) = { w with drawn := w.drawn + 1 } ∧ f2 12 = ptr bB ∧ f2 13 = ptr bL ∧ ((decide (0 = j) || D 0) = true → f2 29 = vB) ∧ ((decide (1 = j) || D 1) = true → f2 30 = vL) ∧ ((decide (2 = j) || D 2) = true → f2 6 = vB) ∧ ((decide (3 = j) || D 3) = true → f2 7 = vL) ∧ ((decide (4 = j) || D 4) = true → f2 8 = .int .i64 0)) →
        o.guard = none ∧ o.wp Try.prog (Fr 31 f' []) { w with drawn := w.drawn + 1 } (fun a' w' => ∃ f', a' = Fr 31 f' [] ∧ w' = { w with drawn := w.drawn + 1 } ∧ f' 12 = ptr bB ∧ f' 13 = ptr bL ∧ ((decide (0 = j) || D 0) = true → f' 29 = vB) ∧ ((decide (1 = j) || D 1) = true → f' 30 = vL) ∧ ((decide (2 = j) || D 2) = true → f' 6 = vB) ∧ ((decide (3 = j) || D 3) = true → f' 7 = vL) ∧ ((decide (4 = j) || D 4) = true → f' 8 = .int .i64 0)) Q := by
      intro d v hd h1 h2 h3 h4
      refine ⟨h2, ?_⟩
      unfold Oper.wp
      rw [h3, Oper.upon_value, h1, Fr.put hd]
      exact h4
    have : j = 0 ∨ j = 1 ∨ j = 2 ∨ j = 3 ∨ j = 4 := by omega
    rcases this with rfl | rfl | rfl | rfl | rfl <;> simp only [Option.map_some, List.getElem?_cons_zero, List.getElem?_cons_succ, Option.some.injEq, Prod.mk.injEq] at hsh <;> obtain ⟨e1, e2, e3⟩ := hsh
    · refine fin 29 vB (by decide) e2 e3 (by simp [execOp, e1, Fr.tmp, q12, hcB]) ⟨_, rfl, rfl, ?_, ?_, fun _ => fr_same _ _ _, ?_, ?_, ?_, ?_⟩ <;> simp [put_] <;> (clear fin need hcB hcL ho hedge len10; assumption)
    · refine fin 30 vL (by decide) e2 e3 (by simp [execOp, e1, Fr.tmp, q13, hcL]) ⟨_, rfl, rfl, ?_, ?_, ?_, fun _ => fr_same _ _ _, ?_, ?_, ?_⟩ <;> simp [put_] <;> (clear fin need hcB hcL ho hedge len10; assumption)
    · have d0 := need 0 _ rfl (by simp)
      refine fin 6 vB (by decide) e2 e3 (by simp [execOp, e1, Fr.tmp, q0 d0]) ⟨_, rfl, rfl, ?_, ?_, ?_, ?_, fun _ => fr_same _ _ _, ?_, ?_⟩ <;> simp [put_] <;> (clear fin need hcB hcL ho hedge len10; assumption)
    · have d1 := need 1 _ rfl (by simp)
      refine fin 7 vL (by decide) e2 e3 (by simp [execOp, e1, Fr.tmp, q1 d1]) ⟨_, rfl, rfl, ?_, ?_, ?_, ?_, ?_, fun _ => fr_same _ _ _, ?_⟩ <;> simp [put_] <;> (clear fin need hcB hcL ho hedge len10; assumption)
    · refine fin 8 (.int .i64 0) (by decide) e2 e3 (by simp [execOp, e1, Fr.const]) ⟨_, rfl, rfl, ?_, ?_, ?_, ?_, ?_, ?_, fun _ => fr_same _ _ _⟩ <;> simp [put_] <;> (clear fin need hcB hcL ho hedge len10; assumption)
  · obtain ⟨f', rfl, rfl, _, _, _, _, q2, q3, q4⟩ := hI
    have hsz : (ops22 10).size = 5 := by rw [← Array.length_toList, len10]
    exact hQ f' (q2 (hall 2 (by omega))) (q3 (hall 3 (by omega))) (q4 (hall 4 (by omega)))
end Go.Proofs.Ytbapfiaglcllnaa.D
end

section
namespace Go.Proofs.Ytbapfiaglcllnaa.D
open Go Go.GD Go.Proofs
def fullOf (n : Int) : Int := IntKind.i64.wrap (IntKind.i64.wrap (1 * 2 ^ (min n.toNat IntKind.i64.bits)) - 1)
noncomputable def bestD (x : List Int × List Int × List Of) : Option (List Bd × Int × Int) :=
  (d22 x).bind fun e => bif e != 0 then some ([], 0, e) else
    (ext cloneD (fun set => P59 x.1 x.2.1 x.2.2 set) (fullOf (x.1.length : Int)) 10 0 0 ([], [], -1)).bind fun s => some (s.2.1, s.2.2, 0)
theorem i3 : (Try.prog.info? 3).map (fun i => (i.zero, i.size, i.bytes)) = some (some (Value.int .i64 0), 1, 8) := by kernel_rfl
theorem i30 : (Try.prog.info? 53).map (fun i => (i.zero, i.size, i.bytes)) = some (some (Value.slice none 0 0), 1, 24) := by kernel_rfl
theorem i57 : (Try.prog.info? 117).map (fun i => (i.zero, i.size, i.bytes)) = some (some Value.nilFunc, 1, 8) := by kernel_rfl
theorem al_of {T : TypeId} {z : Value} {s b : Nat} (h : (Try.prog.info? T).map (fun i => (i.zero, i.size, i.bytes)) = some (some z, s, b)) (w : World) : (Instr.alloc T true (.tuple #[])).run Try.prog w = .ok (ptr w.heap.size) (w.alloc (.cells z.cells T (0, 0))) := by
  obtain ⟨i, hi, hz, _⟩ := info_at h
  exact g_alloc ⟨i, hi, hz⟩ w
section
variable {N : Nat} {f : Nat → Value} {ds : List Deferred} {ops : Array Oper} {Q : Exit → Act → World → Prop} {w : World}
theorem sh_alloc {T : TypeId} {z : Value} {s b d : Nat} {l : List (Op × Option Nat × Option (Nat × Bool))} (h : (Try.prog.info? T).map (fun i => (i.zero, i.size, i.bytes)) = some (some z, s, b)) (hd : d < N)
    (k : wpSh Try.prog ops Q l (Fr N (put_ f d (ptr w.heap.size)) ds) (w.alloc (.cells z.cells T (0, 0)))) : wpSh Try.prog ops Q ((.alloc T, some d, none) :: l) (Fr N f ds) w :=
  sh_val hd (fun p hp => by
    simp only [execOp, hp]
    rw [Sem.run_bind, al_of h w]; rfl) k
theorem sh_box {T : TypeId} {x : Operand} {v : Value} {d : Nat} {l : List (Op × Option Nat × Option (Nat × Bool))} (hd : d < N) (hx : (Fr N f ds).eval x = v) (hv : v.cells = #[v])
    (k : wpSh Try.prog ops Q l (Fr N (put_ f d (ptr w.heap.size)) ds) (w.alloc (.cells #[v] T (0, 0)))) : wpSh Try.prog ops Q ((.box T x, some d, none) :: l) (Fr N f ds) w :=
  sh_val hd (fun p hp => by simp [execOp, hp, hx, Instr.box, newVar, newRow, hv]) k
end
theorem alloc_set (w : World) (v0 v : Value) (T : TypeId) : ((w.alloc (.cells #[v0] T (0, 0))).setRow w.heap.size #[v]).heap.size = w.heap.size + 1 ∧ Later w ((w.alloc (.cells #[v0] T (0, 0))).setRow w.heap.size #[v]) ∧
    ((w.alloc (.cells #[v0] T (0, 0))).setRow w.heap.size #[v]).heap[w.heap.size]? = some (.cells #[v] T (0, 0)) :=
  ⟨by rw [setRow_size, World.size_alloc], (Later.alloc w _).setFresh (Nat.le_refl _) _, setRow_heap _ _ _ _ _ _ (heap_alloc_new w _)⟩
noncomputable def tailC : Code := .seq (B 4) (.seq (B 5) (.seq (B 6) (.seq (B 7) (.seq (B 8) (.seq (B 9) (.seq (.region 10 (ops22 10) true) .ret))))))
set_option maxHeartbeats 1000000 in
theorem tail22 {w w2 : World} {Ok : Nat → Prop} {bA bP bO : Nat} {aa ap ao : Option Addr} {la ca lp cp lo co : Nat} {ages prices : List Int} {offers : List Of} {f : Nat → Value} (hL : Later w w2) (hla : ages.length = la)
    (hA : RepC Try.prog (.sl (.int .i64)) w Ok [.slice aa la ca] ages) (hP : RepC Try.prog (.sl (.int .i64)) w Ok [.slice ap lp cp] prices) (hO : RepC Try.prog (.sl ofTy) w Ok [.slice ao lo co] offers)
    (lo1 : w.heap.size ≤ bA ∧ bA < bP ∧ bP < bO ∧ bO < w2.heap.size) (t3 : f 3 = ptr bA) (t4 : f 4 = ptr bP) (t5 : f 5 = ptr bO)
    (hbA : w2.heap[bA]? = some (.cells #[.slice aa la ca] 22 (0, 0))) (hbP : w2.heap[bP]? = some (.cells #[.slice ap lp cp] 22 (0, 0))) (hbO : w2.heap[bO]? = some (.cells #[.slice ao lo co] 52 (0, 0)))
    {s : S3} (hext : ext cloneD (fun set => d59 (ages, prices, offers, set)) (fullOf (ages.length : Int)) 10 0 0 ([], [], -1) = some s) {R : Ending → World → Prop}
    (hR : ∀ w' C o a len cap, Cq.OK C → C.w0 = w → C.Ok = Ok → Stt C o s w' → ShareS 2 w' (C.Sh o) (RepC Try.prog bdTy w' (C.Sh o)) a len cap s.2.1 → R (.returned (.tuple #[.slice a len cap, .int .i64 s.2.2, .int .i64 0])) { w' with drawn := w'.drawn + 1 }) :
    tailC.wp Try.prog (bodyPost Try.prog Try.f21 R) (Fr 31 f []) w2 := by
  let C : Cq := { w0 := w, Ok := Ok, bF := w2.heap.size, bL := w2.heap.size + 3, bN := w2.heap.size + 1, bB := w2.heap.size + 2, bA := bA, bP := bP, bO := bO, bE := w2.heap.size + 4, full := fullOf (ages.length : Int), va := .slice aa la ca, vp := .slice ap lp cp, vo := .slice ao lo co, H := w2.heap.size + 5, ages := ages, prices := prices, offers := offers }
  have hC : C.OK := by
    refine ⟨fun b hb => ?_, ?_, hA, hP, hO⟩
    · have hle := hL.1
      have hb : b = w2.heap.size ∨ b = w2.heap.size + 3 ∨ b = w2.heap.size + 1 ∨ b = w2.heap.size + 2 ∨ b = bA ∨ b = bP ∨ b = bO ∨ b = w2.heap.size + 4 := by simpa [C, Cq.boxes] using hb
      show w.heap.size ≤ b ∧ b < w2.heap.size + 5
      omega
    · show [w2.heap.size, w2.heap.size + 3, w2.heap.size + 1, w2.heap.size + 2, bA, bP, bO, w2.heap.size + 4].Nodup
      simp only [List.nodup_cons, List.mem_cons, not_or, List.not_mem_nil, not_false_eq_true, and_true, List.nodup_nil]
      omega
  unfold tailC
  refine wp_seq (reg_sh sb4 ?_)
  refine sh_load (v := .slice aa la ca) (by decide) s22 (by simp [Fr.tmp, t3]) (cell1 hbA) ?_
  refine sh_len (al := aa) (n := la) (cl := ca) (by decide) u22 (by simp [Fr.tmp, put_]) ?_
  refine sh_bin (k := .i64) (a := 1) (b := la) (v := .int .i64 (IntKind.i64.wrap (1 * 2 ^ (min (la : Int).toNat IntKind.i64.bits)))) (by decide) rfl (by simp [Fr.tmp, put_]) (by simp [binOp, Op.shift, show ¬ ((la : Int) < 0) by omega]) ?_
  refine sh_bin (k := .i64) (b := 1) (by decide) ((Fr.tmp (by decide)).trans (fr_same _ _ _)) rfl (sub_run _ _ _) ?_
  have hfull : IntKind.i64.wrap (IntKind.i64.wrap (1 * 2 ^ (min (la : Int).toNat IntKind.i64.bits)) - 1) = C.full := by
    show _ = fullOf (ages.length : Int)
    rw [hla]; rfl
  rw [hfull]
  refine sh_alloc i3 (by decide) ?_
  refine sh_store (v := .int .i64 C.full) (u := .int .i64 0) (et := 3) s3 (by simp [Fr.tmp, put_]) (by simp [Fr.tmp, put_]) rfl rfl (heap_alloc_new w2 _) ?_
  obtain ⟨z1, L1, H1⟩ := alloc_set w2 (.int .i64 0) (.int .i64 C.full) 3
  show (Code.seq (B 5) _).wp Try.prog _ _ ((w2.alloc (.cells #[.int .i64 0] 3 (0, 0))).setRow w2.heap.size #[.int .i64 C.full])
  generalize (w2.alloc (.cells #[.int .i64 0] 3 (0, 0))).setRow w2.heap.size #[.int .i64 C.full] = W1 at z1 L1 H1
  refine wp_seq (reg_sh sb5 ?_)
  refine sh_alloc i30 (by decide) ?_
  refine sh_alloc i30 (by decide) ?_
  show (Code.seq (B 6) _).wp Try.prog _ _ ((W1.alloc (.cells #[.slice none 0 0] 53 (0, 0))).alloc (.cells #[.slice none 0 0] 53 (0, 0)))
  have z2 : ((W1.alloc (.cells #[.slice none 0 0] 53 (0, 0))).alloc (.cells #[.slice none 0 0] 53 (0, 0))).heap.size = w2.heap.size + 3 := by rw [World.size_alloc, World.size_alloc, z1]
  have L2 : Later W1 ((W1.alloc (.cells #[.slice none 0 0] 53 (0, 0))).alloc (.cells #[.slice none 0 0] 53 (0, 0))) := (Later.alloc W1 _).trans (Later.alloc _ _)
  have H2 : ((W1.alloc (.cells #[.slice none 0 0] 53 (0, 0))).alloc (.cells #[.slice none 0 0] 53 (0, 0))).heap[w2.heap.size + 1]? = some (.cells #[.slice none 0 0] 53 (0, 0)) := by
    have := heap_alloc_new W1 (.cells #[.slice none 0 0] 53 (0, 0))
    rw [z1] at this
    exact ((Later.alloc (W1.alloc (.cells #[.slice none 0 0] 53 (0, 0))) _).2.1 _ (by rw [World.size_alloc, z1]; omega)).trans this
  have H3 : ((W1.alloc (.cells #[.slice none 0 0] 53 (0, 0))).alloc (.cells #[.slice none 0 0] 53 (0, 0))).heap[w2.heap.size + 2]? = some (.cells #[.slice none 0 0] 53 (0, 0)) := by
    have := heap_alloc_new (W1.alloc (.cells #[.slice none 0 0] 53 (0, 0))) (.cells #[.slice none 0 0] 53 (0, 0))
    rwa [World.size_alloc, z1] at this
  have e11 : W1.heap.size = w2.heap.size + 1 := z1
  have e12 : (W1.alloc (.cells #[.slice none 0 0] 53 (0, 0))).heap.size = w2.heap.size + 2 := by rw [World.size_alloc, z1]
  simp only [show (Value.slice none 0 0).cells = #[Value.slice none 0 0] from rfl]
  rw [e11, e12]
  generalize (W1.alloc (.cells #[.slice none 0 0] 53 (0, 0))).alloc (.cells #[.slice none 0 0] 53 (0, 0)) = W2 at z2 L2 H2 H3
  refine wp_seq (reg_sh sb6 ?_)
  refine sh_alloc i3 (by decide) ?_
  refine sh_store (v := .int .i64 (-1)) (u := .int .i64 0) (et := 3) s3 (by simp [Fr.tmp, put_]) rfl rfl rfl (heap_alloc_new W2 _) ?_
  obtain ⟨z3, L3, H4⟩ := alloc_set W2 (.int .i64 0) (.int .i64 (-1)) 3
  show (Code.seq (B 7) _).wp Try.prog _ _ ((W2.alloc (.cells #[.int .i64 0] 3 (0, 0))).setRow W2.heap.size #[.int .i64 (-1)])
  generalize (W2.alloc (.cells #[.int .i64 0] 3 (0, 0))).setRow W2.heap.size #[.int .i64 (-1)] = W3 at z3 L3 H4
  rw [z2] at z3 H4
  rw [z2]
  refine wp_seq (reg_sh sb7 ?_)
  refine sh_alloc i57 (by decide) ?_
  rw [z3]
  refine wp_seq (reg_sh sb8 ?_)
  refine sh_val (v := .func (.func 57) #[] C.caps) (w' := W3.alloc (.cells #[.nilFunc] 117 (0, 0))) (by decide) (fun p hp => by
    simp [execOp, hp, Instr.makeFunc, Fr.tmp, put_, t3, t4, t5]
    exact ⟨rfl, rfl⟩) ?_
  have hnf := heap_alloc_new W3 (.cells #[.nilFunc] 117 (0, 0))
  rw [z3] at hnf
  refine sh_store (v := .func (.func 57) #[] C.caps) (u := .nilFunc) (et := 117) s57 (by simp [Fr.tmp, put_]) (by simp [Fr.tmp, put_]) rfl rfl hnf ?_
  obtain ⟨z4, L4, H5⟩ := alloc_set W3 .nilFunc (.func (.func 57) #[] C.caps) 117
  rw [z3] at z4 L4 H5
  generalize (W3.alloc (.cells #[.nilFunc] 117 (0, 0))).setRow (w2.heap.size + 3 + 1) #[.func (.func 57) #[] C.caps] = W4 at z4 L4 H5
  have LA : Later w2 W4 := ((L1.trans L2).trans L3).trans L4
  have hS : Stt C none ([], [], -1) W4 := by
    have l34 := L3.trans L4
    have l24 := L2.trans l34
    refine ⟨by show w2.heap.size + 5 ≤ _; omega, hL.trans LA, ⟨3, (l24.2.1 w2.heap.size (by omega)).trans H1⟩, ⟨3, (L4.2.1 (w2.heap.size + 3) (by omega)).trans H4⟩, ⟨53, none, 0, (l34.2.1 (w2.heap.size + 1) (by omega)).trans H2, rfl, Nat.le_refl _, .inl rfl⟩, ⟨53, none, 0, 0, (l34.2.1 (w2.heap.size + 2) (by omega)).trans H3, rfl, Nat.le_refl _, .inl rfl⟩,
      ⟨22, (LA.2.1 bA (by omega)).trans hbA⟩, ⟨22, (LA.2.1 bP (by omega)).trans hbP⟩, ⟨52, (LA.2.1 bO (by omega)).trans hbO⟩, ⟨117, H5⟩, fun b hb => by cases hb⟩
  refine wp_seq (reg_sh sb9 ?_)
  refine sh_load (v := .func (.func 57) #[] C.caps) (by decide) s57 (by simp [Fr.tmp, put_]) (cell1 H5) ?_
  refine sh_call (g := 57) (args := #[.int .i64 0, .int .i64 0] ++ C.caps) (w' := W4) (by decide) (fun p hp => by
    simp [execOp, hp, resolve, Deferred.ofValue, invoke, Fr.tmp, Fr.const, put_, k30.run]) ?_
  refine (ext_does hC 10 0 0 ([], [], -1) s none W4 hS hext).mono ?_
  rintro ex w' ⟨v, o', rfl, hS'⟩
  refine ⟨v, rfl, ?_⟩
  obtain ⟨eB, aB, lB, cB, hB, hB2⟩ := hS'.b
  obtain ⟨eL, hLl⟩ := hS'.l
  refine wp_seq (reg22 (bB := C.bB) (bL := C.bL) (by simp [put_]; rfl) (by simp [put_]; rfl) hB hLl fun f' h6 h7 h8 => ?_)
  exact Go.wp_ret ⟨rfl, _, res3 _ h6 h7 h8, hR w' C o' aB lB cB hC rfl rfl hS' hB2⟩
set_option maxHeartbeats 2000000 in
theorem best_does : Does Try.prog 21 [.sl (.int .i64), .sl (.int .i64), .sl ofTy] [.sl bdTy, .int .i64, .int .i64] false bestD := by
  intro w Ok cs x y hX hy
  obtain ⟨ages, prices, offers⟩ := x
  obtain ⟨c1, c2, rfl, hA, c3, c4, rfl, hP, hO⟩ := hX
  obtain ⟨aa, la, ca, rfl, hA2⟩ := id hA
  obtain ⟨ap, lp, cp, rfl, hP2⟩ := id hP
  obtain ⟨ao, lo, co, rfl, hO2⟩ := id hO
  have hla : ages.length = la := hA2.1
  show Calls Try.prog 21 #[.slice aa la ca, .slice ap lp cp, .slice ao lo co] w _
  simp only [bestD] at hy
  obtain ⟨e, he, hy⟩ := Option.bind_eq_some_iff.1 hy
  refine calls_of_wp Try.func21 body22 ?_
  have hsz : (#[Value.slice aa la ca, .slice ap lp cp, .slice ao lo co] ++ Array.replicate (Try.f21.ntmps - #[Value.slice aa la ca, .slice ap lp cp, .slice ao lo co].size) undef).size = 31 := by
    rw [Array.size_append, Array.size_replicate, size22]; rfl
  rw [Fr.of (N := 31) (a := { tmps := #[Value.slice aa la ca, .slice ap lp cp, .slice ao lo co] ++ Array.replicate (Try.f21.ntmps - #[Value.slice aa la ca, .slice ap lp cp, .slice ao lo co].size) undef, defers := [] }) hsz]
  simp only []
  generalize hf : (fun s => (#[Value.slice aa la ca, .slice ap lp cp, .slice ao lo co] ++ Array.replicate (Try.f21.ntmps - #[Value.slice aa la ca, .slice ap lp cp, .slice ao lo co].size) undef).getD s undef) = f
  have f0 : f 0 = .slice aa la ca := by rw [← hf]; simp
  have f1 : f 1 = .slice ap lp cp := by rw [← hf]; simp
  have f2 : f 2 = .slice ao lo co := by rw [← hf]; simp
  clear hf hsz
  refine wp_seq (reg_sh sb0 ?_)
  refine sh_box (v := .slice aa la ca) (by decide) (by simp [Fr.tmp, f0]) rfl ?_
  refine sh_box (v := .slice ap lp cp) (by decide) (by simp [Fr.tmp, put_, f1]) rfl ?_
  refine sh_box (v := .slice ao lo co) (by decide) (by simp [Fr.tmp, put_, f2]) rfl ?_
  refine sh_assign (v := .slice none 0 0) (by decide) rfl ?_
  refine sh_assign (v := .int .i64 0) (by decide) rfl ?_
  refine sh_assign (v := .int .i64 0) (by decide) rfl ?_
  generalize hw1 : ((w.alloc (.cells #[.slice aa la ca] 22 (0, 0))).alloc (.cells #[.slice ap lp cp] 22 (0, 0))).alloc (.cells #[.slice ao lo co] 52 (0, 0)) = w1
  have hs1 : w1.heap.size = w.heap.size + 3 := by rw [← hw1]; simp [World.size_alloc]
  have hL1 : Later w w1 := by rw [← hw1]; exact ((Later.alloc w _).trans (Later.alloc _ _)).trans (Later.alloc _ _)
  have hbA : w1.heap[w.heap.size]? = some (.cells #[.slice aa la ca] 22 (0, 0)) := by
    rw [← hw1]
    refine (heap_alloc_old _ _ (by rw [World.size_alloc, World.size_alloc]; omega)).trans ((heap_alloc_old _ _ (by rw [World.size_alloc]; omega)).trans (heap_alloc_new w _))
  have hbP : w1.heap[w.heap.size + 1]? = some (.cells #[.slice ap lp cp] 22 (0, 0)) := by
    rw [← hw1]
    refine (heap_alloc_old _ _ (by rw [World.size_alloc, World.size_alloc]; omega)).trans ?_
    have := heap_alloc_new (w.alloc (.cells #[.slice aa la ca] 22 (0, 0))) (.cells #[.slice ap lp cp] 22 (0, 0))
    rwa [World.size_alloc] at this
  have hbO : w1.heap[w.heap.size + 2]? = some (.cells #[.slice ao lo co] 52 (0, 0)) := by
    rw [← hw1]
    have := heap_alloc_new ((w.alloc (.cells #[.slice aa la ca] 22 (0, 0))).alloc (.cells #[.slice ap lp cp] 22 (0, 0))) (.cells #[.slice ao lo co] 52 (0, 0))
    rwa [World.size_alloc, World.size_alloc] at this
  have p3 : ((w.alloc (.cells #[.slice aa la ca] 22 (0, 0))).heap.size) = w.heap.size + 1 := World.size_alloc _ _
  have p4 : (((w.alloc (.cells #[.slice aa la ca] 22 (0, 0))).alloc (.cells #[.slice ap lp cp] 22 (0, 0))).heap.size) = w.heap.size + 2 := by rw [World.size_alloc, p3]
  rw [p3, p4]
  refine wp_seq (wp_seq (reg_sh sb1 ?_))
  refine sh_load (v := .slice aa la ca) (by decide) s22 (by simp [Fr.tmp, put_]) (cell1 hbA) ?_
  refine sh_load (v := .slice ap lp cp) (by decide) s22 (by simp [Fr.tmp, put_]) (cell1 hbP) ?_
  refine sh_load (v := .slice ao lo co) (by decide) s23 (by simp [Fr.tmp, put_]) (cell1 hbO) ?_
  refine sh_call (g := 22) (args := #[.slice aa la ca, .slice ap lp cp, .slice ao lo co]) (w' := w1) (by decide) (fun p hp => by
    have kf : ∀ a : Act, a.eval (.func 22) = .func (.func 22) #[] #[] := fun _ => rfl
    simp [execOp, hp, resolve, Deferred.ofValue, invoke, kf, Fr.tmp, put_, k22.run]) ?_
  have hm1 : Mono w Ok w1 Ok := ⟨hL1.1, fun b hb hk => ⟨hL1.2.1 b hb, hk⟩⟩
  refine (does22 w1 Ok [.slice aa la ca, .slice ap lp cp, .slice ao lo co] (ages, prices, offers) e ⟨[_], _, rfl, RepC.mono _ hm1 hA, [_], _, rfl, RepC.mono _ hm1 hP, RepC.mono _ hm1 hO⟩ he).mono ?_
  rintro ex w2 ⟨us, g', rfl, ⟨_, _, hu⟩, z1, z2, _, z4⟩
  have hu : us = [.int .i64 e] := hu
  subst hu
  have hL2 : Later w1 w2 := ⟨z1, z2, z4⟩
  refine ⟨_, rfl, ?_⟩
  refine sh_assign (v := .int .i64 e) (by decide) (by simp [Fr.tmp, put_]; rfl) ?_
  refine wp_seq (reg_sh sb2 ?_)
  refine sh_move (v := .int .i64 e) (by decide) (by simp [Fr.tmp, put_]) ?_
  refine sh_val (v := .bool (e != 0)) (w' := w2) (by decide) (fun p hp => by
    simp [execOp, hp, Fr.tmp, Fr.const, put_, run_guard, binOp, Op.intCmp]) ?_
  refine wp_cond_split (t := (e != 0)) (by rw [Fr.tmp (by decide), fr_same]) (fun ht => ?_) (fun ht => ?_)
  · rw [ht, cond_true] at hy
    injection hy with hy
    subst hy
    refine wp_seq (reg_sh sb3 ?_)
    refine sh_move (v := .int .i64 e) (by decide) (by simp [Fr.tmp, put_]) ?_
    refine sh_assign (v := .slice none 0 0) (by decide) rfl ?_
    refine sh_assign (v := .int .i64 0) (by decide) rfl ?_
    refine sh_assign (v := .int .i64 e) (by decide) (by simp [Fr.tmp, put_]) ?_
    refine Go.wp_ret ⟨rfl, .tuple #[.slice none 0 0, .int .i64 0, .int .i64 e], res3 _ (by simp [put_]) (by simp [put_]) (by simp [put_]), [.slice none 0 0, .int .i64 0, .int .i64 e], fun _ => none, rfl, ?_, Nat.le_trans hL1.1 hL2.1, fun b hb => (hL2.2.1 b (Nat.lt_of_lt_of_le hb hL1.1)).trans (hL1.2.1 b hb), fun b hb => absurd rfl hb, hL1.2.2.trans hL2.2.2⟩
    exact ⟨[_], [_, _], [_], [_, _], rfl, rfl, ⟨none, 0, 0, .shr, rfl, rfl, ⟨rfl, Nat.le_refl _, .inl rfl⟩, by simp⟩, [_], [_], [_], [_], rfl, rfl, ⟨.shr, rfl, rfl⟩, .shr, rfl, rfl⟩
  · rw [ht, cond_false] at hy
    obtain ⟨s, hext, hy⟩ := Option.bind_eq_some_iff.1 hy
    have hfast : (fun set => P59 ages prices offers set) = fun set => d59 (ages, prices, offers, set) := by
      funext set
      rw [← fast59]; rfl
    rw [hfast] at hext
    injection hy with hy
    refine Go.wp_skip ?_
    have hb2 : ∀ b, b < w1.heap.size → w2.heap[b]? = w1.heap[b]? := hL2.2.1
    refine tail22 (w := w) (w2 := w2) (Ok := Ok) (bA := w.heap.size) (bP := w.heap.size + 1) (bO := w.heap.size + 2) (hL1.trans hL2) hla hA hP hO (by have := hL2.1; omega) (by simp [put_]) (by simp [put_]) (by simp [put_])
      ((hb2 _ (by omega)).trans hbA) ((hb2 _ (by omega)).trans hbP) ((hb2 _ (by omega)).trans hbO) hext fun w' C o a len cap hC hw0 hOk hS hsh => ?_
    subst hy
    have hold := hS.old
    rw [hw0] at hold
    refine ⟨[.slice a len cap, .int .i64 s.2.2, .int .i64 0], fun _ => none, rfl, ?_, hold.1, hold.2.1, fun b hb => absurd rfl hb, hold.2.2.trans ⟨rfl, rfl, rfl, by first | exact Nat.le_refl _ | exact Nat.le_succ _ | (simp; done) | (simp; omega)⟩⟩
    have hm : Mono w' (C.Sh o) { w' with drawn := w'.drawn + 1 } (fun b => (w.heap.size ≤ b ∨ Ok b) ∧ (none : Option Nat) = none) := ⟨Nat.le_refl _, fun b _ hk => ⟨rfl, by
      rcases hk with ⟨h1, _⟩ | ⟨h1, _⟩
      · rw [hOk] at h1; exact ⟨.inr h1, rfl⟩
      · rw [hw0] at h1; exact ⟨.inl h1, rfl⟩⟩⟩
    exact ⟨[_], [_, _], [_], [_, _], rfl, rfl, ⟨a, len, cap, .shr, rfl, rfl, hsh.mono hm fun _ _ => RepC.mono bdTy hm, by simp⟩, [_], [_], [_], [_], rfl, rfl, ⟨.shr, rfl, rfl⟩, .shr, rfl, rfl⟩
end Go.Proofs.Ytbapfiaglcllnaa.D
end
