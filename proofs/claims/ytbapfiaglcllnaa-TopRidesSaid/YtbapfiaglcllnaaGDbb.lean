import Derived.Test.YtbapfiaglcllnaaGDaa
import Derived.Laws.MakeOwn
import Derived.Laws.CopyRow
import Derived.Deep.AppendSrc
section
namespace Go.GD
open Go
section
variable {C : Ctx} {g : Own} {σ : St} {tm : Array Value} {w : World} {E : Env} {o : Oper} {ρ : Type} {K : St → Option ρ} {r : ρ} {ds : List Deferred}
  {next : Act → World → Prop} {Q : Exit → Act → World → Prop}
theorem op_move {x : Operand} (ho : o.op = .move x) (h : SRep C g σ tm w) (hr : (opP E o).run σ K = some r) (hK : Good C K r ds next) : o.wp C.P ⟨tm, ds⟩ w next Q := by
  unfold opP at hr
  rw [ho] at hr
  obtain ⟨a, ha, hr⟩ := rdA_inv (ds := ds) h hr
  exact av_sound h (.refl h) (by simp [execOp, ho]) ha hr hK
theorem op_pick {c a b : Operand} (ho : o.op = .pick c a b) (h : SRep C g σ tm w) (hr : (opP E o).run σ K = some r) (hK : Good C K r ds next) : o.wp C.P ⟨tm, ds⟩ w next Q := by
  unfold opP at hr
  rw [ho] at hr
  obtain ⟨t, ht, hr⟩ := rdBool_inv (ds := ds) h hr
  simp only [Prog.run] at hr
  cases t with
  | true =>
    obtain ⟨a, ha, hr⟩ := rdA_inv (ds := ds) h hr
    exact av_sound h (.refl h) (by simp [execOp, ho, ht, asBool]) ha hr hK
  | false =>
    obtain ⟨a, ha, hr⟩ := rdA_inv (ds := ds) h hr
    exact av_sound h (.refl h) (by simp [execOp, ho, ht, asBool]) ha hr hK
theorem op_assign {x : Operand} (ho : o.op = .assign x) (h : SRep C g σ tm w) (hr : (opP E o).run σ K = some r) (hK : Good C K r ds next) : o.wp C.P ⟨tm, ds⟩ w next Q := by
  unfold opP at hr
  rw [ho] at hr
  obtain ⟨a, ha, hr⟩ := rdA_inv (ds := ds) h hr
  cases a with
  | val tv =>
    simp only at hr
    cases hf : isFn tv.t with
    | true =>
      rw [hf] at hr
      simp only [if_true] at hr
      exact av_sound h (.refl h) (by simp [execOp, ho]) ha hr hK
    | false =>
    rw [hf] at hr
    simp only [Bool.false_eq_true, if_false] at hr
    obtain ⟨cs, e, hx, hn, hb⟩ := ha
    obtain ⟨g1, σ1, ms', h1, h2, h3, h4, h5, h6, h7, _⟩ := takeMarks_inv tv.ms [] rfl h (hx.place σ.length 0 hn) (fun _ hm => by cases hm) hn hb hr
    have hN : σ1.length = σ.length := h2.len
    refine new_sound (w0 := w) h1 (Grow.handTo h1 (o.dst.getD 0) 0) (v := Act.eval ⟨tm, ds⟩ x) (by simp [execOp, ho]) (fun d hd hl σ' tm' hv => ?_) h6 hK
    rw [hd, hN]
    rw [hd, hN] at hv
    simp only [Option.getD_some, List.nil_append] at h4 h5 hv ⊢
    exact ⟨⟨cs, e, laid_cells (N := σ.length) (off := 0) (d := d) h5 h4 (mono_handTo _ _ _) fun c => ⟨Nat.le_refl _, fun b _ hb => ⟨rfl, handTo_hand hb⟩⟩⟩, laid_bnd h4⟩
  | mref s id => exact av_sound h (.refl h) (by simp [execOp, ho]) ha hr hK
  | bptr s off id => exact av_sound h (.refl h) (by simp [execOp, ho]) ha hr hK
  | _ => simp [Prog.run] at hr
theorem out_val {v : Value} {tv : TV} (h : SRep C g σ tm w) (hexec : (execOp (Act.eval ⟨tm, ds⟩) o).run C.P w = .ok (.value v) w)
    (hv : Val C g σ tm w v tv) (hr : (out o tv).run σ K = some r) (hK : Good C K r ds next) : o.wp C.P ⟨tm, ds⟩ w next Q :=
  av_sound h (.refl h) hexec (a0 := .val tv) hv hr hK
theorem op_binInt {op : BinOp} {T T' : Nat} {x y : Operand} {k0 : IntKind} (ho : o.op = .binOp op T x y T') (hT : E.ty T = some (.int k0)) (h : SRep C g σ tm w)
    (hr : (opP E o).run σ K = some r) (hK : Good C K r ds next) : o.wp C.P ⟨tm, ds⟩ w next Q := by
  unfold opP at hr
  rw [ho] at hr
  simp only [binP, hT] at hr
  obtain ⟨k, a, hx, hr⟩ := rdInt_inv (ds := ds) h hr
  obtain ⟨k', b, hy, hr⟩ := rdInt_inv (ds := ds) h hr
  have he : ∀ v, (binOp op T (.int k a) (.int k' b)).run C.P w = .ok v w → (execOp (Act.eval ⟨tm, ds⟩) o).run C.P w = .ok (.value v) w := by
    intro v hv
    simp only [execOp, ho, hx, hy]
    have hg : (eqGuard op T x y (.int k a) (.int k' b)).run C.P w = .ok () w := by
      unfold eqGuard
      split <;> simp
    simp [hg, hv]
  by_cases hs : op = .shl ∨ op = .shr
  · rcases hs with rfl | rfl
    · simp only [Prog.run] at hr
      by_cases hb : b < 0
      · simp [hb] at hr
      · simp only [hb, decide_false, cond] at hr
        exact out_val h (he (.int k (k.wrap (a * 2 ^ (min b.toNat k.bits)))) (by simp [binOp, Op.shift, hb])) (Val.int _ _) hr hK
    · simp only [Prog.run] at hr
      by_cases hb : b < 0
      · simp [hb] at hr
      · simp only [hb, decide_false, cond] at hr
        exact out_val h (he (.int k (a.fdiv (2 ^ (min b.toNat k.bits)))) (by simp [binOp, Op.shift, hb])) (Val.int _ _) hr hK
  · have hr' : (if kindBeq k k' then intOp op k a b (fun v => out o v) else Prog.fail).run σ K = some r := by
      cases op <;> first
        | exact hr
        | (exfalso; exact hs (by simp))
    clear hr
    split at hr'
    · rename_i hk
      have hk := kindBeq_eq hk
      subst hk
      cases op with
      | add => exact out_val h (he _ (by simp [binOp, Op.intArith])) (Val.int _ _) hr' hK
      | sub => exact out_val h (he _ (by simp [binOp, Op.intArith])) (Val.int _ _) hr' hK
      | mul => exact out_val h (he _ (by simp [binOp, Op.intArith])) (Val.int _ _) hr' hK
      | quo =>
        simp only [intOp, Prog.run] at hr'
        by_cases hb : b = 0
        · subst hb; simp at hr'
        · have hb' : (b == 0) = false := by simpa using hb
          rw [hb'] at hr'
          exact out_val h (he _ (by simp [binOp, Op.intDiv, hb])) (Val.int _ _) hr' hK
      | rem =>
        simp only [intOp, Prog.run] at hr'
        by_cases hb : b = 0
        · subst hb; simp at hr'
        · have hb' : (b == 0) = false := by simpa using hb
          rw [hb'] at hr'
          exact out_val h (he _ (by simp [binOp, Op.intDiv, hb])) (Val.int _ _) hr' hK
      | and => exact out_val h (he _ (by simp [binOp, Op.intBits])) (Val.int _ _) hr' hK
      | or => exact out_val h (he _ (by simp [binOp, Op.intBits])) (Val.int _ _) hr' hK
      | xor => exact out_val h (he _ (by simp [binOp, Op.intBits])) (Val.int _ _) hr' hK
      | andNot => exact out_val h (he _ (by simp [binOp, Op.intBits])) (Val.int _ _) hr' hK
      | shl => exact absurd (.inl rfl) hs
      | shr => exact absurd (.inr rfl) hs
      | eql => exact out_val h (he (.bool (a == b)) (by simp [binOp, Op.intCmp])) (Val.bool _) hr' hK
      | neq => exact out_val h (he (.bool (a != b)) (by simp [binOp, Op.intCmp])) (Val.bool _) hr' hK
      | lss => exact out_val h (he (.bool (decide (a < b))) (by simp [binOp, Op.intCmp])) (Val.bool _) hr' hK
      | leq => exact out_val h (he (.bool (decide (a ≤ b))) (by simp [binOp, Op.intCmp])) (Val.bool _) hr' hK
      | gtr => exact out_val h (he (.bool (decide (a > b))) (by simp [binOp, Op.intCmp])) (Val.bool _) hr' hK
      | geq => exact out_val h (he (.bool (decide (a ≥ b))) (by simp [binOp, Op.intCmp])) (Val.bool _) hr' hK
    · simp [Prog.run] at hr'
theorem op_unOp {op : UnOp} {T : Nat} {x : Operand} (ho : o.op = .unOp op T x) (h : SRep C g σ tm w)
    (hr : (opP E o).run σ K = some r) (hK : Good C K r ds next) : o.wp C.P ⟨tm, ds⟩ w next Q := by
  unfold opP at hr
  rw [ho] at hr
  cases op with
  | not =>
    obtain ⟨b, hx, hr⟩ := rdBool_inv (ds := ds) h hr
    exact out_val h (by simp [execOp, ho, hx, Op.unary]) (Val.bool _) hr hK
  | neg =>
    obtain ⟨k, n, hx, hr⟩ := rdInt_inv (ds := ds) h hr
    exact out_val h (by simp [execOp, ho, hx, Op.unary, Op.intArith]) (Val.int k (k.wrap (0 - n))) hr hK
  | xor =>
    obtain ⟨k, n, hx, hr⟩ := rdInt_inv (ds := ds) h hr
    refine out_val h ?_ (Val.int k _) hr hK
    cases hk : k.signed <;> simp [execOp, ho, hx, Op.unary, Op.intBits, hk]
  | _ => simp [Prog.run] at hr
theorem int_desc (hE : TabOK C.P E.tab) {T : Nat} {k : IntKind} (hT : E.ty T = some (.int k)) : C.P.underlying T = some (.int k) := by
  obtain ⟨e, he, hty⟩ := Env.ty_some hT
  obtain ⟨dd, _, hu2, hdo⟩ := (hE.find he).underlying default
  rw [hu2]
  cases dd with
  | int k' => have := Ty.eq_of_beq hdo; rw [hty] at this; injection this with this; rw [this]
  | bool => have := Ty.eq_of_beq hdo; rw [hty] at this; cases this
  | string => have := Ty.eq_of_beq hdo; rw [hty] at this; cases this
  | slice el =>
    simp only [descOK, Bool.and_eq_true] at hdo
    obtain ⟨_, hdo⟩ := hdo
    split at hdo
    · simp only [Bool.and_eq_true] at hdo
      have := Ty.eq_of_beq hdo.1; rw [hty] at this; cases this
    · cases hdo
  | struct fs => simp [descOK, hty, Ty.isAgg] at hdo
  | array n el => simp [descOK, hty, Ty.isAgg] at hdo
  | func ps rs v => simp [descOK, hty] at hdo
  | _ => simp [descOK] at hdo
theorem op_convertInt {s d : Nat} {x : Operand} {k0 k : IntKind} (hE : TabOK C.P E.tab) (ho : o.op = .convert s d x) (hs : E.ty s = some (.int k0)) (hd : E.ty d = some (.int k)) (h : SRep C g σ tm w)
    (hr : (opP E o).run σ K = some r) (hK : Good C K r ds next) : o.wp C.P ⟨tm, ds⟩ w next Q := by
  unfold opP at hr
  rw [ho] at hr
  simp only [hs, hd] at hr
  · obtain ⟨kd, n, hx, hr⟩ := rdInt_inv (ds := ds) h hr
    have hu := int_desc hE hs
    have hu2 := int_desc hE hd
    refine out_val h ?_ (Val.int k (k.wrap n)) hr hK
    have : (convert s d (.int kd n)).run C.P w = .ok (.int k (k.wrap n)) w := by
      unfold convert
      simp only [Sem.run_bind, underlying, run_program, Result.andThen_ok, hu, hu2, Sem.run_pure]
      simp [Conv.intToInt]
    simp [execOp, ho, hx, this]
theorem op_min {c : Call} {x y : Operand} (ho : o.op = .call c) (hc : c.callee = .builtin .min) (ha : c.args.toList = [x, y]) (h : SRep C g σ tm w)
    (hr : (opP E o).run σ K = some r) (hK : Good C K r ds next) : o.wp C.P ⟨tm, ds⟩ w next Q := by
  unfold opP at hr
  rw [ho] at hr
  simp only [hc, ha] at hr
  obtain ⟨k, a, hx, hr⟩ := rdInt_inv (ds := ds) h hr
  obtain ⟨k', b, hy, hr⟩ := rdInt_inv (ds := ds) h hr
  have hargs : c.args = #[x, y] := by rw [← Array.toArray_toList (xs := c.args), ha]
  refine out_val h (v := .int k (cond (decide (b < a)) b a)) ?_ (Val.int k _) hr hK
  simp [execOp, ho, resolve, hc, hargs, invoke, builtin, Builtin.min_, hx, hy, Builtin.min2]
theorem op_max {c : Call} {x y : Operand} (ho : o.op = .call c) (hc : c.callee = .builtin .max) (ha : c.args.toList = [x, y]) (h : SRep C g σ tm w)
    (hr : (opP E o).run σ K = some r) (hK : Good C K r ds next) : o.wp C.P ⟨tm, ds⟩ w next Q := by
  unfold opP at hr
  rw [ho] at hr
  simp only [hc, ha] at hr
  obtain ⟨k, a, hx, hr⟩ := rdInt_inv (ds := ds) h hr
  obtain ⟨k', b, hy, hr⟩ := rdInt_inv (ds := ds) h hr
  have hargs : c.args = #[x, y] := by rw [← Array.toArray_toList (xs := c.args), ha]
  refine out_val h (v := .int k (cond (decide (b > a)) b a)) ?_ (Val.int k _) hr hK
  simp [execOp, ho, resolve, hc, hargs, invoke, builtin, Builtin.max_, hx, hy, Builtin.max2]
theorem says_len {m : Mk} {t : Ty} {a : Option Addr} {len cap : Nat} {xs : List t.den} (hok : okM σ m) (hno : m ≠ .own)
    (hs : (cl g σ tm w 0 0 m).says t.size w (Shd C g) (RepC C.P t w (Shd C g)) a len cap xs) : xs.length = len ∧ len ≤ cap := by
  cases m with
  | shr => exact ⟨hs.1.1, hs.1.2.1⟩
  | nn => exact ⟨hs.1.1, hs.1.2.1⟩
  | nil => obtain ⟨_, rfl, rfl, rfl⟩ := hs; exact ⟨rfl, Nat.le_refl _⟩
  | own => exact absurd rfl hno
  | dead => exact hok.elim
  | ref s' c' g' =>
    simp only [clm, (show validB σ s' c' g' = true from hok), cond] at hs
    exact ⟨hs.1.1, hs.1.2.1⟩
  | sub s' c' g' =>
    simp only [clm, (show validB σ s' c' g' = true from hok), cond] at hs
    exact ⟨hs.1.1, hs.1.2.1⟩
  | bor q =>
    simp only [clm, (show borOk σ q = true from hok), cond] at hs
    exact ⟨hs.1.1, hs.1.2.1⟩
theorem op_len {c : Call} (hE : TabOK C.P E.tab) (ho : o.op = .call c) (hc : c.callee = .builtin .len) (h : SRep C g σ tm w)
    (hr : (opP E o).run σ K = some r) (hK : Good C K r ds next) : o.wp C.P ⟨tm, ds⟩ w next Q := by
  unfold opP at hr
  rw [ho] at hr
  simp only [hc] at hr
  split at hr
  · rename_i x T ha ht
    split at hr
    · rename_i t0 hT
      obtain ⟨t, xs, m, a, len, cap, hx, hok, hno, _, hs, hr⟩ := rdSl_inv (ds := ds) h hr
      obtain ⟨hl, _⟩ := says_len hok hno hs
      have hargs : c.args = #[x] := by rw [← Array.toArray_toList (xs := c.args), ha]
      have htys : c.argTypes = #[T] := by rw [← Array.toArray_toList (xs := c.argTypes), ht]
      obtain ⟨e, he, hty⟩ := Env.ty_some hT
      have hu := ((hE.find he).slice hty).1
      refine out_val h (v := .int .i64 (xs.length : Int)) ?_ (Val.int .i64 _) hr hK
      simp [execOp, ho, resolve, hc, hargs, htys, invoke, builtin, Builtin.len_, hx, underlying, hu, hl, goInt]
    · simp [Prog.run] at hr
  · simp [Prog.run] at hr
end
end Go.GD
end

section
namespace Go.GD
open Go
theorem addr_add {ad : Addr} (h : ad.spot = none) (n : Nat) : ad.add n = ⟨ad.block, ad.off + n, none⟩ := by
  unfold Addr.add
  split
  · rename_i h0; subst h0; cases ad; simp_all
  · cases ad; simp_all
theorem markAt_shrMarks : (t : Ty) → (i : Nat) → i < t.size → markAt (shrMarks t) i = .shr
  | .unit, _, h => by simp [Ty.size] at h
  | .pair a b, i, h => by
    simp only [Ty.size] at h
    have hl := shrMarks_length a
    rcases Nat.lt_or_ge i a.size with h' | h'
    · rw [shrMarks, markAt_append_left _ _ _ (by omega)]; exact markAt_shrMarks a i h'
    · obtain ⟨j, rfl⟩ : ∃ j, i = (shrMarks a).length + j := ⟨i - (shrMarks a).length, by omega⟩
      rw [shrMarks, markAt_append_right]
      exact markAt_shrMarks b j (by omega)
  | .int _, i, h | .bool, i, h | .str, i, h | .sl _, i, h | .ptr _, i, h | .fn _ _, i, h => by
    simp only [Ty.size] at h
    obtain rfl : i = 0 := by omega
    rfl
theorem mem_shrMarks : (t : Ty) → ∀ m, m ∈ shrMarks t → m = .shr
  | .unit, _, h => by cases h
  | .pair a b, m, h => by
    rcases List.mem_append.1 h with h | h
    · exact mem_shrMarks a m h
    · exact mem_shrMarks b m h
  | .int _, _, h | .bool, _, h | .str, _, h | .sl _, _, h | .ptr _, _, h | .fn _ _, _, h => List.mem_singleton.1 h
section
variable {C : Ctx} {g : Own} {σ : St} {tm : Array Value} {w : World} {E : Env} {o : Oper} {ρ : Type} {K : St → Option ρ} {r : ρ} {ds : List Deferred}
  {next : Act → World → Prop} {Q : Exit → Act → World → Prop}
theorem repX_shr {t : Ty} {cs : List Value} {x : t.den} (h : RepC C.P t w (Shd C g) cs x) (s c : Nat) : RepX C.P w (Shd C g) (cl g σ tm w s) t c cs x (shrMarks t) := by
  refine RepX.trans (Mono.refl _ _) t (repX_of_repC (c := 0) (ms := shrMarks t) t h (shrMarks_length t)) rfl fun i hi => ?_
  rw [markAt_shrMarks t i hi]
  exact .share _
theorem val_of_repC {t : Ty} {cs : List Value} {x : t.den} (h : RepC C.P t w (Shd C g) cs x) : Val C g σ tm w (mkV t cs) ⟨t, x, shrMarks t⟩ :=
  ⟨cs, rfl, repX_shr h 0 0, fun m hm => by rw [mem_shrMarks t m hm]; simp, fun m hm => by rw [mem_shrMarks t m hm]; trivial⟩
theorem loadVar_run {T : Nat} {e : TE} {b off : Nat} {cs : List Value} {P : Program} {tab : List TE} (hT : TEfacts P tab T e) (hl : cs.length = e.ty.size)
    (hc : ∀ j, j < e.ty.size → w.cell? ⟨b, off + j, none⟩ = cs[j]?) : (loadVar T ⟨b, off, none⟩).run P w = .ok (mkV e.ty cs) w := by
  unfold loadVar
  rw [Sem.run_bind, hT.isAgg w]
  simp only [Result.andThen_ok]
  cases ha : e.ty.isAgg with
  | true =>
    have hlc := run_loadCells_list (P := P) w ⟨b, off, none⟩ cs (fun j v hv => by
      have hj : j < cs.length := by
        rcases Nat.lt_or_ge j cs.length with h | h
        · exact h
        · rw [List.getElem?_eq_none h] at hv; cases hv
      rw [addr_add rfl, hc j (by omega)]; exact hv)
    rw [hl] at hlc
    simp [hT.sizeOf w, hlc, mkV, ha]
  | false =>
    have h1 : e.ty.size = 1 := by cases ht : e.ty <;> simp_all [Ty.isAgg, Ty.size]
    match cs, hl with
    | [v], _ =>
      have := hc 0 (by omega)
      simp only [Nat.add_zero, List.getElem?_cons_zero] at this
      simp [this, mkV, ha]
    | [], hl => rw [h1] at hl; simp at hl
    | _ :: _ :: _, hl => rw [h1] at hl; simp at hl
theorem getElem?_drop_take {α : Type} (cs : List α) (off n i : Nat) (h : i < n) : ((cs.drop off).take n)[i]? = cs[off + i]? := by
  rw [List.getElem?_take_of_lt h, List.getElem?_drop]
theorem markAt_getElem? : (ms : List Mk) → (i : Nat) → markAt ms i = (ms[i]?).getD .dead
  | [], _ => rfl
  | _ :: _, 0 => rfl
  | _ :: l, i + 1 => by simp [markAt, markAt_getElem? l i]
theorem markAt_drop_take (ms : List Mk) (off n i : Nat) : markAt ((ms.drop off).take n) i = if i < n then markAt ms (off + i) else .dead := by
  rw [markAt_getElem?, markAt_getElem?]
  split
  · rename_i h; rw [getElem?_drop_take _ _ _ _ h]
  · rename_i h
    rw [List.getElem?_eq_none (by rw [List.length_take]; omega)]; rfl
theorem SRep.boxed {v : Value} {s off id : Nat} (h : SRep C g σ tm w) (ha : AV C g σ tm w v (.bptr s off id)) (hid : Nat.beq (listGet σ s).id id = true) {tv : TV} (hb : (listGet σ s).a = .box tv) :
    ∃ b e, ∃ cs : List Value, v = .pointer (some ⟨b, off, none⟩) ∧ tm.getD s undef = .pointer (some ⟨b, 0, none⟩) ∧ g b = some (s, none) ∧ w.heap[b]? = some (.cells cs.toArray e (0, 0)) ∧
      RepX C.P w (Shd C g) (cl g σ tm w s) tv.t 0 cs tv.x tv.ms ∧ s < σ.length := by
  have hl := h.lt (s := s) (by rw [hb]; intro e; cases e)
  have hs := h.slots s hl
  rw [hb] at hs
  obtain ⟨b, e, cs, ht, hg, hh, hx⟩ := hs
  exact ⟨b, e, cs, ha.1 (Nat.eq_of_beq_eq_true hid) b ht, ht, hg, hh, hx, hl⟩
theorem cell_of_block {b o : Nat} {cs : List Value} {e : TypeId} {fz : Nat × Nat} (h : w.heap[b]? = some (.cells cs.toArray e fz)) : w.cell? ⟨b, o, none⟩ = cs[o]? := by
  simp [World.cell?, h]
theorem op_load {T : Nat} {x : Operand} (hE : TabOK C.P E.tab) (ho : o.op = .load T x) (h : SRep C g σ tm w) (hr : (opP E o).run σ K = some r) (hK : Good C K r ds next) :
    o.wp C.P ⟨tm, ds⟩ w next Q := by
  unfold opP at hr
  rw [ho] at hr
  simp only at hr
  split at hr
  case h_2 => simp [Prog.run] at hr
  rename_i t hT
  obtain ⟨a, ha, hr, hnv, hnt⟩ := rdP_inv (ds := ds) h hr
  obtain ⟨e, he, rfl⟩ := Env.ty_some hT
  have hF := hE.find he
  cases a with
  | mp t' ks => simp [loadP, Prog.run] at hr
  | mref s' id => simp [loadP, Prog.run] at hr
  | bptr s off id =>
    simp only [loadP, Prog.run] at hr
    split at hr
    case h_2 => simp [Prog.run] at hr
    rename_i hid
    split at hr
    case h_2 => simp [Prog.run] at hr
    rename_i tv hbox
    split at hr
    case h_2 => simp [Prog.run] at hr
    rename_i y hy
    obtain ⟨b, et, cs, hv, ht, hg, hh, hx, hl⟩ := h.boxed ha hid hbox
    obtain ⟨hsz, hsub⟩ := getAt_repX tv.t hx hy
    have hlen := RepX.length _ hx
    have hsl := RepX.length _ hsub
    have hrefs := RepX.refs e.ty hsub (fun i hi => by
      rw [getElem?_drop_take _ _ _ _ hi]
      simp only [placeV, hbox, ht, Nat.zero_add]
      rw [cell_of_block hh]) (fun i hi => by
      rw [markAt_drop_take] at hi
      split at hi
      · rw [hbox, Nat.zero_add]
        simp [A.mark, hi, Mk.isOwn]
      · cases hi)
    rw [Nat.zero_add] at hrefs
    have hbnd := h.bnd s hl
    rw [hbox] at hbnd
    refine out_val h ?_ (v := mkV e.ty ((cs.drop off).take e.ty.size)) ⟨_, rfl, hrefs.place 0 0 (refMarks_noOwn _ _ _ _), refMarks_noOwn _ _ _ _,
      refMarks_bnd _ _ (fun m hm => hbnd m (List.mem_of_mem_drop (List.mem_of_mem_take hm)))⟩ hr hK
    have hload := loadVar_run (w := w) (b := b) (off := off) hF hsl.1 (fun j hj => by rw [cell_of_block hh, getElem?_drop_take _ _ _ _ hj])
    simp [execOp, ho, hv, Instr.loadAt, Instr.sureAddr, hload]
  | eptr s c gn i te xe off =>
    simp only [loadP] at hr
    obtain ⟨hok, hr⟩ := useMarks_inv _ hr
    have hval : validB σ s c gn = true := hok _ (List.mem_singleton.2 rfl)
    split at hr
    case h_2 => simp [Prog.run] at hr
    rename_i y hy
    obtain ⟨ad, len, cap, hp, hsp, hi, hv, hbl, hg, cs, hcl, hcc, hrep⟩ := ha.1 hval
    obtain ⟨hsz, hsub⟩ := getAt_repC hrep hy
    refine out_val h ?_ (v := mkV e.ty ((cs.drop off).take e.ty.size)) (val_of_repC hsub) hr hK
    have hload := loadVar_run (w := w) (b := ad.block) (off := ad.off + i * te.size + off) hF (RepC.length _ hsub) (fun j hj => by
      rw [getElem?_drop_take _ _ _ _ hj, Nat.add_assoc]; exact hcc (off + j) (by omega))
    simp [execOp, ho, hv, Instr.loadAt, Instr.sureAddr, hload]
  | cptr te xe bor =>
    simp only [loadP] at hr
    obtain ⟨hok, hr⟩ := useMarks_inv _ hr
    split at hr
    case h_2 => simp [Prog.run] at hr
    rename_i y hy
    have hmem : ∃ ad : Addr, Act.eval ⟨tm, ds⟩ x = .pointer (some ad) ∧ ad.spot = none ∧ ∃ cs : List Value, cs.length = te.size ∧ (∀ j, j < te.size → w.cell? ⟨ad.block, ad.off + j, none⟩ = cs[j]?) ∧ RepC C.P te w (Shd C g) cs xe := by
      cases bor with
      | none =>
        obtain ⟨ad, hv, hsp, _, _, hm⟩ := ha.1
        exact ⟨ad, hv, hsp, hm⟩
      | some m =>
        obtain ⟨s', c', g'⟩ := m
        obtain ⟨ad, hv, hsp, _, _, hm⟩ := ha.1 (hok _ (List.mem_singleton.2 rfl))
        exact ⟨ad, hv, hsp, hm⟩
    obtain ⟨ad, hv, hsp, cs, hcl, hcc, hrep⟩ := hmem
    obtain ⟨hsz, hsub⟩ := getAt_repC hrep hy
    refine out_val h ?_ (v := mkV e.ty ((cs.drop 0).take e.ty.size)) (val_of_repC hsub) hr hK
    have hload := loadVar_run (w := w) (b := ad.block) (off := ad.off) hF (RepC.length _ hsub) (fun j hj => by
      rw [getElem?_drop_take _ _ _ _ hj, Nat.zero_add]; exact hcc j (by omega))
    have had : ad = ⟨ad.block, ad.off, none⟩ := by cases ad; simp_all
    rw [← had] at hload
    simp [execOp, ho, hv, Instr.loadAt, Instr.sureAddr, hload]
  | val tv => exact absurd rfl (hnv tv)
  | tup vs => exact absurd rfl (hnt vs)
  | top => exact ha.elim
  | box _ => exact ha.elim
theorem fieldP_inv {S f : Nat} {a : A} {v : Value} {k : A → Prog} (h : SRep C g σ tm w) (ha : AV C g σ tm w v a) (hr : (fieldP E S a f k).run σ K = some r) :
    ∃ e off T t ad, findTE E.tab S = some e ∧ e.flds[f]? = some (off, T) ∧ E.ty T = some t ∧ t.size ≠ 0 ∧ v = .pointer (some ad) ∧ ad.spot = none ∧
      ∃ a', AV C g σ tm w (.pointer (some ⟨ad.block, ad.off + off, none⟩)) a' ∧ (k a').run σ K = some r := by
  unfold fieldP at hr
  split at hr
  case h_2 => simp [Prog.run] at hr
  rename_i off T hf
  obtain ⟨e, he, hf⟩ := Option.bind_eq_some_iff.1 hf
  split at hr
  case h_2 => simp [Prog.run] at hr
  rename_i t hT
  split at hr
  · simp [Prog.run] at hr
  rename_i hz
  have hz : t.size ≠ 0 := fun h0 => hz (by rw [h0]; rfl)
  split at hr
  · rename_i s o id
    simp only [Prog.run] at hr
    split at hr
    case h_2 => simp [Prog.run] at hr
    rename_i hid
    simp only [Bool.and_eq_true] at hid
    obtain ⟨tv, hbox⟩ : ∃ tv, (listGet σ s).a = .box tv := by
      generalize (listGet σ s).a = a at hid
      cases a <;> simp [A.isBox] at hid ⊢
    obtain ⟨b, et, cs, hv, ht, hg, hh, hx, hl⟩ := h.boxed ha hid.1 hbox
    refine ⟨e, off, T, t, _, he, hf, hT, hz, hv, rfl, .bptr s (o + off) id, ⟨fun _ b' ht' => ?_, ha.2⟩, hr⟩
    rw [ht] at ht'
    injection ht' with ht'
    injection ht' with ht'
    injection ht' with ht' _
    subst ht'; rfl
  · rename_i s c gn i te xe o
    obtain ⟨hok, hr⟩ := useMarks_inv _ hr
    have hval : validB σ s c gn = true := hok _ (List.mem_singleton.2 rfl)
    obtain ⟨ad, len, cap, hp, hsp, hi, hv, hm⟩ := ha.1 hval
    refine ⟨e, off, T, t, _, he, hf, hT, hz, hv, rfl, .eptr s c gn i te xe (o + off), ⟨fun _ => ⟨ad, len, cap, hp, hsp, hi, ?_, hm⟩, ha.2⟩, hr⟩
    simp [Nat.add_assoc]
  · rename_i te xe bor
    obtain ⟨hok, hr⟩ := useMarks_inv _ hr
    split at hr
    case h_2 => simp [Prog.run] at hr
    rename_i y hy
    have sub : ∀ {B : Nat → Prop} {ad : Addr}, MemAt te.size w B (RepC C.P te w (Shd C g)) ad xe → MemAt t.size w B (RepC C.P t w (Shd C g)) ⟨ad.block, ad.off + off, none⟩ y := by
      intro B ad hm
      obtain ⟨h1, h2, cs, h3, h4, h5⟩ := hm
      obtain ⟨hsz, hsub⟩ := getAt_repC h5 hy
      refine ⟨h1, h2, _, RepC.length _ hsub, fun j hj => ?_, hsub⟩
      rw [getElem?_drop_take _ _ _ _ hj, Nat.add_assoc]
      exact h4 (off + j) (by omega)
    cases bor with
    | none =>
      obtain ⟨ad, hv, hsp, hm⟩ := ha.1
      exact ⟨e, off, T, t, ad, he, hf, hT, hz, hv, hsp, .cptr t y none, ⟨⟨_, rfl, rfl, sub hm⟩, trivial⟩, hr⟩
    | some m =>
      obtain ⟨s', c', g'⟩ := m
      obtain ⟨ad, hv, hsp, hm⟩ := ha.1 (hok _ (List.mem_singleton.2 rfl))
      exact ⟨e, off, T, t, ad, he, hf, hT, hz, hv, hsp, .cptr t y (some (s', c', g')), ⟨fun _ => ⟨_, rfl, rfl, sub hm⟩, ha.2⟩, hr⟩
  · simp [Prog.run] at hr
theorem fldsOK_get {tab : List TE} : (fs : List Field) → (l : List (Nat × Nat)) → fldsOK tab fs l = true → ∀ (f off T : Nat), l[f]? = some (off, T) → ∃ fd, fs[f]? = some fd ∧ fd.offset = off ∧ fd.type = T
  | [], [], _, _, _, _, h => by simp at h
  | [], _ :: _, h, _, _, _, _ => by simp [fldsOK] at h
  | _ :: _, [], h, _, _, _, _ => by simp [fldsOK] at h
  | f :: fs, (o, T) :: l, h, i, off, T', hg => by
    simp only [fldsOK, Bool.and_eq_true] at h
    cases i with
    | zero =>
      simp only [List.getElem?_cons_zero, Option.some.injEq, Prod.mk.injEq] at hg
      exact ⟨f, rfl, (Nat.eq_of_beq_eq_true h.1).trans hg.1, (Nat.eq_of_beq_eq_true h.2.1).trans hg.2⟩
    | succ i => exact fldsOK_get fs l h.2.2.2 i off T' hg
theorem arrOK_get {tab : List TE} {el sz : Nat} : (l : List (Nat × Nat)) → (k : Nat) → arrOK tab el sz k l = true → ∀ (f off T : Nat), l[f]? = some (off, T) → off = (k + f) * sz ∧ T = el
  | [], _, _, _, _, _, h => by simp at h
  | (o, T) :: l, k, h, i, off, T', hg => by
    simp only [arrOK, Bool.and_eq_true] at h
    cases i with
    | zero =>
      simp only [List.getElem?_cons_zero, Option.some.injEq, Prod.mk.injEq] at hg
      exact ⟨hg.1.symm.trans (Nat.eq_of_beq_eq_true h.1), hg.2.symm.trans (Nat.eq_of_beq_eq_true h.2.1)⟩
    | succ i =>
      have := arrOK_get l (k + 1) h.2.2 i off T' hg
      rw [show k + 1 + i = k + (i + 1) by omega] at this
      exact this
theorem struct_desc {S : Nat} {e : TE} {P : Program} {tab : List TE} (hF : TEfacts P tab S e) (h1 : e.ty.isAgg = true) (h2 : e.arr = false) :
    ∃ fs, P.underlying S = some (.struct fs) ∧ fldsOK tab fs.toList e.flds = true := by
  obtain ⟨d, hd, hdo⟩ := hF.desc
  cases d with
  | struct fs =>
    simp only [descOK, Bool.and_eq_true] at hdo
    exact ⟨fs, hd, hdo.2.2⟩
  | int k => have := Ty.eq_of_beq hdo; rw [this] at h1; cases h1
  | bool => have := Ty.eq_of_beq hdo; rw [this] at h1; cases h1
  | string => have := Ty.eq_of_beq hdo; rw [this] at h1; cases h1
  | slice el =>
    simp only [descOK, Bool.and_eq_true] at hdo
    obtain ⟨_, hdo⟩ := hdo
    split at hdo
    · simp only [Bool.and_eq_true] at hdo
      have := Ty.eq_of_beq hdo.1; rw [this] at h1; cases h1
    · cases hdo
  | array n el => simp [descOK, h2] at hdo
  | func ps rs v =>
    simp only [descOK] at hdo
    split at hdo
    · rename_i hab; rw [hab] at h1; cases h1
    · cases hdo
  | _ => simp [descOK] at hdo
theorem array_desc {S : Nat} {e : TE} {P : Program} {tab : List TE} (hF : TEfacts P tab S e) (h1 : e.ty.isAgg = true) (h2 : e.arr = true) :
    ∃ n te, P.underlying S = some (.array n e.elem) ∧ e.flds.length = n ∧ findTE tab e.elem = some te ∧ arrOK tab e.elem te.ty.size 0 e.flds = true := by
  obtain ⟨d, hd, hdo⟩ := hF.desc
  cases d with
  | array n el =>
    simp only [descOK, Bool.and_eq_true] at hdo
    obtain ⟨_, _, h3, h4, h5⟩ := hdo
    have h3 := Nat.eq_of_beq_eq_true h3
    split at h5
    · rename_i te hte
      subst h3
      exact ⟨n, te, hd, Nat.eq_of_beq_eq_true h4, hte, h5⟩
    · cases h5
  | int k => have := Ty.eq_of_beq hdo; rw [this] at h1; cases h1
  | bool => have := Ty.eq_of_beq hdo; rw [this] at h1; cases h1
  | string => have := Ty.eq_of_beq hdo; rw [this] at h1; cases h1
  | slice el =>
    simp only [descOK, Bool.and_eq_true] at hdo
    obtain ⟨_, hdo⟩ := hdo
    split at hdo
    · simp only [Bool.and_eq_true] at hdo
      have := Ty.eq_of_beq hdo.1; rw [this] at h1; cases h1
    · cases hdo
  | struct fs => simp [descOK, h2] at hdo
  | func ps rs v =>
    simp only [descOK] at hdo
    split at hdo
    · rename_i hab; rw [hab] at h1; cases h1
    · cases hdo
  | _ => simp [descOK] at hdo
theorem op_fieldAddr {S f : Nat} {x : Operand} (hE : TabOK C.P E.tab) (ho : o.op = .fieldAddr S x f) (h : SRep C g σ tm w) (hr : (opP E o).run σ K = some r) (hK : Good C K r ds next) :
    o.wp C.P ⟨tm, ds⟩ w next Q := by
  unfold opP at hr
  rw [ho] at hr
  simp only at hr
  split at hr
  case h_2 => simp [Prog.run] at hr
  rename_i e0 he0
  split at hr
  case isFalse => simp [Prog.run] at hr
  rename_i hag
  simp only [Bool.and_eq_true, Bool.not_eq_true'] at hag
  obtain ⟨a, ha, hr, _, _⟩ := rdP_inv (ds := ds) h hr
  obtain ⟨e, off, T, t, ad, he, hf, hT, hz, hv, hsp, a', ha', hr⟩ := fieldP_inv h ha hr
  rw [he] at he0; injection he0 with he0; subst he0
  obtain ⟨fs, hu, hfl⟩ := struct_desc (hE.find he) hag.1 hag.2
  obtain ⟨fd, hfd, hfo, hft⟩ := fldsOK_get _ _ hfl f off T hf
  have hfd' : fs[f]? = some fd := by simpa using hfd
  obtain ⟨eT, heT, hty⟩ := Env.ty_some hT
  have hsz := (hE.find heT).sizeOf w
  refine av_sound h (.refl h) ?_ ha' hr hK
  have hsz' : (sizeOf fd.type).run C.P w = .ok t.size w := by rw [hft, hsz, hty]
  simp [execOp, ho, hv, Instr.fieldAt, underlying, hu, hfd', Instr.sureAddr, fieldPlace, hsz', hz, addr_add hsp, hfo]
theorem op_extract {x : Operand} {i : Nat} (ho : o.op = .extract x i) (h : SRep C g σ tm w) (hr : (opP E o).run σ K = some r) (hK : Good C K r ds next) :
    o.wp C.P ⟨tm, ds⟩ w next Q := by
  unfold opP at hr
  rw [ho] at hr
  obtain ⟨a, ha, hr⟩ := rdA_inv (ds := ds) h hr
  cases a with
  | tup vs =>
    simp only at hr
    split at hr
    · rename_i tv htv
      obtain ⟨vals, e, hl, hp⟩ := ha
      have hi : i < vals.length := by
        rw [hl]
        rcases Nat.lt_or_ge i vs.length with h | h
        · exact h
        · rw [List.getElem?_eq_none h] at htv; cases htv
      have hv := List.getElem?_eq_getElem hi
      refine out_val h ?_ (hp i _ tv hv htv) hr hK
      simp [execOp, ho, e, Instr.extract, hi]
    · simp [Prog.run] at hr
  | _ => simp [Prog.run] at hr
end
end Go.GD
end

section
namespace Go.GD
open Go
section
variable {C : Ctx} {g : Own} {σ : St} {tm : Array Value} {w : World} {E : Env} {o : Oper} {ρ : Type} {K : St → Option ρ} {r : ρ} {ds : List Deferred}
  {next : Act → World → Prop} {Q : Exit → Act → World → Prop}
theorem rdS_inv {t0 : Ty} {x : Operand} {k : List t0.den → Mk → Prog} (h : SRep C g σ tm w) (hr : (rdS t0 x k).run σ K = some r) : ∃ xs m a len cap, Act.eval ⟨tm, ds⟩ x = .slice a len cap ∧ okM σ m ∧ m ≠ .own ∧ bndM σ m ∧
      (cl g σ tm w 0 0 m).says t0.size w (Shd C g) (RepC C.P t0 w (Shd C g)) a len cap xs ∧ (k xs m).run σ K = some r := by
  obtain ⟨t, xs, m, a, len, cap, h1, h2, h3, h4, h5, hr⟩ := rdSl_inv (ds := ds) h hr
  split at hr
  · rename_i ys hy
    obtain ⟨e, he⟩ := castO_some hy
    injection e with e
    subst e
    subst he
    exact ⟨_, m, a, len, cap, h1, h2, h3, h4, h5, hr⟩
  · simp [Prog.run] at hr
theorem idx_some {α : Type} {xs : List α} {n : Int} {e : α} (h : idx xs n = some e) : 0 ≤ n ∧ ∃ hl : n.toNat < xs.length, xs[n.toNat] = e := by
  unfold idx at h
  by_cases hn : 0 ≤ n
  · rw [show decide (0 ≤ n) = true by simpa using hn] at h
    simp only [cond] at h
    exact ⟨hn, List.getElem?_eq_some_iff.1 h⟩
  · rw [show decide (0 ≤ n) = false by simpa using hn] at h
    cases h
theorem rows_mem {t : Ty} {xs : List t.den} {ad : Addr} {B : Nat → Prop} (hr : Rows t.size w (RepC C.P t w (Shd C g)) ad xs) (hb : B ad.block) (hl : ad.block < w.heap.size) (i : Nat) (hi : i < xs.length) :
    MemAt t.size w B (RepC C.P t w (Shd C g)) ⟨ad.block, ad.off + i * t.size, none⟩ xs[i] := by
  obtain ⟨cs, h1, h2, h3⟩ := hr i hi
  exact ⟨hl, hb, cs, h1, h2, h3⟩
theorem selP_inv {n : Int} {f : Nat → Prog} : (m : Nat) → (selP m n f).run σ K = some r → ∃ k, k < m ∧ n = (k : Int) ∧ (f k).run σ K = some r
  | 0, h => by simp [selP, Prog.run] at h
  | m + 1, h => by
    simp only [selP, Prog.run] at h
    cases hd : decide (n = (m : Int)) with
    | true => rw [hd] at h; exact ⟨m, Nat.lt_succ_self _, of_decide_eq_true hd, h⟩
    | false =>
      rw [hd] at h
      obtain ⟨k, h1, h2⟩ := selP_inv m h
      exact ⟨k, by omega, h2⟩
theorem op_indexAddr {T : Nat} {x i : Operand} (hE : TabOK C.P E.tab) (ho : o.op = .indexAddr T x i) (h : SRep C g σ tm w) (hr : (opP E o).run σ K = some r) (hK : Good C K r ds next) :
    o.wp C.P ⟨tm, ds⟩ w next Q := by
  unfold opP at hr
  rw [ho] at hr
  simp only at hr
  split at hr
  case h_2 => simp [Prog.run] at hr
  rename_i e he
  split at hr
  · rename_i harr
    split at hr
    case isFalse => simp [Prog.run] at hr
    rename_i hag
    obtain ⟨kd, n, hi, hr1⟩ := rdInt_inv (ds := ds) h hr
    clear hr
    obtain ⟨k, hk, hn, hr⟩ := selP_inv _ hr1
    clear hr1
    subst hn
    obtain ⟨a, ha, hr, _, _⟩ := rdP_inv (ds := ds) h hr
    obtain ⟨e', off, T', t, ad, he', hf, hT, hz, hv, hsp, a', ha', hr⟩ := fieldP_inv h ha hr
    rw [he] at he'; injection he' with he'; subst he'
    obtain ⟨m, te, hu, hlen, hte, hak⟩ := array_desc (hE.find he) hag harr
    obtain ⟨hoff, hT'⟩ := arrOK_get _ 0 hak _ _ _ hf
    have hlt' : k < m := by omega
    have hsz := (hE.find hte).sizeOf w
    refine av_sound h (.refl h) ?_ ha' hr hK
    rw [Nat.zero_add] at hoff
    simp [execOp, ho, hv, hi, Instr.indexAt, asIntOf, underlying, hu, Instr.sureAddr, hlt', hsz, addr_add hsp, hoff]
  · split at hr
    case h_2 => simp [Prog.run] at hr
    rename_i el hel
    split at hr
    case isFalse => simp [Prog.run] at hr
    rename_i hty
    have hty := Ty.eq_of_beq hty
    obtain ⟨xs, m, a, len, cap, hx, hok, hno, hbn, hs, hr⟩ := rdS_inv (ds := ds) h hr
    obtain ⟨kd, n, hi, hr⟩ := rdInt_inv (ds := ds) h hr
    simp only [Prog.run] at hr
    obtain ⟨xe, hxe, hr⟩ := Option.bind_eq_some_iff.1 hr
    obtain ⟨hn, hlt, hge⟩ := idx_some hxe
    obtain ⟨hu, te, hte, _, _⟩ := (hE.find he).slice hty
    have hsz := (hE.find hel).sizeOf w
    have exec : ∀ ad : Addr, a = some ad → ad.spot = none → n.toNat < len → (execOp (Act.eval ⟨tm, ds⟩) o).run C.P w = .ok (.value (.pointer (some ⟨ad.block, ad.off + n.toNat * el.ty.size, none⟩))) w := by
      intro ad had hsp hl
      have hl' : n < (len : Int) := by omega
      subst had
      simp [execOp, ho, hx, hi, Instr.indexAt, asIntOf, underlying, hu, hn, hl', hsz, addr_add hsp]
    have share : ShareS el.ty.size w (Shd C g) (RepC C.P el.ty w (Shd C g)) a len cap xs → (putA o.dst (.cptr el.ty xe none) .fin).run σ K = some r → o.wp C.P ⟨tm, ds⟩ w next Q := by
      intro hS hr
      obtain ⟨h1, h2, h3⟩ := hS
      rcases h3 with h3 | ⟨ad, had, hsp, hbl, hB, hrow⟩
      · omega
      · refine av_sound h (.refl h) (exec ad had hsp (by omega)) (a0 := .cptr el.ty xe none) ⟨⟨_, rfl, rfl, ?_⟩, trivial⟩ hr hK
        have := rows_mem hrow hB hbl _ hlt
        rw [hge] at this; exact this
    cases m with
    | shr => exact share hs.1 hr
    | nn => exact share hs.1 hr
    | nil => simp [Prog.run] at hr
    | own => exact absurd rfl hno
    | dead => exact hok.elim
    | bor q => simp [Prog.run] at hr
    | ref s c gn =>
      have hval : validB σ s c gn = true := hok
      simp only [clm, hval, cond] at hs
      obtain ⟨⟨h1, h2, h3⟩, hV⟩ := hs
      rcases h3 with h3 | ⟨ad, had, hsp, hB, ⟨vs, et, hh, hc⟩, hrow⟩
      · omega
      · refine av_sound h (.refl h) (exec ad had hsp (by omega)) (a0 := .eptr s c gn n.toNat el.ty xe 0) ⟨fun _ => ⟨ad, len, cap, ?_, hsp, by omega, rfl, ?_⟩, hbn⟩ hr hK
        · rw [had] at hV; exact hV
        · have := rows_mem hrow (B := fun b => g b = some (s, some c)) hB (heap_lt hh) _ hlt
          rw [hge] at this; exact this
    | sub s c gn =>
      have hval : validB σ s c gn = true := hok
      simp only [clm, hval, cond] at hs
      obtain ⟨⟨h1, h2, h3⟩, hV⟩ := hs
      rcases h3 with h3 | ⟨ad, had, hsp, hB, ⟨vs, et, hh, hc⟩, hrow⟩
      · omega
      · refine av_sound h (.refl h) (exec ad had hsp (by omega)) (a0 := .cptr el.ty xe (some (s, c, gn))) ⟨fun _ => ⟨_, rfl, rfl, ?_⟩, hbn⟩ hr hK
        have := rows_mem hrow (B := fun b => g b = some (s, some c)) hB (heap_lt hh) _ hlt
        rw [hge] at this; exact this
theorem optInt_inv {x : Option Operand} {d : Int} {k : Int → Prog} (h : SRep C g σ tm w) (hr : (optInt x d k).run σ K = some r) :
    ∃ n, (k n).run σ K = some r ∧ ((x = none ∧ n = d) ∨ ∃ y kd, x = some y ∧ Act.eval ⟨tm, ds⟩ y = .int kd n) := by
  cases x with
  | none => exact ⟨d, hr, .inl ⟨rfl, rfl⟩⟩
  | some y =>
    obtain ⟨kd, n, hy, hr⟩ := rdInt_inv (ds := ds) h hr
    exact ⟨n, hr, .inr ⟨y, kd, rfl, hy⟩⟩
theorem rows_sub {α : Type} {size : Nat} {R : List Value → α → Prop} {ad : Addr} {xs : List α} (hr : Rows size w R ad xs) (l k : Nat) :
    Rows size w R ⟨ad.block, ad.off + l * size, none⟩ ((xs.take k).drop l) := by
  intro i hi
  simp only [List.length_drop, List.length_take] at hi
  have hlt : l + i < xs.length := by omega
  obtain ⟨cs, h1, h2, h3⟩ := hr (l + i) hlt
  refine ⟨cs, h1, fun j hj => ?_, ?_⟩
  · rw [← h2 j hj]
    congr 2
    show ad.off + l * size + i * size + j = ad.off + (l + i) * size + j
    rw [Nat.add_mul]; omega
  · simp only [List.getElem_drop, List.getElem_take]; exact h3
theorem Val.slice {t : Ty} {xs : List t.den} {m : Mk} {a : Option Addr} {len cap : Nat} (hs : (cl g σ tm w 0 0 m).says t.size w (Shd C g) (RepC C.P t w (Shd C g)) a len cap xs)
    (hn : m ≠ .own) (hb : bndM σ m) : Val C g σ tm w (.slice a len cap) ⟨.sl t, xs, [m]⟩ :=
  ⟨[.slice a len cap], rfl, ⟨a, len, cap, m, rfl, rfl, hs⟩, fun m' hm => by rw [List.mem_singleton.1 hm]; exact hn, fun m' hm => by rw [List.mem_singleton.1 hm]; exact hb⟩
theorem op_slice {T : Nat} {x : Operand} {lo hi : Option Operand} (hE : TabOK C.P E.tab) (ho : o.op = .slice T x lo hi none) (h : SRep C g σ tm w) (hr : (opP E o).run σ K = some r) (hK : Good C K r ds next) :
    o.wp C.P ⟨tm, ds⟩ w next Q := by
  unfold opP at hr
  rw [ho] at hr
  simp only at hr
  split at hr
  case h_2 => simp [Prog.run] at hr
  rename_i t hT
  obtain ⟨xs, m, a, len, cap, hx, hok, hno, hbn, hs, hr⟩ := rdS_inv (ds := ds) h hr
  obtain ⟨l, hr, hlo⟩ := optInt_inv (ds := ds) h hr
  obtain ⟨k, hr, hhi⟩ := optInt_inv (ds := ds) h hr
  simp only [Prog.run] at hr
  by_cases hb : (decide (0 ≤ l) && (decide (l ≤ k) && decide (k ≤ (xs.length : Int)))) = true
  case neg =>
    rw [show (decide (0 ≤ l) && (decide (l ≤ k) && decide (k ≤ (xs.length : Int)))) = false by simpa using hb] at hr
    simp at hr
  rw [hb] at hr
  simp only [cond] at hr
  simp only [Bool.and_eq_true, decide_eq_true_eq] at hb
  obtain ⟨hl0, hlk, hkl⟩ := hb
  obtain ⟨hlen, hcap⟩ := says_len hok hno hs
  obtain ⟨e, he, hty⟩ := Env.ty_some hT
  obtain ⟨hu, te, hte, hteq, _⟩ := (hE.find he).slice hty
  have hsz := (hE.find hte).sizeOf w
  rw [hteq] at hsz
  have exec : (execOp (Act.eval ⟨tm, ds⟩) o).run C.P w = .ok (.value (.slice (if cap = l.toNat then a else a.map (·.add (l.toNat * t.size))) (k.toNat - l.toNat) (cap - l.toNat))) w := by
    have hkc : k ≤ (cap : Int) := by omega
    have hb : (Instr.sliceBounds true len cap (lo.map (Act.eval ⟨tm, ds⟩)) (hi.map (Act.eval ⟨tm, ds⟩)) none).run C.P w = .ok (l.toNat, k.toNat, cap) w := by
      have h1 : ∀ (y : Nat), k = (y : Int) → l ≤ (y : Int) := fun y hy => by omega
      rcases hhi with ⟨rfl, hk⟩ | ⟨y, kd, rfl, hy⟩
      · have hkn : k.toNat = len := by omega
        rcases hlo with ⟨rfl, rfl⟩ | ⟨z, kz, rfl, hz⟩
        · simp [Instr.sliceBounds, hkn]
        · have : l ≤ (len : Int) := by omega
          simp [Instr.sliceBounds, Instr.sliceBound, hz, asIntOf, hl0, this, hkn]
      · have hk0 : 0 ≤ k := by omega
        rcases hlo with ⟨rfl, rfl⟩ | ⟨z, kz, rfl, hz⟩
        · simp [Instr.sliceBounds, Instr.sliceBound, hy, asIntOf, hk0, hkc]
        · have : l ≤ (k.toNat : Int) := by omega
          simp only [Instr.sliceBounds, Instr.sliceBound, hy, hz, asIntOf, Option.map_some, Sem.run_bind, Sem.run_pure, Result.andThen_ok, Sem.run_ite, hk0, hkc, hl0, this, and_self, if_true]
    simp [execOp, ho, hx, Instr.sliceAt, Instr.slice, underlying, hu, hb, hsz]
  have hl' : ((xs.take k.toNat).drop l.toNat).length = k.toNat - l.toNat := by
    simp only [List.length_drop, List.length_take]; omega
  have rows : ∀ ad : Addr, ad.spot = none → Rows t.size w (RepC C.P t w (Shd C g)) ad xs → cap ≠ l.toNat → Rows t.size w (RepC C.P t w (Shd C g)) (ad.add (l.toNat * t.size)) ((xs.take k.toNat).drop l.toNat) := by
    intro ad hsp hrow _
    rw [addr_add hsp]; exact rows_sub hrow _ _
  have share : ShareS t.size w (Shd C g) (RepC C.P t w (Shd C g)) a len cap xs → (out o ⟨.sl t, (xs.take k.toNat).drop l.toNat, [.shr]⟩).run σ K = some r → o.wp C.P ⟨tm, ds⟩ w next Q := by
    intro hS hr
    refine out_val h exec (Val.slice (m := .shr) (xs := (xs.take k.toNat).drop l.toNat) ⟨?_, by simp⟩ (by simp) trivial) hr hK
    refine ⟨hl', by omega, ?_⟩
    by_cases hz : k.toNat - l.toNat = 0
    · exact .inl hz
    · right
      obtain ⟨h1, h2, h3⟩ := hS
      rcases h3 with h3 | ⟨ad, had, hsp, hbl, hB, hrow⟩
      · omega
      · have hne : cap ≠ l.toNat := by omega
        rw [if_neg hne, had]
        refine ⟨ad.add (l.toNat * t.size), rfl, by rw [addr_add hsp], by rw [addr_add hsp]; exact hbl, by rw [addr_add hsp]; exact hB, rows ad hsp hrow hne⟩
  have look : ∀ s c gn, validB σ s c gn = true → gn ≤ (listGet σ s).gen → HoldS t.size w (fun b => g b = some (s, some c)) (RepC C.P t w (Shd C g)) a len cap xs →
      (out o ⟨.sl t, (xs.take k.toNat).drop l.toNat, [.sub s c gn]⟩).run σ K = some r → o.wp C.P ⟨tm, ds⟩ w next Q := by
    intro s c gn hval hbn hS hr
    refine out_val h exec (Val.slice (m := .sub s c gn) (xs := (xs.take k.toNat).drop l.toNat) ?_ (by simp) hbn) hr hK
    simp only [clm, hval, cond]
    refine ⟨⟨hl', by omega, ?_⟩, trivial⟩
    by_cases hz : cap - l.toNat = 0
    · exact .inl hz
    · right
      obtain ⟨h1, h2, h3⟩ := hS
      rcases h3 with h3 | ⟨ad, had, hsp, hB, ⟨vs, et, hh, hc⟩, hrow⟩
      · omega
      · have hne : cap ≠ l.toNat := by omega
        rw [if_neg hne, had]
        refine ⟨ad.add (l.toNat * t.size), rfl, by rw [addr_add hsp], by rw [addr_add hsp]; exact hB, ⟨vs, et, by rw [addr_add hsp]; exact hh, ?_⟩, rows ad hsp hrow hne⟩
        rw [addr_add hsp]
        show ad.off + l.toNat * t.size + (cap - l.toNat) * t.size ≤ vs.size
        rw [Nat.add_assoc, ← Nat.add_mul, show l.toNat + (cap - l.toNat) = cap by omega]
        exact hc
  cases m with
  | shr => exact share hs.1 hr
  | nn => exact share hs.1 hr
  | nil => simp [Prog.run] at hr
  | own => exact absurd rfl hno
  | dead => exact hok.elim
  | bor q => simp [Prog.run] at hr
  | ref s c gn =>
    have hval : validB σ s c gn = true := hok
    simp only [clm, hval, cond] at hs
    exact look s c gn hval hbn hs.1 hr
  | sub s c gn =>
    have hval : validB σ s c gn = true := hok
    simp only [clm, hval, cond] at hs
    exact look s c gn hval hbn hs.1 hr
def withNew (g : Own) (b0 : Nat) (p : Nat × Option Nat) : Own := fun b => if b = b0 then some p else g b
theorem withNew_old {g : Own} {b0 b : Nat} {p : Nat × Option Nat} (h : b < b0) : withNew g b0 p b = g b := by
  unfold withNew; rw [if_neg (by omega)]
theorem withNew_new {g : Own} {b0 : Nat} {p : Nat × Option Nat} : withNew g b0 p b0 = some p := by
  unfold withNew; rw [if_pos rfl]
theorem Grow.alloc {g1 : Own} {w1 : World} (h : SRep C g σ tm w) (gr : Grow C g σ w g1 w1) (hb : w1.heap.size = w.heap.size) (ob : Obj) (p : Nat × Option Nat) :
    Grow C g σ w (withNew g1 w.heap.size p) (w1.alloc ob) := by
  refine ⟨by rw [World.size_alloc, hb]; omega, fun b hb' => ?_, fun b hb' hn => ?_, fun b hb' s c hm hg => ?_, fun b hb' s hg => ?_, fun b hne => ?_, ⟨gr.io.1, gr.io.2.1, gr.io.2.2⟩⟩
  · rw [heap_alloc_old w1 ob b (by omega)]; exact gr.hH b hb'
  · rw [withNew_old hb']; exact gr.hn b hb' hn
  · rw [withNew_old hb']; exact gr.ho b hb' s c hm hg
  · rw [withNew_old hb']; exact gr.hbx b hb' s hg
  · rw [World.size_alloc, hb]
    by_cases hbb : b = w.heap.size
    · subst hbb; exact ⟨by omega, .inl h.size⟩
    · have : withNew g1 w.heap.size p b = g1 b := by unfold withNew; rw [if_neg hbb]
      rw [this] at hne
      have := gr.hok b hne
      exact ⟨by omega, this.2⟩
def PinOK (C : Ctx) (E : Env) : Prop := ∀ s, C.pin s ≠ none → memNat E.pins s = true
theorem pin_free {dst : Option Nat} (hpn : PinOK C E) (h : ¬ E.pinned dst = true) : ∀ d, dst = some d → C.pin d = none := by
  intro d hd
  subst hd
  cases hp : C.pin d with
  | none => rfl
  | some v => exact absurd (hpn d (by rw [hp]; simp)) h
theorem op_alloc {T : Nat} (hpn : PinOK C E) (hE : TabOK C.P E.tab) (ho : o.op = .alloc T) (h : SRep C g σ tm w) (hr : (opP E o).run σ K = some r) (hK : Good C K r ds next) :
    o.wp C.P ⟨tm, ds⟩ w next Q := by
  unfold opP at hr
  rw [ho] at hr
  simp only at hr
  split at hr
  case isTrue => simp [Prog.run] at hr
  rename_i hpd
  split at hr
  case h_2 => simp [Prog.run] at hr
  rename_i t hT
  split at hr
  case h_2 => simp [Prog.run] at hr
  rename_i z hz
  obtain ⟨e, he, rfl⟩ := Env.ty_some hT
  obtain ⟨cs, hzv, hcl, hcells, hzc⟩ := (hE.find he).zero hz w
  refine new_sound h (Grow.alloc h (.refl h) rfl (.cells cs.toArray T) (o.dst.getD 0, none)) (v := .pointer (some ⟨w.heap.size, 0, none⟩)) (w0 := w) ?_ (fun d hd hl σ' tm' hv => ?_) hr hK (.inr (pin_free hpn hpd))
  · simp [execOp, ho, Instr.alloc, hzv, newVar, newRow, hcells]
  · rw [hd]
    refine ⟨⟨w.heap.size, T, cs, rfl, withNew_new, heap_alloc_new w _, ?_⟩, fun m hm => ?_⟩
    · exact zeroC_rep (fun c => ⟨_, rfl⟩) e.ty hzc hcl hz
    · have : ∀ (t : Ty) (m : Mk), m ∈ ownMarks t → m = .own ∨ m = .shr := by
        intro t
        induction t with
        | unit => intro m hm; cases hm
        | pair a b iha ihb => intro m hm; rcases List.mem_append.1 hm with hm | hm; exact iha m hm; exact ihb m hm
        | sl t => intro m hm; exact .inl (List.mem_singleton.1 hm)
        | _ => intro m hm; exact .inr (List.mem_singleton.1 hm)
      rcases this _ m hm with rfl | rfl <;> trivial
theorem op_box {T : Nat} {x : Operand} (hpn : PinOK C E) (ho : o.op = .box T x) (h : SRep C g σ tm w) (hr : (opP E o).run σ K = some r) (hK : Good C K r ds next) :
    o.wp C.P ⟨tm, ds⟩ w next Q := by
  unfold opP at hr
  rw [ho] at hr
  simp only at hr
  split at hr
  case isTrue => simp [Prog.run] at hr
  rename_i hpd
  split at hr
  case h_2 => simp [Prog.run] at hr
  rename_i t hT
  obtain ⟨tv, hv, _, hr⟩ := rdV_inv (ds := ds) h hr
  split at hr
  case h_2 => simp [Prog.run] at hr
  rename_i y hy
  obtain ⟨ety, rfl⟩ := castO_some hy
  subst ety
  obtain ⟨cs, e, hx, hn, hb⟩ := hv
  obtain ⟨g1, σ1, ms', h1, h2, h3, h4, h5, h6, h7, _⟩ := takeMarks_inv tv.ms [] rfl h (hx.place σ.length 0 hn) (fun _ hm => by cases hm) hn hb hr
  have hN : σ1.length = σ.length := h2.len
  simp only [List.nil_append] at h4 h5
  have hcells := mkV_cells hx
  refine new_sound h1 (Grow.alloc h1 (Grow.handTo h1 (o.dst.getD 0) 0) rfl (.cells cs.toArray T) (o.dst.getD 0, none)) (v := .pointer (some ⟨w.heap.size, 0, none⟩)) (w0 := w) ?_ (fun d hd hl σ' tm' hv => ?_) h6 hK (.inr (pin_free hpn hpd))
  · simp [execOp, ho, e, Instr.box, newVar, newRow, hcells]
  · rw [hd, hN] at hv ⊢
    simp only [Option.getD_some] at hv ⊢
    refine ⟨⟨w.heap.size, T, cs, rfl, withNew_new, heap_alloc_new w _, ?_⟩, laid_bnd h4⟩
    refine laid_cells (N := σ.length) (off := 0) (d := d) h5 h4 ⟨by rw [World.size_alloc]; omega, fun b hb hk => ⟨heap_alloc_old w _ b hb, hk.1, ?_⟩⟩ fun c => ⟨by rw [World.size_alloc]; omega, fun b hb hk => ⟨heap_alloc_old w _ b hb, ?_⟩⟩
    · rw [withNew_old hb]; exact handTo_none hk.2
    · show withNew _ _ _ b = _
      rw [withNew_old hb]; exact handTo_hand hk
theorem zeroC_repC {P : Program} {w : World} {Sh : Nat → Prop} {t : Ty} {cs : List Value} {z : t.den} (h : zeroC t cs = true) (hl : cs.length = t.size) (hz : t.zero = some z) : RepC P t w Sh cs z := by
  have := zeroC_rep (P := P) (w := w) (Sh := Sh) (cl := fun _ _ => .hold (fun _ => False) (fun _ => True)) (fun c => ⟨_, rfl⟩) t (c := 0) h hl hz
  exact repC_of_repX t (RepX.trans (cl' := shareAll) (c' := 0) (Mono.refl _ _) t this rfl fun i _ => .hold_share _ _ ⟨Nat.le_refl _, fun b _ hb => hb.elim⟩)
theorem op_makeSlice {T : Nat} {l c : Operand} (hE : TabOK C.P E.tab) (ho : o.op = .makeSlice T l c) (h : SRep C g σ tm w) (hr : (opP E o).run σ K = some r) (hK : Good C K r ds next) :
    o.wp C.P ⟨tm, ds⟩ w next Q := by
  unfold opP at hr
  rw [ho] at hr
  simp only at hr
  split at hr
  case h_2 => simp [Prog.run] at hr
  rename_i e he
  split at hr
  case h_2 => simp [Prog.run] at hr
  rename_i el hel
  split at hr
  case h_2 => simp [Prog.run] at hr
  rename_i z hty hz
  have hty := Ty.eq_of_beq hty
  obtain ⟨kn, n, hl, hr⟩ := rdInt_inv (ds := ds) h hr
  obtain ⟨km, m, hc, hr⟩ := rdInt_inv (ds := ds) h hr
  simp only [Prog.run] at hr
  by_cases hb : (decide (0 ≤ n) && (decide (n ≤ m) && (decide (el.bytes * m ≤ (appendLimit : Int)) && decide (m ≤ 9223372036854775807)))) = true
  case neg =>
    rw [show (decide (0 ≤ n) && (decide (n ≤ m) && (decide (el.bytes * m ≤ (appendLimit : Int)) && decide (m ≤ 9223372036854775807)))) = false by simpa using hb] at hr
    simp at hr
  rw [hb] at hr
  simp only [cond] at hr
  simp only [Bool.and_eq_true, decide_eq_true_eq] at hb
  obtain ⟨hn0, hnm, hbytes, h63⟩ := hb
  have hFel := hE.find hel
  obtain ⟨hu, te, hte, hteq, hsz0⟩ := (hE.find he).slice hty
  obtain ⟨cs, hzv, hcl, hcells, hzc⟩ := hFel.zero hz w
  obtain ⟨i, hi, hisz, hib, zv, hizv, _⟩ := hFel.info
  have hzvv : zv = mkV el.ty cs := by
    simp [zeroValue, typeInfo, hi, hizv] at hzv; exact hzv
  have hmk := run_make (P := C.P) w T e.elem i zv hu hi hizv kn km n m hn0 hnm (by
    rw [hib]; have : ((appendLimit : Nat) : Int) ≤ 281474976710656 := by unfold appendLimit; omega
    omega) h63
  refine new_sound h (Grow.alloc h (.refl h) rfl (.cells (madeCells zv.cells (m.toNat * i.size)) e.elem) (o.dst.getD 0, some 0)) (v := .slice (some ⟨w.heap.size, 0, none⟩) n.toNat m.toNat) (w0 := w) ?_ (fun d hd hl σ' tm' hv => ?_) hr hK
  · simp [execOp, ho, hl, hc, hmk]
  · rw [hd]
    refine ⟨⟨[.slice (some ⟨w.heap.size, 0, none⟩) n.toNat m.toNat], rfl, ⟨_, _, _, _, rfl, rfl, ⟨by rw [List.length_replicate], by omega, .inr ⟨_, rfl, rfl, withNew_new, ⟨_, _, heap_alloc_new w _, ?_⟩, fun k hk => ?_⟩⟩, trivial⟩⟩, fun mm hm => ?_⟩
    · rw [size_madeCells, hisz]; simp
    · rw [List.length_replicate] at hk
      refine ⟨cs, hcl, fun j hj => ?_, ?_⟩
      · rw [World.cell?_alloc_new, hzvv, hisz, hcells]
        have hlt : k * el.ty.size + j < m.toNat * el.ty.size := by
          have h1 : (k + 1) * el.ty.size ≤ m.toNat * el.ty.size := Nat.mul_le_mul_right _ (by omega)
          rw [Nat.add_mul, Nat.one_mul] at h1
          omega
        have hmod : (k * el.ty.size + j) % el.ty.size = j := by
          rw [Nat.add_comm, Nat.add_mul_mod_self_right, Nat.mod_eq_of_lt hj]
        simp only [madeCells, Nat.zero_add, Array.getElem?_map, Array.getElem?_range, hlt, if_true, Option.map_some, List.size_toArray, hcl, hmod]
        have hj' : j < cs.length := by omega
        rw [List.getElem?_eq_getElem hj']
        simp [hj']
      · rw [List.getElem_replicate]
        exact zeroC_repC hzc hcl hz
    · simp only [List.mem_singleton] at hm; subst hm; trivial
end
end Go.GD
end

section
namespace Go.GD
open Go
theorem eqTy_scalar : (t : Ty) → ∀ {x y : t.den} {b : Bool}, eqTy t x y = some b → t.scalar = true
  | .unit, _, _, _, _ => rfl
  | .int _, _, _, _, _ => rfl
  | .bool, _, _, _, _ => rfl
  | .str, _, _, _, _ => rfl
  | .pair a b, x, y, r, h => by
    simp only [eqTy] at h
    split at h
    · rename_i p q hp hq
      simp [Ty.scalar, eqTy_scalar a hp, eqTy_scalar b hq]
    · cases h
  | .sl _, _, _, _, h => by cases h
  | .ptr _, _, _, _, h => by cases h
  | .fn _ _, _, _, _, h => by cases h
theorem repC_of_scalar {P : Program} {w : World} {Sh : Nat → Prop} {cl : Nat → Mk → Claim} : (t : Ty) → t.scalar = true → ∀ {c : Nat} {cs : List Value} {x : t.den} {ms : List Mk}, RepX P w Sh cl t c cs x ms → RepC P t w Sh cs x
  | .unit, _, _, _, _, _, h => by obtain ⟨h1, _⟩ := h; exact h1
  | .int _, _, _, _, _, _, h => by obtain ⟨_, _, h1⟩ := h; exact h1
  | .bool, _, _, _, _, _, h => by obtain ⟨_, _, h1⟩ := h; exact h1
  | .str, _, _, _, _, _, h => by obtain ⟨_, _, h1⟩ := h; exact h1
  | .pair a b, hs, _, _, _, _, h => by
    simp only [Ty.scalar, Bool.and_eq_true] at hs
    obtain ⟨c1, c2, m1, m2, e, _, h1, h2⟩ := h
    exact ⟨c1, c2, e, repC_of_scalar a hs.1 h1, repC_of_scalar b hs.2 h2⟩
  | .sl _, hs, _, _, _, _, _ => by cases hs
  | .ptr _, hs, _, _, _, _, _ => by cases hs
  | .fn _ _, hs, _, _, _, _, _ => by cases hs
section
variable {C : Ctx} {g : Own} {σ : St} {tm : Array Value} {w : World} {E : Env} {o : Oper} {ρ : Type} {K : St → Option ρ} {r : ρ} {ds : List Deferred}
  {next : Act → World → Prop} {Q : Exit → Act → World → Prop}
theorem bothO_some {ρ : Type} {a b : Option ρ} {r : ρ} (h : bothO a b = some r) : a = some r ∧ b = some r := by
  unfold bothO at h
  split at h
  · rename_i e; exact ⟨h, e ▸ h⟩
  · cases h
theorem nilP_inv {x : Operand} {k : Bool → Prog} (h : SRep C g σ tm w) (hr : (nilP x k).run σ K = some r) :
    ∃ a len cap b, Act.eval ⟨tm, ds⟩ x = .slice a len cap ∧ b = a.isNone ∧ (k b).run σ K = some r := by
  obtain ⟨t, xs, m, a, len, cap, hx, hok, hno, hbn, hs, hr⟩ := rdSl_inv (ds := ds) h hr
  have key : ((xs = [] ∨ a ≠ none) ∧ (Prog.br xs.isEmpty (.both (k true) (k false)) (k false)).run σ K = some r) →
      ∃ a len cap b, Act.eval ⟨tm, ds⟩ x = .slice a len cap ∧ b = a.isNone ∧ (k b).run σ K = some r := by
    rintro ⟨hne, hr⟩
    simp only [Prog.run] at hr
    cases xs with
    | nil =>
      simp only [List.isEmpty_nil, cond] at hr
      obtain ⟨h1, h2⟩ := bothO_some hr
      cases a with
      | none => exact ⟨none, len, cap, true, hx, rfl, h1⟩
      | some ad => exact ⟨some ad, len, cap, false, hx, rfl, h2⟩
    | cons y ys =>
      simp only [List.isEmpty_cons, cond] at hr
      cases a with
      | none => exact absurd rfl (hne.resolve_left (by simp))
      | some ad => exact ⟨some ad, len, cap, false, hx, rfl, hr⟩
  have share : ∀ {B : Nat → Prop} {R : List Value → t.den → Prop}, ShareS t.size w B R a len cap xs → xs = [] ∨ a ≠ none := by
    intro B R hs
    obtain ⟨h1, _, h3⟩ := hs
    rcases h3 with h3 | ⟨ad, e, _⟩
    · exact .inl (List.eq_nil_of_length_eq_zero (by omega))
    · exact .inr (by rw [e]; simp)
  have hold : ∀ {B : Nat → Prop} {R : List Value → t.den → Prop}, HoldS t.size w B R a len cap xs → xs = [] ∨ a ≠ none := by
    intro B R hs
    obtain ⟨h1, h2, h3⟩ := hs
    rcases h3 with h3 | ⟨ad, e, _⟩
    · exact .inl (List.eq_nil_of_length_eq_zero (by omega))
    · exact .inr (by rw [e]; simp)
  cases m with
  | nil =>
    obtain ⟨rfl, _, _, _⟩ := hs
    exact ⟨none, len, cap, true, hx, rfl, hr⟩
  | nn =>
    cases a with
    | none => exact absurd rfl (hs.2 rfl)
    | some ad => exact ⟨some ad, len, cap, false, hx, rfl, hr⟩
  | shr => exact key ⟨share hs.1, hr⟩
  | own => exact key ⟨hold hs.1, hr⟩
  | dead => exact (hok : False).elim
  | ref s' c' g' => simp only [clm, (show validB σ s' c' g' = true from hok), cond] at hs; exact key ⟨hold hs.1, hr⟩
  | sub s' c' g' => simp only [clm, (show validB σ s' c' g' = true from hok), cond] at hs; exact key ⟨hold hs.1, hr⟩
  | bor q => simp only [clm, (show borOk σ q = true from hok), cond] at hs; exact key ⟨hold hs.1, hr⟩
theorem eq_nil_run {P : Program} {T : Nat} {el : TypeId} (hu : P.underlying T = some (.slice el)) (n : Nat) (a : Option Addr) (len cap : Nat) :
    (Op.equalIn (n + 1) T (.slice a len cap) (.slice none 0 0)).run P w = .ok a.isNone w := by
  cases a <;> simp [Op.equalIn, run_underlying hu]
theorem op_binOp {op : BinOp} {T T' : Nat} {x y : Operand} (hE : TabOK C.P E.tab) (ho : o.op = .binOp op T x y T') (h : SRep C g σ tm w)
    (hr : (opP E o).run σ K = some r) (hK : Good C K r ds next) : o.wp C.P ⟨tm, ds⟩ w next Q := by
  by_cases hint : ∃ k, E.ty T = some (.int k)
  · obtain ⟨k, hk⟩ := hint
    exact op_binInt ho hk h hr hK
  unfold opP at hr
  rw [ho] at hr
  simp only [binP] at hr
  split at hr
  · rename_i k hk
    exact absurd ⟨k, hk⟩ hint
  · rename_i t hT
    obtain ⟨e, he, hty⟩ := Env.ty_some hT
    have hu := ((hE.find he).slice hty).1
    have hyc : isNilC y = true → Act.eval ⟨tm, ds⟩ y = .slice none 0 0 := by
      intro hy
      unfold isNilC at hy
      split at hy
      · rfl
      · cases hy
    split at hr
    · rename_i hy
      obtain ⟨a, len, cap, b, hx, rfl, hr⟩ := nilP_inv (ds := ds) h hr
      refine out_val h ?_ (Val.bool _) hr hK
      have hq : (Op.equal T (.slice a len cap) (.slice none 0 0)).run C.P w = .ok a.isNone w := by
        unfold Op.equal Op.maxDepth
        exact eq_nil_run hu 9999 a len cap
      simp [execOp, ho, hx, hyc hy, eqGuard, binOp, hq]
    · rename_i hy
      obtain ⟨a, len, cap, b, hx, rfl, hr⟩ := nilP_inv (ds := ds) h hr
      refine out_val h ?_ (Val.bool _) hr hK
      have hq : (Op.equal T (.slice a len cap) (.slice none 0 0)).run C.P w = .ok a.isNone w := by
        unfold Op.equal Op.maxDepth
        exact eq_nil_run hu 9999 a len cap
      simp [execOp, ho, hx, hyc hy, eqGuard, binOp, hq]
    · simp [Prog.run] at hr
  · rename_i t hni hns hT
    split at hr
    case h_2 => simp [Prog.run] at hr
    rename_i heq
    obtain ⟨v, hv, _, hr1⟩ := rdV_inv (ds := ds) h hr
    clear hr
    obtain ⟨u, hu, _, hr⟩ := rdV_inv (ds := ds) h hr1
    clear hr1
    split at hr
    case h_2 => simp [Prog.run] at hr
    rename_i a b ha hb
    split at hr
    case h_2 => simp [Prog.run] at hr
    rename_i q hq
    obtain ⟨e1, rfl⟩ := castO_some ha
    obtain ⟨e2, rfl⟩ := castO_some hb
    subst e1
    obtain ⟨ut, ux, ums⟩ := u
    simp only at e2
    subst e2
    have hsc := eqTy_scalar _ hq
    obtain ⟨c1, hx, hr1, _⟩ := hv
    obtain ⟨c2, hy, hr2, _⟩ := hu
    obtain ⟨e, he, hes⟩ := Option.map_eq_some_iff.1 heq
    obtain ⟨e', he', hty⟩ := Env.ty_some hT
    rw [he] at he'
    injection he' with he'
    subst he'
    have hok := (hE.find he).eqs hes
    rw [hty] at hok
    obtain ⟨b, hb, h1, h2⟩ := eqOK_run (w := w) hok (repC_of_scalar _ hsc hr1) (repC_of_scalar _ hsc hr2) op x y (fun k hk => hint ⟨k, by rw [hT, hk]⟩)
    rw [hq] at hb
    injection hb with hb
    subst hb
    split at hr
    · refine out_val h ?_ (Val.bool _) hr hK
      have := h1 rfl
      simp only [execOp, ho, hx, hy]
      rw [Sem.run_bind, this]; rfl
    · refine out_val h ?_ (Val.bool _) hr hK
      have := h2 rfl
      simp only [execOp, ho, hx, hy]
      rw [Sem.run_bind, this]; rfl
    · simp [Prog.run] at hr
  · simp [Prog.run] at hr
theorem fold_splice : (ys : List Value) → ∀ (k off : Nat) (cs : Array Value), off + k + ys.length ≤ cs.size →
    ((ys.zipIdx k).foldl (fun (cs : Array Value) (p : Value × Nat) => cs.setIfInBounds (off + p.2) p.1) cs).toList = splice cs.toList (off + k) ys
  | [], k, off, cs, _ => by simp [splice]
  | y :: ys, k, off, cs, h => by
    simp only [List.length_cons] at h
    rw [List.zipIdx_cons, List.foldl_cons, fold_splice ys (k + 1) off _ (by simp; omega)]
    simp only [Array.toList_setIfInBounds, splice, List.length_cons]
    have hi : off + k < cs.toList.length := by simp; omega
    have e1 : (cs.toList.set (off + k) y).take (off + (k + 1)) = cs.toList.take (off + k) ++ [y] := by
      rw [show off + (k + 1) = (off + k) + 1 by omega, List.take_add_one]
      rw [List.take_set_of_le (Nat.le_refl _), List.getElem?_set_self hi]
      rfl
    have e2 : (cs.toList.set (off + k) y).drop (off + (k + 1) + ys.length) = cs.toList.drop (off + k + (ys.length + 1)) := by
      rw [List.drop_set, if_pos (by omega), show off + (k + 1) + ys.length = off + k + (ys.length + 1) by omega]
    rw [e1, e2]
    simp
theorem fill_step {place : Nat → Option (Nat × Nat)} {cs : List Value} {i off size : Nat} {v : Value} {ys : List Value} {rest : List (Nat × Value)} (hp : place i = some (off, size))
    (hv : v.cells = ys.toArray) (hs : ys.length = size) (hl : off + size ≤ cs.length) :
    Instr.fill place cs.toArray ((i, v) :: rest) = Instr.fill place (splice cs off ys).toArray rest := by
  have h1 : ¬ (v.cells.size ≠ size ∨ off + v.cells.size > cs.toArray.size) := by
    rw [hv]; simp; omega
  have h2 : (v.cells.size ≠ size || decide (off + v.cells.size > cs.toArray.size)) = false := by
    simpa using h1
  have hf : v.cells.zipIdx.foldl (fun cs (p : Value × Nat) => cs.setIfInBounds (off + p.2) p.1) cs.toArray = (splice cs off ys).toArray := by
    apply Array.ext'
    rw [hv]
    have := fold_splice ys 0 off cs.toArray (by simp; omega)
    simpa using this
  simp only [Instr.fill, hp]
  split
  · rename_i hc
    exact absurd hc (by simpa using h1)
  · rw [← hf]
theorem partsP_inv {flds : List (Nat × Nat)} {place : Nat → Option (Nat × Nat)} (hplace : ∀ i off T t, flds[i]? = some (off, T) → E.ty T = some t → place i = some (off, t.size)) (h : SRep C g σ tm w) :
    (l : List (Nat × Operand)) → ∀ {z : TV} {k : TV → Prog} {cs : List Value}, RepX C.P w (Shd C g) (cl g σ tm w 0) z.t 0 cs z.x z.ms → NoOwn z.ms → (∀ m, m ∈ z.ms → bndM σ m) →
      (partsP E flds l z k).run σ K = some r →
      ∃ v cs', v.t = z.t ∧ RepX C.P w (Shd C g) (cl g σ tm w 0) v.t 0 cs' v.x v.ms ∧ NoOwn v.ms ∧ (∀ m, m ∈ v.ms → bndM σ m) ∧ (k v).run σ K = some r ∧
        Instr.fill place cs.toArray (l.map fun (i, x) => (i, Act.eval ⟨tm, ds⟩ x)) = some cs'.toArray
  | [], z, k, cs, hx, hn, hb, hr => ⟨z, cs, rfl, hx, hn, hb, hr, rfl⟩
  | (i, x) :: l, z, k, cs, hx, hn, hb, hr => by
    simp only [partsP] at hr
    split at hr
    case h_2 => simp [Prog.run] at hr
    rename_i off T hf
    obtain ⟨v, hv, _, hr⟩ := rdV_inv (ds := ds) h hr
    split at hr
    case h_2 => simp [Prog.run] at hr
    rename_i t hT
    split at hr
    case h_2 => simp [Prog.run] at hr
    rename_i y hy
    split at hr
    case h_2 => simp [Prog.run] at hr
    rename_i x' hx'
    obtain ⟨ety, rfl⟩ := castO_some hy
    subst ety
    obtain ⟨ys, hev, hyx, hyn, hyb⟩ := hv
    have hlen := RepX.length _ hx
    have hyl := RepX.length _ hyx
    obtain ⟨hsz, hnew⟩ := setAt_repX z.t hx (hyx.place 0 (0 + off) hyn) hx'
    have hms : setMarks z.ms off v.ms = splice z.ms off v.ms := setMarks_splice _ _ _ (by omega)
    rw [← hms] at hnew
    have hmem : ∀ m, m ∈ setMarks z.ms off v.ms → m ∈ z.ms ∨ m ∈ v.ms := by
      intro m hm
      rw [hms] at hm
      unfold splice at hm
      rcases List.mem_append.1 hm with hm | hm
      · rcases List.mem_append.1 hm with hm | hm
        · exact .inl (List.mem_of_mem_take hm)
        · exact .inr hm
      · exact .inl (List.mem_of_mem_drop hm)
    obtain ⟨u, cs', h1, h2, h3, h4, h5, h6⟩ := partsP_inv hplace h l (z := ⟨z.t, x', setMarks z.ms off v.ms⟩) hnew (fun m hm => (hmem m hm).elim (hn m) (hyn m)) (fun m hm => (hmem m hm).elim (hb m) (hyb m)) hr
    refine ⟨u, cs', h1, h2, h3, h4, h5, ?_⟩
    rw [← h6, List.map_cons]
    exact fill_step (hplace i off T v.t hf hT) (by rw [hev]; exact mkV_cells hyx) hyl.1 (by omega)
theorem mem_nilMarks : (t : Ty) → ∀ m, m ∈ nilMarks t → m = .nil ∨ m = .shr
  | .unit, _, h => by cases h
  | .pair a b, m, h => by
    rcases List.mem_append.1 h with h | h
    · exact mem_nilMarks a m h
    · exact mem_nilMarks b m h
  | .sl _, _, h => .inl (List.mem_singleton.1 h)
  | .int _, _, h | .bool, _, h | .str, _, h | .ptr _, _, h | .fn _ _, _, h => .inr (List.mem_singleton.1 h)
theorem zeroC_nil {P : Program} {w : World} {Sh : Nat → Prop} {cl : Nat → Mk → Claim} (hcl : ∀ c, cl c .nil = .nilc) :
    (t : Ty) → ∀ {c : Nat} {cs : List Value} {z : t.den}, zeroC t cs = true → cs.length = t.size → t.zero = some z → RepX P w Sh cl t c cs z (nilMarks t)
  | .unit, _, cs, _, h, hl, _ => ⟨List.eq_nil_of_length_eq_zero hl, rfl⟩
  | .int k, c, cs, z, h, hl, hz => by
    have := zeroC_repC (P := P) (w := w) (Sh := Sh) h hl hz; exact ⟨_, rfl, this⟩
  | .bool, c, cs, z, h, hl, hz => by
    have := zeroC_repC (P := P) (w := w) (Sh := Sh) h hl hz; exact ⟨_, rfl, this⟩
  | .str, c, cs, z, h, hl, hz => by
    have := zeroC_repC (P := P) (w := w) (Sh := Sh) h hl hz; exact ⟨_, rfl, this⟩
  | .sl t, c, cs, z, h, hl, hz => by
    match cs, hl with
    | [v], _ =>
      cases v with
      | slice a len cap =>
        obtain rfl : a = none := by cases a with
          | none => rfl
          | some _ => simp [zeroC] at h
        obtain rfl : len = 0 := by cases len with
          | zero => rfl
          | succ _ => simp [zeroC] at h
        obtain rfl : cap = 0 := by cases cap with
          | zero => rfl
          | succ _ => simp [zeroC] at h
        injection hz with hz
        refine ⟨none, 0, 0, _, rfl, rfl, ?_⟩
        rw [hcl, ← hz]
        exact ⟨rfl, rfl, rfl, rfl⟩
      | _ => simp [zeroC] at h
  | .pair a b, c, cs, z, h, hl, hz => by
    have hz := zero_pair hz
    simp only [zeroC, Bool.and_eq_true] at h
    simp only [Ty.size] at hl
    exact ⟨cs.take a.size, cs.drop a.size, _, _, (List.take_append_drop _ _).symm, rfl,
      zeroC_nil hcl a h.1 (by rw [List.length_take]; omega) hz.1, zeroC_nil hcl b h.2 (by rw [List.length_drop]; omega) hz.2⟩
  | .ptr _, _, _, _, _, _, hz => by cases hz
  | .fn _ _, _, _, _, _, _, hz => by cases hz
theorem places_of {P : Program} {tab : List TE} (hE : TabOK P tab) : (fs : List Field) → (l : List (Nat × Nat)) → fldsOK tab fs l = true →
    ∃ places, fs.mapM (fun f => (P.info? f.type).map fun i => (f.offset, i.size)) = some places ∧
      ∀ (i off T : Nat) (e : TE), l[i]? = some (off, T) → findTE tab T = some e → places[i]? = some (off, e.ty.size)
  | [], [], _ => ⟨[], rfl, fun i off T e h => by simp at h⟩
  | [], _ :: _, h => by simp [fldsOK] at h
  | _ :: _, [], h => by simp [fldsOK] at h
  | f :: fs, (o, T) :: l, h => by
    simp only [fldsOK, Bool.and_eq_true] at h
    obtain ⟨h1, h2, h3, h4⟩ := h
    have h1 := Nat.eq_of_beq_eq_true h1
    have h2 := Nat.eq_of_beq_eq_true h2
    obtain ⟨places, hp, hq⟩ := places_of hE fs l h4
    obtain ⟨te, hte⟩ := Option.isSome_iff_exists.1 h3
    obtain ⟨i, hi, his, _⟩ := (hE.find hte).info
    refine ⟨(o, te.ty.size) :: places, ?_, fun k off T' e hk he => ?_⟩
    · simp [List.mapM_cons, h1, h2, hi, his, hp]
    · cases k with
      | zero =>
        simp only [List.getElem?_cons_zero, Option.some.injEq, Prod.mk.injEq] at hk
        obtain ⟨rfl, rfl⟩ := hk
        rw [hte] at he
        injection he with he
        subst he; rfl
      | succ k => exact hq k off T' e hk he
theorem op_build {T : Nat} {ps : Array (Nat × Operand)} (hE : TabOK C.P E.tab) (ho : o.op = .build T ps) (h : SRep C g σ tm w)
    (hr : (opP E o).run σ K = some r) (hK : Good C K r ds next) : o.wp C.P ⟨tm, ds⟩ w next Q := by
  unfold opP at hr
  rw [ho] at hr
  simp only at hr
  split at hr
  case h_2 => simp [Prog.run] at hr
  rename_i e he
  split at hr
  case h_2 => simp [Prog.run] at hr
  rename_i z hz
  split at hr
  case isFalse => simp [Prog.run] at hr
  rename_i hag
  have hF := hE.find he
  obtain ⟨cs, hzv, hcl, hcells, hzc⟩ := hF.zero hz w
  obtain ⟨i, hi, hisz, hib, zv, hizv, _⟩ := hF.info
  have hzvv : zv = mkV e.ty cs := by
    simp [zeroValue, typeInfo, hi, hizv] at hzv; exact hzv
  have hrep0 : RepX C.P w (Shd C g) (cl g σ tm w 0) e.ty 0 cs z (nilMarks e.ty) := zeroC_nil (fun _ => rfl) e.ty hzc hcl hz
  have hno : NoOwn (nilMarks e.ty) := fun m hm => by rcases mem_nilMarks _ m hm with rfl | rfl <;> simp
  have hbn : ∀ m, m ∈ nilMarks e.ty → bndM σ m := fun m hm => by rcases mem_nilMarks _ m hm with rfl | rfl <;> trivial
  have hbuilt : ∃ place, (∀ i off T t, e.flds[i]? = some (off, T) → E.ty T = some t → place i = some (off, t.size)) ∧
      ∀ parts, C.P.built T parts = Instr.fill place cs.toArray parts := by
    cases harr : e.arr with
    | false =>
      obtain ⟨fs, hu, hfl⟩ := struct_desc hF hag harr
      obtain ⟨places, hp, hq⟩ := places_of hE fs.toList e.flds hfl
      refine ⟨(places.toArray[·]?), fun i off T t hf hT => ?_, fun parts => ?_⟩
      · obtain ⟨te, hte, rfl⟩ := Env.ty_some hT
        have := hq i off T te hf hte
        simpa using this
      · simp only [Program.built, hi, hu, hizv, hp, hzvv, hcells]
    | true =>
      obtain ⟨n, te, hu, hlen, hte, hak⟩ := array_desc hF hag harr
      obtain ⟨ie, hie, hies, _⟩ := (hE.find hte).info
      refine ⟨fun i => some (i * ie.size, ie.size), fun i off T t hf hT => ?_, fun parts => ?_⟩
      · obtain ⟨h1, h2⟩ := arrOK_get _ 0 hak _ _ _ hf
        subst h2
        obtain ⟨te', hte', rfl⟩ := Env.ty_some hT
        rw [hte] at hte'
        injection hte' with hte'
        subst hte'
        rw [hies, h1, Nat.zero_add]
      · simp only [Program.built, hi, hu, hizv, hie, hzvv, hcells]
  obtain ⟨place, hplace, hfill⟩ := hbuilt
  obtain ⟨v, cs', h1, h2, h3, h4, h5, h6⟩ := partsP_inv (ds := ds) (z := ⟨e.ty, z, nilMarks e.ty⟩) hplace h ps.toList hrep0 hno hbn hr
  refine out_val h ?_ (v := mkV v.t cs') ⟨cs', rfl, h2, h3, h4⟩ h5 hK
  have hb : (Instr.build T (ps.map fun (i, x) => (i, Act.eval ⟨tm, ds⟩ x))).run C.P w = .ok (.agg cs'.toArray) w := by
    refine run_build w T _ _ ?_
    rw [hfill, Array.toList_map]; exact h6
  have hv : mkV v.t cs' = .agg cs'.toArray := by rw [h1]; simp [mkV, hag]
  rw [hv]
  simp [execOp, ho, hb]
end
end Go.GD
end

section
namespace Go.GD
open Go
theorem flatten_get {α : Type} {size : Nat} : (css : List (List α)) → (∀ cs, cs ∈ css → cs.length = size) → ∀ (k j : Nat) (hk : k < css.length), j < size → css.flatten[k * size + j]? = css[k][j]?
  | [], _, k, _, hk, _ => by simp at hk
  | cs :: css, h, 0, j, _, hj => by
    have := h cs (List.mem_cons_self ..)
    simp only [Nat.zero_mul, Nat.zero_add, List.flatten_cons, List.getElem_cons_zero]
    rw [List.getElem?_append_left (by omega)]
  | cs :: css, h, k + 1, j, hk, hj => by
    have hl := h cs (List.mem_cons_self ..)
    have ih := flatten_get css (fun c hc => h c (List.mem_cons_of_mem _ hc)) k j (by simpa using hk) hj
    simp only [List.flatten_cons, List.getElem_cons_succ]
    rw [List.getElem?_append_right (by rw [hl, Nat.add_mul]; omega), ← ih, hl, Nat.add_mul]
    congr 1; omega
theorem flatten_length {α : Type} {size : Nat} : (css : List (List α)) → (∀ cs, cs ∈ css → cs.length = size) → css.flatten.length = css.length * size
  | [], _ => by simp
  | cs :: css, h => by
    rw [List.flatten_cons, List.length_append, h cs (List.mem_cons_self ..), flatten_length css (fun c hc => h c (List.mem_cons_of_mem _ hc)), List.length_cons, Nat.add_mul]; omega
section
variable {C : Ctx} {g : Own} {σ : St} {tm : Array Value} {w : World} {E : Env} {o : Oper} {ρ : Type} {K : St → Option ρ} {r : ρ} {ds : List Deferred}
  {next : Act → World → Prop} {Q : Exit → Act → World → Prop}
theorem share_inv {tv : TV} {k : List Mk → Prog} {v : Value} (h : SRep C g σ tm w) (hv : Val C g σ tm w v tv) (hr : (takeMarks (fun _ => false) true tv.ms k).run σ K = some r) :
    ∃ g1 σ1 ms' cs, SRep C g1 σ1 tm w ∧ HandLe C g σ tm w g1 σ1 tm w ∧ v = mkV tv.t cs ∧ v.cells = cs.toArray ∧ RepC C.P tv.t w (Shd C g1) cs tv.x ∧ (k ms').run σ1 K = some r ∧
      (∀ b, g b = none → g1 b = none) := by
  obtain ⟨cs, e, hx, hn, hb⟩ := hv
  obtain ⟨g1, σ1, ms', h1, h2, h3, h4, h5, h6, h7, h8⟩ := takeMarks_inv tv.ms [] rfl h (hx.place σ.length 0 hn) (fun _ hm => by cases hm) hn hb hr
  simp only [List.nil_append] at h4 h5
  refine ⟨g1, σ1, ms', cs, h1, h2, e, by rw [e]; exact mkV_cells hx, ?_, h6, h7⟩
  have hlen := (RepX.length _ h5).2
  refine repC_of_repX tv.t (RepX.trans (cl' := shareAll) (c' := 0) (Mono.refl _ _) tv.t h5 rfl fun i hi => ?_)
  rcases h8 (fun _ => rfl) rfl _ (mem_of_markAt ms' i (by omega)) with e | e <;> rw [e]
  · exact .share _
  · exact .nil_share
def PartsAre (tm : Array Value) (ds : List Deferred) : Nat → List (Nat × Operand) → List (List Value) → Prop
  | _, [], [] => True
  | i, (j, o) :: l, cs :: css => j = i ∧ (Act.eval ⟨tm, ds⟩ o).cells = cs.toArray ∧ PartsAre tm ds (i + 1) l css
  | _, _, _ => False
def AllRep (P : Program) (t : Ty) (w : World) (Sh : Nat → Prop) : List (List Value) → List t.den → Prop
  | [], [] => True
  | cs :: css, x :: xs => RepC P t w Sh cs x ∧ AllRep P t w Sh css xs
  | _, _ => False
theorem AllRep.len {P : Program} {t : Ty} {w : World} {Sh : Nat → Prop} : (css : List (List Value)) → ∀ {xs : List t.den}, AllRep P t w Sh css xs → css.length = xs.length ∧ ∀ cs, cs ∈ css → cs.length = t.size
  | [], [], _ => ⟨rfl, fun _ h => by cases h⟩
  | [], _ :: _, h => h.elim
  | _ :: _, [], h => h.elim
  | cs :: css, _ :: _, h => by
    obtain ⟨h1, h2⟩ := AllRep.len css h.2
    exact ⟨by simp [h1], List.forall_mem_cons.2 ⟨RepC.length t h.1, h2⟩⟩
theorem AllRep.get {P : Program} {t : Ty} {w : World} {Sh : Nat → Prop} : (css : List (List Value)) → ∀ {xs : List t.den}, AllRep P t w Sh css xs → ∀ (i : Nat) (h1 : i < css.length) (h2 : i < xs.length), RepC P t w Sh css[i] xs[i]
  | [], [], _, i, h1, _ => by simp at h1
  | [], _ :: _, h, _, _, _ => h.elim
  | _ :: _, [], h, _, _, _ => h.elim
  | cs :: css, x :: xs, h, i, h1, h2 => by
    cases i with
    | zero => exact h.1
    | succ i => exact AllRep.get css h.2 i (by simpa using h1) (by simpa using h2)
theorem rowsP_inv {T : Nat} {t : Ty} : (l : List (Nat × Operand)) → ∀ {i : Nat} {g : Own} {σ : St} {k : List t.den → Prog}, SRep C g σ tm w → (rowsP E T t i l k).run σ K = some r →
    ∃ g1 σ1 xs css, SRep C g1 σ1 tm w ∧ HandLe C g σ tm w g1 σ1 tm w ∧ PartsAre tm ds i l css ∧ AllRep C.P t w (Shd C g1) css xs ∧ (k xs).run σ1 K = some r
  | [], i, g, σ, k, h, hr => ⟨g, σ, [], [], h, .refl .., trivial, trivial, hr⟩
  | (j, o) :: l, i, g, σ, k, h, hr => by
    simp only [rowsP] at hr
    split at hr
    case isFalse => simp [Prog.run] at hr
    rename_i hij
    obtain ⟨v, hv, _, hr⟩ := rdV_inv (ds := ds) h hr
    split at hr
    case h_2 => simp [Prog.run] at hr
    rename_i y hy
    obtain ⟨ety, rfl⟩ := castO_some hy
    subst ety
    obtain ⟨g1, σ1, ms', cs, h1, h2, h3, h4, h5, h6, _⟩ := share_inv h hv hr
    obtain ⟨g2, σ2, xs, css, q1, q2, q3, q4, q5⟩ := rowsP_inv l h1 h6
    exact ⟨g2, σ2, v.x :: xs, cs :: css, q1, h2.trans q2, ⟨(Nat.eq_of_beq_eq_true hij).symm, h4, q3⟩, ⟨RepC.mono v.t q2.sh h5, q4⟩, q5⟩
theorem fill_rows {size : Nat} : (l : List (Nat × Operand)) → ∀ {i : Nat} {css : List (List Value)} {pre rest : List Value}, PartsAre tm ds i l css → (∀ cs, cs ∈ css → cs.length = size) → pre.length = i * size → l.length * size ≤ rest.length →
    Instr.fill (fun i => some (i * size, size)) (pre ++ rest).toArray (l.map fun (i, x) => (i, Act.eval ⟨tm, ds⟩ x)) = some (pre ++ css.flatten ++ rest.drop (l.length * size)).toArray
  | [], i, [], pre, rest, _, _, _, _ => by simp [Instr.fill]
  | [], _, _ :: _, _, _, h, _, _, _ => h.elim
  | _ :: _, _, [], _, _, h, _, _, _ => h.elim
  | (j, o) :: l, i, cs :: css, pre, rest, h, hs, hp, hr => by
    obtain ⟨rfl, hc, h⟩ := h
    have hcl := hs cs (List.mem_cons_self ..)
    simp only [List.length_cons, Nat.add_mul, Nat.one_mul] at hr
    rw [List.map_cons, fill_step (ys := cs) (off := j * size) (size := size) rfl hc hcl (by rw [List.length_append, hp]; omega)]
    have hsp : splice (pre ++ rest) (j * size) cs = (pre ++ cs) ++ rest.drop size := by
      rw [splice_right _ _ _ _ (by omega), hp, Nat.sub_self]
      unfold splice
      rw [hcl, Nat.zero_add, List.take_zero, List.nil_append, List.append_assoc]
    rw [hsp, fill_rows l h (fun c hc => hs c (List.mem_cons_of_mem _ hc)) (by rw [List.length_append, hp, hcl, Nat.add_mul]; omega) (by rw [List.length_drop]; omega)]
    congr 2
    rw [List.drop_drop, List.flatten_cons, List.length_cons, Nat.add_mul, Nat.one_mul, Nat.add_comm size]
    simp [List.append_assoc]
theorem run_buildSlice' {P : Program} {T n : Nat} {el : TypeId} {size : Nat} {zv : Value} {parts : Array (Nat × Value)} {final : Array Value} (hu : P.underlying T = some (.slice el))
    (hs : (sizeOf el).run P w = .ok size w) (hz : (zeroValue el).run P w = .ok zv w) (hb : n * size ≤ 16777216)
    (hf : ∀ init : Array Value, init.size = n * size → Instr.fill (fun i => some (i * size, size)) init parts.toList = some final) :
    (Instr.buildSlice T n parts).run P w = .ok (.slice (some ⟨w.heap.size, 0, none⟩) n n) (w.alloc (.cells final el)) := by
  have hnb : ¬ (n * size > 2 ^ 24) := by
    have : (2 : Nat) ^ 24 = 16777216 := by decide
    omega
  unfold Instr.buildSlice
  simp only [Sem.run_bind, underlying, run_program, Result.andThen_ok, hu, Sem.run_pure, hs, hnb, if_false]
  by_cases h0 : n * size = 0
  · have hi := hf ((Array.range (n * size)).map fun i => (#[] : Array Value)[i % (#[] : Array Value).size]!) (by simp)
    simp only [h0, if_true]
    rw [h0] at hi
    simp only [Sem.run_bind, Sem.run_pure, Result.andThen_ok, hi]
    simp [newRow]
  · have hi := hf ((Array.range (n * size)).map fun i => zv.cells[i % zv.cells.size]!) (by simp)
    simp only [h0, if_false, Sem.run_bind, hz, Sem.run_pure, Result.andThen_ok, hi]
    simp [newRow]
theorem op_buildSlice {T n : Nat} {ps : Array (Nat × Operand)} (hE : TabOK C.P E.tab) (ho : o.op = .buildSlice T n ps) (h : SRep C g σ tm w)
    (hr : (opP E o).run σ K = some r) (hK : Good C K r ds next) : o.wp C.P ⟨tm, ds⟩ w next Q := by
  unfold opP at hr
  rw [ho] at hr
  simp only at hr
  split at hr
  case h_2 => simp [Prog.run] at hr
  rename_i e he
  split at hr
  case h_2 => simp [Prog.run] at hr
  rename_i el hel
  split at hr
  case h_2 => simp [Prog.run] at hr
  rename_i z hty hz
  have hty := Ty.eq_of_beq hty
  split at hr
  case isFalse => simp [Prog.run] at hr
  rename_i hb
  simp only [Bool.and_eq_true] at hb
  have hn := Nat.eq_of_beq_eq_true hb.1
  have hb2 : n * el.ty.size ≤ 16777216 := by simpa using hb.2
  obtain ⟨hu, te, hte, hteq, hsz0⟩ := (hE.find he).slice hty
  obtain ⟨g1, σ1, xs, css, h1, h2, h3, h4, h5⟩ := rowsP_inv (ds := ds) ps.toList h hr
  obtain ⟨hl1, hl2⟩ := AllRep.len css h4
  have hpl : ∀ (l : List (Nat × Operand)) (i : Nat) (css : List (List Value)), PartsAre tm ds i l css → css.length = l.length := by
    intro l
    induction l with
    | nil => intro i css h; cases css with
      | nil => rfl
      | cons _ _ => exact h.elim
    | cons p l ih => intro i css h; cases css with
      | nil => exact h.elim
      | cons cs css => obtain ⟨j, o⟩ := p; simp [ih _ _ h.2.2]
  have hcl := hpl _ _ _ h3
  have hFel := hE.find hel
  obtain ⟨cs, hzv, hcsl, hcells, hzc⟩ := hFel.zero hz w
  have hn' : n = ps.size := by simpa using hn
  have exec : (execOp (Act.eval ⟨tm, ds⟩) o).run C.P w = .ok (.value (.slice (some ⟨w.heap.size, 0, none⟩) n n)) (w.alloc (.cells css.flatten.toArray e.elem)) := by
    have hrun := run_buildSlice' (w := w) (P := C.P) (T := T) (n := n) (parts := ps.map fun (i, x) => (i, Act.eval ⟨tm, ds⟩ x)) (final := css.flatten.toArray) hu (hFel.sizeOf w) hzv hb2 (fun init hi => by
      have := fill_rows (size := el.ty.size) ps.toList (pre := []) (rest := init.toList) h3 hl2 (by simp) (by simp only [Array.length_toList]; rw [hi, hn']; exact Nat.le_refl _)
      rw [Array.toList_map]
      simp only [List.nil_append, Array.toArray_toList] at this
      rw [this]
      congr 1
      rw [List.drop_eq_nil_of_le (by simp only [Array.length_toList]; rw [hi, hn']; exact Nat.le_refl _), List.append_nil])
    simp only [execOp, ho]
    rw [Sem.run_bind, hrun]; rfl
  refine new_sound h1 (Grow.alloc h1 (.refl h1) rfl (.cells css.flatten.toArray e.elem) (o.dst.getD 0, some 0)) (v := .slice (some ⟨w.heap.size, 0, none⟩) n n) (w0 := w) exec (fun d hd hl σ' tm' hv => ?_) h5 hK
  rw [hd] at hv ⊢
  simp only [Option.getD_some] at hv ⊢
  have hxl : xs.length = n := by omega
  refine ⟨⟨[.slice (some ⟨w.heap.size, 0, none⟩) n n], rfl, ⟨_, _, _, _, rfl, rfl, ⟨hxl, Nat.le_refl _, .inr ⟨_, rfl, rfl, withNew_new, ⟨_, _, heap_alloc_new w _, ?_⟩, fun k hk => ?_⟩⟩, trivial⟩⟩, fun mm hm => ?_⟩
  · show 0 + n * el.ty.size ≤ css.flatten.toArray.size
    rw [List.size_toArray, flatten_length css hl2, hcl, ← hn, Nat.zero_add]; exact Nat.le_refl _
  · have hk0 : k < xs.length := hk
    have hk' : k < css.length := by omega
    refine ⟨css[k], hl2 _ (List.getElem_mem _), fun j hj => ?_, ?_⟩
    · rw [World.cell?_alloc_new, Nat.zero_add]
      simp only [List.getElem?_toArray]
      exact flatten_get css hl2 k j hk' hj
    · exact RepC.mono el.ty hv.sh (AllRep.get css h4 k hk' hk)
  · simp only [List.mem_singleton] at hm; subst hm; trivial
end
end Go.GD
end

section
namespace Go.GD
open Go
theorem RepC.oneCell {P : Program} : (t : Ty) → ∀ {w : World} {Ok : Nat → Prop} {cs : List Value} {x : t.den}, RepC P t w Ok cs x → ∀ v, v ∈ cs → v.oneCell' = true
  | .unit, _, _, _, _, h => by rw [show _ = _ from h]; simp
  | .int _, _, _, _, _, h => by rw [show _ = _ from h]; simp [Value.oneCell']
  | .bool, _, _, _, _, h => by rw [show _ = _ from h]; simp [Value.oneCell']
  | .str, _, _, _, _, h => by rw [show _ = _ from h]; simp [Value.oneCell']
  | .pair a b, _, _, _, _, h => by
    obtain ⟨c1, c2, e, h1, h2⟩ := h
    rw [e]
    intro v hv
    rcases List.mem_append.1 hv with hv | hv
    · exact RepC.oneCell a h1 v hv
    · exact RepC.oneCell b h2 v hv
  | .sl _, _, _, _, _, h => by obtain ⟨_, _, _, e, _⟩ := h; rw [e]; simp [Value.oneCell']
  | .ptr _, _, _, _, _, h => by obtain ⟨_, e, _⟩ := h; rw [e]; simp [Value.oneCell']
  | .fn _ _, _, _, _, _, h => by obtain ⟨_, _, _, e, _⟩ := h; rw [e]; simp [Value.oneCell']
theorem RepX.oneCell {P : Program} {w : World} {Sh : Nat → Prop} {cl : Nat → Mk → Claim} : (t : Ty) → ∀ {c : Nat} {cs : List Value} {x : t.den} {ms : List Mk}, RepX P w Sh cl t c cs x ms → ∀ v, v ∈ cs → v.oneCell' = true
  | .unit, _, _, _, _, h => by rw [h.1]; simp
  | .int _, _, _, _, _, h => by obtain ⟨_, _, h⟩ := h; exact RepC.oneCell _ h
  | .bool, _, _, _, _, h => by obtain ⟨_, _, h⟩ := h; exact RepC.oneCell _ h
  | .str, _, _, _, _, h => by obtain ⟨_, _, h⟩ := h; exact RepC.oneCell _ h
  | .ptr _, _, _, _, _, h => by obtain ⟨_, _, h⟩ := h; exact RepC.oneCell _ h
  | .pair a b, _, _, _, _, h => by
    obtain ⟨c1, c2, m1, m2, e, _, h1, h2⟩ := h
    rw [e]
    intro v hv
    rcases List.mem_append.1 hv with hv | hv
    · exact RepX.oneCell a h1 v hv
    · exact RepX.oneCell b h2 v hv
  | .sl _, _, _, _, _, h => by obtain ⟨_, _, _, _, e, _⟩ := h; rw [e]; simp [Value.oneCell']
  | .fn _ _, _, _, _, _, h => by obtain ⟨_, _, e, _, h, _⟩ := h; rw [e]; simpa using h.2
theorem storeVar_run {T : Nat} {e : TE} {b off : Nat} {cs0 cs : List Value} {v : Value} {et : TypeId} {P : Program} {tab : List TE} {w : World} (hT : TEfacts P tab T e) (hv : v.cells = cs.toArray)
    (hl : cs.length = e.ty.size) (h1 : ∀ v, v ∈ cs → v.oneCell' = true) (hh : w.heap[b]? = some (.cells cs0.toArray et (0, 0))) (hf : off + cs.length ≤ cs0.length) :
    (storeVar T ⟨b, off, none⟩ v).run P w = .ok () (w.setRow b (splice cs0 off cs).toArray) := by
  have := run_storeCells_at P b off et cs 0 cs0.toArray w hh (by simpa using hf) h1
  unfold storeVar
  rw [Sem.run_bind, hT.sizeOf w]
  simp only [Result.andThen_ok, hv, List.size_toArray, hl, ne_eq, not_true_eq_false, if_false]
  simpa [splice, hl] using this
theorem getElem?_splice {α : Type} (cs ys : List α) (off i : Nat) (h : off + ys.length ≤ cs.length) :
    (splice cs off ys)[i]? = if i < off then cs[i]? else if i < off + ys.length then ys[i - off]? else cs[i]? := by
  unfold splice
  rw [List.append_assoc]
  by_cases h1 : i < off
  · rw [List.getElem?_append_left (by rw [List.length_take]; omega), if_pos h1, List.getElem?_take_of_lt h1]
  · rw [List.getElem?_append_right (by rw [List.length_take]; omega), if_neg h1, List.length_take, Nat.min_eq_left (by omega)]
    by_cases h2 : i < off + ys.length
    · rw [if_pos h2, List.getElem?_append_left (by omega)]
    · rw [if_neg h2, List.getElem?_append_right (by omega), List.getElem?_drop]
      congr 1; omega
theorem splice_id {α : Type} (cs : List α) (off : Nat) (y : α) (h : cs[off]? = some y) : splice cs off [y] = cs := by
  have hl : off < cs.length := by
    rcases Nat.lt_or_ge off cs.length with h' | h'
    · exact h'
    · rw [List.getElem?_eq_none h'] at h; cases h
  apply List.ext_getElem?
  intro i
  rw [getElem?_splice _ _ _ _ (by simpa using Nat.succ_le_of_lt hl)]
  simp only [List.length_singleton]
  split
  · rfl
  · split
    · rw [show i = off by omega, Nat.sub_self, h]; rfl
    · rfl
section
variable {C : Ctx} {g g' : Own} {σ : St} {tm tm' : Array Value} {w w' : World} {E : Env} {o : Oper} {ρ : Type} {K : St → Option ρ} {r : ρ} {ds : List Deferred}
  {next : Act → World → Prop} {Q : Exit → Act → World → Prop}
theorem Step.selfCle {d : Nat} {a' : A} {i' n' : Nat} (h : SRep C g σ tm w) (st : Step C g σ tm w g' tm' w' d a' i' n') (hl : d < σ.length) (c : Nat) (m : Mk)
    (hown : m = .own → Mono w (fun b => g b = some (d, some c)) w' (fun b => g' b = some (d, some c))) (hb : bndM σ m) :
    CLe w w' (Shd C g') (cl g σ tm w d c m) (cl g' (listSet σ d ⟨a', i', n'⟩) tm' w' d c m) := by
  by_cases hm : m = .own
  · subst hm; exact .hold _ _ _ _ (hown rfl) (fun _ h => h)
  · have := (st.carry h σ.length (by omega)).cle c m hb (fun e => absurd e hm)
    cases m <;> first | exact absurd rfl hm | exact this
theorem mem_splice {α : Type} {cs ys : List α} {off : Nat} {y : α} (h : y ∈ splice cs off ys) : y ∈ cs ∨ y ∈ ys := by
  unfold splice at h
  rcases List.mem_append.1 h with h | h
  · rcases List.mem_append.1 h with h | h
    · exact .inl (List.mem_of_mem_take h)
    · exact .inr h
  · exact .inl (List.mem_of_mem_drop h)
theorem done_sound {w0 : World} (hexec : (execOp (Act.eval ⟨tm, ds⟩) o).run C.P w0 = .ok .skip w) (h : SRep C g σ tm w)
    (hr : (putA o.dst .top .fin).run σ K = some r) (hK : Good C K r ds next) : o.wp C.P ⟨tm, ds⟩ w0 next Q := by
  unfold Oper.wp
  rw [hexec]
  obtain ⟨σ', h1, h2, h3⟩ := put_sound (a0 := .top) (v := undef) (ds := ds) h (.refl h) (fun d _ _ σ' tm' hv => ⟨trivial, trivial⟩) hr
  exact hK _ _ _ _ h1 h3 h2
theorem isBox_setX (a : A) (v : TV) : (a.setX v).isBox = a.isBox := by cases a <;> rfl
theorem storeB_sound {T : Nat} {x y : Operand} {s off id : Nat} {t : Ty} {tv : TV} (hE : TabOK C.P E.tab) (ho : o.op = .store T x y) (hT : E.ty T = some t) (h : SRep C g σ tm w)
    (hv : Val C g σ tm w (Act.eval ⟨tm, ds⟩ y) tv) (ha : AV C g σ tm w (Act.eval ⟨tm, ds⟩ x) (.bptr s off id))
    (hr : (storeP E t (.bptr s off id) tv (putA o.dst .top .fin)).run σ K = some r) (hK : Good C K r ds next) : o.wp C.P ⟨tm, ds⟩ w next Q := by
  obtain ⟨e, he, het⟩ := Env.ty_some hT
  have hF := hE.find he
  unfold storeP at hr
  split at hr
  case h_1 => simp [Prog.run] at hr
  rename_i y' hy
  obtain ⟨ety, rfl⟩ := castO_some hy
  subst ety
  obtain ⟨cs, ev, hx, hn, hb⟩ := hv
  obtain ⟨g1, σ1, ms', h1, h2, h3, h4, h5, h6, h7, _⟩ := takeMarks_inv tv.ms [] rfl h (hx.place σ.length 0 hn) (fun _ hm => by cases hm) hn hb hr
  have hN : σ1.length = σ.length := h2.len
  simp only [List.nil_append] at h4 h5
  have ha1 : AV C g1 σ1 tm w (Act.eval ⟨tm, ds⟩ x) (.bptr s off id) := ⟨h2.rep _ (.bptr s off id) (fun _ => rfl) ha.2 ha.1, bndA_mono h2.gens ha.2⟩
  simp only [Prog.run] at h6
  split at h6
  case h_2 => simp [Prog.run] at h6
  rename_i hid
  split at h6
  case h_2 => simp [Prog.run] at h6
  rename_i tb hbox
  split at h6
  case h_2 => simp [Prog.run] at h6
  rename_i z hz
  obtain ⟨b, et, cs0, hpv, ht, hg, hh, hx0, hl⟩ := h1.boxed ha1 hid hbox
  simp only [Prog.run] at h6
  have hxl := RepX.length _ h5
  have hx0l := RepX.length _ hx0
  have hcells := mkV_cells hx
  have st : Step C g1 σ1 tm w (handTo g1 σ.length s off) tm (w.setRow b (splice cs0 off cs).toArray) s (.box ⟨tb.t, z, setMarks tb.ms off ms'⟩) (listGet σ1 s).id ((listGet σ1 s).gen + 1) := by
    refine ⟨by simp, fun b' _ hb' => setRow_other w b b' _ (fun e => hb' none (e ▸ hg)), fun b' _ hb' => handTo_none hb', fun b' _ s' c' hs' hm hb' => handTo_other hb' ?_, fun b' _ s' _ hb' => handTo_box hb',
      fun b' hb' => by rw [setRow_size]; exact h1.gok b' (handTo_le hb'), rfl, fun _ _ => rfl, by omega, .inl ⟨rfl, rfl⟩, ⟨rfl, rfl, rfl, by first | exact Nat.le_refl _ | exact Nat.le_succ _ | (simp; done) | (simp; omega)⟩, fun v hv _ => h1.pin s v hv (by rw [hbox]; rfl)⟩
    intro e
    rw [e, ← hN, listGet_out _ _ (Nat.le_refl _)] at hm
    cases hm
  have hsame : ∀ b', b' ≠ b → (w.setRow b (splice cs0 off cs).toArray).heap[b']? = w.heap[b']? := fun b' hb' => setRow_other w b b' _ hb'
  have hsh : Mono w (Shd C g1) (w.setRow b (splice cs0 off cs).toArray) (Shd C (handTo g1 σ.length s off)) :=
    ⟨by simp, fun b' _ hb' => ⟨hsame b' (fun e => by rw [e] at hb'; exact absurd hb'.2 (by rw [hg]; simp)), hb'.1, handTo_none hb'.2⟩⟩
  have hbnd := h1.bnd s hl
  rw [hbox] at hbnd
  have hold := RepX.trans (cl' := cl (handTo g1 σ.length s off) (listSet σ1 s ⟨.box ⟨tb.t, z, setMarks tb.ms off ms'⟩, (listGet σ1 s).id, (listGet σ1 s).gen + 1⟩) tm (w.setRow b (splice cs0 off cs).toArray) s) (c' := 0)
    hsh tb.t hx0 rfl fun i hi => Step.selfCle h1 st hl (0 + i) _ (fun hm => ⟨by simp, fun b' _ hb' => ⟨hsame b' (fun e => by rw [e, hg] at hb'; simp at hb'), handTo_other hb' (by omega)⟩⟩) (hbnd _ (mem_of_markAt _ _ (by omega)))
  have hnew := laid_cells (tm' := tm) (σ' := listSet σ1 s ⟨.box ⟨tb.t, z, setMarks tb.ms off ms'⟩, (listGet σ1 s).id, (listGet σ1 s).gen + 1⟩) (N := σ.length) (off := off) (d := s) h5 h4 hsh fun c =>
    ⟨by simp, fun b' _ hb' => ⟨hsame b' (fun e => by rw [e, hg] at hb'; simp at hb'), handTo_hand hb'⟩⟩
  obtain ⟨hsz, hfin⟩ := setAt_repX tb.t hold (by rw [Nat.zero_add]; exact hnew) hz
  rw [← setMarks_splice _ _ _ (by omega)] at hfin
  have hS := h1.replace st (fun _ => ⟨⟨b, et, splice cs0 off cs, ht, handTo_box hg, setRow_heap w b _ _ et _ hh, hfin⟩, fun m hm => by
    rw [show (⟨tb.t, z, setMarks tb.ms off ms'⟩ : TV).ms = setMarks tb.ms off ms' from rfl, setMarks_splice _ _ _ (by omega)] at hm
    rcases mem_splice hm with hm | hm
    · exact bndM_mono (fun s => (st.gens s).1) (hbnd m hm)
    · exact laid_bnd h4 m hm⟩)
  have hst := storeVar_run (w := w) (b := b) (off := off) (v := Act.eval ⟨tm, ds⟩ y) hF (by rw [ev]; exact hcells) (by rw [het]; exact hxl.1) (RepX.oneCell _ hx) hh (by omega)
  exact done_sound (by simp [execOp, ho, hpv, Instr.storeAt, Instr.sureAddr, hst]) hS h6 hK
theorem setMarkL_back : (ms : List Mk) → (c : Nat) → (m : Mk) → c < ms.length → setMarkL (setMarkL ms c m) c (markAt ms c) = ms
  | [], _, _, h => by simp at h
  | _ :: _, 0, _, _ => rfl
  | a :: l, c + 1, m, h => by simp only [setMarkL, markAt]; rw [setMarkL_back l c m (by simpa using h)]
theorem dataOf {s0 : Nat} {v : Value} {a : A} {tv : TV} (h : a.tv = some tv) (ha : SlotRep C g σ tm w s0 v a) : ∃ cs : List Value, RepX C.P w (Shd C g) (cl g σ tm w s0) tv.t 0 cs tv.x tv.ms ∧ a.mark = markAt tv.ms ∧
    ((v = mkV tv.t cs ∧ a = .val tv) ∨ ∃ b e, v = .pointer (some ⟨b, 0, none⟩) ∧ g b = some (s0, none) ∧ w.heap[b]? = some (.cells cs.toArray e (0, 0)) ∧ a = .box tv) := by
  cases a with
  | val u => injection h with h; subst h; obtain ⟨cs, e, hr⟩ := ha; exact ⟨cs, hr, rfl, .inl ⟨e, rfl⟩⟩
  | box u => injection h with h; subst h; obtain ⟨b, e, cs, hv, hg, hh, hr⟩ := ha; exact ⟨cs, hr, rfl, .inr ⟨b, e, hv, hg, hh, rfl⟩⟩
  | _ => cases h
theorem storeE_sound {T : Nat} {x y : Operand} {s c gn i off : Nat} {te : Ty} {xe : te.den} {t : Ty} {tv : TV} (hE : TabOK C.P E.tab) (ho : o.op = .store T x y) (hT : E.ty T = some t) (h : SRep C g σ tm w)
    (hv : Val C g σ tm w (Act.eval ⟨tm, ds⟩ y) tv) (ha : AV C g σ tm w (Act.eval ⟨tm, ds⟩ x) (.eptr s c gn i te xe off))
    (hr : (storeP E t (.eptr s c gn i te xe off) tv (putA o.dst .top .fin)).run σ K = some r) (hK : Good C K r ds next) : o.wp C.P ⟨tm, ds⟩ w next Q := by
  obtain ⟨e, he, het⟩ := Env.ty_some hT
  have hF := hE.find he
  unfold storeP at hr
  split at hr
  case h_1 => simp [Prog.run] at hr
  rename_i y' hy
  obtain ⟨ety, rfl⟩ := castO_some hy
  subst ety
  obtain ⟨g1, σ1, ms', cs, h1, h2, ev, hcells, hrc, h6, _⟩ := share_inv h hv hr
  have ha1 : AV C g1 σ1 tm w (Act.eval ⟨tm, ds⟩ x) (.eptr s c gn i te xe off) := ⟨h2.rep _ (.eptr s c gn i te xe off) (fun _ => rfl) ha.2 ha.1, bndA_mono h2.gens ha.2⟩
  obtain ⟨hok, h6⟩ := useMarks_inv _ h6
  have hval : validB σ1 s c gn = true := hok _ (List.mem_singleton.2 rfl)
  split at h6
  case h_2 => simp [Prog.run] at h6
  rename_i e1 he1
  simp only [Prog.run] at h6
  split at h6
  case h_2 => simp [Prog.run] at h6
  rename_i wv hwv
  split at h6
  case h_2 => simp [Prog.run] at h6
  rename_i xs hxs
  split at h6
  case h_2 => simp [Prog.run] at h6
  rename_i z hz
  simp only [Prog.run] at h6
  obtain ⟨ad, len, cap, hp, hsp, hi, hpv, hbl, hg, cs0, hcl, hcc, hrep⟩ := ha1.1 hval
  have hl := validB_lt hval
  have hmark : ((listGet σ1 s).a.mark c).isOwn = true := by simp only [validB, Bool.and_eq_true] at hval; exact hval.2
  obtain ⟨wcs, hx0, hmk, hform⟩ := dataOf hwv (h1.slots s hl)
  have hx0l := RepX.length _ hx0
  obtain ⟨hsz, hsub⟩ := getAt_repX wv.t hx0 hxs
  simp only [Ty.size] at hsz hsub
  have hcell : wcs[c]? = some (.slice (some ad) len cap) := by
    rcases hform with ⟨hf, hfa⟩ | ⟨b, e', hf, hgb, hh, hfa⟩
    · unfold placeV at hp
      rw [hfa] at hp
      simp only [hf, mkV_cells hx0] at hp
      simpa using hp
    · unfold placeV at hp
      rw [hfa] at hp
      simp only [hf, Nat.zero_add, cell_of_block hh] at hp
      exact hp
  have hownm : markAt wv.ms c = .own := by
    rw [hmk] at hmark
    cases hm : markAt wv.ms c <;> rw [hm] at hmark <;> first | rfl | cases hmark
  obtain ⟨a0, len0, cap0, m0, hc0, hm0, hsays⟩ := hsub
  have e0 : Value.slice a0 len0 cap0 = .slice (some ad) len cap := by
    have := congrArg (fun l => l[0]?) hc0
    simp only [List.getElem?_take, List.getElem?_drop] at this
    simpa [hcell] using this.symm
  injection e0 with e1' e2' e3'
  subst e1'; subst e2'; subst e3'
  have em : m0 = .own := by
    have := congrArg (fun l => markAt l 0) hm0
    simp only [markAt_drop_take, Nat.add_zero, Nat.zero_lt_one, if_true] at this
    rw [hownm] at this
    exact this.symm
  subst em
  simp only [clm, Claim.says, Nat.zero_add] at hsays
  obtain ⟨⟨hlen, hlc, hrows⟩, _⟩ := hsays
  rcases hrows with hrows | ⟨ad', hsome, hsp', _, ⟨vs, et, hblk, hfit⟩, hrows⟩
  · omega
  injection hsome with hsome
  subst hsome
  obtain ⟨hso, hnewe⟩ := setAt_repC hrep hrc he1
  have hcsl := RepC.length _ hrc
  have hin : ad.off + i * te.size + off + cs.length ≤ vs.toList.length := by
    have : (i + 1) * te.size ≤ cap0 * te.size := Nat.mul_le_mul_right _ (by omega)
    rw [Nat.add_mul] at this
    simp only [Array.length_toList]; omega
  have hvs : vs = vs.toList.toArray := by simp
  rw [hvs] at hblk
  have st : Step C g1 σ1 tm w g1 tm (w.setRow ad.block (splice vs.toList (ad.off + i * te.size + off) cs).toArray) s ((listGet σ1 s).a.setX { wv with x := z }) (listGet σ1 s).id ((listGet σ1 s).gen + 1) := by
    refine ⟨by simp, fun b' _ hb' => setRow_other w ad.block b' _ (fun e => hb' (some c) (e ▸ hg)), fun b' _ hb' => hb', fun b' _ s' c' hs' hm hb' => hb', fun b' _ s' _ hb' => hb',
      fun b' hb' => by rw [setRow_size]; exact h1.gok b' hb', rfl, fun _ _ => rfl, by omega, .inl ⟨rfl, rfl⟩, ⟨rfl, rfl, rfl, by first | exact Nat.le_refl _ | exact Nat.le_succ _ | (simp; done) | (simp; omega)⟩, fun v hv hb => h1.pin s v hv (by rw [isBox_setX] at hb; exact hb)⟩
  have hsame : ∀ b', b' ≠ ad.block → (w.setRow ad.block (splice vs.toList (ad.off + i * te.size + off) cs).toArray).heap[b']? = w.heap[b']? := fun b' hb' => setRow_other w ad.block b' _ hb'
  have hsh : Mono w (Shd C g1) (w.setRow ad.block (splice vs.toList (ad.off + i * te.size + off) cs).toArray) (Shd C g1) :=
    ⟨by simp, fun b' _ hb' => ⟨hsame b' (fun e => by rw [e] at hb'; exact absurd hb'.2 (by rw [hg]; simp)), hb'⟩⟩
  have hbnd : ∀ m, m ∈ wv.ms → bndM σ1 m := by
    have := h1.bnd s hl
    rcases hform with ⟨_, hfa⟩ | ⟨_, _, _, _, _, hfa⟩ <;> (rw [hfa] at this; exact this)
  have hold := RepX.trans (ms' := setMarkL wv.ms c .dead) (cl' := cl g1 (listSet σ1 s ⟨(listGet σ1 s).a.setX { wv with x := z }, (listGet σ1 s).id, (listGet σ1 s).gen + 1⟩) tm (w.setRow ad.block (splice vs.toList (ad.off + i * te.size + off) cs).toArray) s) (c' := 0)
    hsh wv.t hx0 (setMarkL_length _ _ _) fun j hj => by
      rw [markAt_setMarkL _ _ _ _ (by omega)]
      split
      · exact .skip _
      · rename_i hjc
        exact Step.selfCle h1 st hl (0 + j) _ (fun hm => ⟨by simp, fun b' _ hb' => ⟨hsame b' (fun e => by rw [e, hg] at hb'; simp at hb'; omega), hb'⟩⟩) (hbnd _ (mem_of_markAt _ _ (by omega)))
  have hnewc : RepX C.P (w.setRow ad.block (splice vs.toList (ad.off + i * te.size + off) cs).toArray) (Shd C g1)
      (cl g1 (listSet σ1 s ⟨(listGet σ1 s).a.setX { wv with x := z }, (listGet σ1 s).id, (listGet σ1 s).gen + 1⟩) tm (w.setRow ad.block (splice vs.toList (ad.off + i * te.size + off) cs).toArray) s) (.sl te) (0 + c)
      [.slice (some ad) len0 cap0] (xs.set i e1) [.own] := by
    refine ⟨_, _, _, _, rfl, rfl, ⟨by rw [List.length_set]; exact hlen, hlc, .inr ⟨ad, rfl, hsp, by rw [Nat.zero_add]; exact hg, ⟨_, et, setRow_heap w _ _ _ et _ hblk, ?_⟩, fun j hj => ?_⟩⟩, trivial⟩
    · rw [List.size_toArray, splice_length _ _ _ hin]; simpa using hfit
    · rw [List.length_set] at hj
      have hcellj : ∀ k, k < te.size → (w.setRow ad.block (splice vs.toList (ad.off + i * te.size + off) cs).toArray).cell? ⟨ad.block, ad.off + j * te.size + k, none⟩ =
          if ad.off + j * te.size + k < ad.off + i * te.size + off then vs.toList[ad.off + j * te.size + k]? else
          if ad.off + j * te.size + k < ad.off + i * te.size + off + cs.length then cs[ad.off + j * te.size + k - (ad.off + i * te.size + off)]? else vs.toList[ad.off + j * te.size + k]? := by
        intro k hk
        rw [cell_setRow_same w _ _ _ _ et _ hblk, List.getElem?_toArray, getElem?_splice _ _ _ _ hin]
      have hold' : ∀ q, w.cell? ⟨ad.block, q, none⟩ = vs.toList[q]? := fun q => cell_of_block hblk
      by_cases hji : j = i
      · subst hji
        refine ⟨splice cs0 off cs, by rw [splice_length _ _ _ (by omega)]; exact hcl, fun k hk => ?_, ?_⟩
        · rw [hcellj k hk, getElem?_splice _ _ _ _ (by omega)]
          have := hcc k hk
          rw [hold'] at this
          by_cases q1 : k < off
          · rw [if_pos q1, if_pos (by omega)]; exact this
          · rw [if_neg q1, if_neg (by omega)]
            by_cases q2 : k < off + cs.length
            · rw [if_pos q2, if_pos (by omega)]; congr 1; omega
            · rw [if_neg q2, if_neg (by omega)]; exact this
        · rw [List.getElem_set_self]
          exact RepC.mono te hsh hnewe
      · obtain ⟨ecs, hel, hec, her⟩ := hrows j hj
        refine ⟨ecs, hel, fun k hk => ?_, ?_⟩
        · rw [hcellj k hk]
          have := hec k hk
          rw [hold'] at this
          rcases Nat.lt_or_gt_of_ne hji with q | q
          · have : (j + 1) * te.size ≤ i * te.size := Nat.mul_le_mul_right _ q
            rw [Nat.add_mul] at this
            rw [if_pos (by omega)]; assumption
          · have : (i + 1) * te.size ≤ j * te.size := Nat.mul_le_mul_right _ q
            rw [Nat.add_mul] at this
            rw [if_neg (by omega), if_neg (by omega)]; assumption
        · rw [List.getElem_set_ne (by omega)]
          exact RepC.mono te hsh her
  obtain ⟨_, hfin⟩ := setAt_repX wv.t hold hnewc hz
  rw [splice_id _ _ _ hcell, ← setMarkL_splice _ _ _ (by rw [setMarkL_length]; omega)] at hfin
  have hms : setMarkL (setMarkL wv.ms c .dead) c .own = wv.ms := by
    have := setMarkL_back wv.ms c .dead (by omega)
    rwa [hownm] at this
  rw [hms] at hfin
  have hS := h1.replace st (fun _ => by
    have hbn := fun m hm => bndM_mono (fun s => (st.gens s).1) (hbnd m hm)
    rcases hform with ⟨hf, hfa⟩ | ⟨b, e', hf, hgb, hh, hfa⟩
    · rw [hfa] at hfin hbn ⊢
      exact ⟨⟨wcs, hf, hfin⟩, hbn⟩
    · rw [hfa] at hfin hbn ⊢
      exact ⟨⟨b, e', wcs, hf, hgb, (hsame b (fun e => by rw [e, hg] at hgb; simp at hgb)).trans hh, hfin⟩, hbn⟩)
  have hst := storeVar_run (w := w) (b := ad.block) (off := ad.off + i * te.size + off) (v := Act.eval ⟨tm, ds⟩ y) hF hcells (by rw [het]; exact hcsl) (RepC.oneCell _ hrc) hblk hin
  exact done_sound (by simp [execOp, ho, hpv, Instr.storeAt, Instr.sureAddr, hst]) hS h6 hK
theorem op_store {T : Nat} {x y : Operand} (hE : TabOK C.P E.tab) (ho : o.op = .store T x y) (h : SRep C g σ tm w) (hr : (opP E o).run σ K = some r) (hK : Good C K r ds next) :
    o.wp C.P ⟨tm, ds⟩ w next Q := by
  unfold opP at hr
  rw [ho] at hr
  simp only at hr
  split at hr
  case h_2 => simp [Prog.run] at hr
  rename_i t hT
  obtain ⟨tv, hv, _, hr⟩ := rdV_inv (ds := ds) h hr
  obtain ⟨a, ha, hr, hnv, hnt⟩ := rdP_inv (ds := ds) h hr
  cases a with
  | bptr s off id => exact storeB_sound hE ho hT h hv ha hr hK
  | eptr s c gn i te xe off => exact storeE_sound hE ho hT h hv ha hr hK
  | _ => unfold storeP at hr; split at hr <;> simp [Prog.run] at hr
end
end Go.GD
end

section
namespace Go.GD
open Go
def Segs {α : Type} (size : Nat) (R : List Value → α → Prop) (cs : List Value) (xs : List α) : Prop :=
  cs.length = xs.length * size ∧ ∀ i (h : i < xs.length), R ((cs.drop (i * size)).take size) xs[i]
theorem Segs.append {α : Type} {size : Nat} {R : List Value → α → Prop} {cs ds : List Value} {xs ys : List α} (h : Segs size R cs xs) (h' : Segs size R ds ys) : Segs size R (cs ++ ds) (xs ++ ys) := by
  refine ⟨by rw [List.length_append, List.length_append, h.1, h'.1, Nat.add_mul], fun i hi => ?_⟩
  rcases Nat.lt_or_ge i xs.length with hx | hx
  · rw [List.getElem_append_left hx]
    have : (i + 1) * size ≤ cs.length := by rw [h.1]; exact Nat.mul_le_mul_right _ hx
    rw [Nat.add_mul] at this
    rw [List.drop_append_of_le_length (by omega), List.take_append_of_le_length (by rw [List.length_drop]; omega)]
    exact h.2 i hx
  · rw [List.getElem_append_right hx]
    have : xs.length * size ≤ i * size := Nat.mul_le_mul_right _ hx
    rw [← h.1] at this
    have e : i * size = cs.length + (i - xs.length) * size := by
      rw [h.1, ← Nat.add_mul]; congr 1; omega
    rw [e, List.drop_length_add_append]
    exact h'.2 _ _
theorem Segs.mono {α : Type} {size : Nat} {R R' : List Value → α → Prop} {cs : List Value} {xs : List α} (hR : ∀ cs x, R cs x → R' cs x) (h : Segs size R cs xs) : Segs size R' cs xs :=
  ⟨h.1, fun i hi => hR _ _ (h.2 i hi)⟩
theorem Segs.rows {α : Type} {size : Nat} {R : List Value → α → Prop} {cs : List Value} {xs : List α} {w : World} {ad : Addr} (h : Segs size R cs xs) (hc : ∀ q, q < cs.length → w.cell? ⟨ad.block, ad.off + q, none⟩ = cs[q]?) :
    Rows size w R ad xs := by
  intro i hi
  have : (i + 1) * size ≤ cs.length := by rw [h.1]; exact Nat.mul_le_mul_right _ hi
  rw [Nat.add_mul] at this
  refine ⟨(cs.drop (i * size)).take size, by rw [List.length_take, List.length_drop]; omega, fun j hj => ?_, h.2 i hi⟩
  rw [getElem?_drop_take _ _ _ _ hj, Nat.add_assoc]
  exact hc _ (by omega)
theorem Rows.segs {α : Type} {size : Nat} {R : List Value → α → Prop} {xs : List α} {w : World} {ad : Addr} (h : Rows size w R ad xs) (hs : size ≠ 0) :
    ∃ cs, Segs size R cs xs ∧ ∀ q, q < cs.length → w.cell? ⟨ad.block, ad.off + q, none⟩ = cs[q]? := by
  have hcell : ∀ q, q < xs.length * size → ∃ v, w.cell? ⟨ad.block, ad.off + q, none⟩ = some v := by
    intro q hq
    have hi : q / size < xs.length := (Nat.div_lt_iff_lt_mul (Nat.pos_of_ne_zero hs)).2 hq
    obtain ⟨cs, h1, h2, _⟩ := h _ hi
    have hm := Nat.mod_lt q (Nat.pos_of_ne_zero hs)
    have := h2 (q % size) hm
    rw [Nat.add_assoc, Nat.div_add_mod' q size] at this
    rw [this, List.getElem?_eq_getElem (by omega)]
    exact ⟨_, rfl⟩
  refine ⟨(List.range (xs.length * size)).map fun q => (w.cell? ⟨ad.block, ad.off + q, none⟩).getD undef, ⟨by simp, fun i hi => ?_⟩, fun q hq => ?_⟩
  · obtain ⟨cs, h1, h2, h3⟩ := h i hi
    have : (i + 1) * size ≤ xs.length * size := Nat.mul_le_mul_right _ hi
    rw [Nat.add_mul] at this
    have e : ((((List.range (xs.length * size)).map fun q => (w.cell? ⟨ad.block, ad.off + q, none⟩).getD undef).drop (i * size)).take size) = cs := by
      apply List.ext_getElem?
      intro j
      rcases Nat.lt_or_ge j size with hj | hj
      · rw [getElem?_drop_take _ _ _ _ hj, List.getElem?_map, List.getElem?_range (by omega)]
        have := h2 j hj
        rw [Nat.add_assoc] at this
        simp only [Option.map_some, this]
        rw [List.getElem?_eq_getElem (by omega)]; rfl
      · rw [List.getElem?_eq_none (by rw [List.length_take]; omega), List.getElem?_eq_none (by omega)]
    rw [e]; exact h3
  · simp only [List.length_map, List.length_range] at hq
    obtain ⟨v, hv⟩ := hcell q hq
    rw [List.getElem?_map, List.getElem?_range hq]
    simp [hv]
theorem Segs.oneCell {P : Program} {t : Ty} {w : World} {Sh : Nat → Prop} {cs : List Value} {xs : List t.den} (h : Segs t.size (RepC P t w Sh) cs xs) (hs : t.size ≠ 0) : ∀ v, v ∈ cs → v.oneCell' = true := by
  intro v hv
  obtain ⟨q, hq, e⟩ := List.mem_iff_getElem.1 hv
  have hq' := hq
  rw [h.1] at hq'
  have hi : q / t.size < xs.length := (Nat.div_lt_iff_lt_mul (Nat.pos_of_ne_zero hs)).2 hq'
  have hm := Nat.mod_lt q (Nat.pos_of_ne_zero hs)
  refine RepC.oneCell t (h.2 _ hi) v ?_
  have : ((cs.drop (q / t.size * t.size)).take t.size)[q % t.size]? = some v := by
    rw [getElem?_drop_take _ _ _ _ hm, Nat.div_add_mod' q t.size, List.getElem?_eq_getElem hq, e]
  exact List.mem_of_getElem? this
section
variable {C : Ctx} {g g' : Own} {σ : St} {tm tm' : Array Value} {w w' : World} {E : Env} {o : Oper} {ρ : Type} {K : St → Option ρ} {r : ρ} {ds : List Deferred}
  {next : Act → World → Prop} {Q : Exit → Act → World → Prop}
theorem says_rows {m : Mk} {t : Ty} {a : Option Addr} {len cap : Nat} {xs : List t.den} (hok : okM σ m) (hno : m ≠ .own)
    (hs : (cl g σ tm w 0 0 m).says t.size w (Shd C g) (RepC C.P t w (Shd C g)) a len cap xs) : xs.length = len ∧ len ≤ cap ∧ (len = 0 ∨ ∃ ad : Addr, a = some ad ∧ ad.spot = none ∧ Rows t.size w (RepC C.P t w (Shd C g)) ad xs) := by
  have hold : ∀ {B : Nat → Prop}, HoldS t.size w B (RepC C.P t w (Shd C g)) a len cap xs → xs.length = len ∧ len ≤ cap ∧ (len = 0 ∨ ∃ ad : Addr, a = some ad ∧ ad.spot = none ∧ Rows t.size w (RepC C.P t w (Shd C g)) ad xs) := by
    intro B hh
    refine ⟨hh.1, hh.2.1, hh.2.2.imp (fun e => by have := hh.2.1; omega) ?_⟩
    rintro ⟨ad, h1, h2, _, _, h3⟩
    exact ⟨ad, h1, h2, h3⟩
  have share : ∀ {B : Nat → Prop}, ShareS t.size w B (RepC C.P t w (Shd C g)) a len cap xs → xs.length = len ∧ len ≤ cap ∧ (len = 0 ∨ ∃ ad : Addr, a = some ad ∧ ad.spot = none ∧ Rows t.size w (RepC C.P t w (Shd C g)) ad xs) := by
    intro B hh
    refine ⟨hh.1, hh.2.1, hh.2.2.imp (fun e => e) ?_⟩
    rintro ⟨ad, h1, h2, _, _, h3⟩
    exact ⟨ad, h1, h2, h3⟩
  cases m with
  | shr => exact share hs.1
  | nn => exact share hs.1
  | nil => obtain ⟨_, rfl, rfl, rfl⟩ := hs; exact ⟨rfl, Nat.le_refl _, .inl rfl⟩
  | own => exact absurd rfl hno
  | dead => exact hok.elim
  | ref s' c' g' =>
    simp only [clm, (show validB σ s' c' g' = true from hok), cond] at hs
    exact hold hs.1
  | sub s' c' g' =>
    simp only [clm, (show validB σ s' c' g' = true from hok), cond] at hs
    exact hold hs.1
  | bor q =>
    simp only [clm, (show borOk σ q = true from hok), cond] at hs
    exact hold hs.1
theorem src_of_rows {P : Program} {T e' : TypeId} {t : Ty} {a : Option Addr} {len cap : Nat} {xs : List t.den} {Sh : Nat → Prop} (hu : P.underlying T = some (.slice e')) (hs : t.size ≠ 0)
    (h : xs.length = len ∧ len ≤ cap ∧ (len = 0 ∨ ∃ ad : Addr, a = some ad ∧ ad.spot = none ∧ Rows t.size w (RepC P t w Sh) ad xs)) :
    ∃ news, Src P t.size T (.slice a len cap) len news w ∧ Segs t.size (RepC P t w Sh) news xs ∧ (Builtin.firstCells t.size len (.slice a len cap)).run P w.drew = .ok news.toArray w.drew := by
  obtain ⟨h1, h2, h3⟩ := h
  rcases h3 with h3 | ⟨ad, rfl, hsp, hr⟩
  · subst h3
    have hx : xs = [] := List.eq_nil_of_length_eq_zero h1
    subst hx
    refine ⟨[], ?_, ⟨by simp, fun i hi => by simp at hi⟩, ?_⟩
    · cases a with
      | none => exact Src.ofNil w hu cap
      | some ad => exact Src.ofSlice w hu ad 0 cap [] (by simp) (by simp) (by simp)
    · cases a with
      | none => exact run_firstCells_none w.drew _ _ _ _
      | some ad => exact run_firstCells_some w.drew _ _ ad 0 cap [] (by simp) (by simp)
  · obtain ⟨cs, hsg, hc⟩ := hr.segs hs
    have hcl : ∀ j u, cs[j]? = some u → w.cell? (ad.add j) = some u := fun j u hj => by
      have hlt : j < cs.length := by
        rcases Nat.lt_or_ge j cs.length with h | h
        · exact h
        · rw [List.getElem?_eq_none h] at hj; cases hj
      rw [addr_add hsp, hc j hlt, hj]
    refine ⟨cs, Src.ofSlice w hu ad len cap cs (by rw [hsg.1, h1]) hcl (hsg.oneCell hs), hsg, ?_⟩
    exact run_firstCells_some w.drew _ _ ad len cap cs (by rw [hsg.1, h1]) (by simpa using hcl)
theorem run_append_at {P : Program} (t tx ty e : TypeId) (size : Nat) (ht : P.underlying t = some (.slice e)) {i : TypeInfo} (hi : P.info? e = some i) (his : i.size = size) (b off sLen sCap : Nat) (x : Value) (n : Nat) (news : List Value) (hs : Src P size tx x n news w)
    (hroom : sLen + n ≤ sCap) {vs : List Value} {et : TypeId} (hb : w.heap[b]? = some (.cells vs.toArray et (0, 0))) (hfit : off + sLen * size + news.length ≤ vs.length) :
    (Builtin.append_ #[t, tx] ty #[.slice (some ⟨b, off, none⟩) sLen sCap, x]).run P w = .ok (.slice (some ⟨b, off, none⟩) (sLen + n) sCap) (w.setRow b (splice vs (off + sLen * size) news).toArray) := by
  subst his
  have hst := run_storeCells_at P b (off + sLen * i.size) et news 0 vs.toArray w hb (by simpa using hfit) hs.one
  simp only [Nat.add_zero] at hst
  have e : (splice vs (off + sLen * i.size) news).toArray = (vs.toArray.toList.take (off + sLen * i.size) ++ news ++ vs.toArray.toList.drop (off + sLen * i.size + news.length)).toArray := by simp [splice]
  rw [e]
  rcases hs.kind with ⟨e', hk⟩ | hk <;> simp [Builtin.append_, run_underlying ht, run_underlying hk, sizeOf, typeInfo, hi, hs.len, hroom, hs.cells, Addr.add_lit, hst]
theorem run_append_none {P : Program} (t tx ty e : TypeId) (size : Nat) (ht : P.underlying t = some (.slice e)) {i : TypeInfo} (hi : P.info? e = some i) (his : i.size = size) (sLen sCap : Nat) (x : Value) (hs : Src P size tx x 0 [] w)
    (hroom : sLen ≤ sCap) (a : Option Addr) :
    (Builtin.append_ #[t, tx] ty #[.slice a sLen sCap, x]).run P w = .ok (.slice a sLen sCap) w := by
  subst his
  cases a with
  | none => rcases hs.kind with ⟨e', hk⟩ | hk <;> simp [Builtin.append_, run_underlying ht, run_underlying hk, sizeOf, typeInfo, hi, hs.len, hroom, hs.cells]
  | some ad => rcases hs.kind with ⟨e', hk⟩ | hk <;> simp [Builtin.append_, run_underlying ht, run_underlying hk, sizeOf, typeInfo, hi, hs.len, hroom, hs.cells, storeCells]
theorem hand_sound {a0 : A} {v : Value} {w0 : World} (h : SRep C g σ tm w) (hs : w'.heap.size = w.heap.size) (hio : SameIO w w')
    (hH : ∀ b, b < w.heap.size → (∀ c, g b ≠ some (σ.length, some c)) → w'.heap[b]? = w.heap[b]?) (hexec : (execOp (Act.eval ⟨tm, ds⟩) o).run C.P w0 = .ok (.value v) w')
    (new : ∀ d, o.dst = some d → d < σ.length → ∀ σ' tm', SlotRep C (handTo g σ.length d 0) σ' tm' w' d v a0 ∧ bndA σ' a0)
    (hr : (putA o.dst a0 .fin).run σ K = some r) (hK : Good C K r ds next) (hbox : a0.isBox = false := by rfl) : o.wp C.P ⟨tm, ds⟩ w0 next Q := by
  unfold Oper.wp
  rw [hexec, Oper.upon_value]
  cases hd : o.dst with
  | none =>
    rw [hd] at hr
    have st : Step C g σ tm w g tm w' σ.length .top 1 1 := by
      refine ⟨by omega, fun b hb hk => hH b hb (fun c => hk (some c)), fun _ _ h => h, fun _ _ _ _ _ _ h => h, fun _ _ _ _ h => h, fun b hb => by rw [hs]; exact h.gok b hb, rfl, fun _ _ => rfl,
        by rw [listGet_out _ _ (Nat.le_refl _)]; exact Nat.one_pos, .inr (by rw [listGet_out _ _ (Nat.le_refl _)]; exact Nat.one_pos), hio, fun _ _ hb => by cases hb⟩
    have := h.replace st (fun hl => absurd hl (Nat.lt_irrefl _))
    rw [listSet_out _ _ _ (Nat.le_refl _)] at this
    exact hK _ _ _ _ this rfl hr
  | some d =>
    rw [hd] at hr
    simp only [putA, Prog.run] at hr
    have h' : SRep C (handTo g σ.length d 0) σ tm w := h.grow (Grow.handTo h d 0)
    have st : Step C (handTo g σ.length d 0) σ tm w (handTo g σ.length d 0) (tm.setIfInBounds d v) w' d a0 ((listGet σ d).id + 1) ((listGet σ d).gen + 1) := by
      refine ⟨by omega, fun b hb hk => hH b hb (fun c hc => hk _ (handTo_hand hc)), fun _ _ h => h, fun _ _ _ _ _ _ h => h, fun _ _ _ _ h => h, fun b hb => by rw [hs]; exact h'.gok b hb, by simp, fun s hs => getD_set_other hs,
        by omega, .inr (by omega), hio, fun _ _ hb => by rw [hbox] at hb; cases hb⟩
    have := h'.replace st (fun hl => by rw [getD_set_same (by rw [h.len]; exact hl)]; exact new d hd hl _ _)
    exact hK _ _ _ _ this rfl hr
theorem addr_eq {ad : Addr} (h : ad.spot = none) : ad = ⟨ad.block, ad.off, none⟩ := by
  cases ad with
  | mk b o s => simp only at h; subst h; rfl
theorem op_append {c : Call} (hE : TabOK C.P E.tab) (ho : o.op = .call c) (hc : c.callee = .builtin .append) (h : SRep C g σ tm w)
    (hr : (opP E o).run σ K = some r) (hK : Good C K r ds next) : o.wp C.P ⟨tm, ds⟩ w next Q := by
  unfold opP at hr
  rw [ho] at hr
  simp only [hc] at hr
  split at hr
  case h_2 => simp [Prog.run] at hr
  rename_i x y T T' ha ht
  split at hr
  case isFalse => simp [Prog.run] at hr
  rename_i hTT
  have hTT := Nat.eq_of_beq_eq_true hTT
  subst hTT
  unfold appendP at hr
  split at hr
  case h_2 => simp [Prog.run] at hr
  rename_i e he
  split at hr
  case h_2 => simp [Prog.run] at hr
  rename_i el hel
  split at hr
  case h_2 => simp [Prog.run] at hr
  rename_i z hty hz
  have hty := Ty.eq_of_beq hty
  obtain ⟨hu, te, hte, hteq, hsz0⟩ := (hE.find he).slice hty
  have hFel := hE.find hel
  obtain ⟨tv, hv, _, hr⟩ := rdV_inv (ds := ds) h hr
  split at hr
  case h_2 => simp [Prog.run] at hr
  rename_i xs hxs
  obtain ⟨ys, my, a2, len2, cap2, hy, hok2, hno2, _, hs2, hq⟩ := rdS_inv (ds := ds) h hr
  clear hr
  simp only [Prog.run] at hq
  cases hbnds : (Nat.ble ((xs.length + ys.length) * el.bytes) appendLimit && Nat.ble (xs.length + ys.length) 9223372036854775807) with
  | false => rw [hbnds] at hq; simp at hq
  | true =>
  rw [hbnds] at hq
  simp only [cond] at hq
  simp only [Bool.and_eq_true] at hbnds
  have hb1 : (xs.length + ys.length) * el.bytes ≤ 140737488355328 := Nat.le_of_ble_eq_true hbnds.1
  have hb2 : xs.length + ys.length ≤ 9223372036854775807 := Nat.le_of_ble_eq_true hbnds.2
  obtain ⟨ety, exs⟩ := castO_some hxs
  obtain ⟨t0, xs, ms0⟩ := tv
  simp only at ety exs hq
  subst ety
  simp only at exs
  subst exs
  obtain ⟨cs, ev, hx, hn, hb⟩ := hv
  obtain ⟨g1, σ1, ms', h1, h2, h3, h4, h5, h6, h7, _⟩ := takeMarks_inv ms0 [] rfl h (hx.place σ.length 0 hn) (fun _ hm => by cases hm) hn hb hq
  have hN : σ1.length = σ.length := h2.len
  simp only [List.nil_append] at h4 h5
  split at h6
  case h_2 => simp [Prog.run] at h6
  obtain ⟨a1, len1, cap1, m1, ec, em, hs1⟩ := h5
  simp only [List.cons.injEq, and_true] at em
  subst em
  simp only [clm, Claim.says] at hs1
  obtain ⟨⟨hl1, hlc1, hblk⟩, _⟩ := hs1
  obtain ⟨news, hsrc, hsegs, hfc⟩ := src_of_rows (P := C.P) (T := T) hu hsz0 (says_rows hok2 hno2 hs2)
  have hsegs1 : Segs el.ty.size (RepC C.P el.ty w (Shd C g1)) news ys := hsegs.mono fun _ _ => RepC.mono el.ty h2.sh
  have hl2 : ys.length = len2 := (says_rows hok2 hno2 hs2).1
  have hargs : c.args = #[x, y] := by rw [← Array.toArray_toList (xs := c.args), ha]
  have htys : c.argTypes = #[T, T] := by rw [← Array.toArray_toList (xs := c.argTypes), ht]
  have hxv : Act.eval ⟨tm, ds⟩ x = .slice a1 len1 cap1 := by rw [ev, ec]; rfl
  have hexec : ∀ {v : Value} {w' : World}, (Builtin.append_ #[T, T] o.type #[.slice a1 len1 cap1, .slice a2 len2 cap2]).run C.P w = .ok v w' → (execOp (Act.eval ⟨tm, ds⟩) o).run C.P w = .ok (.value v) w' := by
    intro v w' hap
    simp [execOp, ho, resolve, hc, hargs, htys, invoke, builtin, hxv, hy, hap]
  obtain ⟨i, hi, his, hib, zv, hzv, _⟩ := hFel.info
  by_cases hroom : len1 + len2 ≤ cap1
  · rcases hblk with hcap | ⟨ad, hsome, hsp, hown, ⟨vs, et, hblk, hfit⟩, hrows⟩
    · -- nothing at all
      have h20 : len2 = 0 := by omega
      have h10 : len1 = 0 := by omega
      subst h20
      have hy0 : ys = [] := List.eq_nil_of_length_eq_zero hl2
      have hxnil : xs = [] := List.eq_nil_of_length_eq_zero (by omega)
      have hnews : news = [] := List.eq_nil_of_length_eq_zero (by rw [hsegs.1, hy0]; simp)
      rw [hnews] at hsrc
      have hap := run_append_none (w := w) T T o.type e.elem el.ty.size hu hi his len1 cap1 (.slice a2 0 cap2) hsrc hlc1 a1
      refine hand_sound (a0 := .val ⟨.sl el.ty, xs ++ ys, [.own]⟩) h1 rfl (.refl w) (fun _ _ _ => rfl) (hexec hap) (fun d hd hl σ' tm' => ⟨⟨_, rfl, ⟨_, _, _, _, rfl, rfl, ⟨by rw [hxnil, hy0]; simp [h10], hlc1, .inl hcap⟩, trivial⟩⟩, fun mm hm => ?_⟩) h6 hK
      simp only [List.mem_singleton] at hm; subst hm; trivial
    · subst hsome
      have hvs : vs = vs.toList.toArray := by simp
      rw [hvs] at hblk
      have had : ad = ⟨ad.block, ad.off, none⟩ := addr_eq hsp
      have hnl : news.length = len2 * el.ty.size := by rw [hsegs.1, hl2]
      have hmul : (len1 + len2) * el.ty.size ≤ cap1 * el.ty.size := Nat.mul_le_mul_right _ hroom
      rw [Nat.add_mul] at hmul
      have hin : ad.off + len1 * el.ty.size + news.length ≤ vs.toList.length := by simp only [Array.length_toList]; omega
      have hap := run_append_at (w := w) T T o.type e.elem el.ty.size hu hi his ad.block ad.off len1 cap1 (.slice a2 len2 cap2) len2 news hsrc hroom hblk hin
      rw [← had] at hap
      obtain ⟨olds, hos, hoc⟩ := hrows.segs hsz0
      have hol : olds.length = len1 * el.ty.size := by rw [hos.1, hl1]
      have hsame : ∀ b', b' ≠ ad.block → (w.setRow ad.block (splice vs.toList (ad.off + len1 * el.ty.size) news).toArray).heap[b']? = w.heap[b']? := fun b' hb' => setRow_other w ad.block b' _ hb'
      refine hand_sound (a0 := .val ⟨.sl el.ty, xs ++ ys, [.own]⟩) h1 (by simp) (by exact ⟨rfl, rfl, rfl, by first | exact Nat.le_refl _ | exact Nat.le_succ _ | (simp; done) | (simp; omega)⟩) (fun b _ hk => hsame b (fun e => hk 0 (by rw [e, hN]; exact hown))) (hexec hap) (fun d hd hl σ' tm' => ⟨⟨_, rfl, ⟨_, _, _, _, rfl, rfl, ⟨?_, hroom, .inr ⟨ad, rfl, hsp, ?_, ⟨_, et, setRow_heap w _ _ _ et _ hblk, ?_⟩, ?_⟩⟩, trivial⟩⟩, fun mm hm => ?_⟩) h6 hK
      · rw [List.length_append, hl1, hl2]
      · rw [hN]; exact handTo_hand hown
      · rw [List.size_toArray, splice_length _ _ _ hin]; simpa using hfit
      · have hsh : Mono w (Shd C g1) (w.setRow ad.block (splice vs.toList (ad.off + len1 * el.ty.size) news).toArray) (Shd C (handTo g1 σ1.length d 0)) :=
          ⟨by simp, fun b' _ hb' => ⟨hsame b' (fun e => by rw [e] at hb'; exact absurd hb'.2 (by rw [hown]; simp)), hb'.1, handTo_none hb'.2⟩⟩
        refine (((hos.append hsegs1).mono fun _ _ => RepC.mono el.ty hsh)).rows fun q hq => ?_
        rw [List.length_append] at hq
        rw [cell_setRow_same w _ _ _ _ et _ hblk, List.getElem?_toArray, getElem?_splice _ _ _ _ hin]
        rcases Nat.lt_or_ge q olds.length with hqo | hqo
        · rw [if_pos (by omega), List.getElem?_append_left hqo, ← hoc q hqo, cell_of_block hblk]
        · rw [if_neg (by omega), if_pos (by omega), List.getElem?_append_right hqo]
          congr 1; omega
      · simp only [List.mem_singleton] at hm; subst hm; trivial
  · have hlt : cap1 < len1 + len2 := by omega
    have hfit := growslice_fits (need := len1 + len2) (old := cap1) (bytes := i.bytes) hlt (by rw [hib, ← hl1, ← hl2]; exact hb1)
    have hold : ∃ olds, Segs el.ty.size (RepC C.P el.ty w (Shd C g1)) olds xs ∧ (Builtin.firstCells el.ty.size len1 (.slice a1 len1 cap1)).run C.P w.drew = .ok olds.toArray w.drew := by
      have hh : xs.length = len1 ∧ len1 ≤ cap1 ∧ (len1 = 0 ∨ ∃ ad : Addr, a1 = some ad ∧ ad.spot = none ∧ Rows el.ty.size w (RepC C.P el.ty w (Shd C g1)) ad xs) := by
        refine ⟨hl1, hlc1, hblk.imp (fun e => by omega) ?_⟩
        rintro ⟨ad, h1, h2, _, _, h3⟩
        exact ⟨ad, h1, h2, h3⟩
      obtain ⟨olds, _, ho1, ho2⟩ := src_of_rows (P := C.P) (T := T) hu hsz0 hh
      exact ⟨olds, ho1, ho2⟩
    obtain ⟨olds, hos, hfo⟩ := hold
    have hap := run_append_grow_src (P := C.P) w T T o.type e.elem i zv hu hi hzv a1 len1 cap1 olds (by rw [his]; exact hfo) (.slice a2 len2 cap2) len2 news (by rw [his]; exact hsrc) hlt (by omega) hfit
    have hge := grownCap_ge w (len1 + len2) cap1 e.elem
    have gr := Grow.handTo h1 (o.dst.getD 0) 0
    have gr' : Grow C g1 σ1 w (handTo g1 σ1.length (o.dst.getD 0) 0) w.drew := ⟨gr.1, gr.2, gr.3, gr.4, gr.5, gr.6, ⟨rfl, rfl, rfl, by first | exact Nat.le_refl _ | exact Nat.le_succ _ | (simp; done) | (simp; omega)⟩⟩
    refine new_sound h1 (Grow.alloc h1 gr' rfl _ (o.dst.getD 0, some 0)) (hexec hap) (fun d hd hl σ' tm' hv => ?_) h6 hK
    rw [hd] at hv ⊢
    simp only [Option.getD_some] at hv ⊢
    refine ⟨⟨_, rfl, ⟨_, _, _, _, rfl, rfl, ⟨?_, hge, .inr ⟨_, rfl, rfl, withNew_new, ⟨_, _, heap_alloc_new w.drew _, ?_⟩, ?_⟩⟩, trivial⟩⟩, fun mm hm => ?_⟩
    · rw [List.length_append, hl1, hl2]
    · have hzs : zv.cells.size = el.ty.size := by
        obtain ⟨zc, hz1, hz2, hz3, _⟩ := hFel.zero hz w
        have hrun : (zeroValue e.elem).run C.P w = .ok zv w := by simp [zeroValue, Go.typeInfo, hi, hzv]
        rw [hrun] at hz1
        injection hz1 with hz1 _
        rw [hz1, hz3, List.size_toArray, hz2]
      have e2 : news.length = len2 * el.ty.size := by rw [hsegs.1, hl2]
      have e1 : olds.length = len1 * el.ty.size := by rw [hos.1, hl1]
      have e3 : (olds ++ news).toArray.size = (len1 + len2) * el.ty.size := by rw [List.size_toArray, List.length_append, e1, e2, ← Nat.add_mul]
      rw [Array.size_append, e3, size_zeroCells, hzs, ← Nat.add_mul]
      show 0 + _ ≤ _
      rw [Nat.zero_add]
      exact Nat.mul_le_mul_right _ (by omega)
    · refine (((hos.append hsegs1).mono fun _ _ => RepC.mono el.ty hv.sh)).rows fun q hq => ?_
      show (World.alloc _ _).cell? ⟨w.drew.heap.size, 0 + q, none⟩ = _
      rw [World.cell?_alloc_new, Nat.zero_add, Array.getElem?_append_left (by rw [List.size_toArray]; exact hq), List.getElem?_toArray]
    · simp only [List.mem_singleton] at hm; subst hm; trivial
end
end Go.GD
end

section
namespace Go.GD
open Go
def argVals : List Ty → List Value → List Value
  | [], _ => []
  | t :: ts, cs => mkV t (cs.take t.size) :: argVals ts (cs.drop t.size)
def resV (ts : List Ty) (cs : List Value) : Value :=
  match argVals ts cs with
  | [v] => v
  | vs => .tuple vs.toArray
def clR (g : Nat → Option Nat) : Nat → Mk → Claim
  | c, .own => .hold (fun b => g b = some c) (fun _ => True)
  | _, _ => .share false
def rMarks (own : Bool) (t : Ty) : List Mk := cond own (ownMarks t) (shrMarks t)
def Does (P : Program) (f : Nat) (ps rs : List Ty) (own : Bool) (φ : (pk ps).den → Option (pk rs).den) : Prop :=
  ∀ (w : World) (Ok : Nat → Prop) (cs : List Value) (x : (pk ps).den) (y : (pk rs).den), RepC P (pk ps) w Ok cs x → φ x = some y →
    Calls P f (argVals ps cs).toArray w fun e w' => ∃ us g', e = .returned (resV rs us) ∧
      RepX P w' (fun b => (w.heap.size ≤ b ∨ Ok b) ∧ g' b = none) (clR g') (pk rs) 0 us y (rMarks own (pk rs)) ∧
      w.heap.size ≤ w'.heap.size ∧ (∀ b, b < w.heap.size → w'.heap[b]? = w.heap[b]?) ∧ (∀ b, g' b ≠ none → w.heap.size ≤ b ∧ b < w'.heap.size) ∧ SameIO w w'
def clE (B : Nat → Prop) : Nat → Mk → Claim
  | _, .own => .hold B (fun _ => True)
  | _, _ => .share false
def eatMarks : List Ty → List Mk
  | _ :: t :: ts => .own :: shrMarks (pk (t :: ts))
  | _ => [.own]
def EatDoes (P : Program) (f : Nat) (ps rs : List Ty) (φ : (pk ps).den → Option (pk rs).den) : Prop :=
  ∀ (w : World) (Ok B : Nat → Prop) (cs : List Value) (x : (pk ps).den) (y : (pk rs).den), RepX P w Ok (clE B) (pk ps) 0 cs x (eatMarks ps) → (∀ b, B b → ¬ Ok b) → (∀ b, B b → b < w.heap.size) → φ x = some y →
    Calls P f (argVals ps cs).toArray w fun e w' => ∃ us g', e = .returned (resV rs us) ∧
      RepX P w' (fun b => (w.heap.size ≤ b ∨ Ok b) ∧ g' b = none) (clR g') (pk rs) 0 us y (ownMarks (pk rs)) ∧
      w.heap.size ≤ w'.heap.size ∧ (∀ b, b < w.heap.size → ¬ B b → w'.heap[b]? = w.heap[b]?) ∧ (∀ b, g' b ≠ none → (w.heap.size ≤ b ∨ B b) ∧ b < w'.heap.size) ∧ SameIO w w'
structure Contract (P : Program) (f : Nat) (sg : Sig) : Prop where
  callable : Callable P f
  does : sg.eat = false → Does P f sg.ps sg.rs sg.own sg.φ
  eats : sg.eat = true → EatDoes P f sg.ps sg.rs sg.φ
def clB (g0 : Nat → Option (Option Nat)) : Nat → Mk → Claim
  | c, .own => .hold (fun k => g0 k = some (some c)) (fun _ => True)
  | _, _ => .share false
def Left (w : World) (Ok : Nat → Prop) (g0 g1 : Nat → Option (Option Nat)) (k : Nat) : Prop := (w.heap.size ≤ k ∨ Ok k ∨ g0 k ≠ none) ∧ g1 k = none
def BoxDoes (P : Program) (f : Nat) (B : BxSig) : Prop :=
  ∀ (w : World) (Ok : Nat → Prop) (g0 : Nat → Option (Option Nat)) (b : Nat) (e : TypeId) (cs as : List Value) (x : B.t.den) (y : (pk B.ps).den) (r : B.t.den × (pk B.rs).den),
    g0 b = some none → w.heap[b]? = some (.cells cs.toArray e (0, 0)) → RepX P w Ok (clB g0) B.t 0 cs x B.bm → (∀ k, Ok k → g0 k = none) → (∀ k, g0 k ≠ none → k < w.heap.size) →
    RepC P (pk B.ps) w Ok as y → B.φ x y = some r →
    Calls P f (Value.pointer (some ⟨b, 0, none⟩) :: argVals B.ps as).toArray w fun ex w' => ∃ us g1 e', ∃ cs' : List Value, ex = .returned (resV B.rs us) ∧
      g1 b = some none ∧ w'.heap[b]? = some (.cells cs'.toArray e' (0, 0)) ∧ RepX P w' (Left w Ok g0 g1) (clB g1) B.t 0 cs' r.1 B.bm ∧ RepC P (pk B.rs) w' (Left w Ok g0 g1) us r.2 ∧
      w.heap.size ≤ w'.heap.size ∧ (∀ k, k < w.heap.size → g0 k = none → w'.heap[k]? = w.heap[k]?) ∧ (∀ k, g1 k ≠ none → (w.heap.size ≤ k ∨ g0 k ≠ none) ∧ k < w'.heap.size) ∧ SameIO w w'
def plainMarks (ms : List Mk) : Bool := ms.all fun m => markBeq m .shr || markBeq m .own
def AxDoes (P : Program) (f : Nat) (B : BxSig) : Prop :=
  ∀ (w : World) (b off : Nat) (et : TypeId) (cs0 cs as : List Value) (x : B.t.den) (y : (pk B.ps).den) (r : B.t.den × (pk B.rs).den), w.heap[b]? = some (.cells cs0.toArray et (0, 0)) → (cs0.drop off).take B.t.size = cs → off + B.t.size ≤ cs0.length →
    RepC P B.t w (fun _ => True) cs x → RepC P (pk B.ps) w (fun _ => True) as y → B.φ x y = some r →
    Calls P f (Value.pointer (some ⟨b, off, none⟩) :: argVals B.ps as).toArray w fun ex w' => ∃ us, ∃ cs' : List Value, ex = .returned (resV B.rs us) ∧ cs'.length = B.t.size ∧ RepC P B.t w (fun _ => True) cs' r.1 ∧ RepC P (pk B.rs) w (fun _ => True) us r.2 ∧ w' = w.setRow b (splice cs0 off cs').toArray
structure BxContract (P : Program) (f : Nat) (B : BxSig) : Prop where
  callable : Callable P f
  plain : plainMarks B.bm = true
  does : B.ax = false → BoxDoes P f B
  axs : B.ax = true → AxDoes P f B ∧ B.t.scalar = true ∧ (pk B.rs).scalar = true
structure EnvOK (C : Ctx) (E : Env) : Prop where
  fns : ∀ f sg, E.fn f = some sg → Contract C.P f sg
  bxs : ∀ f b, E.bx f = some b → BxContract C.P f b
  pins : PinOK C E
theorem Callable.run {P : Program} {f : Nat} (h : Callable P f) (args : Array Value) (w : World) : (callFunc f args).run P w = .ok (.enter f args) w := by
  obtain ⟨fn, h1, h2, h3⟩ := h
  simp only [callFunc, Sem.run_bind, run_program, Result.andThen_ok, h1, h2, h3, Bool.false_eq_true, if_false, Sem.run_pure]
section
variable {C : Ctx} {g g' : Own} {σ : St} {tm tm' : Array Value} {w w' : World} {E : Env} {o : Oper} {ρ : Type} {K : St → Option ρ} {r : ρ} {ds : List Deferred}
  {next : Act → World → Prop} {Q : Exit → Act → World → Prop}
theorem take_all {α : Type} {cs : List α} {n : Nat} (h : cs.length = n) : cs.take n = cs := List.take_of_length_le (by omega)
theorem rMarks_pair (own : Bool) (a b : Ty) : rMarks own (.pair a b) = rMarks own a ++ rMarks own b := by cases own <;> rfl
theorem rMarks_length (own : Bool) (t : Ty) : (rMarks own t).length = t.size := by
  cases own with
  | false => exact shrMarks_length t
  | true => exact ownMarks_length t
theorem rMarks_bnd (own : Bool) : (t : Ty) → ∀ m, m ∈ rMarks own t → m = .own ∨ m = .shr
  | .unit, m, h => by cases own <;> cases h
  | .pair a b, m, h => by
    rw [rMarks_pair] at h
    exact (List.mem_append.1 h).elim (rMarks_bnd own a m) (rMarks_bnd own b m)
  | .int _, m, h => by cases own <;> (simp [rMarks, ownMarks, shrMarks] at h; simp [h])
  | .bool, m, h => by cases own <;> (simp [rMarks, ownMarks, shrMarks] at h; simp [h])
  | .str, m, h => by cases own <;> (simp [rMarks, ownMarks, shrMarks] at h; simp [h])
  | .sl _, m, h => by cases own <;> (simp [rMarks, ownMarks, shrMarks] at h; simp [h])
  | .ptr _, m, h => by cases own <;> (simp [rMarks, ownMarks, shrMarks] at h; simp [h])
  | .fn _ _, m, h => by cases own <;> (simp [rMarks, ownMarks, shrMarks] at h; simp [h])
theorem repX_scalar {P : Program} {w : World} {Sh Sh' : Nat → Prop} {cl : Nat → Mk → Claim} : (t : Ty) → t.scalar = true → ∀ {c : Nat} {cs : List Value} {x : t.den} {ms : List Mk}, RepX P w Sh cl t c cs x ms → RepC P t w Sh' cs x
  | .unit, _, _, _, _, _, h => by obtain ⟨h, _⟩ := h; exact h
  | .int _, _, _, _, _, _, h => by obtain ⟨_, _, h⟩ := h; exact h
  | .bool, _, _, _, _, _, h => by obtain ⟨_, _, h⟩ := h; exact h
  | .str, _, _, _, _, _, h => by obtain ⟨_, _, h⟩ := h; exact h
  | .pair a b, hs, _, _, _, _, h => by
    simp only [Ty.scalar, Bool.and_eq_true] at hs
    obtain ⟨c1, c2, m1, m2, e, _, h1, h2⟩ := h
    exact ⟨c1, c2, e, repX_scalar a hs.1 h1, repX_scalar b hs.2 h2⟩
theorem argP_inv (hfn : EnvOK C E) {T : Nat} {x : Operand} {k : TV → Prog} (h : SRep C g σ tm w) (hr : (argP E T x k).run σ K = some r) :
    ∃ v, Val C g σ tm w (Act.eval ⟨tm, ds⟩ x) v ∧ (∀ m, m ∈ v.ms → okM σ m) ∧ (k v).run σ K = some r := by
  unfold argP at hr
  split at hr
  · rename_i f
    split at hr
    case h_2 => simp [Prog.run] at hr
    rename_i sg hsg
    split at hr
    case h_2 => simp [Prog.run] at hr
    rename_i F hF
    have hcon := hfn.fns _ _ hsg
    unfold fnV at hF
    split at hF
    case h_2 => cases hF
    rename_i a b own φ
    split at hF
    case isFalse => cases hF
    rename_i hsc
    injection hF with hF
    subst hF
    refine ⟨⟨.fn a b, φ, [.shr]⟩, ⟨[.func (.func f) #[] #[]], rfl, ⟨_, .shr, rfl, rfl, ⟨rfl, rfl⟩, fun _ => ?_⟩, fun m hm => by simp at hm; subst hm; simp, fun m hm => by simp at hm; subst hm; trivial⟩, fun m hm => by simp at hm; subst hm; trivial, hr⟩
    refine ⟨f, #[], #[], rfl, hcon.callable, fun w' hs hc vs x y hx hy => ?_⟩
    have hxl := RepC.length _ hx
    have hargs : (argVals [a] vs).toArray = #[] ++ #[mkV a vs] ++ #[] := by
      simp [argVals, take_all hxl]
    rw [← hargs]
    refine (hcon.does rfl w' (fun _ => True) _ _ y hx hy).mono fun e w'' hh => ?_
    obtain ⟨us, g', rfl, hrep', h1, h2, h3, h4⟩ := hh
    have hbx : RepC C.P b w'' (fun _ => True) us y := by
      have hm : Mono w'' (fun b => (w'.heap.size ≤ b ∨ True) ∧ g' b = none) w'' (fun _ => True) := ⟨Nat.le_refl _, fun _ _ _ => ⟨rfl, trivial⟩⟩
      refine repC_of_repX b (RepX.trans (cl' := shareAll) (c' := 0) (ms' := rMarks own b) hm b hrep' rfl fun i hi => ?_)
      rcases rMarks_bnd own b _ (mem_of_markAt (rMarks own b) i (by rw [rMarks_length]; exact hi)) with e | e <;> rw [e]
      · exact .hold_share _ _ ⟨Nat.le_refl _, fun _ _ _ => ⟨rfl, trivial⟩⟩
      · exact .share _
    have hbl := RepC.length b hbx
    refine ⟨us, ?_, hbx, h1, h2, h4⟩
    have : argVals [b] us = [mkV b us] := by simp [argVals, take_all hbl]
    simp only [resV, this]
  · exact rdV_inv (ds := ds) h hr
theorem argsP_inv (hfn : EnvOK C E) : (ts : List Ty) → (Ts : List Nat) → (os : List Operand) → {k : (pk ts).den → List Mk → Prog} → SRep C g σ tm w → (argsP E Ts os ts k).run σ K = some r →
    ∃ x ms cs, os.map (Act.eval ⟨tm, ds⟩) = argVals ts cs ∧ RepX C.P w (Shd C g) (cl g σ tm w 0) (pk ts) 0 cs x ms ∧ NoOwn ms ∧ (∀ m, m ∈ ms → bndM σ m) ∧ (∀ m, m ∈ ms → okM σ m) ∧ (k x ms).run σ K = some r
  | [], Ts, os, k, h, hr => by
    cases Ts with
    | cons => simp [argsP, Prog.run] at hr
    | nil =>
      cases os with
      | cons => simp [argsP, Prog.run] at hr
      | nil =>
        simp only [argsP] at hr
        exact ⟨(), [], [], rfl, ⟨rfl, rfl⟩, (fun _ h => by cases h), (fun _ h => by cases h), (fun _ h => by cases h), hr⟩
  | [t], Ts, os, k, h, hr => by
    match Ts, os with
    | [], _ => simp [argsP, Prog.run] at hr
    | [T], [] => simp [argsP, Prog.run] at hr
    | _ :: _ :: _, _ => simp [argsP, Prog.run] at hr
    | [T], _ :: _ :: _ => simp [argsP, Prog.run] at hr
    | [T], [o] =>
      simp only [argsP] at hr
      obtain ⟨v, hv, hok, hq⟩ := argP_inv (ds := ds) hfn h hr
      clear hr
      split at hq
      case h_2 => simp [Prog.run] at hq
      rename_i y hy
      obtain ⟨ety, rfl⟩ := castO_some hy
      subst ety
      obtain ⟨cs, e, hx, hn, hb⟩ := hv
      have hl := RepX.length _ hx
      exact ⟨_, v.ms, cs, by simp [argVals, e, take_all hl.1], hx, hn, hb, hok, hq⟩
  | t :: t' :: ts, Ts, os, k, h, hr => by
    match Ts, os with
    | [], _ => simp [argsP, Prog.run] at hr
    | _ :: _, [] => simp [argsP, Prog.run] at hr
    | T :: Ts, o :: os =>
      simp only [argsP] at hr
      obtain ⟨v, hv, hok, hq⟩ := argP_inv (ds := ds) hfn h hr
      clear hr
      split at hq
      case h_2 => simp [Prog.run] at hq
      rename_i y hy
      obtain ⟨ety, rfl⟩ := castO_some hy
      subst ety
      obtain ⟨cs, e, hx, hn, hb⟩ := hv
      have hl := RepX.length _ hx
      obtain ⟨x2, ms2, cs2, e2, hx2, hn2, hb2, hok2, hq⟩ := argsP_inv hfn (t' :: ts) Ts os h hq
      refine ⟨(v.x, x2), v.ms ++ ms2, cs ++ cs2, ?_, ⟨cs, cs2, v.ms, ms2, rfl, rfl, hx, hx2.place _ _ hn2⟩, ?_, ?_, ?_, hq⟩
      · rw [List.map_cons, e2, e]
        show _ = mkV v.t ((cs ++ cs2).take v.t.size) :: argVals (t' :: ts) ((cs ++ cs2).drop v.t.size)
        rw [List.take_append_of_le_length (by omega), take_all hl.1, ← hl.1, List.drop_left]
      · intro m hm; exact (List.mem_append.1 hm).elim (hn m) (hn2 m)
      · intro m hm; exact (List.mem_append.1 hm).elim (hb m) (hb2 m)
      · intro m hm; exact (List.mem_append.1 hm).elim (hok m) (hok2 m)
theorem RepX.all {t : Ty} {c : Nat} {cs : List Value} {x : t.den} {ms : List Mk} (h : RepX C.P w (Shd C g) (cl g σ tm w 0) t c cs x ms) (hok : ∀ m, m ∈ ms → okM σ m) (hn : NoOwn ms) :
    RepC C.P t w (fun _ => True) cs x := by
  have hl := RepX.length _ h
  have all : ∀ B, Mono w B w (fun _ => True) := fun B => ⟨Nat.le_refl _, fun _ _ _ => ⟨rfl, trivial⟩⟩
  refine repC_of_repX t (RepX.trans (cl' := shareAll) (c' := 0) (ms' := ms) (all _) t h rfl fun i hi => ?_)
  have hm := mem_of_markAt ms i (by omega)
  have ho := hok _ hm
  have hno := hn _ hm
  generalize markAt ms i = m at *
  cases m with
  | shr => exact .share _
  | nn => exact .share_weak _
  | nil => exact .nil_share
  | own => exact absurd rfl hno
  | dead => exact ho.elim
  | ref s' c' g' => simp only [clm, (show validB σ s' c' g' = true from ho), cond, shareAll]; exact .hold_share _ _ (all _)
  | sub s' c' g' => simp only [clm, (show validB σ s' c' g' = true from ho), cond, shareAll]; exact .hold_share _ _ (all _)
  | bor q => simp only [clm, (show borOk σ q = true from ho), cond, shareAll]; exact .hold_share _ _ (all _)
theorem RepX.flat {P : Program} {w : World} {Sh Sh' : Nat → Prop} {f : Nat → Option Nat} : (t : Ty) → t.flat = true → ∀ {c : Nat} {cs : List Value} {x : t.den}, RepX P w Sh (clR f) t c cs x (ownMarks t) → RepX P w Sh' (clR f) t c cs x (ownMarks t)
  | .unit, _, _, _, _, h => h
  | .int _, _, _, _, _, h => h
  | .bool, _, _, _, _, h => h
  | .str, _, _, _, _, h => h
  | .pair a b, hf, _, _, _, h => by
    simp only [Ty.flat, Bool.and_eq_true] at hf
    obtain ⟨c1, c2, m1, m2, e, em, h1, h2⟩ := h
    have l1 := RepX.length _ h1
    obtain ⟨rfl, rfl⟩ := List.append_inj em (by rw [ownMarks_length, l1.2])
    exact ⟨c1, c2, _, _, e, rfl, RepX.flat a hf.1 h1, RepX.flat b hf.2 h2⟩
  | .sl t, hf, _, _, _, h => by
    simp only [Ty.flat] at hf
    obtain ⟨a, len, cap, m, e, em, h1⟩ := h
    simp only [ownMarks, List.cons.injEq, and_true] at em
    subst em
    obtain ⟨⟨q1, q2, q3⟩, q4⟩ := h1
    refine ⟨a, len, cap, _, e, rfl, ⟨q1, q2, q3.imp id ?_⟩, q4⟩
    rintro ⟨ad, p1, p2, p3, p4, p5⟩
    exact ⟨ad, p1, p2, p3, p4, p5.mono rfl fun _ _ => RepC.scalar t hf⟩
  | .ptr _, hf, _, _, _, _ => by simp [Ty.flat] at hf
  | .fn _ _, hf, _, _, _, _ => by simp [Ty.flat] at hf
theorem allFlat_pk : (ts : List Ty) → allFlat ts = true → (pk ts).flat = true
  | [], _ => rfl
  | [t], h => by simpa [allFlat, pk] using h
  | t :: t' :: ts, h => by
    simp only [allFlat, Bool.and_eq_true] at h
    simp only [Ty.flat, Bool.and_eq_true]
    exact ⟨h.1, allFlat_pk (t' :: ts) (by simp [allFlat, h.2])⟩
theorem tupRep_of_repX {s : Nat} {own : Bool} : (ts : List Ty) → ∀ {c : Nat} {us : List Value} {y : (pk ts).den}, RepX C.P w (Shd C g) (cl g σ tm w s) (pk ts) c us y (rMarks own (pk ts)) →
    TupRep C g σ tm w s c (argVals ts us) (resTVs own ts y)
  | [], _, _, _, _ => trivial
  | [t], c, us, y, h => by
    refine ⟨⟨us, ?_, h⟩, trivial⟩
    rw [take_all (RepX.length _ h).1]
  | t :: t' :: ts, c, us, y, h => by
    obtain ⟨c1, c2, m1, m2, rfl, em, h1, h2⟩ := h
    have l1 := RepX.length _ h1
    simp only [rMarks_pair] at em
    obtain ⟨rfl, rfl⟩ := List.append_inj em (by rw [rMarks_length, l1.2])
    have e1 : (c1 ++ c2).take t.size = c1 := by rw [List.take_append_of_le_length (by omega), take_all l1.1]
    have e2 : (c1 ++ c2).drop t.size = c2 := by rw [← l1.1, List.drop_left]
    simp only [argVals]
    rw [e1]
    refine ⟨⟨c1, rfl, h1⟩, ?_⟩
    have := tupRep_of_repX (t' :: ts) h2
    simp only [argVals] at this
    rw [e2]
    show TupRep C g σ tm w s (c + (rMarks own t).length) _ _
    rw [rMarks_length]
    exact this
theorem resTVs_bnd {σ' : St} {own : Bool} : (ts : List Ty) → (y : (pk ts).den) → ∀ tv, tv ∈ resTVs own ts y → ∀ m, m ∈ tv.ms → bndM σ' m
  | [], _, _, h, _, _ => by cases h
  | [t], y, tv, h, m, hm => by
    simp only [resTVs, List.mem_singleton] at h
    subst h
    rcases rMarks_bnd own t m hm with rfl | rfl <;> trivial
  | t :: t' :: ts, y, tv, h, m, hm => by
    rcases List.mem_cons.1 h with rfl | h
    · rcases rMarks_bnd own t m hm with rfl | rfl <;> trivial
    · exact resTVs_bnd (t' :: ts) y.2 tv h m hm
theorem resTVs_length {own : Bool} : (ts : List Ty) → (y : (pk ts).den) → (us : List Value) → (resTVs own ts y).length = ts.length ∧ (argVals ts us).length = ts.length
  | [], _, _ => ⟨rfl, rfl⟩
  | [_], _, _ => ⟨rfl, rfl⟩
  | t :: t' :: ts, y, us => by
    have := resTVs_length (own := own) (t' :: ts) y.2 (us.drop t.size)
    exact ⟨by simp only [resTVs, List.length_cons] at this ⊢; omega, by
       rw [argVals, List.length_cons, this.2]; rfl⟩
theorem resA_rep {s : Nat} {own : Bool} (ts : List Ty) {us : List Value} {y : (pk ts).den} (h : RepX C.P w (Shd C g) (cl g σ tm w s) (pk ts) 0 us y (rMarks own (pk ts))) :
    SlotRep C g σ tm w s (resV ts us) (resA own ts y) ∧ bndA σ (resA own ts y) := by
  have ht := tupRep_of_repX ts h
  have hb := resTVs_bnd (σ' := σ) (own := own) ts y
  obtain ⟨l1, l2⟩ := resTVs_length (own := own) ts y us
  unfold resV resA
  revert ht hb l1 l2
  generalize argVals ts us = vals
  generalize resTVs own ts y = tvs
  intro ht hb l1 l2
  match vals, tvs with
  | [], [] => exact ⟨⟨[], rfl, trivial⟩, hb⟩
  | [v], [tv] => exact ⟨ht.1, hb tv (List.mem_singleton.2 rfl)⟩
  | v :: v' :: vals, tv :: tv' :: tvs => exact ⟨⟨_, rfl, ht⟩, hb⟩
  | [], _ :: _ => simp only [List.length_nil, List.length_cons] at l1 l2; omega
  | _ :: _, [] => simp only [List.length_nil, List.length_cons] at l1 l2; omega
  | [_], _ :: _ :: _ => simp only [List.length_nil, List.length_cons] at l1 l2; omega
  | _ :: _ :: _, [_] => simp only [List.length_nil, List.length_cons] at l1 l2; omega
theorem resA_isBox (own : Bool) (ts : List Ty) (y : (pk ts).den) : (resA own ts y).isBox = false := by
  unfold resA
  split <;> rfl
def callOwn (g : Own) (n : Nat) (g' : Nat → Option Nat) (d : Nat) : Own := fun b => if b < n then g b else (g' b).map fun c => (d, some c)
theorem Grow.called {d : Nat} {f : Nat → Option Nat} (h : SRep C g σ tm w) (hs : w.heap.size ≤ w'.heap.size) (hH : ∀ b, b < w.heap.size → w'.heap[b]? = w.heap[b]?)
    (hg : ∀ b, f b ≠ none → w.heap.size ≤ b ∧ b < w'.heap.size) (hio : SameIO w w') : Grow C g σ w (callOwn g w.heap.size f d) w' := by
  have old : ∀ b, b < w.heap.size → callOwn g w.heap.size f d b = g b := fun b hb => by unfold callOwn; rw [if_pos hb]
  refine ⟨hs, hH, fun b hb hn => (old b hb).trans hn, fun b hb s c _ hn => (old b hb).trans hn, fun b hb s hn => (old b hb).trans hn, fun b hb => ?_, hio⟩
  rcases Nat.lt_or_ge b w.heap.size with hl | hl
  · rw [old b hl] at hb
    have := h.gok b hb
    exact ⟨by omega, this.2⟩
  · unfold callOwn at hb
    rw [if_neg (by omega)] at hb
    have := hg b (fun e => hb (by rw [e]; rfl))
    exact ⟨this.2, .inl (Nat.le_trans h.size hl)⟩
theorem call_sound {c : Call} {f : Nat} {sg : Sig} {cs : List Value} {x : (pk sg.ps).den} {y : (pk sg.rs).den} {Ok : Nat → Prop} (ho : o.op = .call c) (hc : c.callee = .value (.func f)) (hcon : Contract C.P f sg) (heat : sg.eat = false)
    (hargs : c.args.toList.map (Act.eval ⟨tm, ds⟩) = argVals sg.ps cs) (h : SRep C g σ tm w) (hx : RepC C.P (pk sg.ps) w Ok cs x) (hy : sg.φ x = some y)
    (hflat : (∀ b, b < w.heap.size → Ok b → Shd C g b) ∨ (sg.own = true ∧ allFlat sg.rs = true))
    (hr : (putA o.dst (resA sg.own sg.rs y) .fin).run σ K = some r) (hK : Good C K r ds next) : o.wp C.P ⟨tm, ds⟩ w next Q := by
  have hex : (execOp (Act.eval ⟨tm, ds⟩) o).run C.P w = .ok (.enter f (argVals sg.ps cs).toArray) w := by
    have e : c.args.map (Act.eval ⟨tm, ds⟩) = (argVals sg.ps cs).toArray := by
      rw [← hargs, ← List.map_toArray]
    simp [execOp, ho, resolve, hc, Act.eval, Deferred.ofValue, invoke, e, hcon.callable.run]
  unfold Oper.wp
  rw [hex, Oper.upon_enter]
  refine (hcon.does heat w Ok cs x y hx hy).mono fun e w' hh => ?_
  obtain ⟨us, g', rfl, hrep, hs, hH, hg, hio⟩ := hh
  show next _ w'
  obtain ⟨σ', h1, h2, h3⟩ := put_sound (v := resV sg.rs us) (ds := ds) h (Grow.called (d := o.dst.getD 0) h hs hH hg hio) (fun d hd hl σ' tm' hv => by
    rw [hd]
    simp only [Option.getD_some]
    have hown : ∀ c, Mono w' (fun b => g' b = some c) w' (fun b => callOwn g w.heap.size g' d b = some (d, some c)) := fun c => ⟨Nat.le_refl _, fun b _ hb => ⟨rfl, by
      have := (hg b (by rw [show g' b = some c from hb]; simp)).1
      show callOwn g w.heap.size g' d b = some (d, some c)
      unfold callOwn
      rw [if_neg (by omega), show g' b = some c from hb]; rfl⟩⟩
    have key : ∀ {Sh : Nat → Prop}, RepX C.P w' Sh (clR g') (pk sg.rs) 0 us y (rMarks sg.own (pk sg.rs)) → Mono w' Sh w' (Shd C (callOwn g w.heap.size g' d)) →
        RepX C.P w' (Shd C (callOwn g w.heap.size g' d)) (cl (callOwn g w.heap.size g' d) σ' tm' w' d) (pk sg.rs) 0 us y (rMarks sg.own (pk sg.rs)) := by
      intro Sh hrep hm
      have hl := RepX.length _ hrep
      refine RepX.trans hm _ hrep rfl fun i hi => ?_
      rcases rMarks_bnd sg.own _ _ (mem_of_markAt (rMarks sg.own (pk sg.rs)) i (by omega)) with e | e <;> rw [e]
      · exact .hold _ _ _ _ (hown _) (fun _ h => h)
      · exact .share _
    refine resA_rep sg.rs ?_
    rcases hflat with hOk | ⟨ho', hf⟩
    · refine key hrep ⟨Nat.le_refl _, fun b _ hb => ⟨rfl, ?_⟩⟩
      rcases Nat.lt_or_ge b w.heap.size with hl | hl
      · have := hOk b hl (hb.1.resolve_left (by omega))
        exact ⟨this.1, by unfold callOwn; rw [if_pos hl]; exact this.2⟩
      · exact ⟨.inl (Nat.le_trans h.size hl), by unfold callOwn; rw [if_neg (by omega), hb.2]; rfl⟩
    · have e : rMarks sg.own (pk sg.rs) = ownMarks (pk sg.rs) := by rw [ho']; rfl
      rw [e] at hrep
      have := RepX.flat (Sh' := fun _ => False) _ (allFlat_pk _ hf) hrep
      rw [← e] at this
      exact key this ⟨Nat.le_refl _, fun b _ hb => hb.elim⟩) hr (.inl (resA_isBox _ _ _))
  exact hK _ _ _ _ h1 h3 h2
theorem RepX.but {t : Ty} {c : Nat} {cs : List Value} {x : t.den} {ms : List Mk} (h : RepX C.P w (Shd C g) (cl g σ tm w 0) t c cs x ms) (hok : ∀ m, m ∈ ms → okM σ m) (hn : NoOwn ms) :
    RepC C.P t w (fun b => g b ≠ some (σ.length, some 0)) cs x := by
  have hl := RepX.length _ h
  have shr : Mono w (Shd C g) w (fun b => g b ≠ some (σ.length, some 0)) := ⟨Nat.le_refl _, fun b _ hb => ⟨rfl, by show g b ≠ _; rw [hb.2]; simp⟩⟩
  have look : ∀ s p, s < σ.length → Mono w (fun b => g b = some (s, p)) w (fun b => g b ≠ some (σ.length, some 0)) := fun s p hs => ⟨Nat.le_refl _, fun b _ hb => ⟨rfl, by
    show g b ≠ _
    rw [show g b = some (s, p) from hb]
    intro e
    injection e with e
    injection e with e1 _
    omega⟩⟩
  refine repC_of_repX t (RepX.trans (cl' := shareAll) (c' := 0) (ms' := ms) shr t h rfl fun i hi => ?_)
  have hm := mem_of_markAt ms i (by omega)
  have ho := hok _ hm
  have hno := hn _ hm
  generalize markAt ms i = m at *
  cases m with
  | shr => exact .share _
  | nn => exact .share_weak _
  | nil => exact .nil_share
  | own => exact absurd rfl hno
  | dead => exact ho.elim
  | ref s' c' g' => simp only [clm, (show validB σ s' c' g' = true from ho), cond, shareAll]; exact .hold_share _ _ (look _ _ (validB_lt ho))
  | sub s' c' g' => simp only [clm, (show validB σ s' c' g' = true from ho), cond, shareAll]; exact .hold_share _ _ (look _ _ (validB_lt ho))
  | bor q =>
    simp only [clm, (show borOk σ q = true from ho), cond, shareAll]
    refine .hold_share _ _ ⟨Nat.le_refl _, fun b hbl hb => ⟨rfl, ?_⟩⟩
    obtain ⟨s, gn, cs', hm', hor⟩ := hb
    have hs : s < σ.length := by
      have : ∀ (q : List (Nat × Nat × List Nat)), borOk σ q = true → (s, gn, cs') ∈ q → s < σ.length := by
        intro q
        induction q with
        | nil => intro _ h; cases h
        | cons p q ih =>
          obtain ⟨s1, g1, c1⟩ := p
          intro hq hm'
          simp only [borOk, Bool.and_eq_true] at hq
          rcases List.mem_cons.1 hm' with e | hm'
          · injection e with e1 e2
            subst e1
            exact borOk1_lt hq.1
          · exact ih hq.2 hm'
      exact this q ho hm'
    rcases hor with hor | ⟨c, _, hor⟩
    · exact ((look s none hs).2 b hbl hor).2
    · exact ((look s (some c) hs).2 b hbl hor).2
theorem mkV_inj {t : Ty} {cs cs' : List Value} (h : cs.length = t.size) (h' : cs'.length = t.size) (e : mkV t cs = mkV t cs') : cs = cs' := by
  unfold mkV at e
  cases hag : t.isAgg with
  | true =>
    rw [hag] at e
    simpa using e
  | false =>
    rw [hag] at e
    have hs : t.size = 1 := by cases t <;> first | rfl | cases hag
    match cs, cs', h, h' with
    | [v], [v'], _, _ => simpa using e
    | [], _, h, _ => rw [hs] at h; cases h
    | _ :: _ :: _, _, h, _ => rw [hs] at h; simp at h
    | [_], [], _, h' => rw [hs] at h'; cases h'
    | [_], _ :: _ :: _, _, h' => rw [hs] at h'; simp at h'
theorem call_soundE {c : Call} {f : Nat} {sg : Sig} {cs : List Value} {x : (pk sg.ps).den} {y : (pk sg.rs).den} {Ok : Nat → Prop} {d : Nat} (ho : o.op = .call c) (hc : c.callee = .value (.func f)) (hcon : Contract C.P f sg) (heat : sg.eat = true)
    (hargs : c.args.toList.map (Act.eval ⟨tm, ds⟩) = argVals sg.ps cs) (h : SRep C g σ tm w) (hX : RepX C.P w Ok (clE fun b => g b = some (σ.length, some 0)) (pk sg.ps) 0 cs x (eatMarks sg.ps))
    (hdis : ∀ b, g b = some (σ.length, some 0) → ¬ Ok b) (hy : sg.φ x = some y) (hflat : (∀ b, b < w.heap.size → Ok b → Shd C g b) ∨ allFlat sg.rs = true) (hd : o.dst = some d)
    (hr : (putA o.dst (resA true sg.rs y) .fin).run σ K = some r) (hK : Good C K r ds next) : o.wp C.P ⟨tm, ds⟩ w next Q := by
  have hex : (execOp (Act.eval ⟨tm, ds⟩) o).run C.P w = .ok (.enter f (argVals sg.ps cs).toArray) w := by
    have e : c.args.map (Act.eval ⟨tm, ds⟩) = (argVals sg.ps cs).toArray := by
      rw [← hargs, ← List.map_toArray]
    simp [execOp, ho, resolve, hc, Act.eval, Deferred.ofValue, invoke, e, hcon.callable.run]
  unfold Oper.wp
  rw [hex, Oper.upon_enter]
  refine (hcon.eats heat w Ok (fun b => g b = some (σ.length, some 0)) cs x y hX hdis (fun b hb => (h.gok b (by rw [show g b = _ from hb]; simp)).1) hy).mono fun e w' hh => ?_
  obtain ⟨us, g', rfl, hrep, hs, hH, hg, hio⟩ := hh
  show next _ w'
  have h2 : SRep C (handTo g σ.length d 0) σ tm w := h.grow (Grow.handTo h d 0)
  let g3 : Own := fun b => match g' b with
    | some c => some (d, some c)
    | none => if b < w.heap.size then (if g b = some (σ.length, some 0) then none else handTo g σ.length d 0 b) else none
  have g3_new : ∀ b c, g' b = some c → g3 b = some (d, some c) := fun b c hb => by simp only [g3, hb]
  have g3_old : ∀ b, b < w.heap.size → g b ≠ some (σ.length, some 0) → g3 b = handTo g σ.length d 0 b := fun b hb hn => by
    have : g' b = none := by
      cases hgb : g' b with
      | none => rfl
      | some c =>
        exfalso
        rcases (hg b (by rw [hgb]; simp)).1 with h | h
        · omega
        · exact hn h
    simp only [g3, this]
    rw [if_pos hb, if_neg hn]
  have hand_at : ∀ b, g b = some (σ.length, some 0) → handTo g σ.length d 0 b = some (d, some 0) := fun b hb => by simp [handTo, hb]
  rw [hd] at hr
  simp only [putA, Prog.run] at hr
  have st : Step C (handTo g σ.length d 0) σ tm w g3 (tm.setIfInBounds d (resV sg.rs us)) w' d (resA true sg.rs y) ((listGet σ d).id + 1) ((listGet σ d).gen + 1) := by
    refine ⟨hs, fun b hb hx => hH b hb (fun e => hx _ (hand_at b e)), fun b hb hn => ?_, fun b hb s c hsd _ hb' => ?_, fun b hb s hsd hb' => ?_, fun b hb => ?_, by simp, fun s hs => getD_set_other hs, by omega, .inr (by omega), hio, fun _ _ hb => by rw [resA_isBox] at hb; cases hb⟩
    · rw [g3_old b hb (fun e => by rw [hand_at b e] at hn; cases hn)]; exact hn
    · rw [g3_old b hb (fun e => by rw [hand_at b e] at hb'; injection hb' with hb'; injection hb' with h1 _; exact hsd h1.symm)]; exact hb'
    · rw [g3_old b hb (fun e => by rw [hand_at b e] at hb'; injection hb' with hb'; injection hb' with h1 _; exact hsd h1.symm)]; exact hb'
    · cases hgb : g' b with
      | some c =>
        have := hg b (by rw [hgb]; simp)
        refine ⟨this.2, ?_⟩
        rcases this.1 with h1 | h1
        · exact .inl (Nat.le_trans h.size h1)
        · exact (h.gok b (by rw [show g b = _ from h1]; simp)).2
      | none =>
        rcases Nat.lt_or_ge b w.heap.size with hl | hl
        · have hne : g b ≠ some (σ.length, some 0) := fun e => by
            have : g3 b = none := by simp only [g3, hgb]; rw [if_pos hl, if_pos e]
            exact hb this
          have := h2.gok b (by rw [← g3_old b hl hne]; exact hb)
          exact ⟨by omega, this.2⟩
        · exfalso
          have : g3 b = none := by simp only [g3, hgb]; rw [if_neg (by omega)]
          exact hb this
  have hS := h2.replace st (fun hl => by
    have hown : ∀ c, Mono w' (fun b => g' b = some c) w' (fun b => g3 b = some (d, some c)) := fun c => ⟨Nat.le_refl _, fun b _ hb => ⟨rfl, g3_new b c hb⟩⟩
    have key : ∀ {Sh : Nat → Prop}, RepX C.P w' Sh (clR g') (pk sg.rs) 0 us y (ownMarks (pk sg.rs)) → Mono w' Sh w' (Shd C g3) →
        RepX C.P w' (Shd C g3) (cl g3 (listSet σ d ⟨resA true sg.rs y, (listGet σ d).id + 1, (listGet σ d).gen + 1⟩) (tm.setIfInBounds d (resV sg.rs us)) w' d) (pk sg.rs) 0 us y (rMarks true (pk sg.rs)) := by
      intro Sh hrep hm
      have hl := RepX.length _ hrep
      refine RepX.trans hm _ hrep rfl fun i hi => ?_
      rcases rMarks_bnd true _ _ (mem_of_markAt (rMarks true (pk sg.rs)) i (by rw [rMarks_length]; exact hi)) with e | e
      · rw [show markAt (ownMarks (pk sg.rs)) i = .own from e, show markAt (rMarks true (pk sg.rs)) i = .own from e]
        exact .hold _ _ _ _ (hown _) (fun _ h => h)
      · rw [show markAt (ownMarks (pk sg.rs)) i = .shr from e, show markAt (rMarks true (pk sg.rs)) i = .shr from e]
        exact .share _
    rw [getD_set_same (by rw [h.len]; exact hl)]
    refine resA_rep sg.rs ?_
    rcases hflat with hOk | hf
    · refine key hrep ⟨Nat.le_refl _, fun b _ hb => ⟨rfl, ?_⟩⟩
      rcases Nat.lt_or_ge b w.heap.size with hl | hl
      · have := hOk b hl (hb.1.resolve_left (by omega))
        refine ⟨this.1, ?_⟩
        rw [g3_old b hl (by rw [this.2]; simp)]; exact handTo_none this.2
      · refine ⟨.inl (Nat.le_trans h.size hl), ?_⟩
        simp only [g3, hb.2]; rw [if_neg (by omega)]
    · exact key (RepX.flat (Sh' := fun _ => False) _ (allFlat_pk _ hf) hrep) ⟨Nat.le_refl _, fun b _ hb => hb.elim⟩)
  exact hK g3 _ ((⟨tm, ds⟩ : Act).put o.dst (resV sg.rs us)) w' (by rw [hd]; exact hS) (by rw [hd]; rfl) hr
theorem repX_share {P : Program} {t : Ty} {Ok B : Nat → Prop} {cs : List Value} {x : t.den} (h : RepC P t w Ok cs x) (c : Nat) : RepX P w Ok (clE B) t c cs x (shrMarks t) := by
  refine RepX.trans (Mono.refl _ _) t (repX_of_repC (c := 0) (ms := shrMarks t) t h (shrMarks_length t)) rfl fun i hi => ?_
  rw [markAt_shrMarks t i hi]
  exact .share _
theorem sl_marks {t : Ty} {c : Nat} {cs : List Value} {x : (Ty.sl t).den} {ms : List Mk} (h : RepX C.P w (Shd C g) (cl g σ tm w 0) (.sl t) c cs x ms) : ∃ m, ms = [m] := by
  obtain ⟨_, _, _, m, _, e, _⟩ := h
  exact ⟨m, e⟩
theorem RepX.mix {t : Ty} {Ok B : Nat → Prop} {c : Nat} {cs : List Value} {x : (Ty.sl t).den} {N : Nat} (h : RepX C.P w (Shd C g) (cl g σ tm w N) (.sl t) 0 cs x [.own]) (hO : ∀ b, Shd C g b → Ok b) (hB : ∀ b, g b = some (N, some 0) → B b) :
    RepX C.P w Ok (clE B) (.sl t) c cs x [.own] := by
  obtain ⟨a, len, cap, m, e, em, hs⟩ := h
  simp only [List.cons.injEq, and_true] at em
  subst em
  obtain ⟨h1, h2⟩ := hs
  exact ⟨a, len, cap, .own, e, rfl, h1.mono ⟨Nat.le_refl _, fun b _ hb => ⟨rfl, hB b hb⟩⟩ fun _ _ => RepC.mono t ⟨Nat.le_refl _, fun b _ hb => ⟨rfl, hO b hb⟩⟩, trivial⟩
theorem op_callE {c : Call} {f : Nat} {sg : Sig} (ho : o.op = .call c) (hc : c.callee = .value (.func f)) (hcon : Contract C.P f sg) (heat : sg.eat = true) (h : SRep C g σ tm w) {x : (pk sg.ps).den} {ms : List Mk} {cs : List Value}
    (hargs : c.args.toList.map (Act.eval ⟨tm, ds⟩) = argVals sg.ps cs) (hx : RepX C.P w (Shd C g) (cl g σ tm w 0) (pk sg.ps) 0 cs x ms) (hn : NoOwn ms) (hb : ∀ m, m ∈ ms → bndM σ m)
    (hr : (callP o sg x ms).run σ K = some r) (hK : Good C K r ds next) : o.wp C.P ⟨tm, ds⟩ w next Q := by
  unfold callP at hr
  rw [heat] at hr
  simp only [if_true] at hr
  split at hr
  case h_2 => simp [Prog.run] at hr
  rename_i m l hhead
  simp only [Bool.and_eq_true] at hhead
  obtain ⟨hh, hown, hdst⟩ := hhead
  obtain ⟨d, hd⟩ := Option.isSome_iff_exists.1 hdst
  obtain ⟨ps, rs, own, eat, φ⟩ := sg
  simp only at heat hargs hx hr hh hown x
  cases ps with
  | nil => cases hh
  | cons t1 ts =>
  cases t1 with
  | sl t =>
    have parts : ∃ (c1 : List Value) (x1 : (Ty.sl t).den), RepX C.P w (Shd C g) (cl g σ tm w 0) (.sl t) 0 c1 x1 [m] ∧
        ((ts = [] ∧ l = [] ∧ cs = c1 ∧ HEq x x1) ∨ ∃ t' ts', ts = t' :: ts' ∧ ∃ (c2 : List Value) (x2 : (pk (t' :: ts')).den), cs = c1 ++ c2 ∧ RepX C.P w (Shd C g) (cl g σ tm w 0) (pk (t' :: ts')) 0 c2 x2 l ∧ HEq x ((x1, x2) : (Ty.pair (.sl t) (pk (t' :: ts'))).den)) := by
      cases ts with
      | nil =>
        obtain ⟨m', em⟩ := sl_marks hx
        simp only [List.cons.injEq] at em
        obtain ⟨rfl, rfl⟩ := em
        exact ⟨cs, x, hx, .inl ⟨rfl, rfl, rfl, HEq.rfl⟩⟩
      | cons t' ts =>
        obtain ⟨c1, c2, m1, m2, e, em, hx1, hx2⟩ := hx
        obtain ⟨m', e1⟩ := sl_marks hx1
        subst e1
        simp only [List.singleton_append, List.cons.injEq] at em
        obtain ⟨rfl, rfl⟩ := em
        exact ⟨c1, x.1, hx1, .inr ⟨t', ts, rfl, c2, x.2, e, hx2.place 0 0 (fun m hm => hn m (List.mem_cons_of_mem _ hm)), HEq.rfl⟩⟩
    obtain ⟨c1, x1, hx1, hrest⟩ := parts
    obtain ⟨g1, σ1, ms', h1, h2, h3, h4, h5, h6, h7, _⟩ := takeMarks_inv [m] [] rfl h (hx1.place σ.length 0 (fun m' hm => hn m' (by simp at hm; simp [hm]))) (fun _ hm => by cases hm) (fun m' hm => hn m' (by simp at hm; simp [hm])) (fun m' hm => hb m' (by simp at hm; simp [hm])) hr
    simp only [List.nil_append] at h4 h5
    split at h6
    case h_2 => simp [Prog.run] at h6
    obtain ⟨hokl, h6⟩ := useMarks_inv l h6
    have hN : σ1.length = σ.length := h2.len
    split at h6
    · -- flat results
      rename_i hfl
      simp only [Prog.run] at h6
      obtain ⟨y, hy, h6⟩ := Option.bind_eq_some_iff.1 h6
      refine call_soundE (Ok := fun b => g1 b ≠ some (σ1.length, some 0)) ho hc hcon heat hargs h1 ?_ (fun b hb hn => hn hb) hy (.inr hfl) hd h6 hK
      have hfst : RepX C.P w (fun b => g1 b ≠ some (σ1.length, some 0)) (clE fun b => g1 b = some (σ1.length, some 0)) (.sl t) 0 c1 x1 [.own] :=
        RepX.mix h5 (fun b hb => by rw [hb.2]; simp) (fun b hb => by rw [hN]; exact hb)
      rcases hrest with ⟨rfl, rfl, rfl, he⟩ | ⟨t', ts', rfl, c2, x2, rfl, hx2, he⟩
      · have := eq_of_heq he
        subst this
        exact hfst
      · have := eq_of_heq he
        subst this
        have hlat := Val.later (tv := ⟨pk (t' :: ts'), x2, l⟩) h2 ⟨c2, rfl, hx2, fun m hm => hn m (List.mem_cons_of_mem _ hm), fun m hm => hb m (List.mem_cons_of_mem _ hm)⟩
        obtain ⟨c2', e', hx2', hn2, _⟩ := hlat
        have := mkV_inj (RepX.length _ hx2).1 (RepX.length _ hx2').1 e'
        subst this
        exact ⟨c1, c2, [.own], shrMarks (pk (t' :: ts')), rfl, rfl, hfst, repX_share (RepX.but hx2' hokl hn2) _⟩
    · rcases hrest with ⟨rfl, rfl, rfl, he⟩ | ⟨t', ts', rfl, c2, x2, rfl, hx2, he⟩
      · have := eq_of_heq he
        subst this
        simp only [takeMarks, Prog.run] at h6
        obtain ⟨y, hy, h6⟩ := Option.bind_eq_some_iff.1 h6
        exact call_soundE (Ok := Shd C g1) ho hc hcon heat hargs h1 (RepX.mix h5 (fun b hb => hb) (fun b hb => by rw [hN]; exact hb)) (fun b hb hn => by rw [hn.2] at hb; cases hb) hy (.inl fun _ _ h => h) hd h6 hK
      · have := eq_of_heq he
        subst this
        have hlat := Val.later (tv := ⟨pk (t' :: ts'), x2, l⟩) h2 ⟨c2, rfl, hx2, fun m hm => hn m (List.mem_cons_of_mem _ hm), fun m hm => hb m (List.mem_cons_of_mem _ hm)⟩
        obtain ⟨c2', e', hx2', hn2, hb2⟩ := hlat
        have := mkV_inj (RepX.length _ hx2).1 (RepX.length _ hx2').1 e'
        subst this
        have hpair : RepX C.P w (Shd C g1) (cl g1 σ1 tm w σ1.length) (.pair (.sl t) (pk (t' :: ts'))) 0 (c1 ++ c2) (x1, x2) ([.own] ++ l) :=
          ⟨c1, c2, [.own], l, rfl, rfl, by rw [hN]; exact h5, hx2'.place σ1.length _ hn2⟩
        obtain ⟨g2, σ2, ms2, k1, k2, k3, k4, k5, k6, k7, k8⟩ := takeMarks_inv l [.own] rfl h1 hpair (fun m hm => .inl (List.mem_singleton.1 hm)) hn2 hb2 h6
        have hN2 : σ2.length = σ1.length := k2.len
        simp only [Prog.run] at k6
        obtain ⟨y, hy, k6⟩ := Option.bind_eq_some_iff.1 k6
        refine call_soundE (Ok := Shd C g2) ho hc hcon heat hargs k1 ?_ (fun b hb hn => by rw [hn.2] at hb; cases hb) hy (.inl fun _ _ h => h) hd k6 hK
        obtain ⟨q1, q2, n1, n2, e, em, r1, r2⟩ := k5
        obtain ⟨m', e1⟩ : ∃ m, n1 = [m] := by
          obtain ⟨_, _, _, m, _, e, _⟩ := r1
          exact ⟨m, e⟩
        subst e1
        simp only [List.singleton_append, List.cons.injEq] at em
        obtain ⟨rfl, rfl⟩ := em
        have hl2 := RepX.length _ r2
        have hrc : RepC C.P (pk (t' :: ts')) w (Shd C g2) q2 x2 := by
          refine repC_of_repX _ (RepX.trans (cl' := shareAll) (c' := 0) (Mono.refl _ _) _ r2 rfl fun i hi => ?_)
          rcases k8 (fun _ => rfl) rfl _ (mem_of_markAt ms2 i (by omega)) with e | e <;> rw [e]
          · exact .share _
          · exact .nil_share
        exact ⟨q1, q2, [.own], shrMarks (pk (t' :: ts')), e, rfl, RepX.mix r1 (fun b hb => hb) (fun b hb => by rw [hN2]; exact hb), repX_share hrc _⟩
  | _ => cases hh
theorem plain_mem {ms : List Mk} (h : plainMarks ms = true) : ∀ m, m ∈ ms → m = .shr ∨ m = .own := by
  intro m hm
  have := List.all_eq_true.1 h m hm
  rw [Bool.or_eq_true] at this
  exact this.imp markBeq_eq markBeq_eq
theorem op_callA (hfn : EnvOK C E) {c : Call} {f : Nat} {B : BxSig} (ho : o.op = .call c) (hc : c.callee = .value (.func f)) (hcon : BxContract C.P f B) (hax : B.ax = true) {Ts : List Nat} {x0 : Operand} {os : List Operand} (hargO : c.args.toList = x0 :: os) (h : SRep C g σ tm w)
    (hr : (argsP E Ts os B.ps fun y _ => axCallP o B x0 y).run σ K = some r) (hK : Good C K r ds next) : o.wp C.P ⟨tm, ds⟩ w next Q := by
  obtain ⟨hdo, hsc, hrsc⟩ := hcon.axs hax
  obtain ⟨y, ms, as, hargs, hx, hn, hb, hok, hq⟩ := argsP_inv (ds := ds) hfn _ _ _ h hr
  clear hr
  have hrc : RepC C.P (pk B.ps) w (fun _ => True) as y := RepX.all hx hok hn
  unfold axCallP at hq
  obtain ⟨a, hav, h7, hnv, hnt⟩ := rdP_inv (ds := ds) h hq
  clear hq
  split at h7
  case h_2 => simp [Prog.run] at h7
  rename_i s off id
  simp only [Prog.run] at h7
  split at h7
  case h_2 => simp [Prog.run] at h7
  rename_i hid
  split at h7
  case h_2 => simp [Prog.run] at h7
  rename_i tb hbox
  split at h7
  case h_2 => simp [Prog.run] at h7
  rename_i u hu
  simp only [Prog.run] at h7
  obtain ⟨rr, hrr, h9⟩ := Option.bind_eq_some_iff.1 h7
  clear h7
  split at h9
  case h_2 => simp [Prog.run] at h9
  rename_i z hz
  simp only [Prog.run] at h9
  obtain ⟨b, et, cs0, hpv, ht, hg, hh, hx0, hl⟩ := h.boxed hav hid hbox
  have hx0l := RepX.length _ hx0
  obtain ⟨hfit, hpart⟩ := getAt_repX tb.t hx0 hu
  have hpl := RepX.length _ hpart
  have hpc : RepC C.P B.t w (fun _ => True) ((cs0.drop off).take B.t.size) u := repX_scalar B.t hsc hpart
  have hex : (execOp (Act.eval ⟨tm, ds⟩) o).run C.P w = .ok (.enter f (Value.pointer (some ⟨b, off, none⟩) :: argVals B.ps as).toArray) w := by
    have e : c.args.map (Act.eval ⟨tm, ds⟩) = (Value.pointer (some ⟨b, off, none⟩) :: argVals B.ps as).toArray := by
      rw [← hargs, ← hpv, ← List.map_cons, ← hargO, ← List.map_toArray]
    simp [execOp, ho, resolve, hc, Act.eval, Deferred.ofValue, invoke, e, hcon.callable.run]
  unfold Oper.wp
  rw [hex, Oper.upon_enter]
  refine (hdo w b off et cs0 _ as u y rr hh rfl (by omega) hpc hrc hrr).mono fun ex w' hpost => ?_
  obtain ⟨us, cs, rfl, hcl, hrep, hres, rfl⟩ := hpost
  show next _ _
  have hxl : cs.length = B.t.size ∧ (shrMarks B.t).length = B.t.size := ⟨hcl, shrMarks_length _⟩
  have st : Step C g σ tm w g tm (w.setRow b (splice cs0 off cs).toArray) s (.box ⟨tb.t, z, setMarks tb.ms off (shrMarks B.t)⟩) (listGet σ s).id ((listGet σ s).gen + 1) := by
    refine ⟨by simp, fun b' _ hb' => setRow_other w b b' _ (fun e => hb' none (e ▸ hg)), fun b' _ hb' => hb', fun b' _ s' c' hs' hm hb' => hb', fun b' _ s' _ hb' => hb',
      fun b' hb' => by rw [setRow_size]; exact h.gok b' hb', rfl, fun _ _ => rfl, by omega, .inl ⟨rfl, rfl⟩, ⟨rfl, rfl, rfl, Nat.le_refl _⟩, fun v hv _ => h.pin s v hv (by rw [hbox]; rfl)⟩
  have hsame : ∀ b', b' ≠ b → (w.setRow b (splice cs0 off cs).toArray).heap[b']? = w.heap[b']? := fun b' hb' => setRow_other w b b' _ hb'
  have hsh : Mono w (Shd C g) (w.setRow b (splice cs0 off cs).toArray) (Shd C g) :=
    ⟨by simp, fun b' _ hb' => ⟨hsame b' (fun e => by rw [e] at hb'; exact absurd hb'.2 (by rw [hg]; simp)), hb'⟩⟩
  have hbnd := h.bnd s hl
  rw [hbox] at hbnd
  have hold := RepX.trans (cl' := cl g (listSet σ s ⟨.box ⟨tb.t, z, setMarks tb.ms off (shrMarks B.t)⟩, (listGet σ s).id, (listGet σ s).gen + 1⟩) tm (w.setRow b (splice cs0 off cs).toArray) s) (c' := 0)
    hsh tb.t hx0 rfl fun i hi => Step.selfCle h st hl (0 + i) _ (fun hm => ⟨by simp, fun b' _ hb' => ⟨hsame b' (fun e => by rw [e, hg] at hb'; simp at hb'), hb'⟩⟩) (hbnd _ (mem_of_markAt _ _ (by omega)))
  have hnew : RepX C.P (w.setRow b (splice cs0 off cs).toArray) (Shd C g) (cl g (listSet σ s ⟨.box ⟨tb.t, z, setMarks tb.ms off (shrMarks B.t)⟩, (listGet σ s).id, (listGet σ s).gen + 1⟩) tm (w.setRow b (splice cs0 off cs).toArray) s) B.t off cs rr.1 (shrMarks B.t) :=
    repX_shr (RepC.scalar B.t hsc hrep) s off
  obtain ⟨hsz, hfin⟩ := setAt_repX tb.t hold (by rw [Nat.zero_add]; exact hnew) hz
  rw [← setMarks_splice _ _ _ (by omega)] at hfin
  have hS := h.replace st (fun _ => ⟨⟨b, et, splice cs0 off cs, ht, hg, setRow_heap w b _ _ et _ hh, hfin⟩, fun m hm => by
    rw [show (⟨tb.t, z, setMarks tb.ms off (shrMarks B.t)⟩ : TV).ms = setMarks tb.ms off (shrMarks B.t) from rfl, setMarks_splice _ _ _ (by omega)] at hm
    rcases mem_splice hm with hm | hm
    · exact bndM_mono (fun s => (st.gens s).1) (hbnd m hm)
    · rw [mem_shrMarks _ m hm]; trivial⟩)
  obtain ⟨σ', k1, k2, k3⟩ := put_sound (v := resV B.rs us) (ds := ds) hS (.refl hS) (fun d hd hl σ' tm' hv => by
    refine resA_rep B.rs ?_
    refine RepX.trans (cl' := cl g σ' tm' _ d) (c' := 0) (Mono.refl _ _) _ (repX_shr (g := g) (σ := σ') (tm := tm') (RepC.scalar _ hrsc hres) d 0) rfl fun i hi => ?_
    rw [markAt_shrMarks _ i hi, show markAt (rMarks false (pk B.rs)) i = .shr from markAt_shrMarks _ i hi]
    exact .share _) h9 (.inl (resA_isBox _ _ _))
  exact hK _ _ _ _ k1 k3 k2
theorem op_callB (hfn : EnvOK C E) {c : Call} {f : Nat} {B : BxSig} (ho : o.op = .call c) (hc : c.callee = .value (.func f)) (hcon : BxContract C.P f B) (h : SRep C g σ tm w)
    (hr : (boxCallP E o B c.argTypes.toList c.args.toList).run σ K = some r) (hK : Good C K r ds next) : o.wp C.P ⟨tm, ds⟩ w next Q := by
  unfold boxCallP at hr
  split at hr
  case h_2 => simp [Prog.run] at hr
  rename_i T0 Ts x0 os hargT hargO
  split at hr
  · rename_i hax
    exact op_callA hfn ho hc hcon hax hargO h hr hK
  rename_i hax
  have hdo := hcon.does (by simpa using hax)
  obtain ⟨y, ms, as, hargs, hx, hn, hb, hok, hq⟩ := argsP_inv (ds := ds) hfn _ _ _ h hr
  clear hr
  obtain ⟨g1, σ1, ms', h1, h2, h3, h4, h5, h6, _, h8⟩ := takeMarks_inv ms [] rfl h (hx.place σ.length 0 hn) (fun _ hm => by cases hm) hn hb hq
  simp only [List.nil_append] at h4 h5
  have hlen := (RepX.length _ h5).2
  have hrc : RepC C.P (pk B.ps) w (Shd C g1) as y := by
    refine repC_of_repX _ (RepX.trans (cl' := shareAll) (c' := 0) (Mono.refl _ _) _ h5 rfl fun i hi => ?_)
    rcases h8 (fun _ => rfl) rfl _ (mem_of_markAt ms' i (by omega)) with e | e <;> rw [e]
    · exact .share _
    · exact .nil_share
  unfold boxP at h6
  obtain ⟨a, hav, h7, hnv, hnt⟩ := rdP_inv (ds := ds) h1 h6
  clear h6
  split at h7
  case h_2 => simp [Prog.run] at h7
  rename_i s id
  simp only [Prog.run] at h7
  split at h7
  case h_2 => simp [Prog.run] at h7
  rename_i hid
  split at h7
  case h_2 => simp [Prog.run] at h7
  rename_i v hbox
  split at h7
  case isFalse => simp [Prog.run] at h7
  rename_i hmk
  split at h7
  case h_2 => simp [Prog.run] at h7
  rename_i u hu
  simp only [Prog.run] at h7
  obtain ⟨rr, hrr, h9⟩ := Option.bind_eq_some_iff.1 h7
  clear h7
  obtain ⟨b, et, cs0, hpv, ht, hg, hh, hx0, hl⟩ := h1.boxed hav hid hbox
  obtain ⟨vt, vx, vms⟩ := v
  have hmk2 : vms = B.bm := marksBeq_eq hmk
  clear hmk
  simp only at hu hx0
  obtain ⟨ety, rfl⟩ := castO_some hu
  subst ety
  subst hmk2
  have hplain := plain_mem hcon.plain
  let g0 : Nat → Option (Option Nat) := fun k => match g1 k with
    | some (s', p) => if s' = s then some p else none
    | none => none
  have g0_some : ∀ k p, g1 k = some (s, p) → g0 k = some p := fun k p hk => by simp [g0, hk]
  have g0_of : ∀ k p, g0 k = some p → g1 k = some (s, p) := fun k p hk => by
    simp only [g0] at hk
    split at hk
    · rename_i s' p' he
      split at hk
      · rename_i hs; subst hs; rw [he, Option.some.inj hk]
      · cases hk
    · cases hk
  have g0_none : ∀ k, g1 k = none → g0 k = none := fun k hk => by simp [g0, hk]
  have g0_other : ∀ k s' p, s' ≠ s → g1 k = some (s', p) → g0 k = none := fun k s' p hs hk => by simp [g0, hk, hs]
  have hX : RepX C.P w (Shd C g1) (clB g0) B.t 0 cs0 vx B.bm := by
    have hl0 := RepX.length _ hx0
    refine RepX.trans (Mono.refl _ _) B.t hx0 rfl fun i hi => ?_
    rcases hplain _ (mem_of_markAt B.bm i (by omega)) with e | e <;> rw [e]
    · exact .share _
    · exact .hold _ _ _ _ ⟨Nat.le_refl _, fun k _ hk => ⟨rfl, g0_some k _ hk⟩⟩ (fun _ h => h)
  have hex : (execOp (Act.eval ⟨tm, ds⟩) o).run C.P w = .ok (.enter f (Value.pointer (some ⟨b, 0, none⟩) :: argVals B.ps as).toArray) w := by
    have e : c.args.map (Act.eval ⟨tm, ds⟩) = (Value.pointer (some ⟨b, 0, none⟩) :: argVals B.ps as).toArray := by
      rw [← hargs, ← hpv, ← List.map_cons, ← hargO, ← List.map_toArray]
    simp [execOp, ho, resolve, hc, Act.eval, Deferred.ofValue, invoke, e, hcon.callable.run]
  unfold Oper.wp
  rw [hex, Oper.upon_enter]
  refine (hdo w (Shd C g1) g0 b et cs0 as vx y rr (g0_some b _ hg) hh hX (fun k hk => g0_none k hk.2) (fun k hk => ?_) hrc hrr).mono fun ex w' hpost => ?_
  · cases hgk : g1 k with
    | none => exact absurd (g0_none k hgk) hk
    | some p => exact (h1.gok k (by rw [hgk]; simp)).1
  obtain ⟨us, gE, e', cs', rfl, hgb, hh', hrep, hres, hs, hH, hgE, hio⟩ := hpost
  show next _ w'
  let g3 : Own := fun k => match gE k with
    | some p => some (s, p)
    | none => if k < w.heap.size then (match g1 k with
        | some (s', p) => if s' = s then none else some (s', p)
        | none => none) else none
  have gE_old : ∀ k, k < w.heap.size → g0 k = none → gE k = none := fun k hk h0 => by
    cases hgk : gE k with
    | none => rfl
    | some p => rcases (hgE k (by rw [hgk]; simp)).1 with h | h; omega; exact absurd h0 h
  have g3_new : ∀ k p, gE k = some p → g3 k = some (s, p) := fun k p hk => by simp only [g3, hk]
  have g3_none : ∀ k, k < w.heap.size → g1 k = none → g3 k = none := fun k hk h0 => by
    simp only [g3, gE_old k hk (g0_none k h0), h0]; rw [if_pos hk]
  have g3_other : ∀ k s' p, k < w.heap.size → s' ≠ s → g1 k = some (s', p) → g3 k = some (s', p) := fun k s' p hk hs h0 => by
    simp only [g3, gE_old k hk (g0_other k s' p hs h0), h0]; rw [if_pos hk, if_neg hs]
  have st : Step C g1 σ1 tm w g3 tm w' s (.box ⟨B.t, rr.1, B.bm⟩) (listGet σ1 s).id ((listGet σ1 s).gen + 1) := by
    refine ⟨hs, fun k hk hx => hH k hk ?_, fun k hk h0 => g3_none k hk h0, fun k hk s' c' hs' _ h0 => g3_other k s' _ hk hs' h0, fun k hk s' hs' h0 => g3_other k s' _ hk hs' h0, fun k hk => ?_, rfl, fun _ _ => rfl, by omega, .inl ⟨rfl, rfl⟩, hio,
      fun v hv _ => h1.pin s v hv (by rw [hbox]; rfl)⟩
    · cases hgk : g1 k with
      | none => exact g0_none k hgk
      | some p =>
        obtain ⟨s', p⟩ := p
        by_cases hs' : s' = s
        · subst hs'; exact absurd hgk (hx p)
        · exact g0_other k s' p hs' hgk
    · cases hgk : gE k with
      | some p =>
        have := hgE k (by rw [hgk]; simp)
        refine ⟨this.2, ?_⟩
        rcases this.1 with h' | h'
        · exact .inl (Nat.le_trans h1.size h')
        · cases h0 : g0 k with
          | none => exact absurd h0 h'
          | some p => exact (h1.gok k (by rw [g0_of k p h0]; simp)).2
      | none =>
        rcases Nat.lt_or_ge k w.heap.size with hlt | hge
        · cases h0 : g1 k with
          | none => exact absurd (g3_none k hlt h0) hk
          | some p =>
            have := h1.gok k (by rw [h0]; simp)
            exact ⟨by omega, this.2⟩
        · exfalso
          have : g3 k = none := by simp only [g3, hgk]; rw [if_neg (by omega)]
          exact hk this
  have hm : Mono w' (Left w (Shd C g1) g0 gE) w' (Shd C g3) := ⟨Nat.le_refl _, fun k _ hk => ⟨rfl, by
    obtain ⟨hor, hgk⟩ := hk
    rcases Nat.lt_or_ge k w.heap.size with hlt | hge
    · rcases hor with h' | h' | h'
      · omega
      · exact ⟨h'.1, g3_none k hlt h'.2⟩
      · cases h0 : g0 k with
        | none => exact absurd h0 h'
        | some p =>
          have h3 := g0_of k p h0
          refine ⟨(h1.gok k (by rw [h3]; simp)).2.imp (fun h => h) .inr, ?_⟩
          simp [g3, hgk, h3]
    · refine ⟨.inl (Nat.le_trans h1.size hge), ?_⟩
      simp only [g3, hgk]; rw [if_neg (by omega)]⟩⟩
  have hS := h1.replace st (fun _ => by
    have hl0 := RepX.length _ hrep
    refine ⟨⟨b, e', cs', ht, g3_new b _ hgb, hh', ?_⟩, fun m hm => ?_⟩
    · refine RepX.trans hm B.t hrep rfl fun i hi => ?_
      rcases hplain _ (mem_of_markAt B.bm i (by omega)) with e | e <;> rw [e]
      · exact .share _
      · exact .hold _ _ _ _ ⟨Nat.le_refl _, fun k _ hk => ⟨rfl, g3_new k _ hk⟩⟩ (fun _ h => h)
    · rcases hplain m hm with rfl | rfl <;> trivial)
  obtain ⟨σ', k1, k2, k3⟩ := put_sound (v := resV B.rs us) (ds := ds) hS (.refl hS) (fun d hd hl σ' tm' hv => by
    refine resA_rep B.rs ?_
    have : RepC C.P (pk B.rs) w' (Shd C g3) us rr.2 := RepC.mono _ hm hres
    refine RepX.trans (cl' := cl g3 σ' tm' w' d) (c' := 0) (Mono.refl _ _) _ (repX_shr (g := g3) (σ := σ') (tm := tm') this d 0) rfl fun i hi => ?_
    rw [markAt_shrMarks _ i hi, show markAt (rMarks false (pk B.rs)) i = .shr from markAt_shrMarks _ i hi]
    exact .share _) h9 (.inl (resA_isBox _ _ _))
  exact hK _ _ _ _ k1 k3 k2
theorem op_callF {c : Call} {f : Nat} (ho : o.op = .call c) (hc : c.callee = .value (.func f)) (hfn : EnvOK C E) (h : SRep C g σ tm w)
    (hr : (opP E o).run σ K = some r) (hK : Good C K r ds next) : o.wp C.P ⟨tm, ds⟩ w next Q := by
  unfold opP at hr
  rw [ho] at hr
  simp only [hc] at hr
  split at hr
  case h_2 =>
    split at hr
    case h_2 => simp [Prog.run] at hr
    rename_i B hB
    exact op_callB hfn ho hc (hfn.bxs _ _ hB) h hr hK
  rename_i sg hsg
  have hcon := hfn.fns _ _ hsg
  obtain ⟨x, ms, cs, hargs, hx, hn, hb, hok, hq⟩ := argsP_inv (ds := ds) hfn _ _ _ h hr
  clear hr
  cases heat : sg.eat with
  | true => exact op_callE ho hc hcon heat h hargs hx hn hb hq hK
  | false =>
  unfold callP at hq
  rw [heat] at hq
  simp only [Bool.false_eq_true, if_false] at hq
  split at hq
  · rename_i hfl
    simp only [Bool.and_eq_true] at hfl
    simp only [Prog.run] at hq
    obtain ⟨y, hy, hq⟩ := Option.bind_eq_some_iff.1 hq
    rw [← hfl.1] at hq
    exact call_sound ho hc hcon heat hargs h (hx.all hok hn) hy (.inr hfl) hq hK
  · obtain ⟨g1, σ1, ms', h1, h2, h3, h4, h5, h6, _, h8⟩ := takeMarks_inv ms [] rfl h (hx.place σ.length 0 hn) (fun _ hm => by cases hm) hn hb hq
    simp only [List.nil_append] at h4 h5
    have hlen := (RepX.length _ h5).2
    have hrc : RepC C.P (pk sg.ps) w (Shd C g1) cs x := by
      refine repC_of_repX _ (RepX.trans (cl' := shareAll) (c' := 0) (Mono.refl _ _) _ h5 rfl fun i hi => ?_)
      rcases h8 (fun _ => rfl) rfl _ (mem_of_markAt ms' i (by omega)) with e | e <;> rw [e]
      · exact .share _
      · exact .nil_share
    simp only [Prog.run] at h6
    obtain ⟨y, hy, h6⟩ := Option.bind_eq_some_iff.1 h6
    exact call_sound ho hc hcon heat hargs h1 hrc hy (.inl fun _ _ h => h) h6 hK
end
end Go.GD
end
