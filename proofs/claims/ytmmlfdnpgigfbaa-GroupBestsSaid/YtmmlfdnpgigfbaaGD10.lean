import Derived.Test.YtmmlfdnpgigfbaaGD9
namespace Go.GD
open Go

section
variable {C : Ctx} {g : Own} {σ : St} {tm : Array Value} {w : World} {E : Env} {o : Oper} {ρ : Type} {K : St → Option ρ} {r : ρ} {ds : List Deferred}
  {next : Act → World → Prop} {Q : Exit → Act → World → Prop}

theorem op_move {x : Operand} (ho : o.op = .move x) (h : SRep C g σ tm w) (hr : (opP E o).run σ K = some r) (hK : Good C K r ds next) : o.wp C.P ⟨tm, ds⟩ w next Q := by
  unfold opP at hr
  rw [ho] at hr
  obtain ⟨a, ha, hr⟩ := rdA_inv (ds := ds) h hr
  exact av_sound h (.refl h) (by simp [execOp, ho]) ha hr hK

theorem op_pick {c a b : Operand} (ho : o.op = .pick c a b) (h : SRep C g σ tm w) (hr : (opP E o).run σ K = some r) (hK : Good C K r ds next) : o.wp C.P ⟨tm, ds⟩ w next Q := by
  unfold opP at hr
  rw [ho] at hr
  obtain ⟨t, ht, hr⟩ := rdBool_inv (ds := ds) h hr
  simp only [Prog.run] at hr
  cases t with
  | true =>
    obtain ⟨a, ha, hr⟩ := rdA_inv (ds := ds) h hr
    exact av_sound h (.refl h) (by simp [execOp, ho, ht, asBool]) ha hr hK
  | false =>
    obtain ⟨a, ha, hr⟩ := rdA_inv (ds := ds) h hr
    exact av_sound h (.refl h) (by simp [execOp, ho, ht, asBool]) ha hr hK

theorem op_assign {x : Operand} (ho : o.op = .assign x) (h : SRep C g σ tm w) (hr : (opP E o).run σ K = some r) (hK : Good C K r ds next) : o.wp C.P ⟨tm, ds⟩ w next Q := by
  unfold opP at hr
  rw [ho] at hr
  obtain ⟨a, ha, hr⟩ := rdA_inv (ds := ds) h hr
  cases a with
  | val tv =>
    simp only at hr
    cases hf : isFn tv.t with
    | true =>
      rw [hf] at hr
      simp only [if_true] at hr
      exact av_sound h (.refl h) (by simp [execOp, ho]) ha hr hK
    | false =>
    rw [hf] at hr
    simp only [Bool.false_eq_true, if_false] at hr
    obtain ⟨cs, e, hx, hn, hb⟩ := ha
    obtain ⟨g1, σ1, ms', h1, h2, h3, h4, h5, h6, h7, _⟩ := takeMarks_inv tv.ms [] rfl h (hx.place σ.length 0 hn) (fun _ hm => by cases hm) hn hb hr
    have hN : σ1.length = σ.length := h2.len
    refine new_sound (w0 := w) h1 (Grow.handTo h1 (o.dst.getD 0) 0) (v := Act.eval ⟨tm, ds⟩ x) (by simp [execOp, ho]) (fun d hd hl σ' tm' hv => ?_) h6 hK
    rw [hd, hN]
    rw [hd, hN] at hv
    simp only [Option.getD_some, List.nil_append] at h4 h5 hv ⊢
    exact ⟨⟨cs, e, laid_cells (N := σ.length) (off := 0) (d := d) h5 h4 (mono_handTo _ _ _) fun c => ⟨Nat.le_refl _, fun b _ hb => ⟨rfl, handTo_hand hb⟩⟩⟩, laid_bnd h4⟩
  | mref s id => exact av_sound h (.refl h) (by simp [execOp, ho]) ha hr hK
  | bptr s off id => exact av_sound h (.refl h) (by simp [execOp, ho]) ha hr hK
  | _ => simp [Prog.run] at hr

theorem out_val {v : Value} {tv : TV} (h : SRep C g σ tm w) (hexec : (execOp (Act.eval ⟨tm, ds⟩) o).run C.P w = .ok (.value v) w)
    (hv : Val C g σ tm w v tv) (hr : (out o tv).run σ K = some r) (hK : Good C K r ds next) : o.wp C.P ⟨tm, ds⟩ w next Q :=
  av_sound h (.refl h) hexec (a0 := .val tv) hv hr hK

theorem op_binInt {op : BinOp} {T T' : Nat} {x y : Operand} {k0 : IntKind} (ho : o.op = .binOp op T x y T') (hT : E.ty T = some (.int k0)) (h : SRep C g σ tm w)
    (hr : (opP E o).run σ K = some r) (hK : Good C K r ds next) : o.wp C.P ⟨tm, ds⟩ w next Q := by
  unfold opP at hr
  rw [ho] at hr
  simp only [binP, hT] at hr
  obtain ⟨k, a, hx, hr⟩ := rdInt_inv (ds := ds) h hr
  obtain ⟨k', b, hy, hr⟩ := rdInt_inv (ds := ds) h hr
  have he : ∀ v, (binOp op T (.int k a) (.int k' b)).run C.P w = .ok v w → (execOp (Act.eval ⟨tm, ds⟩) o).run C.P w = .ok (.value v) w := by
    intro v hv
    simp only [execOp, ho, hx, hy]
    have hg : (eqGuard op T x y (.int k a) (.int k' b)).run C.P w = .ok () w := by
      unfold eqGuard
      split <;> simp
    simp [hg, hv]
  by_cases hs : op = .shl ∨ op = .shr
  · rcases hs with rfl | rfl
    · simp only [Prog.run] at hr
      by_cases hb : b < 0
      · simp [hb] at hr
      · simp only [hb, decide_false, cond] at hr
        exact out_val h (he (.int k (k.wrap (a * 2 ^ (min b.toNat k.bits)))) (by simp [binOp, Op.shift, hb])) (Val.int _ _) hr hK
    · simp only [Prog.run] at hr
      by_cases hb : b < 0
      · simp [hb] at hr
      · simp only [hb, decide_false, cond] at hr
        exact out_val h (he (.int k (a.fdiv (2 ^ (min b.toNat k.bits)))) (by simp [binOp, Op.shift, hb])) (Val.int _ _) hr hK
  · have hr' : (if kindBeq k k' then intOp op k a b (fun v => out o v) else Prog.fail).run σ K = some r := by
      cases op <;> first
        | exact hr
        | (exfalso; exact hs (by simp))
    clear hr
    split at hr'
    · rename_i hk
      have hk := kindBeq_eq hk
      subst hk
      cases op with
      | add => exact out_val h (he _ (by simp [binOp, Op.intArith])) (Val.int _ _) hr' hK
      | sub => exact out_val h (he _ (by simp [binOp, Op.intArith])) (Val.int _ _) hr' hK
      | mul => exact out_val h (he _ (by simp [binOp, Op.intArith])) (Val.int _ _) hr' hK
      | quo =>
        simp only [intOp, Prog.run] at hr'
        by_cases hb : b = 0
        · subst hb; simp at hr'
        · have hb' : (b == 0) = false := by simpa using hb
          rw [hb'] at hr'
          exact out_val h (he _ (by simp [binOp, Op.intDiv, hb])) (Val.int _ _) hr' hK
      | rem =>
        simp only [intOp, Prog.run] at hr'
        by_cases hb : b = 0
        · subst hb; simp at hr'
        · have hb' : (b == 0) = false := by simpa using hb
          rw [hb'] at hr'
          exact out_val h (he _ (by simp [binOp, Op.intDiv, hb])) (Val.int _ _) hr' hK
      | and => exact out_val h (he _ (by simp [binOp, Op.intBits])) (Val.int _ _) hr' hK
      | or => exact out_val h (he _ (by simp [binOp, Op.intBits])) (Val.int _ _) hr' hK
      | xor => exact out_val h (he _ (by simp [binOp, Op.intBits])) (Val.int _ _) hr' hK
      | andNot => exact out_val h (he _ (by simp [binOp, Op.intBits])) (Val.int _ _) hr' hK
      | shl => exact absurd (.inl rfl) hs
      | shr => exact absurd (.inr rfl) hs
      | eql => exact out_val h (he (.bool (a == b)) (by simp [binOp, Op.intCmp])) (Val.bool _) hr' hK
      | neq => exact out_val h (he (.bool (a != b)) (by simp [binOp, Op.intCmp])) (Val.bool _) hr' hK
      | lss => exact out_val h (he (.bool (decide (a < b))) (by simp [binOp, Op.intCmp])) (Val.bool _) hr' hK
      | leq => exact out_val h (he (.bool (decide (a ≤ b))) (by simp [binOp, Op.intCmp])) (Val.bool _) hr' hK
      | gtr => exact out_val h (he (.bool (decide (a > b))) (by simp [binOp, Op.intCmp])) (Val.bool _) hr' hK
      | geq => exact out_val h (he (.bool (decide (a ≥ b))) (by simp [binOp, Op.intCmp])) (Val.bool _) hr' hK
    · simp [Prog.run] at hr'

theorem op_unOp {op : UnOp} {T : Nat} {x : Operand} (ho : o.op = .unOp op T x) (h : SRep C g σ tm w)
    (hr : (opP E o).run σ K = some r) (hK : Good C K r ds next) : o.wp C.P ⟨tm, ds⟩ w next Q := by
  unfold opP at hr
  rw [ho] at hr
  cases op with
  | not =>
    obtain ⟨b, hx, hr⟩ := rdBool_inv (ds := ds) h hr
    exact out_val h (by simp [execOp, ho, hx, Op.unary]) (Val.bool _) hr hK
  | neg =>
    obtain ⟨k, n, hx, hr⟩ := rdInt_inv (ds := ds) h hr
    exact out_val h (by simp [execOp, ho, hx, Op.unary, Op.intArith]) (Val.int k (k.wrap (0 - n))) hr hK
  | _ => simp [Prog.run] at hr

/-- an integer type -/
theorem int_desc (hE : TabOK C.P E.tab) {T : Nat} {k : IntKind} (hT : E.ty T = some (.int k)) : C.P.underlying T = some (.int k) := by
  obtain ⟨e, he, hty⟩ := Env.ty_some hT
  obtain ⟨dd, _, hu2, hdo⟩ := (hE.find he).underlying default
  rw [hu2]
  cases dd with
  | int k' => have := Ty.eq_of_beq hdo; rw [hty] at this; injection this with this; rw [this]
  | bool => have := Ty.eq_of_beq hdo; rw [hty] at this; cases this
  | string => have := Ty.eq_of_beq hdo; rw [hty] at this; cases this
  | slice el =>
    simp only [descOK, Bool.and_eq_true] at hdo
    obtain ⟨_, hdo⟩ := hdo
    split at hdo
    · simp only [Bool.and_eq_true] at hdo
      have := Ty.eq_of_beq hdo.1; rw [hty] at this; cases this
    · cases hdo
  | struct fs => simp [descOK, hty, Ty.isAgg] at hdo
  | array n el => simp [descOK, hty, Ty.isAgg] at hdo
  | func ps rs v => simp [descOK, hty] at hdo
  | _ => simp [descOK] at hdo

theorem op_convertInt {s d : Nat} {x : Operand} {k0 k : IntKind} (hE : TabOK C.P E.tab) (ho : o.op = .convert s d x) (hs : E.ty s = some (.int k0)) (hd : E.ty d = some (.int k)) (h : SRep C g σ tm w)
    (hr : (opP E o).run σ K = some r) (hK : Good C K r ds next) : o.wp C.P ⟨tm, ds⟩ w next Q := by
  unfold opP at hr
  rw [ho] at hr
  simp only [hs, hd] at hr
  · obtain ⟨kd, n, hx, hr⟩ := rdInt_inv (ds := ds) h hr
    have hu := int_desc hE hs
    have hu2 := int_desc hE hd
    refine out_val h ?_ (Val.int k (k.wrap n)) hr hK
    have : (convert s d (.int kd n)).run C.P w = .ok (.int k (k.wrap n)) w := by
      unfold convert
      simp only [Sem.run_bind, underlying, run_program, Result.andThen_ok, hu, hu2, Sem.run_pure]
      simp [Conv.intToInt]
    simp [execOp, ho, hx, this]

theorem op_min {c : Call} {x y : Operand} (ho : o.op = .call c) (hc : c.callee = .builtin .min) (ha : c.args.toList = [x, y]) (h : SRep C g σ tm w)
    (hr : (opP E o).run σ K = some r) (hK : Good C K r ds next) : o.wp C.P ⟨tm, ds⟩ w next Q := by
  unfold opP at hr
  rw [ho] at hr
  simp only [hc, ha] at hr
  obtain ⟨k, a, hx, hr⟩ := rdInt_inv (ds := ds) h hr
  obtain ⟨k', b, hy, hr⟩ := rdInt_inv (ds := ds) h hr
  have hargs : c.args = #[x, y] := by rw [← Array.toArray_toList (xs := c.args), ha]
  refine out_val h (v := .int k (cond (decide (b < a)) b a)) ?_ (Val.int k _) hr hK
  simp [execOp, ho, resolve, hc, hargs, invoke, builtin, Builtin.min_, hx, hy, Builtin.min2]

theorem op_max {c : Call} {x y : Operand} (ho : o.op = .call c) (hc : c.callee = .builtin .max) (ha : c.args.toList = [x, y]) (h : SRep C g σ tm w)
    (hr : (opP E o).run σ K = some r) (hK : Good C K r ds next) : o.wp C.P ⟨tm, ds⟩ w next Q := by
  unfold opP at hr
  rw [ho] at hr
  simp only [hc, ha] at hr
  obtain ⟨k, a, hx, hr⟩ := rdInt_inv (ds := ds) h hr
  obtain ⟨k', b, hy, hr⟩ := rdInt_inv (ds := ds) h hr
  have hargs : c.args = #[x, y] := by rw [← Array.toArray_toList (xs := c.args), ha]
  refine out_val h (v := .int k (cond (decide (b > a)) b a)) ?_ (Val.int k _) hr hK
  simp [execOp, ho, resolve, hc, hargs, invoke, builtin, Builtin.max_, hx, hy, Builtin.max2]

theorem says_len {m : Mk} {t : Ty} {a : Option Addr} {len cap : Nat} {xs : List t.den} (hok : okM σ m) (hno : m ≠ .own)
    (hs : (cl g σ tm w 0 0 m).says t.size w (Shd C g) (RepC C.P t w (Shd C g)) a len cap xs) : xs.length = len ∧ len ≤ cap := by
  cases m with
  | shr => exact ⟨hs.1.1, hs.1.2.1⟩
  | nn => exact ⟨hs.1.1, hs.1.2.1⟩
  | nil => obtain ⟨_, rfl, rfl, rfl⟩ := hs; exact ⟨rfl, Nat.le_refl _⟩
  | own => exact absurd rfl hno
  | dead => exact hok.elim
  | ref s' c' g' =>
    simp only [clm, (show validB σ s' c' g' = true from hok), cond] at hs
    exact ⟨hs.1.1, hs.1.2.1⟩
  | sub s' c' g' =>
    simp only [clm, (show validB σ s' c' g' = true from hok), cond] at hs
    exact ⟨hs.1.1, hs.1.2.1⟩
  | bor q =>
    simp only [clm, (show borOk σ q = true from hok), cond] at hs
    exact ⟨hs.1.1, hs.1.2.1⟩

theorem op_len {c : Call} (hE : TabOK C.P E.tab) (ho : o.op = .call c) (hc : c.callee = .builtin .len) (h : SRep C g σ tm w)
    (hr : (opP E o).run σ K = some r) (hK : Good C K r ds next) : o.wp C.P ⟨tm, ds⟩ w next Q := by
  unfold opP at hr
  rw [ho] at hr
  simp only [hc] at hr
  split at hr
  · rename_i x T ha ht
    split at hr
    · rename_i t0 hT
      obtain ⟨t, xs, m, a, len, cap, hx, hok, hno, _, hs, hr⟩ := rdSl_inv (ds := ds) h hr
      obtain ⟨hl, _⟩ := says_len hok hno hs
      have hargs : c.args = #[x] := by rw [← Array.toArray_toList (xs := c.args), ha]
      have htys : c.argTypes = #[T] := by rw [← Array.toArray_toList (xs := c.argTypes), ht]
      obtain ⟨e, he, hty⟩ := Env.ty_some hT
      have hu := ((hE.find he).slice hty).1
      refine out_val h (v := .int .i64 (xs.length : Int)) ?_ (Val.int .i64 _) hr hK
      simp [execOp, ho, resolve, hc, hargs, htys, invoke, builtin, Builtin.len_, hx, underlying, hu, hl, goInt]
    · simp [Prog.run] at hr
  · simp [Prog.run] at hr
end
end Go.GD
