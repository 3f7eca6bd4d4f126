import Derived.Test.YtmmlfdnpgigfbaaGD11
namespace Go.GD
open Go

section
variable {C : Ctx} {g : Own} {σ : St} {tm : Array Value} {w : World} {E : Env} {o : Oper} {ρ : Type} {K : St → Option ρ} {r : ρ} {ds : List Deferred}
  {next : Act → World → Prop} {Q : Exit → Act → World → Prop}

theorem rdS_inv {t0 : Ty} {x : Operand} {k : List t0.den → Mk → Prog} (h : SRep C g σ tm w) (hr : (rdS t0 x k).run σ K = some r) : ∃ xs m a len cap, Act.eval ⟨tm, ds⟩ x = .slice a len cap ∧ okM σ m ∧ m ≠ .own ∧ bndM σ m ∧
      (cl g σ tm w 0 0 m).says t0.size w (Shd C g) (RepC C.P t0 w (Shd C g)) a len cap xs ∧ (k xs m).run σ K = some r := by
  obtain ⟨t, xs, m, a, len, cap, h1, h2, h3, h4, h5, hr⟩ := rdSl_inv (ds := ds) h hr
  split at hr
  · rename_i ys hy
    obtain ⟨e, he⟩ := castO_some hy
    injection e with e
    subst e
    subst he
    exact ⟨_, m, a, len, cap, h1, h2, h3, h4, h5, hr⟩
  · simp [Prog.run] at hr

theorem idx_some {α : Type} {xs : List α} {n : Int} {e : α} (h : idx xs n = some e) : 0 ≤ n ∧ ∃ hl : n.toNat < xs.length, xs[n.toNat] = e := by
  unfold idx at h
  by_cases hn : 0 ≤ n
  · rw [show decide (0 ≤ n) = true by simpa using hn] at h
    simp only [cond] at h
    exact ⟨hn, List.getElem?_eq_some_iff.1 h⟩
  · rw [show decide (0 ≤ n) = false by simpa using hn] at h
    cases h

/-- the cells of a row -/
theorem rows_mem {t : Ty} {xs : List t.den} {ad : Addr} {B : Nat → Prop} (hr : Rows t.size w (RepC C.P t w (Shd C g)) ad xs) (hb : B ad.block) (hl : ad.block < w.heap.size) (i : Nat) (hi : i < xs.length) :
    MemAt t.size w B (RepC C.P t w (Shd C g)) ⟨ad.block, ad.off + i * t.size, none⟩ xs[i] := by
  obtain ⟨cs, h1, h2, h3⟩ := hr i hi
  exact ⟨hl, hb, cs, h1, h2, h3⟩

theorem op_indexAddr {T : Nat} {x i : Operand} (hE : TabOK C.P E.tab) (ho : o.op = .indexAddr T x i) (h : SRep C g σ tm w) (hr : (opP E o).run σ K = some r) (hK : Good C K r ds next) :
    o.wp C.P ⟨tm, ds⟩ w next Q := by
  unfold opP at hr
  rw [ho] at hr
  simp only at hr
  split at hr
  case h_2 => simp [Prog.run] at hr
  rename_i e he
  split at hr
  · rename_i harr
    split at hr
    case h_2 => simp [Prog.run] at hr
    rename_i kd n
    split at hr
    case isFalse => simp [Prog.run] at hr
    rename_i hag
    simp only [Bool.and_eq_true, decide_eq_true_eq] at hag
    obtain ⟨a, ha, hr, _, _⟩ := rdP_inv (ds := ds) h hr
    obtain ⟨e', off, T', t, ad, he', hf, hT, hz, hv, hsp, a', ha', hr⟩ := fieldP_inv h ha hr
    rw [he] at he'; injection he' with he'; subst he'
    obtain ⟨m, te, hu, hlen, hte, hak⟩ := array_desc (hE.find he) hag.1 harr
    obtain ⟨hoff, hT'⟩ := arrOK_get _ 0 hak _ _ _ hf
    have hlt : n.toNat < m := by
      rw [← hlen]
      rcases Nat.lt_or_ge n.toNat e.flds.length with h | h
      · exact h
      · rw [List.getElem?_eq_none h] at hf; cases hf
    have hlt' : n < (m : Int) := by omega
    have hsz := (hE.find hte).sizeOf w
    refine av_sound h (.refl h) ?_ ha' hr hK
    rw [Nat.zero_add] at hoff
    have hi : Act.eval ⟨tm, ds⟩ (.const (.int kd n)) = .int kd n := rfl
    simp [execOp, ho, hv, hi, Instr.indexAt, asIntOf, underlying, hu, Instr.sureAddr, hag.2, hlt', hsz, addr_add hsp, hoff]
  · split at hr
    case h_2 => simp [Prog.run] at hr
    rename_i el hel
    split at hr
    case isFalse => simp [Prog.run] at hr
    rename_i hty
    have hty := Ty.eq_of_beq hty
    obtain ⟨xs, m, a, len, cap, hx, hok, hno, hbn, hs, hr⟩ := rdS_inv (ds := ds) h hr
    obtain ⟨kd, n, hi, hr⟩ := rdInt_inv (ds := ds) h hr
    simp only [Prog.run] at hr
    obtain ⟨xe, hxe, hr⟩ := Option.bind_eq_some_iff.1 hr
    obtain ⟨hn, hlt, hge⟩ := idx_some hxe
    obtain ⟨hu, te, hte, _, _⟩ := (hE.find he).slice hty
    have hsz := (hE.find hel).sizeOf w
    -- the value of the operation
    have exec : ∀ ad : Addr, a = some ad → ad.spot = none → n.toNat < len → (execOp (Act.eval ⟨tm, ds⟩) o).run C.P w = .ok (.value (.pointer (some ⟨ad.block, ad.off + n.toNat * el.ty.size, none⟩))) w := by
      intro ad had hsp hl
      have hl' : n < (len : Int) := by omega
      subst had
      simp [execOp, ho, hx, hi, Instr.indexAt, asIntOf, underlying, hu, hn, hl', hsz, addr_add hsp]
    have share : ShareS el.ty.size w (Shd C g) (RepC C.P el.ty w (Shd C g)) a len cap xs → (putA o.dst (.cptr el.ty xe none) .fin).run σ K = some r → o.wp C.P ⟨tm, ds⟩ w next Q := by
      intro hS hr
      obtain ⟨h1, h2, h3⟩ := hS
      rcases h3 with h3 | ⟨ad, had, hsp, hbl, hB, hrow⟩
      · omega
      · refine av_sound h (.refl h) (exec ad had hsp (by omega)) (a0 := .cptr el.ty xe none) ⟨⟨_, rfl, rfl, ?_⟩, trivial⟩ hr hK
        have := rows_mem hrow hB hbl _ hlt
        rw [hge] at this; exact this
    cases m with
    | shr => exact share hs.1 hr
    | nn => exact share hs.1 hr
    | nil => simp [Prog.run] at hr
    | own => exact absurd rfl hno
    | dead => exact hok.elim
    | bor q => simp [Prog.run] at hr
    | ref s c gn =>
      have hval : validB σ s c gn = true := hok
      simp only [clm, hval, cond] at hs
      obtain ⟨⟨h1, h2, h3⟩, hV⟩ := hs
      rcases h3 with h3 | ⟨ad, had, hsp, hB, ⟨vs, et, hh, hc⟩, hrow⟩
      · omega
      · refine av_sound h (.refl h) (exec ad had hsp (by omega)) (a0 := .eptr s c gn n.toNat el.ty xe 0) ⟨fun _ => ⟨ad, len, cap, ?_, hsp, by omega, rfl, ?_⟩, hbn⟩ hr hK
        · rw [had] at hV; exact hV
        · have := rows_mem hrow (B := fun b => g b = some (s, some c)) hB (heap_lt hh) _ hlt
          rw [hge] at this; exact this
    | sub s c gn =>
      have hval : validB σ s c gn = true := hok
      simp only [clm, hval, cond] at hs
      obtain ⟨⟨h1, h2, h3⟩, hV⟩ := hs
      rcases h3 with h3 | ⟨ad, had, hsp, hB, ⟨vs, et, hh, hc⟩, hrow⟩
      · omega
      · refine av_sound h (.refl h) (exec ad had hsp (by omega)) (a0 := .cptr el.ty xe (some (s, c, gn))) ⟨fun _ => ⟨_, rfl, rfl, ?_⟩, hbn⟩ hr hK
        have := rows_mem hrow (B := fun b => g b = some (s, some c)) hB (heap_lt hh) _ hlt
        rw [hge] at this; exact this

theorem optInt_inv {x : Option Operand} {d : Int} {k : Int → Prog} (h : SRep C g σ tm w) (hr : (optInt x d k).run σ K = some r) :
    ∃ n, (k n).run σ K = some r ∧ ((x = none ∧ n = d) ∨ ∃ y kd, x = some y ∧ Act.eval ⟨tm, ds⟩ y = .int kd n) := by
  cases x with
  | none => exact ⟨d, hr, .inl ⟨rfl, rfl⟩⟩
  | some y =>
    obtain ⟨kd, n, hy, hr⟩ := rdInt_inv (ds := ds) h hr
    exact ⟨n, hr, .inr ⟨y, kd, rfl, hy⟩⟩

theorem rows_sub {α : Type} {size : Nat} {R : List Value → α → Prop} {ad : Addr} {xs : List α} (hr : Rows size w R ad xs) (l k : Nat) :
    Rows size w R ⟨ad.block, ad.off + l * size, none⟩ ((xs.take k).drop l) := by
  intro i hi
  simp only [List.length_drop, List.length_take] at hi
  have hlt : l + i < xs.length := by omega
  obtain ⟨cs, h1, h2, h3⟩ := hr (l + i) hlt
  refine ⟨cs, h1, fun j hj => ?_, ?_⟩
  · rw [← h2 j hj]
    congr 2
    show ad.off + l * size + i * size + j = ad.off + (l + i) * size + j
    rw [Nat.add_mul]; omega
  · simp only [List.getElem_drop, List.getElem_take]; exact h3

theorem Val.slice {t : Ty} {xs : List t.den} {m : Mk} {a : Option Addr} {len cap : Nat} (hs : (cl g σ tm w 0 0 m).says t.size w (Shd C g) (RepC C.P t w (Shd C g)) a len cap xs)
    (hn : m ≠ .own) (hb : bndM σ m) : Val C g σ tm w (.slice a len cap) ⟨.sl t, xs, [m]⟩ :=
  ⟨[.slice a len cap], rfl, ⟨a, len, cap, m, rfl, rfl, hs⟩, fun m' hm => by rw [List.mem_singleton.1 hm]; exact hn, fun m' hm => by rw [List.mem_singleton.1 hm]; exact hb⟩

theorem op_slice {T : Nat} {x : Operand} {lo hi : Option Operand} (hE : TabOK C.P E.tab) (ho : o.op = .slice T x lo hi none) (h : SRep C g σ tm w) (hr : (opP E o).run σ K = some r) (hK : Good C K r ds next) :
    o.wp C.P ⟨tm, ds⟩ w next Q := by
  unfold opP at hr
  rw [ho] at hr
  simp only at hr
  split at hr
  case h_2 => simp [Prog.run] at hr
  rename_i t hT
  obtain ⟨xs, m, a, len, cap, hx, hok, hno, hbn, hs, hr⟩ := rdS_inv (ds := ds) h hr
  obtain ⟨l, hr, hlo⟩ := optInt_inv (ds := ds) h hr
  obtain ⟨k, hr, hhi⟩ := optInt_inv (ds := ds) h hr
  simp only [Prog.run] at hr
  by_cases hb : (decide (0 ≤ l) && (decide (l ≤ k) && decide (k ≤ (xs.length : Int)))) = true
  case neg =>
    rw [show (decide (0 ≤ l) && (decide (l ≤ k) && decide (k ≤ (xs.length : Int)))) = false by simpa using hb] at hr
    simp at hr
  rw [hb] at hr
  simp only [cond] at hr
  simp only [Bool.and_eq_true, decide_eq_true_eq] at hb
  obtain ⟨hl0, hlk, hkl⟩ := hb
  obtain ⟨hlen, hcap⟩ := says_len hok hno hs
  obtain ⟨e, he, hty⟩ := Env.ty_some hT
  obtain ⟨hu, te, hte, hteq, _⟩ := (hE.find he).slice hty
  have hsz := (hE.find hte).sizeOf w
  rw [hteq] at hsz
  have exec : (execOp (Act.eval ⟨tm, ds⟩) o).run C.P w = .ok (.value (.slice (if cap = l.toNat then a else a.map (·.add (l.toNat * t.size))) (k.toNat - l.toNat) (cap - l.toNat))) w := by
    have hkc : k ≤ (cap : Int) := by omega
    have hb : (Instr.sliceBounds true len cap (lo.map (Act.eval ⟨tm, ds⟩)) (hi.map (Act.eval ⟨tm, ds⟩)) none).run C.P w = .ok (l.toNat, k.toNat, cap) w := by
      have h1 : ∀ (y : Nat), k = (y : Int) → l ≤ (y : Int) := fun y hy => by omega
      rcases hhi with ⟨rfl, hk⟩ | ⟨y, kd, rfl, hy⟩
      · have hkn : k.toNat = len := by omega
        rcases hlo with ⟨rfl, rfl⟩ | ⟨z, kz, rfl, hz⟩
        · simp [Instr.sliceBounds, hkn]
        · have : l ≤ (len : Int) := by omega
          simp [Instr.sliceBounds, Instr.sliceBound, hz, asIntOf, hl0, this, hkn]
      · have hk0 : 0 ≤ k := by omega
        rcases hlo with ⟨rfl, rfl⟩ | ⟨z, kz, rfl, hz⟩
        · simp [Instr.sliceBounds, Instr.sliceBound, hy, asIntOf, hk0, hkc]
        · have : l ≤ (k.toNat : Int) := by omega
          simp only [Instr.sliceBounds, Instr.sliceBound, hy, hz, asIntOf, Option.map_some, Sem.run_bind, Sem.run_pure, Result.andThen_ok, Sem.run_ite, hk0, hkc, hl0, this, and_self, if_true]
    simp [execOp, ho, hx, Instr.sliceAt, Instr.slice, underlying, hu, hb, hsz]
  have hl' : ((xs.take k.toNat).drop l.toNat).length = k.toNat - l.toNat := by
    simp only [List.length_drop, List.length_take]; omega
  -- the rows from l on
  have rows : ∀ ad : Addr, ad.spot = none → Rows t.size w (RepC C.P t w (Shd C g)) ad xs → cap ≠ l.toNat → Rows t.size w (RepC C.P t w (Shd C g)) (ad.add (l.toNat * t.size)) ((xs.take k.toNat).drop l.toNat) := by
    intro ad hsp hrow _
    rw [addr_add hsp]; exact rows_sub hrow _ _
  have share : ShareS t.size w (Shd C g) (RepC C.P t w (Shd C g)) a len cap xs → (out o ⟨.sl t, (xs.take k.toNat).drop l.toNat, [.shr]⟩).run σ K = some r → o.wp C.P ⟨tm, ds⟩ w next Q := by
    intro hS hr
    refine out_val h exec (Val.slice (m := .shr) (xs := (xs.take k.toNat).drop l.toNat) ⟨?_, by simp⟩ (by simp) trivial) hr hK
    refine ⟨hl', by omega, ?_⟩
    by_cases hz : k.toNat - l.toNat = 0
    · exact .inl hz
    · right
      obtain ⟨h1, h2, h3⟩ := hS
      rcases h3 with h3 | ⟨ad, had, hsp, hbl, hB, hrow⟩
      · omega
      · have hne : cap ≠ l.toNat := by omega
        rw [if_neg hne, had]
        refine ⟨ad.add (l.toNat * t.size), rfl, by rw [addr_add hsp], by rw [addr_add hsp]; exact hbl, by rw [addr_add hsp]; exact hB, rows ad hsp hrow hne⟩
  have look : ∀ s c gn, validB σ s c gn = true → gn ≤ (listGet σ s).gen → HoldS t.size w (fun b => g b = some (s, some c)) (RepC C.P t w (Shd C g)) a len cap xs →
      (out o ⟨.sl t, (xs.take k.toNat).drop l.toNat, [.sub s c gn]⟩).run σ K = some r → o.wp C.P ⟨tm, ds⟩ w next Q := by
    intro s c gn hval hbn hS hr
    refine out_val h exec (Val.slice (m := .sub s c gn) (xs := (xs.take k.toNat).drop l.toNat) ?_ (by simp) hbn) hr hK
    simp only [clm, hval, cond]
    refine ⟨⟨hl', by omega, ?_⟩, trivial⟩
    by_cases hz : cap - l.toNat = 0
    · exact .inl hz
    · right
      obtain ⟨h1, h2, h3⟩ := hS
      rcases h3 with h3 | ⟨ad, had, hsp, hB, ⟨vs, et, hh, hc⟩, hrow⟩
      · omega
      · have hne : cap ≠ l.toNat := by omega
        rw [if_neg hne, had]
        refine ⟨ad.add (l.toNat * t.size), rfl, by rw [addr_add hsp], by rw [addr_add hsp]; exact hB, ⟨vs, et, by rw [addr_add hsp]; exact hh, ?_⟩, rows ad hsp hrow hne⟩
        rw [addr_add hsp]
        show ad.off + l.toNat * t.size + (cap - l.toNat) * t.size ≤ vs.size
        rw [Nat.add_assoc, ← Nat.add_mul, show l.toNat + (cap - l.toNat) = cap by omega]
        exact hc
  cases m with
  | shr => exact share hs.1 hr
  | nn => exact share hs.1 hr
  | nil => simp [Prog.run] at hr
  | own => exact absurd rfl hno
  | dead => exact hok.elim
  | bor q => simp [Prog.run] at hr
  | ref s c gn =>
    have hval : validB σ s c gn = true := hok
    simp only [clm, hval, cond] at hs
    exact look s c gn hval hbn hs.1 hr
  | sub s c gn =>
    have hval : validB σ s c gn = true := hok
    simp only [clm, hval, cond] at hs
    exact look s c gn hval hbn hs.1 hr

/-! ### new memory -/

/-- a new block, and a place for it -/
def withNew (g : Own) (b0 : Nat) (p : Nat × Option Nat) : Own := fun b => if b = b0 then some p else g b

theorem withNew_old {g : Own} {b0 b : Nat} {p : Nat × Option Nat} (h : b < b0) : withNew g b0 p b = g b := by
  unfold withNew; rw [if_neg (by omega)]

theorem withNew_new {g : Own} {b0 : Nat} {p : Nat × Option Nat} : withNew g b0 p b0 = some p := by
  unfold withNew; rw [if_pos rfl]

theorem Grow.alloc {g1 : Own} {w1 : World} (h : SRep C g σ tm w) (gr : Grow C g σ w g1 w1) (hb : w1.heap.size = w.heap.size) (ob : Obj) (p : Nat × Option Nat) :
    Grow C g σ w (withNew g1 w.heap.size p) (w1.alloc ob) := by
  refine ⟨by rw [World.size_alloc, hb]; omega, fun b hb' => ?_, fun b hb' hn => ?_, fun b hb' s c hm hg => ?_, fun b hb' s hg => ?_, fun b hne => ?_, ⟨gr.io.1, gr.io.2.1, gr.io.2.2⟩⟩
  · rw [heap_alloc_old w1 ob b (by omega)]; exact gr.hH b hb'
  · rw [withNew_old hb']; exact gr.hn b hb' hn
  · rw [withNew_old hb']; exact gr.ho b hb' s c hm hg
  · rw [withNew_old hb']; exact gr.hbx b hb' s hg
  · rw [World.size_alloc, hb]
    by_cases hbb : b = w.heap.size
    · subst hbb; exact ⟨by omega, .inl h.size⟩
    · have : withNew g1 w.heap.size p b = g1 b := by unfold withNew; rw [if_neg hbb]
      rw [this] at hne
      have := gr.hok b hne
      exact ⟨by omega, this.2⟩

/-- the slots that point to a caller's variable are known -/
def PinOK (C : Ctx) (E : Env) : Prop := ∀ s, C.pin s ≠ none → memNat E.pins s = true

theorem pin_free {dst : Option Nat} (hpn : PinOK C E) (h : ¬ E.pinned dst = true) : ∀ d, dst = some d → C.pin d = none := by
  intro d hd
  subst hd
  cases hp : C.pin d with
  | none => rfl
  | some v => exact absurd (hpn d (by rw [hp]; simp)) h

theorem op_alloc {T : Nat} (hpn : PinOK C E) (hE : TabOK C.P E.tab) (ho : o.op = .alloc T) (h : SRep C g σ tm w) (hr : (opP E o).run σ K = some r) (hK : Good C K r ds next) :
    o.wp C.P ⟨tm, ds⟩ w next Q := by
  unfold opP at hr
  rw [ho] at hr
  simp only at hr
  split at hr
  case isTrue => simp [Prog.run] at hr
  rename_i hpd
  split at hr
  case h_2 => simp [Prog.run] at hr
  rename_i t hT
  split at hr
  case h_2 => simp [Prog.run] at hr
  rename_i z hz
  obtain ⟨e, he, rfl⟩ := Env.ty_some hT
  obtain ⟨cs, hzv, hcl, hcells, hzc⟩ := (hE.find he).zero hz w
  refine new_sound h (Grow.alloc h (.refl h) rfl (.cells cs.toArray T) (o.dst.getD 0, none)) (v := .pointer (some ⟨w.heap.size, 0, none⟩)) (w0 := w) ?_ (fun d hd hl σ' tm' hv => ?_) hr hK (.inr (pin_free hpn hpd))
  · simp [execOp, ho, Instr.alloc, hzv, newVar, newRow, hcells]
  · rw [hd]
    refine ⟨⟨w.heap.size, T, cs, rfl, withNew_new, heap_alloc_new w _, ?_⟩, fun m hm => ?_⟩
    · exact zeroC_rep (fun c => ⟨_, rfl⟩) e.ty hzc hcl hz
    · have : ∀ (t : Ty) (m : Mk), m ∈ ownMarks t → m = .own ∨ m = .shr := by
        intro t
        induction t with
        | unit => intro m hm; cases hm
        | pair a b iha ihb => intro m hm; rcases List.mem_append.1 hm with hm | hm; exact iha m hm; exact ihb m hm
        | sl t => intro m hm; exact .inl (List.mem_singleton.1 hm)
        | _ => intro m hm; exact .inr (List.mem_singleton.1 hm)
      rcases this _ m hm with rfl | rfl <;> trivial

theorem op_box {T : Nat} {x : Operand} (hpn : PinOK C E) (ho : o.op = .box T x) (h : SRep C g σ tm w) (hr : (opP E o).run σ K = some r) (hK : Good C K r ds next) :
    o.wp C.P ⟨tm, ds⟩ w next Q := by
  unfold opP at hr
  rw [ho] at hr
  simp only at hr
  split at hr
  case isTrue => simp [Prog.run] at hr
  rename_i hpd
  split at hr
  case h_2 => simp [Prog.run] at hr
  rename_i t hT
  obtain ⟨tv, hv, _, hr⟩ := rdV_inv (ds := ds) h hr
  split at hr
  case h_2 => simp [Prog.run] at hr
  rename_i y hy
  obtain ⟨ety, rfl⟩ := castO_some hy
  subst ety
  obtain ⟨cs, e, hx, hn, hb⟩ := hv
  obtain ⟨g1, σ1, ms', h1, h2, h3, h4, h5, h6, h7, _⟩ := takeMarks_inv tv.ms [] rfl h (hx.place σ.length 0 hn) (fun _ hm => by cases hm) hn hb hr
  have hN : σ1.length = σ.length := h2.len
  simp only [List.nil_append] at h4 h5
  have hcells := mkV_cells hx
  refine new_sound h1 (Grow.alloc h1 (Grow.handTo h1 (o.dst.getD 0) 0) rfl (.cells cs.toArray T) (o.dst.getD 0, none)) (v := .pointer (some ⟨w.heap.size, 0, none⟩)) (w0 := w) ?_ (fun d hd hl σ' tm' hv => ?_) h6 hK (.inr (pin_free hpn hpd))
  · simp [execOp, ho, e, Instr.box, newVar, newRow, hcells]
  · rw [hd, hN] at hv ⊢
    simp only [Option.getD_some] at hv ⊢
    refine ⟨⟨w.heap.size, T, cs, rfl, withNew_new, heap_alloc_new w _, ?_⟩, laid_bnd h4⟩
    refine laid_cells (N := σ.length) (off := 0) (d := d) h5 h4 ⟨by rw [World.size_alloc]; omega, fun b hb hk => ⟨heap_alloc_old w _ b hb, hk.1, ?_⟩⟩ fun c => ⟨by rw [World.size_alloc]; omega, fun b hb hk => ⟨heap_alloc_old w _ b hb, ?_⟩⟩
    · rw [withNew_old hb]; exact handTo_none hk.2
    · show withNew _ _ _ b = _
      rw [withNew_old hb]; exact handTo_hand hk

theorem zeroC_repC {P : Program} {w : World} {Sh : Nat → Prop} {t : Ty} {cs : List Value} {z : t.den} (h : zeroC t cs = true) (hl : cs.length = t.size) (hz : t.zero = some z) : RepC P t w Sh cs z := by
  have := zeroC_rep (P := P) (w := w) (Sh := Sh) (cl := fun _ _ => .hold (fun _ => False) (fun _ => True)) (fun c => ⟨_, rfl⟩) t (c := 0) h hl hz
  exact repC_of_repX t (RepX.trans (cl' := shareAll) (c' := 0) (Mono.refl _ _) t this rfl fun i _ => .hold_share _ _ ⟨Nat.le_refl _, fun b _ hb => hb.elim⟩)

theorem op_makeSlice {T : Nat} {l c : Operand} (hE : TabOK C.P E.tab) (ho : o.op = .makeSlice T l c) (h : SRep C g σ tm w) (hr : (opP E o).run σ K = some r) (hK : Good C K r ds next) :
    o.wp C.P ⟨tm, ds⟩ w next Q := by
  unfold opP at hr
  rw [ho] at hr
  simp only at hr
  split at hr
  case h_2 => simp [Prog.run] at hr
  rename_i e he
  split at hr
  case h_2 => simp [Prog.run] at hr
  rename_i el hel
  split at hr
  case h_2 => simp [Prog.run] at hr
  rename_i z hty hz
  have hty := Ty.eq_of_beq hty
  obtain ⟨kn, n, hl, hr⟩ := rdInt_inv (ds := ds) h hr
  obtain ⟨km, m, hc, hr⟩ := rdInt_inv (ds := ds) h hr
  simp only [Prog.run] at hr
  by_cases hb : (decide (0 ≤ n) && (decide (n ≤ m) && (decide (el.bytes * m ≤ (appendLimit : Int)) && decide (m ≤ 9223372036854775807)))) = true
  case neg =>
    rw [show (decide (0 ≤ n) && (decide (n ≤ m) && (decide (el.bytes * m ≤ (appendLimit : Int)) && decide (m ≤ 9223372036854775807)))) = false by simpa using hb] at hr
    simp at hr
  rw [hb] at hr
  simp only [cond] at hr
  simp only [Bool.and_eq_true, decide_eq_true_eq] at hb
  obtain ⟨hn0, hnm, hbytes, h63⟩ := hb
  have hFel := hE.find hel
  obtain ⟨hu, te, hte, hteq, hsz0⟩ := (hE.find he).slice hty
  obtain ⟨cs, hzv, hcl, hcells, hzc⟩ := hFel.zero hz w
  obtain ⟨i, hi, hisz, hib, zv, hizv, _⟩ := hFel.info
  have hzvv : zv = mkV el.ty cs := by
    simp [zeroValue, typeInfo, hi, hizv] at hzv; exact hzv
  have hmk := run_make (P := C.P) w T e.elem i zv hu hi hizv kn km n m hn0 hnm (by
    rw [hib]; have : ((appendLimit : Nat) : Int) ≤ 281474976710656 := by unfold appendLimit; omega
    omega) h63
  refine new_sound h (Grow.alloc h (.refl h) rfl (.cells (madeCells zv.cells (m.toNat * i.size)) e.elem) (o.dst.getD 0, some 0)) (v := .slice (some ⟨w.heap.size, 0, none⟩) n.toNat m.toNat) (w0 := w) ?_ (fun d hd hl σ' tm' hv => ?_) hr hK
  · simp [execOp, ho, hl, hc, hmk]
  · rw [hd]
    refine ⟨⟨[.slice (some ⟨w.heap.size, 0, none⟩) n.toNat m.toNat], rfl, ⟨_, _, _, _, rfl, rfl, ⟨by rw [List.length_replicate], by omega, .inr ⟨_, rfl, rfl, withNew_new, ⟨_, _, heap_alloc_new w _, ?_⟩, fun k hk => ?_⟩⟩, trivial⟩⟩, fun mm hm => ?_⟩
    · rw [size_madeCells, hisz]; simp
    · rw [List.length_replicate] at hk
      refine ⟨cs, hcl, fun j hj => ?_, ?_⟩
      · rw [World.cell?_alloc_new, hzvv, hisz, hcells]
        have hlt : k * el.ty.size + j < m.toNat * el.ty.size := by
          have h1 : (k + 1) * el.ty.size ≤ m.toNat * el.ty.size := Nat.mul_le_mul_right _ (by omega)
          rw [Nat.add_mul, Nat.one_mul] at h1
          omega
        have hmod : (k * el.ty.size + j) % el.ty.size = j := by
          rw [Nat.add_comm, Nat.add_mul_mod_self_right, Nat.mod_eq_of_lt hj]
        simp only [madeCells, Nat.zero_add, Array.getElem?_map, Array.getElem?_range, hlt, if_true, Option.map_some, List.size_toArray, hcl, hmod]
        have hj' : j < cs.length := by omega
        rw [List.getElem?_eq_getElem hj']
        simp [hj']
      · rw [List.getElem_replicate]
        exact zeroC_repC hzc hcl hz
    · simp only [List.mem_singleton] at hm; subst hm; trivial
end
end Go.GD
