import Derived.Test.YtmmlfdnpgigfbaaGD12
namespace Go.GD
open Go

theorem eqTy_scalar : (t : Ty) → ∀ {x y : t.den} {b : Bool}, eqTy t x y = some b → t.scalar = true
  | .unit, _, _, _, _ => rfl
  | .int _, _, _, _, _ => rfl
  | .bool, _, _, _, _ => rfl
  | .str, _, _, _, _ => rfl
  | .pair a b, x, y, r, h => by
    simp only [eqTy] at h
    split at h
    · rename_i p q hp hq
      simp [Ty.scalar, eqTy_scalar a hp, eqTy_scalar b hq]
    · cases h
  | .sl _, _, _, _, h => by cases h
  | .ptr _, _, _, _, h => by cases h
  | .fn _ _, _, _, _, h => by cases h

theorem repC_of_scalar {P : Program} {w : World} {Sh : Nat → Prop} {cl : Nat → Mk → Claim} : (t : Ty) → t.scalar = true → ∀ {c : Nat} {cs : List Value} {x : t.den} {ms : List Mk}, RepX P w Sh cl t c cs x ms → RepC P t w Sh cs x
  | .unit, _, _, _, _, _, h => by obtain ⟨h1, _⟩ := h; exact h1
  | .int _, _, _, _, _, _, h => by obtain ⟨_, _, h1⟩ := h; exact h1
  | .bool, _, _, _, _, _, h => by obtain ⟨_, _, h1⟩ := h; exact h1
  | .str, _, _, _, _, _, h => by obtain ⟨_, _, h1⟩ := h; exact h1
  | .pair a b, hs, _, _, _, _, h => by
    simp only [Ty.scalar, Bool.and_eq_true] at hs
    obtain ⟨c1, c2, m1, m2, e, _, h1, h2⟩ := h
    exact ⟨c1, c2, e, repC_of_scalar a hs.1 h1, repC_of_scalar b hs.2 h2⟩
  | .sl _, hs, _, _, _, _, _ => by cases hs
  | .ptr _, hs, _, _, _, _, _ => by cases hs
  | .fn _ _, hs, _, _, _, _, _ => by cases hs

section
variable {C : Ctx} {g : Own} {σ : St} {tm : Array Value} {w : World} {E : Env} {o : Oper} {ρ : Type} {K : St → Option ρ} {r : ρ} {ds : List Deferred}
  {next : Act → World → Prop} {Q : Exit → Act → World → Prop}

theorem bothO_some {ρ : Type} {a b : Option ρ} {r : ρ} (h : bothO a b = some r) : a = some r ∧ b = some r := by
  unfold bothO at h
  split at h
  · rename_i e; exact ⟨h, e ▸ h⟩
  · cases h

theorem nilP_inv {x : Operand} {k : Bool → Prog} (h : SRep C g σ tm w) (hr : (nilP x k).run σ K = some r) :
    ∃ a len cap b, Act.eval ⟨tm, ds⟩ x = .slice a len cap ∧ b = a.isNone ∧ (k b).run σ K = some r := by
  obtain ⟨t, xs, m, a, len, cap, hx, hok, hno, hbn, hs, hr⟩ := rdSl_inv (ds := ds) h hr
  have key : ((xs = [] ∨ a ≠ none) ∧ (Prog.br xs.isEmpty (.both (k true) (k false)) (k false)).run σ K = some r) →
      ∃ a len cap b, Act.eval ⟨tm, ds⟩ x = .slice a len cap ∧ b = a.isNone ∧ (k b).run σ K = some r := by
    rintro ⟨hne, hr⟩
    simp only [Prog.run] at hr
    cases xs with
    | nil =>
      simp only [List.isEmpty_nil, cond] at hr
      obtain ⟨h1, h2⟩ := bothO_some hr
      cases a with
      | none => exact ⟨none, len, cap, true, hx, rfl, h1⟩
      | some ad => exact ⟨some ad, len, cap, false, hx, rfl, h2⟩
    | cons y ys =>
      simp only [List.isEmpty_cons, cond] at hr
      cases a with
      | none => exact absurd rfl (hne.resolve_left (by simp))
      | some ad => exact ⟨some ad, len, cap, false, hx, rfl, hr⟩
  have share : ∀ {B : Nat → Prop} {R : List Value → t.den → Prop}, ShareS t.size w B R a len cap xs → xs = [] ∨ a ≠ none := by
    intro B R hs
    obtain ⟨h1, _, h3⟩ := hs
    rcases h3 with h3 | ⟨ad, e, _⟩
    · exact .inl (List.eq_nil_of_length_eq_zero (by omega))
    · exact .inr (by rw [e]; simp)
  have hold : ∀ {B : Nat → Prop} {R : List Value → t.den → Prop}, HoldS t.size w B R a len cap xs → xs = [] ∨ a ≠ none := by
    intro B R hs
    obtain ⟨h1, h2, h3⟩ := hs
    rcases h3 with h3 | ⟨ad, e, _⟩
    · exact .inl (List.eq_nil_of_length_eq_zero (by omega))
    · exact .inr (by rw [e]; simp)
  cases m with
  | nil =>
    obtain ⟨rfl, _, _, _⟩ := hs
    exact ⟨none, len, cap, true, hx, rfl, hr⟩
  | nn =>
    cases a with
    | none => exact absurd rfl (hs.2 rfl)
    | some ad => exact ⟨some ad, len, cap, false, hx, rfl, hr⟩
  | shr => exact key ⟨share hs.1, hr⟩
  | own => exact key ⟨hold hs.1, hr⟩
  | dead => exact (hok : False).elim
  | ref s' c' g' => simp only [clm, (show validB σ s' c' g' = true from hok), cond] at hs; exact key ⟨hold hs.1, hr⟩
  | sub s' c' g' => simp only [clm, (show validB σ s' c' g' = true from hok), cond] at hs; exact key ⟨hold hs.1, hr⟩
  | bor q => simp only [clm, (show borOk σ q = true from hok), cond] at hs; exact key ⟨hold hs.1, hr⟩

theorem eq_nil_run {P : Program} {T : Nat} {el : TypeId} (hu : P.underlying T = some (.slice el)) (n : Nat) (a : Option Addr) (len cap : Nat) :
    (Op.equalIn (n + 1) T (.slice a len cap) (.slice none 0 0)).run P w = .ok a.isNone w := by
  cases a <;> simp [Op.equalIn, run_underlying hu]

theorem op_binOp {op : BinOp} {T T' : Nat} {x y : Operand} (hE : TabOK C.P E.tab) (ho : o.op = .binOp op T x y T') (h : SRep C g σ tm w)
    (hr : (opP E o).run σ K = some r) (hK : Good C K r ds next) : o.wp C.P ⟨tm, ds⟩ w next Q := by
  by_cases hint : ∃ k, E.ty T = some (.int k)
  · obtain ⟨k, hk⟩ := hint
    exact op_binInt ho hk h hr hK
  unfold opP at hr
  rw [ho] at hr
  simp only [binP] at hr
  split at hr
  · rename_i k hk
    exact absurd ⟨k, hk⟩ hint
  · rename_i t hT
    obtain ⟨e, he, hty⟩ := Env.ty_some hT
    have hu := ((hE.find he).slice hty).1
    have hyc : isNilC y = true → Act.eval ⟨tm, ds⟩ y = .slice none 0 0 := by
      intro hy
      unfold isNilC at hy
      split at hy
      · rfl
      · cases hy
    split at hr
    · rename_i hy
      obtain ⟨a, len, cap, b, hx, rfl, hr⟩ := nilP_inv (ds := ds) h hr
      refine out_val h ?_ (Val.bool _) hr hK
      have hq : (Op.equal T (.slice a len cap) (.slice none 0 0)).run C.P w = .ok a.isNone w := by
        unfold Op.equal Op.maxDepth
        exact eq_nil_run hu 9999 a len cap
      simp [execOp, ho, hx, hyc hy, eqGuard, binOp, hq]
    · rename_i hy
      obtain ⟨a, len, cap, b, hx, rfl, hr⟩ := nilP_inv (ds := ds) h hr
      refine out_val h ?_ (Val.bool _) hr hK
      have hq : (Op.equal T (.slice a len cap) (.slice none 0 0)).run C.P w = .ok a.isNone w := by
        unfold Op.equal Op.maxDepth
        exact eq_nil_run hu 9999 a len cap
      simp [execOp, ho, hx, hyc hy, eqGuard, binOp, hq]
    · simp [Prog.run] at hr
  · rename_i t hni hns hT
    split at hr
    case h_2 => simp [Prog.run] at hr
    rename_i heq
    obtain ⟨v, hv, _, hr1⟩ := rdV_inv (ds := ds) h hr
    clear hr
    obtain ⟨u, hu, _, hr⟩ := rdV_inv (ds := ds) h hr1
    clear hr1
    split at hr
    case h_2 => simp [Prog.run] at hr
    rename_i a b ha hb
    split at hr
    case h_2 => simp [Prog.run] at hr
    rename_i q hq
    obtain ⟨e1, rfl⟩ := castO_some ha
    obtain ⟨e2, rfl⟩ := castO_some hb
    subst e1
    obtain ⟨ut, ux, ums⟩ := u
    simp only at e2
    subst e2
    have hsc := eqTy_scalar _ hq
    obtain ⟨c1, hx, hr1, _⟩ := hv
    obtain ⟨c2, hy, hr2, _⟩ := hu
    obtain ⟨e, he, hes⟩ := Option.map_eq_some_iff.1 heq
    obtain ⟨e', he', hty⟩ := Env.ty_some hT
    rw [he] at he'
    injection he' with he'
    subst he'
    have hok := (hE.find he).eqs hes
    rw [hty] at hok
    obtain ⟨b, hb, h1, h2⟩ := eqOK_run (w := w) hok (repC_of_scalar _ hsc hr1) (repC_of_scalar _ hsc hr2) op x y (fun k hk => hint ⟨k, by rw [hT, hk]⟩)
    rw [hq] at hb
    injection hb with hb
    subst hb
    split at hr
    · refine out_val h ?_ (Val.bool _) hr hK
      have := h1 rfl
      simp only [execOp, ho, hx, hy]
      rw [Sem.run_bind, this]; rfl
    · refine out_val h ?_ (Val.bool _) hr hK
      have := h2 rfl
      simp only [execOp, ho, hx, hy]
      rw [Sem.run_bind, this]; rfl
    · simp [Prog.run] at hr
  · simp [Prog.run] at hr

/-! ### literals -/

theorem fold_splice : (ys : List Value) → ∀ (k off : Nat) (cs : Array Value), off + k + ys.length ≤ cs.size →
    ((ys.zipIdx k).foldl (fun (cs : Array Value) (p : Value × Nat) => cs.setIfInBounds (off + p.2) p.1) cs).toList = splice cs.toList (off + k) ys
  | [], k, off, cs, _ => by simp [splice]
  | y :: ys, k, off, cs, h => by
    simp only [List.length_cons] at h
    rw [List.zipIdx_cons, List.foldl_cons, fold_splice ys (k + 1) off _ (by simp; omega)]
    simp only [Array.toList_setIfInBounds, splice, List.length_cons]
    have hi : off + k < cs.toList.length := by simp; omega
    have e1 : (cs.toList.set (off + k) y).take (off + (k + 1)) = cs.toList.take (off + k) ++ [y] := by
      rw [show off + (k + 1) = (off + k) + 1 by omega, List.take_add_one]
      rw [List.take_set_of_le (Nat.le_refl _), List.getElem?_set_self hi]
      rfl
    have e2 : (cs.toList.set (off + k) y).drop (off + (k + 1) + ys.length) = cs.toList.drop (off + k + (ys.length + 1)) := by
      rw [List.drop_set, if_pos (by omega), show off + (k + 1) + ys.length = off + k + (ys.length + 1) by omega]
    rw [e1, e2]
    simp

theorem fill_step {place : Nat → Option (Nat × Nat)} {cs : List Value} {i off size : Nat} {v : Value} {ys : List Value} {rest : List (Nat × Value)} (hp : place i = some (off, size))
    (hv : v.cells = ys.toArray) (hs : ys.length = size) (hl : off + size ≤ cs.length) :
    Instr.fill place cs.toArray ((i, v) :: rest) = Instr.fill place (splice cs off ys).toArray rest := by
  have h1 : ¬ (v.cells.size ≠ size ∨ off + v.cells.size > cs.toArray.size) := by
    rw [hv]; simp; omega
  have h2 : (v.cells.size ≠ size || decide (off + v.cells.size > cs.toArray.size)) = false := by
    simpa using h1
  have hf : v.cells.zipIdx.foldl (fun cs (p : Value × Nat) => cs.setIfInBounds (off + p.2) p.1) cs.toArray = (splice cs off ys).toArray := by
    apply Array.ext'
    rw [hv]
    have := fold_splice ys 0 off cs.toArray (by simp; omega)
    simpa using this
  simp only [Instr.fill, hp]
  split
  · rename_i hc
    exact absurd hc (by simpa using h1)
  · rw [← hf]

theorem partsP_inv {flds : List (Nat × Nat)} {place : Nat → Option (Nat × Nat)} (hplace : ∀ i off T t, flds[i]? = some (off, T) → E.ty T = some t → place i = some (off, t.size)) (h : SRep C g σ tm w) :
    (l : List (Nat × Operand)) → ∀ {z : TV} {k : TV → Prog} {cs : List Value}, RepX C.P w (Shd C g) (cl g σ tm w 0) z.t 0 cs z.x z.ms → NoOwn z.ms → (∀ m, m ∈ z.ms → bndM σ m) →
      (partsP E flds l z k).run σ K = some r →
      ∃ v cs', v.t = z.t ∧ RepX C.P w (Shd C g) (cl g σ tm w 0) v.t 0 cs' v.x v.ms ∧ NoOwn v.ms ∧ (∀ m, m ∈ v.ms → bndM σ m) ∧ (k v).run σ K = some r ∧
        Instr.fill place cs.toArray (l.map fun (i, x) => (i, Act.eval ⟨tm, ds⟩ x)) = some cs'.toArray
  | [], z, k, cs, hx, hn, hb, hr => ⟨z, cs, rfl, hx, hn, hb, hr, rfl⟩
  | (i, x) :: l, z, k, cs, hx, hn, hb, hr => by
    simp only [partsP] at hr
    split at hr
    case h_2 => simp [Prog.run] at hr
    rename_i off T hf
    obtain ⟨v, hv, _, hr⟩ := rdV_inv (ds := ds) h hr
    split at hr
    case h_2 => simp [Prog.run] at hr
    rename_i t hT
    split at hr
    case h_2 => simp [Prog.run] at hr
    rename_i y hy
    split at hr
    case h_2 => simp [Prog.run] at hr
    rename_i x' hx'
    obtain ⟨ety, rfl⟩ := castO_some hy
    subst ety
    obtain ⟨ys, hev, hyx, hyn, hyb⟩ := hv
    have hlen := RepX.length _ hx
    have hyl := RepX.length _ hyx
    obtain ⟨hsz, hnew⟩ := setAt_repX z.t hx (hyx.place 0 (0 + off) hyn) hx'
    have hms : setMarks z.ms off v.ms = splice z.ms off v.ms := setMarks_splice _ _ _ (by omega)
    rw [← hms] at hnew
    have hmem : ∀ m, m ∈ setMarks z.ms off v.ms → m ∈ z.ms ∨ m ∈ v.ms := by
      intro m hm
      rw [hms] at hm
      unfold splice at hm
      rcases List.mem_append.1 hm with hm | hm
      · rcases List.mem_append.1 hm with hm | hm
        · exact .inl (List.mem_of_mem_take hm)
        · exact .inr hm
      · exact .inl (List.mem_of_mem_drop hm)
    obtain ⟨u, cs', h1, h2, h3, h4, h5, h6⟩ := partsP_inv hplace h l (z := ⟨z.t, x', setMarks z.ms off v.ms⟩) hnew (fun m hm => (hmem m hm).elim (hn m) (hyn m)) (fun m hm => (hmem m hm).elim (hb m) (hyb m)) hr
    refine ⟨u, cs', h1, h2, h3, h4, h5, ?_⟩
    rw [← h6, List.map_cons]
    exact fill_step (hplace i off T v.t hf hT) (by rw [hev]; exact mkV_cells hyx) hyl.1 (by omega)

theorem nilMarks_length : (t : Ty) → (nilMarks t).length = t.size
  | .unit => rfl
  | .pair a b => by simp [nilMarks, Ty.size, nilMarks_length a, nilMarks_length b]
  | .int _ | .bool | .str | .sl _ | .ptr _ | .fn _ _ => rfl

theorem mem_nilMarks : (t : Ty) → ∀ m, m ∈ nilMarks t → m = .nil ∨ m = .shr
  | .unit, _, h => by cases h
  | .pair a b, m, h => by
    rcases List.mem_append.1 h with h | h
    · exact mem_nilMarks a m h
    · exact mem_nilMarks b m h
  | .sl _, _, h => .inl (List.mem_singleton.1 h)
  | .int _, _, h | .bool, _, h | .str, _, h | .ptr _, _, h | .fn _ _, _, h => .inr (List.mem_singleton.1 h)

theorem zeroC_nil {P : Program} {w : World} {Sh : Nat → Prop} {cl : Nat → Mk → Claim} (hcl : ∀ c, cl c .nil = .nilc) :
    (t : Ty) → ∀ {c : Nat} {cs : List Value} {z : t.den}, zeroC t cs = true → cs.length = t.size → t.zero = some z → RepX P w Sh cl t c cs z (nilMarks t)
  | .unit, _, cs, _, h, hl, _ => ⟨List.eq_nil_of_length_eq_zero hl, rfl⟩
  | .int k, c, cs, z, h, hl, hz => by
    have := zeroC_repC (P := P) (w := w) (Sh := Sh) h hl hz; exact ⟨_, rfl, this⟩
  | .bool, c, cs, z, h, hl, hz => by
    have := zeroC_repC (P := P) (w := w) (Sh := Sh) h hl hz; exact ⟨_, rfl, this⟩
  | .str, c, cs, z, h, hl, hz => by
    have := zeroC_repC (P := P) (w := w) (Sh := Sh) h hl hz; exact ⟨_, rfl, this⟩
  | .sl t, c, cs, z, h, hl, hz => by
    match cs, hl with
    | [v], _ =>
      cases v with
      | slice a len cap =>
        obtain rfl : a = none := by cases a with
          | none => rfl
          | some _ => simp [zeroC] at h
        obtain rfl : len = 0 := by cases len with
          | zero => rfl
          | succ _ => simp [zeroC] at h
        obtain rfl : cap = 0 := by cases cap with
          | zero => rfl
          | succ _ => simp [zeroC] at h
        injection hz with hz
        refine ⟨none, 0, 0, _, rfl, rfl, ?_⟩
        rw [hcl, ← hz]
        exact ⟨rfl, rfl, rfl, rfl⟩
      | _ => simp [zeroC] at h
  | .pair a b, c, cs, z, h, hl, hz => by
    have hz := zero_pair hz
    simp only [zeroC, Bool.and_eq_true] at h
    simp only [Ty.size] at hl
    exact ⟨cs.take a.size, cs.drop a.size, _, _, (List.take_append_drop _ _).symm, rfl,
      zeroC_nil hcl a h.1 (by rw [List.length_take]; omega) hz.1, zeroC_nil hcl b h.2 (by rw [List.length_drop]; omega) hz.2⟩
  | .ptr _, _, _, _, _, _, hz => by cases hz
  | .fn _ _, _, _, _, _, _, hz => by cases hz

theorem places_of {P : Program} {tab : List TE} (hE : TabOK P tab) : (fs : List Field) → (l : List (Nat × Nat)) → fldsOK tab fs l = true →
    ∃ places, fs.mapM (fun f => (P.info? f.type).map fun i => (f.offset, i.size)) = some places ∧
      ∀ (i off T : Nat) (e : TE), l[i]? = some (off, T) → findTE tab T = some e → places[i]? = some (off, e.ty.size)
  | [], [], _ => ⟨[], rfl, fun i off T e h => by simp at h⟩
  | [], _ :: _, h => by simp [fldsOK] at h
  | _ :: _, [], h => by simp [fldsOK] at h
  | f :: fs, (o, T) :: l, h => by
    simp only [fldsOK, Bool.and_eq_true] at h
    obtain ⟨h1, h2, h3, h4⟩ := h
    have h1 := Nat.eq_of_beq_eq_true h1
    have h2 := Nat.eq_of_beq_eq_true h2
    obtain ⟨places, hp, hq⟩ := places_of hE fs l h4
    obtain ⟨te, hte⟩ := Option.isSome_iff_exists.1 h3
    obtain ⟨i, hi, his, _⟩ := (hE.find hte).info
    refine ⟨(o, te.ty.size) :: places, ?_, fun k off T' e hk he => ?_⟩
    · simp [List.mapM_cons, h1, h2, hi, his, hp]
    · cases k with
      | zero =>
        simp only [List.getElem?_cons_zero, Option.some.injEq, Prod.mk.injEq] at hk
        obtain ⟨rfl, rfl⟩ := hk
        rw [hte] at he
        injection he with he
        subst he; rfl
      | succ k => exact hq k off T' e hk he

theorem op_build {T : Nat} {ps : Array (Nat × Operand)} (hE : TabOK C.P E.tab) (ho : o.op = .build T ps) (h : SRep C g σ tm w)
    (hr : (opP E o).run σ K = some r) (hK : Good C K r ds next) : o.wp C.P ⟨tm, ds⟩ w next Q := by
  unfold opP at hr
  rw [ho] at hr
  simp only at hr
  split at hr
  case h_2 => simp [Prog.run] at hr
  rename_i e he
  split at hr
  case h_2 => simp [Prog.run] at hr
  rename_i z hz
  split at hr
  case isFalse => simp [Prog.run] at hr
  rename_i hag
  have hF := hE.find he
  obtain ⟨cs, hzv, hcl, hcells, hzc⟩ := hF.zero hz w
  obtain ⟨i, hi, hisz, hib, zv, hizv, _⟩ := hF.info
  have hzvv : zv = mkV e.ty cs := by
    simp [zeroValue, typeInfo, hi, hizv] at hzv; exact hzv
  have hrep0 : RepX C.P w (Shd C g) (cl g σ tm w 0) e.ty 0 cs z (nilMarks e.ty) := zeroC_nil (fun _ => rfl) e.ty hzc hcl hz
  have hno : NoOwn (nilMarks e.ty) := fun m hm => by rcases mem_nilMarks _ m hm with rfl | rfl <;> simp
  have hbn : ∀ m, m ∈ nilMarks e.ty → bndM σ m := fun m hm => by rcases mem_nilMarks _ m hm with rfl | rfl <;> trivial
  have hbuilt : ∃ place, (∀ i off T t, e.flds[i]? = some (off, T) → E.ty T = some t → place i = some (off, t.size)) ∧
      ∀ parts, C.P.built T parts = Instr.fill place cs.toArray parts := by
    cases harr : e.arr with
    | false =>
      obtain ⟨fs, hu, hfl⟩ := struct_desc hF hag harr
      obtain ⟨places, hp, hq⟩ := places_of hE fs.toList e.flds hfl
      refine ⟨(places.toArray[·]?), fun i off T t hf hT => ?_, fun parts => ?_⟩
      · obtain ⟨te, hte, rfl⟩ := Env.ty_some hT
        have := hq i off T te hf hte
        simpa using this
      · simp only [Program.built, hi, hu, hizv, hp, hzvv, hcells]
    | true =>
      obtain ⟨n, te, hu, hlen, hte, hak⟩ := array_desc hF hag harr
      obtain ⟨ie, hie, hies, _⟩ := (hE.find hte).info
      refine ⟨fun i => some (i * ie.size, ie.size), fun i off T t hf hT => ?_, fun parts => ?_⟩
      · obtain ⟨h1, h2⟩ := arrOK_get _ 0 hak _ _ _ hf
        subst h2
        obtain ⟨te', hte', rfl⟩ := Env.ty_some hT
        rw [hte] at hte'
        injection hte' with hte'
        subst hte'
        rw [hies, h1, Nat.zero_add]
      · simp only [Program.built, hi, hu, hizv, hie, hzvv, hcells]
  obtain ⟨place, hplace, hfill⟩ := hbuilt
  obtain ⟨v, cs', h1, h2, h3, h4, h5, h6⟩ := partsP_inv (ds := ds) (z := ⟨e.ty, z, nilMarks e.ty⟩) hplace h ps.toList hrep0 hno hbn hr
  refine out_val h ?_ (v := mkV v.t cs') ⟨cs', rfl, h2, h3, h4⟩ h5 hK
  have hb : (Instr.build T (ps.map fun (i, x) => (i, Act.eval ⟨tm, ds⟩ x))).run C.P w = .ok (.agg cs'.toArray) w := by
    refine run_build w T _ _ ?_
    rw [hfill, Array.toList_map]; exact h6
  have hv : mkV v.t cs' = .agg cs'.toArray := by rw [h1]; simp [mkV, hag]
  rw [hv]
  simp [execOp, ho, hb]
end
end Go.GD
