import Derived.Test.YtmmlfdnpgigfbaaGD10
import Derived.Laws.MakeOwn
import Derived.Laws.CopyRow
namespace Go.GD
open Go

theorem addr_add {ad : Addr} (h : ad.spot = none) (n : Nat) : ad.add n = ⟨ad.block, ad.off + n, none⟩ := by
  unfold Addr.add
  split
  · rename_i h0; subst h0; cases ad; simp_all
  · cases ad; simp_all

theorem markAt_shrMarks : (t : Ty) → (i : Nat) → i < t.size → markAt (shrMarks t) i = .shr
  | .unit, _, h => by simp [Ty.size] at h
  | .pair a b, i, h => by
    simp only [Ty.size] at h
    have hl := shrMarks_length a
    rcases Nat.lt_or_ge i a.size with h' | h'
    · rw [shrMarks, markAt_append_left _ _ _ (by omega)]; exact markAt_shrMarks a i h'
    · obtain ⟨j, rfl⟩ : ∃ j, i = (shrMarks a).length + j := ⟨i - (shrMarks a).length, by omega⟩
      rw [shrMarks, markAt_append_right]
      exact markAt_shrMarks b j (by omega)
  | .int _, i, h | .bool, i, h | .str, i, h | .sl _, i, h | .ptr _, i, h | .fn _ _, i, h => by
    simp only [Ty.size] at h
    obtain rfl : i = 0 := by omega
    rfl

theorem mem_shrMarks : (t : Ty) → ∀ m, m ∈ shrMarks t → m = .shr
  | .unit, _, h => by cases h
  | .pair a b, m, h => by
    rcases List.mem_append.1 h with h | h
    · exact mem_shrMarks a m h
    · exact mem_shrMarks b m h
  | .int _, _, h | .bool, _, h | .str, _, h | .sl _, _, h | .ptr _, _, h | .fn _ _, _, h => List.mem_singleton.1 h

section
variable {C : Ctx} {g : Own} {σ : St} {tm : Array Value} {w : World} {E : Env} {o : Oper} {ρ : Type} {K : St → Option ρ} {r : ρ} {ds : List Deferred}
  {next : Act → World → Prop} {Q : Exit → Act → World → Prop}

theorem repX_shr {t : Ty} {cs : List Value} {x : t.den} (h : RepC C.P t w (Shd C g) cs x) (s c : Nat) : RepX C.P w (Shd C g) (cl g σ tm w s) t c cs x (shrMarks t) := by
  refine RepX.trans (Mono.refl _ _) t (repX_of_repC (c := 0) (ms := shrMarks t) t h (shrMarks_length t)) rfl fun i hi => ?_
  rw [markAt_shrMarks t i hi]
  exact .share _

theorem val_of_repC {t : Ty} {cs : List Value} {x : t.den} (h : RepC C.P t w (Shd C g) cs x) : Val C g σ tm w (mkV t cs) ⟨t, x, shrMarks t⟩ :=
  ⟨cs, rfl, repX_shr h 0 0, fun m hm => by rw [mem_shrMarks t m hm]; simp, fun m hm => by rw [mem_shrMarks t m hm]; trivial⟩

theorem loadVar_run {T : Nat} {e : TE} {b off : Nat} {cs : List Value} {P : Program} {tab : List TE} (hT : TEfacts P tab T e) (hl : cs.length = e.ty.size)
    (hc : ∀ j, j < e.ty.size → w.cell? ⟨b, off + j, none⟩ = cs[j]?) : (loadVar T ⟨b, off, none⟩).run P w = .ok (mkV e.ty cs) w := by
  unfold loadVar
  rw [Sem.run_bind, hT.isAgg w]
  simp only [Result.andThen_ok]
  cases ha : e.ty.isAgg with
  | true =>
    have hlc := run_loadCells_list (P := P) w ⟨b, off, none⟩ cs (fun j v hv => by
      have hj : j < cs.length := by
        rcases Nat.lt_or_ge j cs.length with h | h
        · exact h
        · rw [List.getElem?_eq_none h] at hv; cases hv
      rw [addr_add rfl, hc j (by omega)]; exact hv)
    rw [hl] at hlc
    simp [hT.sizeOf w, hlc, mkV, ha]
  | false =>
    have h1 : e.ty.size = 1 := by cases ht : e.ty <;> simp_all [Ty.isAgg, Ty.size]
    match cs, hl with
    | [v], _ =>
      have := hc 0 (by omega)
      simp only [Nat.add_zero, List.getElem?_cons_zero] at this
      simp [this, mkV, ha]
    | [], hl => rw [h1] at hl; simp at hl
    | _ :: _ :: _, hl => rw [h1] at hl; simp at hl

theorem getElem?_drop_take {α : Type} (cs : List α) (off n i : Nat) (h : i < n) : ((cs.drop off).take n)[i]? = cs[off + i]? := by
  rw [List.getElem?_take_of_lt h, List.getElem?_drop]

theorem markAt_getElem? : (ms : List Mk) → (i : Nat) → markAt ms i = (ms[i]?).getD .dead
  | [], _ => rfl
  | _ :: _, 0 => rfl
  | _ :: l, i + 1 => by simp [markAt, markAt_getElem? l i]

theorem markAt_drop_take (ms : List Mk) (off n i : Nat) : markAt ((ms.drop off).take n) i = if i < n then markAt ms (off + i) else .dead := by
  rw [markAt_getElem?, markAt_getElem?]
  split
  · rename_i h; rw [getElem?_drop_take _ _ _ _ h]
  · rename_i h
    rw [List.getElem?_eq_none (by rw [List.length_take]; omega)]; rfl

/-- a box that is pointed at -/
theorem SRep.boxed {v : Value} {s off id : Nat} (h : SRep C g σ tm w) (ha : AV C g σ tm w v (.bptr s off id)) (hid : Nat.beq (listGet σ s).id id = true) {tv : TV} (hb : (listGet σ s).a = .box tv) :
    ∃ b e, ∃ cs : List Value, v = .pointer (some ⟨b, off, none⟩) ∧ tm.getD s undef = .pointer (some ⟨b, 0, none⟩) ∧ g b = some (s, none) ∧ w.heap[b]? = some (.cells cs.toArray e (0, 0)) ∧
      RepX C.P w (Shd C g) (cl g σ tm w s) tv.t 0 cs tv.x tv.ms ∧ s < σ.length := by
  have hl := h.lt (s := s) (by rw [hb]; intro e; cases e)
  have hs := h.slots s hl
  rw [hb] at hs
  obtain ⟨b, e, cs, ht, hg, hh, hx⟩ := hs
  exact ⟨b, e, cs, ha.1 (Nat.eq_of_beq_eq_true hid) b ht, ht, hg, hh, hx, hl⟩

theorem cell_of_block {b o : Nat} {cs : List Value} {e : TypeId} {fz : Nat × Nat} (h : w.heap[b]? = some (.cells cs.toArray e fz)) : w.cell? ⟨b, o, none⟩ = cs[o]? := by
  simp [World.cell?, h]

theorem op_load {T : Nat} {x : Operand} (hE : TabOK C.P E.tab) (ho : o.op = .load T x) (h : SRep C g σ tm w) (hr : (opP E o).run σ K = some r) (hK : Good C K r ds next) :
    o.wp C.P ⟨tm, ds⟩ w next Q := by
  unfold opP at hr
  rw [ho] at hr
  simp only at hr
  split at hr
  case h_2 => simp [Prog.run] at hr
  rename_i t hT
  obtain ⟨a, ha, hr, hnv, hnt⟩ := rdP_inv (ds := ds) h hr
  obtain ⟨e, he, rfl⟩ := Env.ty_some hT
  have hF := hE.find he
  cases a with
  | mp t' ks => simp [loadP, Prog.run] at hr
  | mref s' id => simp [loadP, Prog.run] at hr
  | bptr s off id =>
    simp only [loadP, Prog.run] at hr
    split at hr
    case h_2 => simp [Prog.run] at hr
    rename_i hid
    split at hr
    case h_2 => simp [Prog.run] at hr
    rename_i tv hbox
    split at hr
    case h_2 => simp [Prog.run] at hr
    rename_i y hy
    obtain ⟨b, et, cs, hv, ht, hg, hh, hx, hl⟩ := h.boxed ha hid hbox
    obtain ⟨hsz, hsub⟩ := getAt_repX tv.t hx hy
    have hlen := RepX.length _ hx
    have hsl := RepX.length _ hsub
    have hrefs := RepX.refs e.ty hsub (fun i hi => by
      rw [getElem?_drop_take _ _ _ _ hi]
      simp only [placeV, hbox, ht, Nat.zero_add]
      rw [cell_of_block hh]) (fun i hi => by
      rw [markAt_drop_take] at hi
      split at hi
      · rw [hbox, Nat.zero_add]
        simp [A.mark, hi, Mk.isOwn]
      · cases hi)
    rw [Nat.zero_add] at hrefs
    have hbnd := h.bnd s hl
    rw [hbox] at hbnd
    refine out_val h ?_ (v := mkV e.ty ((cs.drop off).take e.ty.size)) ⟨_, rfl, hrefs.place 0 0 (refMarks_noOwn _ _ _ _), refMarks_noOwn _ _ _ _,
      refMarks_bnd _ _ (fun m hm => hbnd m (List.mem_of_mem_drop (List.mem_of_mem_take hm)))⟩ hr hK
    have hload := loadVar_run (w := w) (b := b) (off := off) hF hsl.1 (fun j hj => by rw [cell_of_block hh, getElem?_drop_take _ _ _ _ hj])
    simp [execOp, ho, hv, Instr.loadAt, Instr.sureAddr, hload]
  | eptr s c gn i te xe off =>
    simp only [loadP] at hr
    obtain ⟨hok, hr⟩ := useMarks_inv _ hr
    have hval : validB σ s c gn = true := hok _ (List.mem_singleton.2 rfl)
    split at hr
    case h_2 => simp [Prog.run] at hr
    rename_i y hy
    obtain ⟨ad, len, cap, hp, hsp, hi, hv, hbl, hg, cs, hcl, hcc, hrep⟩ := ha.1 hval
    obtain ⟨hsz, hsub⟩ := getAt_repC hrep hy
    refine out_val h ?_ (v := mkV e.ty ((cs.drop off).take e.ty.size)) (val_of_repC hsub) hr hK
    have hload := loadVar_run (w := w) (b := ad.block) (off := ad.off + i * te.size + off) hF (RepC.length _ hsub) (fun j hj => by
      rw [getElem?_drop_take _ _ _ _ hj, Nat.add_assoc]; exact hcc (off + j) (by omega))
    simp [execOp, ho, hv, Instr.loadAt, Instr.sureAddr, hload]
  | cptr te xe bor =>
    simp only [loadP] at hr
    obtain ⟨hok, hr⟩ := useMarks_inv _ hr
    split at hr
    case h_2 => simp [Prog.run] at hr
    rename_i y hy
    have hmem : ∃ ad : Addr, Act.eval ⟨tm, ds⟩ x = .pointer (some ad) ∧ ad.spot = none ∧ ∃ cs : List Value, cs.length = te.size ∧ (∀ j, j < te.size → w.cell? ⟨ad.block, ad.off + j, none⟩ = cs[j]?) ∧ RepC C.P te w (Shd C g) cs xe := by
      cases bor with
      | none =>
        obtain ⟨ad, hv, hsp, _, _, hm⟩ := ha.1
        exact ⟨ad, hv, hsp, hm⟩
      | some m =>
        obtain ⟨s', c', g'⟩ := m
        obtain ⟨ad, hv, hsp, _, _, hm⟩ := ha.1 (hok _ (List.mem_singleton.2 rfl))
        exact ⟨ad, hv, hsp, hm⟩
    obtain ⟨ad, hv, hsp, cs, hcl, hcc, hrep⟩ := hmem
    obtain ⟨hsz, hsub⟩ := getAt_repC hrep hy
    refine out_val h ?_ (v := mkV e.ty ((cs.drop 0).take e.ty.size)) (val_of_repC hsub) hr hK
    have hload := loadVar_run (w := w) (b := ad.block) (off := ad.off) hF (RepC.length _ hsub) (fun j hj => by
      rw [getElem?_drop_take _ _ _ _ hj, Nat.zero_add]; exact hcc j (by omega))
    have had : ad = ⟨ad.block, ad.off, none⟩ := by cases ad; simp_all
    rw [← had] at hload
    simp [execOp, ho, hv, Instr.loadAt, Instr.sureAddr, hload]
  | val tv => exact absurd rfl (hnv tv)
  | tup vs => exact absurd rfl (hnt vs)
  | top => exact ha.elim
  | box _ => exact ha.elim

/-- a part of what is pointed at -/
theorem fieldP_inv {S f : Nat} {a : A} {v : Value} {k : A → Prog} (h : SRep C g σ tm w) (ha : AV C g σ tm w v a) (hr : (fieldP E S a f k).run σ K = some r) :
    ∃ e off T t ad, findTE E.tab S = some e ∧ e.flds[f]? = some (off, T) ∧ E.ty T = some t ∧ t.size ≠ 0 ∧ v = .pointer (some ad) ∧ ad.spot = none ∧
      ∃ a', AV C g σ tm w (.pointer (some ⟨ad.block, ad.off + off, none⟩)) a' ∧ (k a').run σ K = some r := by
  unfold fieldP at hr
  split at hr
  case h_2 => simp [Prog.run] at hr
  rename_i off T hf
  obtain ⟨e, he, hf⟩ := Option.bind_eq_some_iff.1 hf
  split at hr
  case h_2 => simp [Prog.run] at hr
  rename_i t hT
  split at hr
  · simp [Prog.run] at hr
  rename_i hz
  have hz : t.size ≠ 0 := fun h0 => hz (by rw [h0]; rfl)
  split at hr
  · rename_i s o id
    simp only [Prog.run] at hr
    split at hr
    case h_2 => simp [Prog.run] at hr
    rename_i hid
    simp only [Bool.and_eq_true] at hid
    obtain ⟨tv, hbox⟩ : ∃ tv, (listGet σ s).a = .box tv := by
      generalize (listGet σ s).a = a at hid
      cases a <;> simp [A.isBox] at hid ⊢
    obtain ⟨b, et, cs, hv, ht, hg, hh, hx, hl⟩ := h.boxed ha hid.1 hbox
    refine ⟨e, off, T, t, _, he, hf, hT, hz, hv, rfl, .bptr s (o + off) id, ⟨fun _ b' ht' => ?_, ha.2⟩, hr⟩
    rw [ht] at ht'
    injection ht' with ht'
    injection ht' with ht'
    injection ht' with ht' _
    subst ht'; rfl
  · rename_i s c gn i te xe o
    obtain ⟨hok, hr⟩ := useMarks_inv _ hr
    have hval : validB σ s c gn = true := hok _ (List.mem_singleton.2 rfl)
    obtain ⟨ad, len, cap, hp, hsp, hi, hv, hm⟩ := ha.1 hval
    refine ⟨e, off, T, t, _, he, hf, hT, hz, hv, rfl, .eptr s c gn i te xe (o + off), ⟨fun _ => ⟨ad, len, cap, hp, hsp, hi, ?_, hm⟩, ha.2⟩, hr⟩
    simp [Nat.add_assoc]
  · rename_i te xe bor
    obtain ⟨hok, hr⟩ := useMarks_inv _ hr
    split at hr
    case h_2 => simp [Prog.run] at hr
    rename_i y hy
    have sub : ∀ {B : Nat → Prop} {ad : Addr}, MemAt te.size w B (RepC C.P te w (Shd C g)) ad xe → MemAt t.size w B (RepC C.P t w (Shd C g)) ⟨ad.block, ad.off + off, none⟩ y := by
      intro B ad hm
      obtain ⟨h1, h2, cs, h3, h4, h5⟩ := hm
      obtain ⟨hsz, hsub⟩ := getAt_repC h5 hy
      refine ⟨h1, h2, _, RepC.length _ hsub, fun j hj => ?_, hsub⟩
      rw [getElem?_drop_take _ _ _ _ hj, Nat.add_assoc]
      exact h4 (off + j) (by omega)
    cases bor with
    | none =>
      obtain ⟨ad, hv, hsp, hm⟩ := ha.1
      exact ⟨e, off, T, t, ad, he, hf, hT, hz, hv, hsp, .cptr t y none, ⟨⟨_, rfl, rfl, sub hm⟩, trivial⟩, hr⟩
    | some m =>
      obtain ⟨s', c', g'⟩ := m
      obtain ⟨ad, hv, hsp, hm⟩ := ha.1 (hok _ (List.mem_singleton.2 rfl))
      exact ⟨e, off, T, t, ad, he, hf, hT, hz, hv, hsp, .cptr t y (some (s', c', g')), ⟨fun _ => ⟨_, rfl, rfl, sub hm⟩, ha.2⟩, hr⟩
  · simp [Prog.run] at hr

theorem fldsOK_get {tab : List TE} : (fs : List Field) → (l : List (Nat × Nat)) → fldsOK tab fs l = true → ∀ (f off T : Nat), l[f]? = some (off, T) → ∃ fd, fs[f]? = some fd ∧ fd.offset = off ∧ fd.type = T
  | [], [], _, _, _, _, h => by simp at h
  | [], _ :: _, h, _, _, _, _ => by simp [fldsOK] at h
  | _ :: _, [], h, _, _, _, _ => by simp [fldsOK] at h
  | f :: fs, (o, T) :: l, h, i, off, T', hg => by
    simp only [fldsOK, Bool.and_eq_true] at h
    cases i with
    | zero =>
      simp only [List.getElem?_cons_zero, Option.some.injEq, Prod.mk.injEq] at hg
      exact ⟨f, rfl, (Nat.eq_of_beq_eq_true h.1).trans hg.1, (Nat.eq_of_beq_eq_true h.2.1).trans hg.2⟩
    | succ i => exact fldsOK_get fs l h.2.2.2 i off T' hg

theorem arrOK_get {tab : List TE} {el sz : Nat} : (l : List (Nat × Nat)) → (k : Nat) → arrOK tab el sz k l = true → ∀ (f off T : Nat), l[f]? = some (off, T) → off = (k + f) * sz ∧ T = el
  | [], _, _, _, _, _, h => by simp at h
  | (o, T) :: l, k, h, i, off, T', hg => by
    simp only [arrOK, Bool.and_eq_true] at h
    cases i with
    | zero =>
      simp only [List.getElem?_cons_zero, Option.some.injEq, Prod.mk.injEq] at hg
      exact ⟨hg.1.symm.trans (Nat.eq_of_beq_eq_true h.1), hg.2.symm.trans (Nat.eq_of_beq_eq_true h.2.1)⟩
    | succ i =>
      have := arrOK_get l (k + 1) h.2.2 i off T' hg
      rw [show k + 1 + i = k + (i + 1) by omega] at this
      exact this

/-- a struct's type -/
theorem struct_desc {S : Nat} {e : TE} {P : Program} {tab : List TE} (hF : TEfacts P tab S e) (h1 : e.ty.isAgg = true) (h2 : e.arr = false) :
    ∃ fs, P.underlying S = some (.struct fs) ∧ fldsOK tab fs.toList e.flds = true := by
  obtain ⟨d, hd, hdo⟩ := hF.desc
  cases d with
  | struct fs =>
    simp only [descOK, Bool.and_eq_true] at hdo
    exact ⟨fs, hd, hdo.2.2⟩
  | int k => have := Ty.eq_of_beq hdo; rw [this] at h1; cases h1
  | bool => have := Ty.eq_of_beq hdo; rw [this] at h1; cases h1
  | string => have := Ty.eq_of_beq hdo; rw [this] at h1; cases h1
  | slice el =>
    simp only [descOK, Bool.and_eq_true] at hdo
    obtain ⟨_, hdo⟩ := hdo
    split at hdo
    · simp only [Bool.and_eq_true] at hdo
      have := Ty.eq_of_beq hdo.1; rw [this] at h1; cases h1
    · cases hdo
  | array n el => simp [descOK, h2] at hdo
  | func ps rs v =>
    simp only [descOK] at hdo
    split at hdo
    · rename_i hab; rw [hab] at h1; cases h1
    · cases hdo
  | _ => simp [descOK] at hdo

theorem array_desc {S : Nat} {e : TE} {P : Program} {tab : List TE} (hF : TEfacts P tab S e) (h1 : e.ty.isAgg = true) (h2 : e.arr = true) :
    ∃ n te, P.underlying S = some (.array n e.elem) ∧ e.flds.length = n ∧ findTE tab e.elem = some te ∧ arrOK tab e.elem te.ty.size 0 e.flds = true := by
  obtain ⟨d, hd, hdo⟩ := hF.desc
  cases d with
  | array n el =>
    simp only [descOK, Bool.and_eq_true] at hdo
    obtain ⟨_, _, h3, h4, h5⟩ := hdo
    have h3 := Nat.eq_of_beq_eq_true h3
    split at h5
    · rename_i te hte
      subst h3
      exact ⟨n, te, hd, Nat.eq_of_beq_eq_true h4, hte, h5⟩
    · cases h5
  | int k => have := Ty.eq_of_beq hdo; rw [this] at h1; cases h1
  | bool => have := Ty.eq_of_beq hdo; rw [this] at h1; cases h1
  | string => have := Ty.eq_of_beq hdo; rw [this] at h1; cases h1
  | slice el =>
    simp only [descOK, Bool.and_eq_true] at hdo
    obtain ⟨_, hdo⟩ := hdo
    split at hdo
    · simp only [Bool.and_eq_true] at hdo
      have := Ty.eq_of_beq hdo.1; rw [this] at h1; cases h1
    · cases hdo
  | struct fs => simp [descOK, h2] at hdo
  | func ps rs v =>
    simp only [descOK] at hdo
    split at hdo
    · rename_i hab; rw [hab] at h1; cases h1
    · cases hdo
  | _ => simp [descOK] at hdo

theorem op_fieldAddr {S f : Nat} {x : Operand} (hE : TabOK C.P E.tab) (ho : o.op = .fieldAddr S x f) (h : SRep C g σ tm w) (hr : (opP E o).run σ K = some r) (hK : Good C K r ds next) :
    o.wp C.P ⟨tm, ds⟩ w next Q := by
  unfold opP at hr
  rw [ho] at hr
  simp only at hr
  split at hr
  case h_2 => simp [Prog.run] at hr
  rename_i e0 he0
  split at hr
  case isFalse => simp [Prog.run] at hr
  rename_i hag
  simp only [Bool.and_eq_true, Bool.not_eq_true'] at hag
  obtain ⟨a, ha, hr, _, _⟩ := rdP_inv (ds := ds) h hr
  obtain ⟨e, off, T, t, ad, he, hf, hT, hz, hv, hsp, a', ha', hr⟩ := fieldP_inv h ha hr
  rw [he] at he0; injection he0 with he0; subst he0
  obtain ⟨fs, hu, hfl⟩ := struct_desc (hE.find he) hag.1 hag.2
  obtain ⟨fd, hfd, hfo, hft⟩ := fldsOK_get _ _ hfl f off T hf
  have hfd' : fs[f]? = some fd := by simpa using hfd
  obtain ⟨eT, heT, hty⟩ := Env.ty_some hT
  have hsz := (hE.find heT).sizeOf w
  refine av_sound h (.refl h) ?_ ha' hr hK
  have hsz' : (sizeOf fd.type).run C.P w = .ok t.size w := by rw [hft, hsz, hty]
  simp [execOp, ho, hv, Instr.fieldAt, underlying, hu, hfd', Instr.sureAddr, fieldPlace, hsz', hz, addr_add hsp, hfo]

theorem op_extract {x : Operand} {i : Nat} (ho : o.op = .extract x i) (h : SRep C g σ tm w) (hr : (opP E o).run σ K = some r) (hK : Good C K r ds next) :
    o.wp C.P ⟨tm, ds⟩ w next Q := by
  unfold opP at hr
  rw [ho] at hr
  obtain ⟨a, ha, hr⟩ := rdA_inv (ds := ds) h hr
  cases a with
  | tup vs =>
    simp only at hr
    split at hr
    · rename_i tv htv
      obtain ⟨vals, e, hl, hp⟩ := ha
      have hi : i < vals.length := by
        rw [hl]
        rcases Nat.lt_or_ge i vs.length with h | h
        · exact h
        · rw [List.getElem?_eq_none h] at htv; cases htv
      have hv := List.getElem?_eq_getElem hi
      refine out_val h ?_ (hp i _ tv hv htv) hr hK
      simp [execOp, ho, e, Instr.extract, hi]
    · simp [Prog.run] at hr
  | _ => simp [Prog.run] at hr
end
end Go.GD
