import Derived.Test.YtmmlfdnpgigfbaaGD14
import Derived.Laws.CopyRow
namespace Go.GD
open Go

theorem RepC.oneCell {P : Program} : (t : Ty) → ∀ {w : World} {Ok : Nat → Prop} {cs : List Value} {x : t.den}, RepC P t w Ok cs x → ∀ v, v ∈ cs → v.oneCell' = true
  | .unit, _, _, _, _, h => by rw [show _ = _ from h]; simp
  | .int _, _, _, _, _, h => by rw [show _ = _ from h]; simp [Value.oneCell']
  | .bool, _, _, _, _, h => by rw [show _ = _ from h]; simp [Value.oneCell']
  | .str, _, _, _, _, h => by rw [show _ = _ from h]; simp [Value.oneCell']
  | .pair a b, _, _, _, _, h => by
    obtain ⟨c1, c2, e, h1, h2⟩ := h
    rw [e]
    intro v hv
    rcases List.mem_append.1 hv with hv | hv
    · exact RepC.oneCell a h1 v hv
    · exact RepC.oneCell b h2 v hv
  | .sl _, _, _, _, _, h => by obtain ⟨_, _, _, e, _⟩ := h; rw [e]; simp [Value.oneCell']
  | .ptr _, _, _, _, _, h => by obtain ⟨_, e, _⟩ := h; rw [e]; simp [Value.oneCell']
  | .fn _ _, _, _, _, _, h => by obtain ⟨_, _, _, e, _⟩ := h; rw [e]; simp [Value.oneCell']

theorem RepX.oneCell {P : Program} {w : World} {Sh : Nat → Prop} {cl : Nat → Mk → Claim} : (t : Ty) → ∀ {c : Nat} {cs : List Value} {x : t.den} {ms : List Mk}, RepX P w Sh cl t c cs x ms → ∀ v, v ∈ cs → v.oneCell' = true
  | .unit, _, _, _, _, h => by rw [h.1]; simp
  | .int _, _, _, _, _, h => by obtain ⟨_, _, h⟩ := h; exact RepC.oneCell _ h
  | .bool, _, _, _, _, h => by obtain ⟨_, _, h⟩ := h; exact RepC.oneCell _ h
  | .str, _, _, _, _, h => by obtain ⟨_, _, h⟩ := h; exact RepC.oneCell _ h
  | .ptr _, _, _, _, _, h => by obtain ⟨_, _, h⟩ := h; exact RepC.oneCell _ h
  | .pair a b, _, _, _, _, h => by
    obtain ⟨c1, c2, m1, m2, e, _, h1, h2⟩ := h
    rw [e]
    intro v hv
    rcases List.mem_append.1 hv with hv | hv
    · exact RepX.oneCell a h1 v hv
    · exact RepX.oneCell b h2 v hv
  | .sl _, _, _, _, _, h => by obtain ⟨_, _, _, _, e, _⟩ := h; rw [e]; simp [Value.oneCell']
  | .fn _ _, _, _, _, _, h => by obtain ⟨_, _, e, _, h, _⟩ := h; rw [e]; simpa using h.2

theorem storeVar_run {T : Nat} {e : TE} {b off : Nat} {cs0 cs : List Value} {v : Value} {et : TypeId} {P : Program} {tab : List TE} {w : World} (hT : TEfacts P tab T e) (hv : v.cells = cs.toArray)
    (hl : cs.length = e.ty.size) (h1 : ∀ v, v ∈ cs → v.oneCell' = true) (hh : w.heap[b]? = some (.cells cs0.toArray et (0, 0))) (hf : off + cs.length ≤ cs0.length) :
    (storeVar T ⟨b, off, none⟩ v).run P w = .ok () (w.setRow b (splice cs0 off cs).toArray) := by
  have := run_storeCells_at P b off et cs 0 cs0.toArray w hh (by simpa using hf) h1
  unfold storeVar
  rw [Sem.run_bind, hT.sizeOf w]
  simp only [Result.andThen_ok, hv, List.size_toArray, hl, ne_eq, not_true_eq_false, if_false]
  simpa [splice, hl] using this

theorem getElem?_splice {α : Type} (cs ys : List α) (off i : Nat) (h : off + ys.length ≤ cs.length) :
    (splice cs off ys)[i]? = if i < off then cs[i]? else if i < off + ys.length then ys[i - off]? else cs[i]? := by
  unfold splice
  rw [List.append_assoc]
  by_cases h1 : i < off
  · rw [List.getElem?_append_left (by rw [List.length_take]; omega), if_pos h1, List.getElem?_take_of_lt h1]
  · rw [List.getElem?_append_right (by rw [List.length_take]; omega), if_neg h1, List.length_take, Nat.min_eq_left (by omega)]
    by_cases h2 : i < off + ys.length
    · rw [if_pos h2, List.getElem?_append_left (by omega)]
    · rw [if_neg h2, List.getElem?_append_right (by omega), List.getElem?_drop]
      congr 1; omega

theorem splice_id {α : Type} (cs : List α) (off : Nat) (y : α) (h : cs[off]? = some y) : splice cs off [y] = cs := by
  have hl : off < cs.length := by
    rcases Nat.lt_or_ge off cs.length with h' | h'
    · exact h'
    · rw [List.getElem?_eq_none h'] at h; cases h
  apply List.ext_getElem?
  intro i
  rw [getElem?_splice _ _ _ _ (by simpa using Nat.succ_le_of_lt hl)]
  simp only [List.length_singleton]
  split
  · rfl
  · split
    · rw [show i = off by omega, Nat.sub_self, h]; rfl
    · rfl

section
variable {C : Ctx} {g g' : Own} {σ : St} {tm tm' : Array Value} {w w' : World} {E : Env} {o : Oper} {ρ : Type} {K : St → Option ρ} {r : ρ} {ds : List Deferred}
  {next : Act → World → Prop} {Q : Exit → Act → World → Prop}

/-- the changed slot's own claims carried on -/
theorem Step.selfCle {d : Nat} {a' : A} {i' n' : Nat} (h : SRep C g σ tm w) (st : Step C g σ tm w g' tm' w' d a' i' n') (hl : d < σ.length) (c : Nat) (m : Mk)
    (hown : m = .own → Mono w (fun b => g b = some (d, some c)) w' (fun b => g' b = some (d, some c))) (hb : bndM σ m) :
    CLe w w' (Shd C g') (cl g σ tm w d c m) (cl g' (listSet σ d ⟨a', i', n'⟩) tm' w' d c m) := by
  by_cases hm : m = .own
  · subst hm; exact .hold _ _ _ _ (hown rfl) (fun _ h => h)
  · have := (st.carry h σ.length (by omega)).cle c m hb (fun e => absurd e hm)
    cases m <;> first | exact absurd rfl hm | exact this

theorem mem_splice {α : Type} {cs ys : List α} {off : Nat} {y : α} (h : y ∈ splice cs off ys) : y ∈ cs ∨ y ∈ ys := by
  unfold splice at h
  rcases List.mem_append.1 h with h | h
  · rcases List.mem_append.1 h with h | h
    · exact .inl (List.mem_of_mem_take h)
    · exact .inr h
  · exact .inl (List.mem_of_mem_drop h)

theorem done_sound {w0 : World} (hexec : (execOp (Act.eval ⟨tm, ds⟩) o).run C.P w0 = .ok .skip w) (h : SRep C g σ tm w)
    (hr : (putA o.dst .top .fin).run σ K = some r) (hK : Good C K r ds next) : o.wp C.P ⟨tm, ds⟩ w0 next Q := by
  unfold Oper.wp
  rw [hexec]
  obtain ⟨σ', h1, h2, h3⟩ := put_sound (a0 := .top) (v := undef) (ds := ds) h (.refl h) (fun d _ _ σ' tm' hv => ⟨trivial, trivial⟩) hr
  exact hK _ _ _ _ h1 h3 h2

theorem isBox_setX (a : A) (v : TV) : (a.setX v).isBox = a.isBox := by cases a <;> rfl

theorem storeB_sound {T : Nat} {x y : Operand} {s off id : Nat} {t : Ty} {tv : TV} (hE : TabOK C.P E.tab) (ho : o.op = .store T x y) (hT : E.ty T = some t) (h : SRep C g σ tm w)
    (hv : Val C g σ tm w (Act.eval ⟨tm, ds⟩ y) tv) (ha : AV C g σ tm w (Act.eval ⟨tm, ds⟩ x) (.bptr s off id))
    (hr : (storeP E t (.bptr s off id) tv (putA o.dst .top .fin)).run σ K = some r) (hK : Good C K r ds next) : o.wp C.P ⟨tm, ds⟩ w next Q := by
  obtain ⟨e, he, het⟩ := Env.ty_some hT
  have hF := hE.find he
  unfold storeP at hr
  split at hr
  case h_1 => simp [Prog.run] at hr
  rename_i y' hy
  obtain ⟨ety, rfl⟩ := castO_some hy
  subst ety
  obtain ⟨cs, ev, hx, hn, hb⟩ := hv
  obtain ⟨g1, σ1, ms', h1, h2, h3, h4, h5, h6, h7, _⟩ := takeMarks_inv tv.ms [] rfl h (hx.place σ.length 0 hn) (fun _ hm => by cases hm) hn hb hr
  have hN : σ1.length = σ.length := h2.len
  simp only [List.nil_append] at h4 h5
  have ha1 : AV C g1 σ1 tm w (Act.eval ⟨tm, ds⟩ x) (.bptr s off id) := ⟨h2.rep _ (.bptr s off id) (fun _ => rfl) ha.2 ha.1, bndA_mono h2.gens ha.2⟩
  simp only [Prog.run] at h6
  split at h6
  case h_2 => simp [Prog.run] at h6
  rename_i hid
  split at h6
  case h_2 => simp [Prog.run] at h6
  rename_i tb hbox
  split at h6
  case h_2 => simp [Prog.run] at h6
  rename_i z hz
  obtain ⟨b, et, cs0, hpv, ht, hg, hh, hx0, hl⟩ := h1.boxed ha1 hid hbox
  simp only [Prog.run] at h6
  have hxl := RepX.length _ h5
  have hx0l := RepX.length _ hx0
  have hcells := mkV_cells hx
  have st : Step C g1 σ1 tm w (handTo g1 σ.length s off) tm (w.setRow b (splice cs0 off cs).toArray) s (.box ⟨tb.t, z, setMarks tb.ms off ms'⟩) (listGet σ1 s).id ((listGet σ1 s).gen + 1) := by
    refine ⟨by simp, fun b' _ hb' => setRow_other w b b' _ (fun e => hb' none (e ▸ hg)), fun b' _ hb' => handTo_none hb', fun b' _ s' c' hs' hm hb' => handTo_other hb' ?_, fun b' _ s' _ hb' => handTo_box hb',
      fun b' hb' => by rw [setRow_size]; exact h1.gok b' (handTo_le hb'), rfl, fun _ _ => rfl, by omega, .inl ⟨rfl, rfl⟩, ⟨rfl, rfl, rfl⟩, fun v hv _ => h1.pin s v hv (by rw [hbox]; rfl)⟩
    intro e
    rw [e, ← hN, listGet_out _ _ (Nat.le_refl _)] at hm
    cases hm
  have hsame : ∀ b', b' ≠ b → (w.setRow b (splice cs0 off cs).toArray).heap[b']? = w.heap[b']? := fun b' hb' => setRow_other w b b' _ hb'
  have hsh : Mono w (Shd C g1) (w.setRow b (splice cs0 off cs).toArray) (Shd C (handTo g1 σ.length s off)) :=
    ⟨by simp, fun b' _ hb' => ⟨hsame b' (fun e => by rw [e] at hb'; exact absurd hb'.2 (by rw [hg]; simp)), hb'.1, handTo_none hb'.2⟩⟩
  have hbnd := h1.bnd s hl
  rw [hbox] at hbnd
  have hold := RepX.trans (cl' := cl (handTo g1 σ.length s off) (listSet σ1 s ⟨.box ⟨tb.t, z, setMarks tb.ms off ms'⟩, (listGet σ1 s).id, (listGet σ1 s).gen + 1⟩) tm (w.setRow b (splice cs0 off cs).toArray) s) (c' := 0)
    hsh tb.t hx0 rfl fun i hi => Step.selfCle h1 st hl (0 + i) _ (fun hm => ⟨by simp, fun b' _ hb' => ⟨hsame b' (fun e => by rw [e, hg] at hb'; simp at hb'), handTo_other hb' (by omega)⟩⟩) (hbnd _ (mem_of_markAt _ _ (by omega)))
  have hnew := laid_cells (tm' := tm) (σ' := listSet σ1 s ⟨.box ⟨tb.t, z, setMarks tb.ms off ms'⟩, (listGet σ1 s).id, (listGet σ1 s).gen + 1⟩) (N := σ.length) (off := off) (d := s) h5 h4 hsh fun c =>
    ⟨by simp, fun b' _ hb' => ⟨hsame b' (fun e => by rw [e, hg] at hb'; simp at hb'), handTo_hand hb'⟩⟩
  obtain ⟨hsz, hfin⟩ := setAt_repX tb.t hold (by rw [Nat.zero_add]; exact hnew) hz
  rw [← setMarks_splice _ _ _ (by omega)] at hfin
  have hS := h1.replace st (fun _ => ⟨⟨b, et, splice cs0 off cs, ht, handTo_box hg, setRow_heap w b _ _ et _ hh, hfin⟩, fun m hm => by
    rw [show (⟨tb.t, z, setMarks tb.ms off ms'⟩ : TV).ms = setMarks tb.ms off ms' from rfl, setMarks_splice _ _ _ (by omega)] at hm
    rcases mem_splice hm with hm | hm
    · exact bndM_mono (fun s => (st.gens s).1) (hbnd m hm)
    · exact laid_bnd h4 m hm⟩)
  have hst := storeVar_run (w := w) (b := b) (off := off) (v := Act.eval ⟨tm, ds⟩ y) hF (by rw [ev]; exact hcells) (by rw [het]; exact hxl.1) (RepX.oneCell _ hx) hh (by omega)
  exact done_sound (by simp [execOp, ho, hpv, Instr.storeAt, Instr.sureAddr, hst]) hS h6 hK


theorem markAt_setMarkL_self (ms : List Mk) (c : Nat) (m : Mk) (h : c < ms.length) : markAt (setMarkL ms c m) c = m := by
  rw [markAt_setMarkL _ _ _ _ h, if_pos rfl]

theorem setMarkL_back : (ms : List Mk) → (c : Nat) → (m : Mk) → c < ms.length → setMarkL (setMarkL ms c m) c (markAt ms c) = ms
  | [], _, _, h => by simp at h
  | _ :: _, 0, _, _ => rfl
  | a :: l, c + 1, m, h => by simp only [setMarkL, markAt]; rw [setMarkL_back l c m (by simpa using h)]

theorem dataOf {s0 : Nat} {v : Value} {a : A} {tv : TV} (h : a.tv = some tv) (ha : SlotRep C g σ tm w s0 v a) : ∃ cs : List Value, RepX C.P w (Shd C g) (cl g σ tm w s0) tv.t 0 cs tv.x tv.ms ∧ a.mark = markAt tv.ms ∧
    ((v = mkV tv.t cs ∧ a = .val tv) ∨ ∃ b e, v = .pointer (some ⟨b, 0, none⟩) ∧ g b = some (s0, none) ∧ w.heap[b]? = some (.cells cs.toArray e (0, 0)) ∧ a = .box tv) := by
  cases a with
  | val u => injection h with h; subst h; obtain ⟨cs, e, hr⟩ := ha; exact ⟨cs, hr, rfl, .inl ⟨e, rfl⟩⟩
  | box u => injection h with h; subst h; obtain ⟨b, e, cs, hv, hg, hh, hr⟩ := ha; exact ⟨cs, hr, rfl, .inr ⟨b, e, hv, hg, hh, rfl⟩⟩
  | _ => cases h

theorem storeE_sound {T : Nat} {x y : Operand} {s c gn i off : Nat} {te : Ty} {xe : te.den} {t : Ty} {tv : TV} (hE : TabOK C.P E.tab) (ho : o.op = .store T x y) (hT : E.ty T = some t) (h : SRep C g σ tm w)
    (hv : Val C g σ tm w (Act.eval ⟨tm, ds⟩ y) tv) (ha : AV C g σ tm w (Act.eval ⟨tm, ds⟩ x) (.eptr s c gn i te xe off))
    (hr : (storeP E t (.eptr s c gn i te xe off) tv (putA o.dst .top .fin)).run σ K = some r) (hK : Good C K r ds next) : o.wp C.P ⟨tm, ds⟩ w next Q := by
  obtain ⟨e, he, het⟩ := Env.ty_some hT
  have hF := hE.find he
  unfold storeP at hr
  split at hr
  case h_1 => simp [Prog.run] at hr
  rename_i y' hy
  obtain ⟨ety, rfl⟩ := castO_some hy
  subst ety
  obtain ⟨g1, σ1, ms', cs, h1, h2, ev, hcells, hrc, h6, _⟩ := share_inv h hv hr
  have ha1 : AV C g1 σ1 tm w (Act.eval ⟨tm, ds⟩ x) (.eptr s c gn i te xe off) := ⟨h2.rep _ (.eptr s c gn i te xe off) (fun _ => rfl) ha.2 ha.1, bndA_mono h2.gens ha.2⟩
  obtain ⟨hok, h6⟩ := useMarks_inv _ h6
  have hval : validB σ1 s c gn = true := hok _ (List.mem_singleton.2 rfl)
  split at h6
  case h_2 => simp [Prog.run] at h6
  rename_i e1 he1
  simp only [Prog.run] at h6
  split at h6
  case h_2 => simp [Prog.run] at h6
  rename_i wv hwv
  split at h6
  case h_2 => simp [Prog.run] at h6
  rename_i xs hxs
  split at h6
  case h_2 => simp [Prog.run] at h6
  rename_i z hz
  simp only [Prog.run] at h6
  obtain ⟨ad, len, cap, hp, hsp, hi, hpv, hbl, hg, cs0, hcl, hcc, hrep⟩ := ha1.1 hval
  have hl := validB_lt hval
  have hmark : ((listGet σ1 s).a.mark c).isOwn = true := by simp only [validB, Bool.and_eq_true] at hval; exact hval.2
  obtain ⟨wcs, hx0, hmk, hform⟩ := dataOf hwv (h1.slots s hl)
  have hx0l := RepX.length _ hx0
  obtain ⟨hsz, hsub⟩ := getAt_repX wv.t hx0 hxs
  simp only [Ty.size] at hsz hsub
  have hcell : wcs[c]? = some (.slice (some ad) len cap) := by
    rcases hform with ⟨hf, hfa⟩ | ⟨b, e', hf, hgb, hh, hfa⟩
    · unfold placeV at hp
      rw [hfa] at hp
      simp only [hf, mkV_cells hx0] at hp
      simpa using hp
    · unfold placeV at hp
      rw [hfa] at hp
      simp only [hf, Nat.zero_add, cell_of_block hh] at hp
      exact hp
  have hownm : markAt wv.ms c = .own := by
    rw [hmk] at hmark
    cases hm : markAt wv.ms c <;> rw [hm] at hmark <;> first | rfl | cases hmark
  obtain ⟨a0, len0, cap0, m0, hc0, hm0, hsays⟩ := hsub
  have e0 : Value.slice a0 len0 cap0 = .slice (some ad) len cap := by
    have := congrArg (fun l => l[0]?) hc0
    simp only [List.getElem?_take, List.getElem?_drop] at this
    simpa [hcell] using this.symm
  injection e0 with e1' e2' e3'
  subst e1'; subst e2'; subst e3'
  have em : m0 = .own := by
    have := congrArg (fun l => markAt l 0) hm0
    simp only [markAt_drop_take, Nat.add_zero, Nat.zero_lt_one, if_true] at this
    rw [hownm] at this
    exact this.symm
  subst em
  simp only [clm, Claim.says, Nat.zero_add] at hsays
  obtain ⟨⟨hlen, hlc, hrows⟩, _⟩ := hsays
  rcases hrows with hrows | ⟨ad', hsome, hsp', _, ⟨vs, et, hblk, hfit⟩, hrows⟩
  · omega
  injection hsome with hsome
  subst hsome
  obtain ⟨hso, hnewe⟩ := setAt_repC hrep hrc he1
  have hcsl := RepC.length _ hrc
  have hin : ad.off + i * te.size + off + cs.length ≤ vs.toList.length := by
    have : (i + 1) * te.size ≤ cap0 * te.size := Nat.mul_le_mul_right _ (by omega)
    rw [Nat.add_mul] at this
    simp only [Array.length_toList]; omega
  have hvs : vs = vs.toList.toArray := by simp
  rw [hvs] at hblk
  have st : Step C g1 σ1 tm w g1 tm (w.setRow ad.block (splice vs.toList (ad.off + i * te.size + off) cs).toArray) s ((listGet σ1 s).a.setX { wv with x := z }) (listGet σ1 s).id ((listGet σ1 s).gen + 1) := by
    refine ⟨by simp, fun b' _ hb' => setRow_other w ad.block b' _ (fun e => hb' (some c) (e ▸ hg)), fun b' _ hb' => hb', fun b' _ s' c' hs' hm hb' => hb', fun b' _ s' _ hb' => hb',
      fun b' hb' => by rw [setRow_size]; exact h1.gok b' hb', rfl, fun _ _ => rfl, by omega, .inl ⟨rfl, rfl⟩, ⟨rfl, rfl, rfl⟩, fun v hv hb => h1.pin s v hv (by rw [isBox_setX] at hb; exact hb)⟩
  have hsame : ∀ b', b' ≠ ad.block → (w.setRow ad.block (splice vs.toList (ad.off + i * te.size + off) cs).toArray).heap[b']? = w.heap[b']? := fun b' hb' => setRow_other w ad.block b' _ hb'
  have hsh : Mono w (Shd C g1) (w.setRow ad.block (splice vs.toList (ad.off + i * te.size + off) cs).toArray) (Shd C g1) :=
    ⟨by simp, fun b' _ hb' => ⟨hsame b' (fun e => by rw [e] at hb'; exact absurd hb'.2 (by rw [hg]; simp)), hb'⟩⟩
  have hbnd : ∀ m, m ∈ wv.ms → bndM σ1 m := by
    have := h1.bnd s hl
    rcases hform with ⟨_, hfa⟩ | ⟨_, _, _, _, _, hfa⟩ <;> (rw [hfa] at this; exact this)
  have hold := RepX.trans (ms' := setMarkL wv.ms c .dead) (cl' := cl g1 (listSet σ1 s ⟨(listGet σ1 s).a.setX { wv with x := z }, (listGet σ1 s).id, (listGet σ1 s).gen + 1⟩) tm (w.setRow ad.block (splice vs.toList (ad.off + i * te.size + off) cs).toArray) s) (c' := 0)
    hsh wv.t hx0 (setMarkL_length _ _ _) fun j hj => by
      rw [markAt_setMarkL _ _ _ _ (by omega)]
      split
      · exact .skip _
      · rename_i hjc
        exact Step.selfCle h1 st hl (0 + j) _ (fun hm => ⟨by simp, fun b' _ hb' => ⟨hsame b' (fun e => by rw [e, hg] at hb'; simp at hb'; omega), hb'⟩⟩) (hbnd _ (mem_of_markAt _ _ (by omega)))
  have hnewc : RepX C.P (w.setRow ad.block (splice vs.toList (ad.off + i * te.size + off) cs).toArray) (Shd C g1)
      (cl g1 (listSet σ1 s ⟨(listGet σ1 s).a.setX { wv with x := z }, (listGet σ1 s).id, (listGet σ1 s).gen + 1⟩) tm (w.setRow ad.block (splice vs.toList (ad.off + i * te.size + off) cs).toArray) s) (.sl te) (0 + c)
      [.slice (some ad) len0 cap0] (xs.set i e1) [.own] := by
    refine ⟨_, _, _, _, rfl, rfl, ⟨by rw [List.length_set]; exact hlen, hlc, .inr ⟨ad, rfl, hsp, by rw [Nat.zero_add]; exact hg, ⟨_, et, setRow_heap w _ _ _ et _ hblk, ?_⟩, fun j hj => ?_⟩⟩, trivial⟩
    · rw [List.size_toArray, splice_length _ _ _ hin]; simpa using hfit
    · rw [List.length_set] at hj
      have hcellj : ∀ k, k < te.size → (w.setRow ad.block (splice vs.toList (ad.off + i * te.size + off) cs).toArray).cell? ⟨ad.block, ad.off + j * te.size + k, none⟩ =
          if ad.off + j * te.size + k < ad.off + i * te.size + off then vs.toList[ad.off + j * te.size + k]? else
          if ad.off + j * te.size + k < ad.off + i * te.size + off + cs.length then cs[ad.off + j * te.size + k - (ad.off + i * te.size + off)]? else vs.toList[ad.off + j * te.size + k]? := by
        intro k hk
        rw [cell_setRow_same w _ _ _ _ et _ hblk, List.getElem?_toArray, getElem?_splice _ _ _ _ hin]
      have hold' : ∀ q, w.cell? ⟨ad.block, q, none⟩ = vs.toList[q]? := fun q => cell_of_block hblk
      by_cases hji : j = i
      · subst hji
        refine ⟨splice cs0 off cs, by rw [splice_length _ _ _ (by omega)]; exact hcl, fun k hk => ?_, ?_⟩
        · rw [hcellj k hk, getElem?_splice _ _ _ _ (by omega)]
          have := hcc k hk
          rw [hold'] at this
          by_cases q1 : k < off
          · rw [if_pos q1, if_pos (by omega)]; exact this
          · rw [if_neg q1, if_neg (by omega)]
            by_cases q2 : k < off + cs.length
            · rw [if_pos q2, if_pos (by omega)]; congr 1; omega
            · rw [if_neg q2, if_neg (by omega)]; exact this
        · rw [List.getElem_set_self]
          exact RepC.mono te hsh hnewe
      · obtain ⟨ecs, hel, hec, her⟩ := hrows j hj
        refine ⟨ecs, hel, fun k hk => ?_, ?_⟩
        · rw [hcellj k hk]
          have := hec k hk
          rw [hold'] at this
          rcases Nat.lt_or_gt_of_ne hji with q | q
          · have : (j + 1) * te.size ≤ i * te.size := Nat.mul_le_mul_right _ q
            rw [Nat.add_mul] at this
            rw [if_pos (by omega)]; assumption
          · have : (i + 1) * te.size ≤ j * te.size := Nat.mul_le_mul_right _ q
            rw [Nat.add_mul] at this
            rw [if_neg (by omega), if_neg (by omega)]; assumption
        · rw [List.getElem_set_ne (by omega)]
          exact RepC.mono te hsh her
  obtain ⟨_, hfin⟩ := setAt_repX wv.t hold hnewc hz
  rw [splice_id _ _ _ hcell, ← setMarkL_splice _ _ _ (by rw [setMarkL_length]; omega)] at hfin
  have hms : setMarkL (setMarkL wv.ms c .dead) c .own = wv.ms := by
    have := setMarkL_back wv.ms c .dead (by omega)
    rwa [hownm] at this
  rw [hms] at hfin
  have hS := h1.replace st (fun _ => by
    have hbn := fun m hm => bndM_mono (fun s => (st.gens s).1) (hbnd m hm)
    rcases hform with ⟨hf, hfa⟩ | ⟨b, e', hf, hgb, hh, hfa⟩
    · rw [hfa] at hfin hbn ⊢
      exact ⟨⟨wcs, hf, hfin⟩, hbn⟩
    · rw [hfa] at hfin hbn ⊢
      exact ⟨⟨b, e', wcs, hf, hgb, (hsame b (fun e => by rw [e, hg] at hgb; simp at hgb)).trans hh, hfin⟩, hbn⟩)
  have hst := storeVar_run (w := w) (b := ad.block) (off := ad.off + i * te.size + off) (v := Act.eval ⟨tm, ds⟩ y) hF hcells (by rw [het]; exact hcsl) (RepC.oneCell _ hrc) hblk hin
  exact done_sound (by simp [execOp, ho, hpv, Instr.storeAt, Instr.sureAddr, hst]) hS h6 hK

theorem op_store {T : Nat} {x y : Operand} (hE : TabOK C.P E.tab) (ho : o.op = .store T x y) (h : SRep C g σ tm w) (hr : (opP E o).run σ K = some r) (hK : Good C K r ds next) :
    o.wp C.P ⟨tm, ds⟩ w next Q := by
  unfold opP at hr
  rw [ho] at hr
  simp only at hr
  split at hr
  case h_2 => simp [Prog.run] at hr
  rename_i t hT
  obtain ⟨tv, hv, _, hr⟩ := rdV_inv (ds := ds) h hr
  obtain ⟨a, ha, hr, hnv, hnt⟩ := rdP_inv (ds := ds) h hr
  cases a with
  | bptr s off id => exact storeB_sound hE ho hT h hv ha hr hK
  | eptr s c gn i te xe off => exact storeE_sound hE ho hT h hv ha hr hK
  | _ => unfold storeP at hr; split at hr <;> simp [Prog.run] at hr
end
end Go.GD
