import Derived.Test.YtmmlfdnpgigfbaaGD15
import Derived.Deep.AppendSrc
namespace Go.GD
open Go

/-- data one behind the other, in cells -/
def Segs {α : Type} (size : Nat) (R : List Value → α → Prop) (cs : List Value) (xs : List α) : Prop :=
  cs.length = xs.length * size ∧ ∀ i (h : i < xs.length), R ((cs.drop (i * size)).take size) xs[i]

theorem Segs.append {α : Type} {size : Nat} {R : List Value → α → Prop} {cs ds : List Value} {xs ys : List α} (h : Segs size R cs xs) (h' : Segs size R ds ys) : Segs size R (cs ++ ds) (xs ++ ys) := by
  refine ⟨by rw [List.length_append, List.length_append, h.1, h'.1, Nat.add_mul], fun i hi => ?_⟩
  rcases Nat.lt_or_ge i xs.length with hx | hx
  · rw [List.getElem_append_left hx]
    have : (i + 1) * size ≤ cs.length := by rw [h.1]; exact Nat.mul_le_mul_right _ hx
    rw [Nat.add_mul] at this
    rw [List.drop_append_of_le_length (by omega), List.take_append_of_le_length (by rw [List.length_drop]; omega)]
    exact h.2 i hx
  · rw [List.getElem_append_right hx]
    have : xs.length * size ≤ i * size := Nat.mul_le_mul_right _ hx
    rw [← h.1] at this
    have e : i * size = cs.length + (i - xs.length) * size := by
      rw [h.1, ← Nat.add_mul]; congr 1; omega
    rw [e, List.drop_length_add_append]
    exact h'.2 _ _

theorem Segs.mono {α : Type} {size : Nat} {R R' : List Value → α → Prop} {cs : List Value} {xs : List α} (hR : ∀ cs x, R cs x → R' cs x) (h : Segs size R cs xs) : Segs size R' cs xs :=
  ⟨h.1, fun i hi => hR _ _ (h.2 i hi)⟩

theorem Segs.rows {α : Type} {size : Nat} {R : List Value → α → Prop} {cs : List Value} {xs : List α} {w : World} {ad : Addr} (h : Segs size R cs xs) (hc : ∀ q, q < cs.length → w.cell? ⟨ad.block, ad.off + q, none⟩ = cs[q]?) :
    Rows size w R ad xs := by
  intro i hi
  have : (i + 1) * size ≤ cs.length := by rw [h.1]; exact Nat.mul_le_mul_right _ hi
  rw [Nat.add_mul] at this
  refine ⟨(cs.drop (i * size)).take size, by rw [List.length_take, List.length_drop]; omega, fun j hj => ?_, h.2 i hi⟩
  rw [getElem?_drop_take _ _ _ _ hj, Nat.add_assoc]
  exact hc _ (by omega)

theorem Rows.segs {α : Type} {size : Nat} {R : List Value → α → Prop} {xs : List α} {w : World} {ad : Addr} (h : Rows size w R ad xs) (hs : size ≠ 0) :
    ∃ cs, Segs size R cs xs ∧ ∀ q, q < cs.length → w.cell? ⟨ad.block, ad.off + q, none⟩ = cs[q]? := by
  have hcell : ∀ q, q < xs.length * size → ∃ v, w.cell? ⟨ad.block, ad.off + q, none⟩ = some v := by
    intro q hq
    have hi : q / size < xs.length := (Nat.div_lt_iff_lt_mul (Nat.pos_of_ne_zero hs)).2 hq
    obtain ⟨cs, h1, h2, _⟩ := h _ hi
    have hm := Nat.mod_lt q (Nat.pos_of_ne_zero hs)
    have := h2 (q % size) hm
    rw [Nat.add_assoc, Nat.div_add_mod' q size] at this
    rw [this, List.getElem?_eq_getElem (by omega)]
    exact ⟨_, rfl⟩
  refine ⟨(List.range (xs.length * size)).map fun q => (w.cell? ⟨ad.block, ad.off + q, none⟩).getD undef, ⟨by simp, fun i hi => ?_⟩, fun q hq => ?_⟩
  · obtain ⟨cs, h1, h2, h3⟩ := h i hi
    have : (i + 1) * size ≤ xs.length * size := Nat.mul_le_mul_right _ hi
    rw [Nat.add_mul] at this
    have e : ((((List.range (xs.length * size)).map fun q => (w.cell? ⟨ad.block, ad.off + q, none⟩).getD undef).drop (i * size)).take size) = cs := by
      apply List.ext_getElem?
      intro j
      rcases Nat.lt_or_ge j size with hj | hj
      · rw [getElem?_drop_take _ _ _ _ hj, List.getElem?_map, List.getElem?_range (by omega)]
        have := h2 j hj
        rw [Nat.add_assoc] at this
        simp only [Option.map_some, this]
        rw [List.getElem?_eq_getElem (by omega)]; rfl
      · rw [List.getElem?_eq_none (by rw [List.length_take]; omega), List.getElem?_eq_none (by omega)]
    rw [e]; exact h3
  · simp only [List.length_map, List.length_range] at hq
    obtain ⟨v, hv⟩ := hcell q hq
    rw [List.getElem?_map, List.getElem?_range hq]
    simp [hv]

theorem Segs.oneCell {P : Program} {t : Ty} {w : World} {Sh : Nat → Prop} {cs : List Value} {xs : List t.den} (h : Segs t.size (RepC P t w Sh) cs xs) (hs : t.size ≠ 0) : ∀ v, v ∈ cs → v.oneCell' = true := by
  intro v hv
  obtain ⟨q, hq, e⟩ := List.mem_iff_getElem.1 hv
  have hq' := hq
  rw [h.1] at hq'
  have hi : q / t.size < xs.length := (Nat.div_lt_iff_lt_mul (Nat.pos_of_ne_zero hs)).2 hq'
  have hm := Nat.mod_lt q (Nat.pos_of_ne_zero hs)
  refine RepC.oneCell t (h.2 _ hi) v ?_
  have : ((cs.drop (q / t.size * t.size)).take t.size)[q % t.size]? = some v := by
    rw [getElem?_drop_take _ _ _ _ hm, Nat.div_add_mod' q t.size, List.getElem?_eq_getElem hq, e]
  exact List.mem_of_getElem? this

section
variable {C : Ctx} {g g' : Own} {σ : St} {tm tm' : Array Value} {w w' : World} {E : Env} {o : Oper} {ρ : Type} {K : St → Option ρ} {r : ρ} {ds : List Deferred}
  {next : Act → World → Prop} {Q : Exit → Act → World → Prop}

theorem says_rows {m : Mk} {t : Ty} {a : Option Addr} {len cap : Nat} {xs : List t.den} (hok : okM σ m) (hno : m ≠ .own)
    (hs : (cl g σ tm w 0 0 m).says t.size w (Shd C g) (RepC C.P t w (Shd C g)) a len cap xs) : xs.length = len ∧ len ≤ cap ∧ (len = 0 ∨ ∃ ad : Addr, a = some ad ∧ ad.spot = none ∧ Rows t.size w (RepC C.P t w (Shd C g)) ad xs) := by
  have hold : ∀ {B : Nat → Prop}, HoldS t.size w B (RepC C.P t w (Shd C g)) a len cap xs → xs.length = len ∧ len ≤ cap ∧ (len = 0 ∨ ∃ ad : Addr, a = some ad ∧ ad.spot = none ∧ Rows t.size w (RepC C.P t w (Shd C g)) ad xs) := by
    intro B hh
    refine ⟨hh.1, hh.2.1, hh.2.2.imp (fun e => by have := hh.2.1; omega) ?_⟩
    rintro ⟨ad, h1, h2, _, _, h3⟩
    exact ⟨ad, h1, h2, h3⟩
  have share : ∀ {B : Nat → Prop}, ShareS t.size w B (RepC C.P t w (Shd C g)) a len cap xs → xs.length = len ∧ len ≤ cap ∧ (len = 0 ∨ ∃ ad : Addr, a = some ad ∧ ad.spot = none ∧ Rows t.size w (RepC C.P t w (Shd C g)) ad xs) := by
    intro B hh
    refine ⟨hh.1, hh.2.1, hh.2.2.imp (fun e => e) ?_⟩
    rintro ⟨ad, h1, h2, _, _, h3⟩
    exact ⟨ad, h1, h2, h3⟩
  cases m with
  | shr => exact share hs.1
  | nn => exact share hs.1
  | nil => obtain ⟨_, rfl, rfl, rfl⟩ := hs; exact ⟨rfl, Nat.le_refl _, .inl rfl⟩
  | own => exact absurd rfl hno
  | dead => exact hok.elim
  | ref s' c' g' =>
    simp only [clm, (show validB σ s' c' g' = true from hok), cond] at hs
    exact hold hs.1
  | sub s' c' g' =>
    simp only [clm, (show validB σ s' c' g' = true from hok), cond] at hs
    exact hold hs.1
  | bor q =>
    simp only [clm, (show borOk σ q = true from hok), cond] at hs
    exact hold hs.1

/-- what is appended -/
theorem src_of_rows {P : Program} {T e' : TypeId} {t : Ty} {a : Option Addr} {len cap : Nat} {xs : List t.den} {Sh : Nat → Prop} (hu : P.underlying T = some (.slice e')) (hs : t.size ≠ 0)
    (h : xs.length = len ∧ len ≤ cap ∧ (len = 0 ∨ ∃ ad : Addr, a = some ad ∧ ad.spot = none ∧ Rows t.size w (RepC P t w Sh) ad xs)) :
    ∃ news, Src P t.size T (.slice a len cap) len news w ∧ Segs t.size (RepC P t w Sh) news xs ∧ (Builtin.firstCells t.size len (.slice a len cap)).run P w.drew = .ok news.toArray w.drew := by
  obtain ⟨h1, h2, h3⟩ := h
  rcases h3 with h3 | ⟨ad, rfl, hsp, hr⟩
  · subst h3
    have hx : xs = [] := List.eq_nil_of_length_eq_zero h1
    subst hx
    refine ⟨[], ?_, ⟨by simp, fun i hi => by simp at hi⟩, ?_⟩
    · cases a with
      | none => exact Src.ofNil w hu cap
      | some ad => exact Src.ofSlice w hu ad 0 cap [] (by simp) (by simp) (by simp)
    · cases a with
      | none => exact run_firstCells_none w.drew _ _ _ _
      | some ad => exact run_firstCells_some w.drew _ _ ad 0 cap [] (by simp) (by simp)
  · obtain ⟨cs, hsg, hc⟩ := hr.segs hs
    have hcl : ∀ j u, cs[j]? = some u → w.cell? (ad.add j) = some u := fun j u hj => by
      have hlt : j < cs.length := by
        rcases Nat.lt_or_ge j cs.length with h | h
        · exact h
        · rw [List.getElem?_eq_none h] at hj; cases hj
      rw [addr_add hsp, hc j hlt, hj]
    refine ⟨cs, Src.ofSlice w hu ad len cap cs (by rw [hsg.1, h1]) hcl (hsg.oneCell hs), hsg, ?_⟩
    exact run_firstCells_some w.drew _ _ ad len cap cs (by rw [hsg.1, h1]) (by simpa using hcl)

theorem run_append_at {P : Program} (t tx ty e : TypeId) (size : Nat) (ht : P.underlying t = some (.slice e)) {i : TypeInfo} (hi : P.info? e = some i) (his : i.size = size) (b off sLen sCap : Nat) (x : Value) (n : Nat) (news : List Value) (hs : Src P size tx x n news w)
    (hroom : sLen + n ≤ sCap) {vs : List Value} {et : TypeId} (hb : w.heap[b]? = some (.cells vs.toArray et (0, 0))) (hfit : off + sLen * size + news.length ≤ vs.length) :
    (Builtin.append_ #[t, tx] ty #[.slice (some ⟨b, off, none⟩) sLen sCap, x]).run P w = .ok (.slice (some ⟨b, off, none⟩) (sLen + n) sCap) (w.setRow b (splice vs (off + sLen * size) news).toArray) := by
  subst his
  have hst := run_storeCells_at P b (off + sLen * i.size) et news 0 vs.toArray w hb (by simpa using hfit) hs.one
  simp only [Nat.add_zero] at hst
  have e : (splice vs (off + sLen * i.size) news).toArray = (vs.toArray.toList.take (off + sLen * i.size) ++ news ++ vs.toArray.toList.drop (off + sLen * i.size + news.length)).toArray := by simp [splice]
  rw [e]
  rcases hs.kind with ⟨e', hk⟩ | hk <;> simp [Builtin.append_, run_underlying ht, run_underlying hk, sizeOf, typeInfo, hi, hs.len, hroom, hs.cells, Addr.add_lit, hst]

theorem run_append_none {P : Program} (t tx ty e : TypeId) (size : Nat) (ht : P.underlying t = some (.slice e)) {i : TypeInfo} (hi : P.info? e = some i) (his : i.size = size) (sLen sCap : Nat) (x : Value) (hs : Src P size tx x 0 [] w)
    (hroom : sLen ≤ sCap) (a : Option Addr) :
    (Builtin.append_ #[t, tx] ty #[.slice a sLen sCap, x]).run P w = .ok (.slice a sLen sCap) w := by
  subst his
  cases a with
  | none => rcases hs.kind with ⟨e', hk⟩ | hk <;> simp [Builtin.append_, run_underlying ht, run_underlying hk, sizeOf, typeInfo, hi, hs.len, hroom, hs.cells]
  | some ad => rcases hs.kind with ⟨e', hk⟩ | hk <;> simp [Builtin.append_, run_underlying ht, run_underlying hk, sizeOf, typeInfo, hi, hs.len, hroom, hs.cells, storeCells]

/-- a new content of slot d (or of none), where the hand's blocks may have changed -/
theorem hand_sound {a0 : A} {v : Value} {w0 : World} (h : SRep C g σ tm w) (hs : w'.heap.size = w.heap.size) (hio : SameIO w w')
    (hH : ∀ b, b < w.heap.size → (∀ c, g b ≠ some (σ.length, some c)) → w'.heap[b]? = w.heap[b]?) (hexec : (execOp (Act.eval ⟨tm, ds⟩) o).run C.P w0 = .ok (.value v) w')
    (new : ∀ d, o.dst = some d → d < σ.length → ∀ σ' tm', SlotRep C (handTo g σ.length d 0) σ' tm' w' d v a0 ∧ bndA σ' a0)
    (hr : (putA o.dst a0 .fin).run σ K = some r) (hK : Good C K r ds next) (hbox : a0.isBox = false := by rfl) : o.wp C.P ⟨tm, ds⟩ w0 next Q := by
  unfold Oper.wp
  rw [hexec, Oper.upon_value]
  cases hd : o.dst with
  | none =>
    rw [hd] at hr
    have st : Step C g σ tm w g tm w' σ.length .top 1 1 := by
      refine ⟨by omega, fun b hb hk => hH b hb (fun c => hk (some c)), fun _ _ h => h, fun _ _ _ _ _ _ h => h, fun _ _ _ _ h => h, fun b hb => by rw [hs]; exact h.gok b hb, rfl, fun _ _ => rfl,
        by rw [listGet_out _ _ (Nat.le_refl _)]; exact Nat.one_pos, .inr (by rw [listGet_out _ _ (Nat.le_refl _)]; exact Nat.one_pos), hio, fun _ _ hb => by cases hb⟩
    have := h.replace st (fun hl => absurd hl (Nat.lt_irrefl _))
    rw [listSet_out _ _ _ (Nat.le_refl _)] at this
    exact hK _ _ _ _ this rfl hr
  | some d =>
    rw [hd] at hr
    simp only [putA, Prog.run] at hr
    have h' : SRep C (handTo g σ.length d 0) σ tm w := h.grow (Grow.handTo h d 0)
    have st : Step C (handTo g σ.length d 0) σ tm w (handTo g σ.length d 0) (tm.setIfInBounds d v) w' d a0 ((listGet σ d).id + 1) ((listGet σ d).gen + 1) := by
      refine ⟨by omega, fun b hb hk => hH b hb (fun c hc => hk _ (handTo_hand hc)), fun _ _ h => h, fun _ _ _ _ _ _ h => h, fun _ _ _ _ h => h, fun b hb => by rw [hs]; exact h'.gok b hb, by simp, fun s hs => getD_set_other hs,
        by omega, .inr (by omega), hio, fun _ _ hb => by rw [hbox] at hb; cases hb⟩
    have := h'.replace st (fun hl => by rw [getD_set_same (by rw [h.len]; exact hl)]; exact new d hd hl _ _)
    exact hK _ _ _ _ this rfl hr

theorem addr_eq {ad : Addr} (h : ad.spot = none) : ad = ⟨ad.block, ad.off, none⟩ := by
  cases ad with
  | mk b o s => simp only at h; subst h; rfl

theorem op_append {c : Call} (hE : TabOK C.P E.tab) (ho : o.op = .call c) (hc : c.callee = .builtin .append) (h : SRep C g σ tm w)
    (hr : (opP E o).run σ K = some r) (hK : Good C K r ds next) : o.wp C.P ⟨tm, ds⟩ w next Q := by
  unfold opP at hr
  rw [ho] at hr
  simp only [hc] at hr
  split at hr
  case h_2 => simp [Prog.run] at hr
  rename_i x y T T' ha ht
  split at hr
  case isFalse => simp [Prog.run] at hr
  rename_i hTT
  have hTT := Nat.eq_of_beq_eq_true hTT
  subst hTT
  unfold appendP at hr
  split at hr
  case h_2 => simp [Prog.run] at hr
  rename_i e he
  split at hr
  case h_2 => simp [Prog.run] at hr
  rename_i el hel
  split at hr
  case h_2 => simp [Prog.run] at hr
  rename_i z hty hz
  have hty := Ty.eq_of_beq hty
  obtain ⟨hu, te, hte, hteq, hsz0⟩ := (hE.find he).slice hty
  have hFel := hE.find hel
  obtain ⟨tv, hv, _, hr⟩ := rdV_inv (ds := ds) h hr
  split at hr
  case h_2 => simp [Prog.run] at hr
  rename_i xs hxs
  obtain ⟨ys, my, a2, len2, cap2, hy, hok2, hno2, _, hs2, hq⟩ := rdS_inv (ds := ds) h hr
  clear hr
  simp only [Prog.run] at hq
  cases hbnds : (Nat.ble ((xs.length + ys.length) * el.bytes) appendLimit && Nat.ble (xs.length + ys.length) 9223372036854775807) with
  | false => rw [hbnds] at hq; simp at hq
  | true =>
  rw [hbnds] at hq
  simp only [cond] at hq
  simp only [Bool.and_eq_true] at hbnds
  have hb1 : (xs.length + ys.length) * el.bytes ≤ 140737488355328 := Nat.le_of_ble_eq_true hbnds.1
  have hb2 : xs.length + ys.length ≤ 9223372036854775807 := Nat.le_of_ble_eq_true hbnds.2
  obtain ⟨ety, exs⟩ := castO_some hxs
  obtain ⟨t0, xs, ms0⟩ := tv
  simp only at ety exs hq
  subst ety
  simp only at exs
  subst exs
  obtain ⟨cs, ev, hx, hn, hb⟩ := hv
  obtain ⟨g1, σ1, ms', h1, h2, h3, h4, h5, h6, h7, _⟩ := takeMarks_inv ms0 [] rfl h (hx.place σ.length 0 hn) (fun _ hm => by cases hm) hn hb hq
  have hN : σ1.length = σ.length := h2.len
  simp only [List.nil_append] at h4 h5
  split at h6
  case h_2 => simp [Prog.run] at h6
  obtain ⟨a1, len1, cap1, m1, ec, em, hs1⟩ := h5
  simp only [List.cons.injEq, and_true] at em
  subst em
  simp only [clm, Claim.says] at hs1
  obtain ⟨⟨hl1, hlc1, hblk⟩, _⟩ := hs1
  obtain ⟨news, hsrc, hsegs, hfc⟩ := src_of_rows (P := C.P) (T := T) hu hsz0 (says_rows hok2 hno2 hs2)
  have hsegs1 : Segs el.ty.size (RepC C.P el.ty w (Shd C g1)) news ys := hsegs.mono fun _ _ => RepC.mono el.ty h2.sh
  have hl2 : ys.length = len2 := (says_rows hok2 hno2 hs2).1
  have hargs : c.args = #[x, y] := by rw [← Array.toArray_toList (xs := c.args), ha]
  have htys : c.argTypes = #[T, T] := by rw [← Array.toArray_toList (xs := c.argTypes), ht]
  have hxv : Act.eval ⟨tm, ds⟩ x = .slice a1 len1 cap1 := by rw [ev, ec]; rfl
  have hexec : ∀ {v : Value} {w' : World}, (Builtin.append_ #[T, T] o.type #[.slice a1 len1 cap1, .slice a2 len2 cap2]).run C.P w = .ok v w' → (execOp (Act.eval ⟨tm, ds⟩) o).run C.P w = .ok (.value v) w' := by
    intro v w' hap
    simp [execOp, ho, resolve, hc, hargs, htys, invoke, builtin, hxv, hy, hap]
  obtain ⟨i, hi, his, hib, zv, hzv, _⟩ := hFel.info
  by_cases hroom : len1 + len2 ≤ cap1
  · rcases hblk with hcap | ⟨ad, hsome, hsp, hown, ⟨vs, et, hblk, hfit⟩, hrows⟩
    · -- nothing at all
      have h20 : len2 = 0 := by omega
      have h10 : len1 = 0 := by omega
      subst h20
      have hy0 : ys = [] := List.eq_nil_of_length_eq_zero hl2
      have hxnil : xs = [] := List.eq_nil_of_length_eq_zero (by omega)
      have hnews : news = [] := List.eq_nil_of_length_eq_zero (by rw [hsegs.1, hy0]; simp)
      rw [hnews] at hsrc
      have hap := run_append_none (w := w) T T o.type e.elem el.ty.size hu hi his len1 cap1 (.slice a2 0 cap2) hsrc hlc1 a1
      refine hand_sound (a0 := .val ⟨.sl el.ty, xs ++ ys, [.own]⟩) h1 rfl (.refl w) (fun _ _ _ => rfl) (hexec hap) (fun d hd hl σ' tm' => ⟨⟨_, rfl, ⟨_, _, _, _, rfl, rfl, ⟨by rw [hxnil, hy0]; simp [h10], hlc1, .inl hcap⟩, trivial⟩⟩, fun mm hm => ?_⟩) h6 hK
      simp only [List.mem_singleton] at hm; subst hm; trivial
    · subst hsome
      have hvs : vs = vs.toList.toArray := by simp
      rw [hvs] at hblk
      have had : ad = ⟨ad.block, ad.off, none⟩ := addr_eq hsp
      have hnl : news.length = len2 * el.ty.size := by rw [hsegs.1, hl2]
      have hmul : (len1 + len2) * el.ty.size ≤ cap1 * el.ty.size := Nat.mul_le_mul_right _ hroom
      rw [Nat.add_mul] at hmul
      have hin : ad.off + len1 * el.ty.size + news.length ≤ vs.toList.length := by simp only [Array.length_toList]; omega
      have hap := run_append_at (w := w) T T o.type e.elem el.ty.size hu hi his ad.block ad.off len1 cap1 (.slice a2 len2 cap2) len2 news hsrc hroom hblk hin
      rw [← had] at hap
      obtain ⟨olds, hos, hoc⟩ := hrows.segs hsz0
      have hol : olds.length = len1 * el.ty.size := by rw [hos.1, hl1]
      have hsame : ∀ b', b' ≠ ad.block → (w.setRow ad.block (splice vs.toList (ad.off + len1 * el.ty.size) news).toArray).heap[b']? = w.heap[b']? := fun b' hb' => setRow_other w ad.block b' _ hb'
      refine hand_sound (a0 := .val ⟨.sl el.ty, xs ++ ys, [.own]⟩) h1 (by simp) (by exact ⟨rfl, rfl, rfl⟩) (fun b _ hk => hsame b (fun e => hk 0 (by rw [e, hN]; exact hown))) (hexec hap) (fun d hd hl σ' tm' => ⟨⟨_, rfl, ⟨_, _, _, _, rfl, rfl, ⟨?_, hroom, .inr ⟨ad, rfl, hsp, ?_, ⟨_, et, setRow_heap w _ _ _ et _ hblk, ?_⟩, ?_⟩⟩, trivial⟩⟩, fun mm hm => ?_⟩) h6 hK
      · rw [List.length_append, hl1, hl2]
      · rw [hN]; exact handTo_hand hown
      · rw [List.size_toArray, splice_length _ _ _ hin]; simpa using hfit
      · have hsh : Mono w (Shd C g1) (w.setRow ad.block (splice vs.toList (ad.off + len1 * el.ty.size) news).toArray) (Shd C (handTo g1 σ1.length d 0)) :=
          ⟨by simp, fun b' _ hb' => ⟨hsame b' (fun e => by rw [e] at hb'; exact absurd hb'.2 (by rw [hown]; simp)), hb'.1, handTo_none hb'.2⟩⟩
        refine (((hos.append hsegs1).mono fun _ _ => RepC.mono el.ty hsh)).rows fun q hq => ?_
        rw [List.length_append] at hq
        rw [cell_setRow_same w _ _ _ _ et _ hblk, List.getElem?_toArray, getElem?_splice _ _ _ _ hin]
        rcases Nat.lt_or_ge q olds.length with hqo | hqo
        · rw [if_pos (by omega), List.getElem?_append_left hqo, ← hoc q hqo, cell_of_block hblk]
        · rw [if_neg (by omega), if_pos (by omega), List.getElem?_append_right hqo]
          congr 1; omega
      · simp only [List.mem_singleton] at hm; subst hm; trivial
  · have hlt : cap1 < len1 + len2 := by omega
    have hfit := growslice_fits (need := len1 + len2) (old := cap1) (bytes := i.bytes) hlt (by rw [hib, ← hl1, ← hl2]; exact hb1)
    -- the old cells
    have hold : ∃ olds, Segs el.ty.size (RepC C.P el.ty w (Shd C g1)) olds xs ∧ (Builtin.firstCells el.ty.size len1 (.slice a1 len1 cap1)).run C.P w.drew = .ok olds.toArray w.drew := by
      have hh : xs.length = len1 ∧ len1 ≤ cap1 ∧ (len1 = 0 ∨ ∃ ad : Addr, a1 = some ad ∧ ad.spot = none ∧ Rows el.ty.size w (RepC C.P el.ty w (Shd C g1)) ad xs) := by
        refine ⟨hl1, hlc1, hblk.imp (fun e => by omega) ?_⟩
        rintro ⟨ad, h1, h2, _, _, h3⟩
        exact ⟨ad, h1, h2, h3⟩
      obtain ⟨olds, _, ho1, ho2⟩ := src_of_rows (P := C.P) (T := T) hu hsz0 hh
      exact ⟨olds, ho1, ho2⟩
    obtain ⟨olds, hos, hfo⟩ := hold
    have hap := run_append_grow_src (P := C.P) w T T o.type e.elem i zv hu hi hzv a1 len1 cap1 olds (by rw [his]; exact hfo) (.slice a2 len2 cap2) len2 news (by rw [his]; exact hsrc) hlt (by omega) hfit
    have hge := grownCap_ge w (len1 + len2) cap1 e.elem
    have gr := Grow.handTo h1 (o.dst.getD 0) 0
    have gr' : Grow C g1 σ1 w (handTo g1 σ1.length (o.dst.getD 0) 0) w.drew := ⟨gr.1, gr.2, gr.3, gr.4, gr.5, gr.6, ⟨rfl, rfl, rfl⟩⟩
    refine new_sound h1 (Grow.alloc h1 gr' rfl _ (o.dst.getD 0, some 0)) (hexec hap) (fun d hd hl σ' tm' hv => ?_) h6 hK
    rw [hd] at hv ⊢
    simp only [Option.getD_some] at hv ⊢
    refine ⟨⟨_, rfl, ⟨_, _, _, _, rfl, rfl, ⟨?_, hge, .inr ⟨_, rfl, rfl, withNew_new, ⟨_, _, heap_alloc_new w.drew _, ?_⟩, ?_⟩⟩, trivial⟩⟩, fun mm hm => ?_⟩
    · rw [List.length_append, hl1, hl2]
    · have hzs : zv.cells.size = el.ty.size := by
        obtain ⟨zc, hz1, hz2, hz3, _⟩ := hFel.zero hz w
        have hrun : (zeroValue e.elem).run C.P w = .ok zv w := by simp [zeroValue, Go.typeInfo, hi, hzv]
        rw [hrun] at hz1
        injection hz1 with hz1 _
        rw [hz1, hz3, List.size_toArray, hz2]
      have e2 : news.length = len2 * el.ty.size := by rw [hsegs.1, hl2]
      have e1 : olds.length = len1 * el.ty.size := by rw [hos.1, hl1]
      have e3 : (olds ++ news).toArray.size = (len1 + len2) * el.ty.size := by rw [List.size_toArray, List.length_append, e1, e2, ← Nat.add_mul]
      rw [Array.size_append, e3, size_zeroCells, hzs, ← Nat.add_mul]
      show 0 + _ ≤ _
      rw [Nat.zero_add]
      exact Nat.mul_le_mul_right _ (by omega)
    · refine (((hos.append hsegs1).mono fun _ _ => RepC.mono el.ty hv.sh)).rows fun q hq => ?_
      show (World.alloc _ _).cell? ⟨w.drew.heap.size, 0 + q, none⟩ = _
      rw [World.cell?_alloc_new, Nat.zero_add, Array.getElem?_append_left (by rw [List.size_toArray]; exact hq), List.getElem?_toArray]
    · simp only [List.mem_singleton] at hm; subst hm; trivial
end
end Go.GD
