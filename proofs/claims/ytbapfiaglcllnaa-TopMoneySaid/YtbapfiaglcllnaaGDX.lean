import Derived.Test.YtbapfiaglcllnaaGDbb
namespace Go.GD
open Go
section
variable {C : Ctx} {g g' : Own} {σ : St} {tm tm' : Array Value} {w w' : World} {E : Env} {o : Oper} {ρ : Type} {K : St → Option ρ} {r : ρ} {ds : List Deferred}
  {next : Act → World → Prop} {Q : Exit → Act → World → Prop}
theorem op_nilCheck {x : Operand} (ho : o.op = .nilCheck x) (h : SRep C g σ tm w) (hr : (opP E o).run σ K = some r) (hK : Good C K r ds next) :
    o.wp C.P ⟨tm, ds⟩ w next Q := by
  unfold opP at hr
  rw [ho] at hr
  simp only at hr
  obtain ⟨a, ha, hr, _, _⟩ := rdP_inv (ds := ds) h hr
  split at hr
  case h_2 => simp [Prog.run] at hr
  rename_i s off id _ _
  simp only [Prog.run] at hr
  split at hr
  case h_2 => simp [Prog.run] at hr
  rename_i hid
  simp only [Bool.and_eq_true] at hid
  have hb : ∃ tv, (listGet σ s).a = .box tv := by
    have := hid.2
    revert this
    cases (listGet σ s).a with
    | box tv => intro _; exact ⟨tv, rfl⟩
    | _ => intro h; cases h
  obtain ⟨tv, hb⟩ := hb
  obtain ⟨b, _, _, hv, _⟩ := h.boxed ha hid.1 hb
  exact av_sound h (.refl h) (by simp [execOp, ho, hv]) (hv ▸ ha) hr hK
theorem copyL_length {α : Type} (xs ys : List α) : (copyL xs ys).length = xs.length := by
  unfold copyL
  rw [List.length_append, List.length_take, List.length_drop]; omega
theorem run_copy_at {P : Program} {w : World} (t ty e : TypeId) (size : Nat) (ht : P.underlying t = some (.slice e)) (hz : ∀ w, (Go.sizeOf e).run P w = .ok size w) (b o dLen dCap : Nat) (a : Option Addr) (sLen sCap m : Nat) (news : List Value) (hm : Nat.min sLen dLen = m)
    (hf : (Builtin.firstCells size m (.slice a sLen sCap)).run P w = .ok news.toArray w) (h1 : ∀ v ∈ news, v.oneCell' = true) {vs : List Value} {et : TypeId} (hb : w.heap[b]? = some (.cells vs.toArray et (0, 0))) (hfit : o + news.length ≤ vs.length) :
    (Builtin.copy_ #[t, t] ty #[.slice (some ⟨b, o, none⟩) dLen dCap, .slice a sLen sCap]).run P w = .ok (goInt m) (w.setRow b (splice vs o news).toArray) := by
  have hst := run_storeCells_at P b o et news 0 vs.toArray w hb (by simpa using hfit) h1
  simp only [Nat.add_zero] at hst
  have e : (splice vs o news).toArray = (vs.toArray.toList.take o ++ news ++ vs.toArray.toList.drop (o + news.length)).toArray := by simp [splice]
  rw [e]
  subst hm
  simp [Builtin.copy_, run_underlying ht, hz, Builtin.lenOf, hf, hst]
theorem run_copy_none {P : Program} {w : World} (t ty e : TypeId) (size : Nat) (ht : P.underlying t = some (.slice e)) (hz : ∀ w, (Go.sizeOf e).run P w = .ok size w) (d : Option Addr) (dCap : Nat) (a : Option Addr) (sLen sCap : Nat)
    (hf : (Builtin.firstCells size 0 (.slice a sLen sCap)).run P w = .ok #[] w) :
    (Builtin.copy_ #[t, t] ty #[.slice d 0 dCap, .slice a sLen sCap]).run P w = .ok (goInt 0) w := by
  cases d with
  | none => simp [Builtin.copy_, run_underlying ht, hz, Builtin.lenOf, hf]
  | some d => simp [Builtin.copy_, run_underlying ht, hz, Builtin.lenOf, hf, storeCells]
theorem first_of_rows {P : Program} {t : Ty} {a : Option Addr} {len cap n : Nat} {xs : List t.den} {Sh : Nat → Prop} (hs : t.size ≠ 0) (hn : n ≤ len)
    (h : xs.length = len ∧ len ≤ cap ∧ (len = 0 ∨ ∃ ad : Addr, a = some ad ∧ ad.spot = none ∧ Rows t.size w (RepC P t w Sh) ad xs)) :
    ∃ news, Segs t.size (RepC P t w Sh) news (xs.take n) ∧ (Builtin.firstCells t.size n (.slice a len cap)).run P w = .ok news.toArray w := by
  obtain ⟨h1, h2, h3⟩ := h
  by_cases h0 : n = 0
  · subst h0
    refine ⟨[], ⟨by simp, fun i hi => by simp at hi⟩, ?_⟩
    cases a with
    | none => exact run_firstCells_none w _ _ _ _
    | some ad => exact run_firstCells_some w _ _ ad len cap [] (by simp) (by simp)
  · rcases h3 with h3 | ⟨ad, rfl, hsp, hr⟩
    · omega
    · have hr' : Rows t.size w (RepC P t w Sh) ad (xs.take n) := fun i hi => by
        rw [List.length_take] at hi
        obtain ⟨cs, q1, q2, q3⟩ := hr i (by omega)
        exact ⟨cs, q1, q2, by rw [List.getElem_take]; exact q3⟩
      obtain ⟨cs, hsg, hc⟩ := hr'.segs hs
      have hcl : ∀ j u, cs[j]? = some u → w.cell? (ad.add j) = some u := fun j u hj => by
        have hlt : j < cs.length := by
          rcases Nat.lt_or_ge j cs.length with h | h
          · exact h
          · rw [List.getElem?_eq_none h] at hj; cases hj
        rw [addr_add hsp, hc j hlt, hj]
      refine ⟨cs, hsg, run_firstCells_some w _ _ ad len cap cs (by rw [hsg.1, List.length_take, h1, Nat.min_eq_left hn]) hcl⟩
theorem op_copy {c : Call} (hE : TabOK C.P E.tab) (ho : o.op = .call c) (hc : c.callee = .builtin .copy) (h : SRep C g σ tm w)
    (hr : (opP E o).run σ K = some r) (hK : Good C K r ds next) : o.wp C.P ⟨tm, ds⟩ w next Q := by
  unfold opP at hr
  rw [ho] at hr
  simp only [hc] at hr
  split at hr
  case h_2 => simp [Prog.run] at hr
  rename_i x y T T' ha ht
  split at hr
  case isFalse => simp [Prog.run] at hr
  rename_i hTT
  have hTT := Nat.eq_of_beq_eq_true hTT
  subst hTT
  unfold copyP at hr
  split at hr
  case h_2 => simp [Prog.run] at hr
  rename_i e he
  split at hr
  case h_2 => simp [Prog.run] at hr
  rename_i el hel
  split at hr
  case isFalse => simp [Prog.run] at hr
  rename_i hty
  simp only [Bool.and_eq_true] at hty
  obtain ⟨hty, hscal⟩ := hty
  have hty := Ty.eq_of_beq hty
  obtain ⟨hu, te, hte, hteq, hsz0⟩ := (hE.find he).slice hty
  have hFel := hE.find hel
  obtain ⟨i, hi, his, hib, zv, hzv, _⟩ := hFel.info
  have hz : ∀ w, (Go.sizeOf e.elem).run C.P w = .ok el.ty.size w := fun w => by simp [Go.sizeOf, Go.typeInfo, hi, his]
  obtain ⟨ys, my, a2, len2, cap2, hy, hok2, hno2, hbd2, hs2, hr⟩ := rdS_inv (ds := ds) h hr
  obtain ⟨xs0, mx, a1, len1, cap1, hx, hok1, hno1, hbd1, hs1, hq⟩ := rdS_inv (ds := ds) h hr
  clear hr
  split at hq
  case h_2 => simp [Prog.run] at hq
  rename_i s cc gn
  have hval : validB σ s cc gn = true := hok1
  simp only [Prog.run] at hq
  split at hq
  case h_2 => simp [Prog.run] at hq
  rename_i wv hwv
  split at hq
  case h_2 => simp [Prog.run] at hq
  rename_i xs hxs
  split at hq
  case h_2 => simp [Prog.run] at hq
  rename_i z hzz
  simp only [Prog.run] at hq
  simp only [clm, hval, cond, Claim.says] at hs1
  have hp : placeV σ tm w s cc = some (.slice a1 len1 cap1) := hs1.2
  have hl := validB_lt hval
  have hmark : ((listGet σ s).a.mark cc).isOwn = true := by simp only [validB, Bool.and_eq_true] at hval; exact hval.2
  obtain ⟨wcs, hx0, hmk, hform⟩ := dataOf hwv (h.slots s hl)
  have hx0l := RepX.length _ hx0
  obtain ⟨hsz, hsub⟩ := getAt_repX wv.t hx0 hxs
  simp only [Ty.size] at hsz hsub
  have hcell : wcs[cc]? = some (.slice a1 len1 cap1) := by
    rcases hform with ⟨hf, hfa⟩ | ⟨b, e', hf, hgb, hh, hfa⟩
    · unfold placeV at hp
      rw [hfa] at hp
      simp only [hf, mkV_cells hx0] at hp
      simpa using hp
    · unfold placeV at hp
      rw [hfa] at hp
      simp only [hf, Nat.zero_add, cell_of_block hh] at hp
      exact hp
  have hownm : markAt wv.ms cc = .own := by
    rw [hmk] at hmark
    cases hm : markAt wv.ms cc <;> rw [hm] at hmark <;> first | rfl | cases hmark
  obtain ⟨a0, len0, cap0, m0, hc0, hm0, hsays⟩ := hsub
  have e0 : Value.slice a0 len0 cap0 = .slice a1 len1 cap1 := by
    have := congrArg (fun l => l[0]?) hc0
    simp only [List.getElem?_take, List.getElem?_drop] at this
    simpa [hcell] using this.symm
  injection e0 with e1' e2' e3'
  subst e1'; subst e2'; subst e3'
  have em : m0 = .own := by
    have := congrArg (fun l => markAt l 0) hm0
    simp only [markAt_drop_take, Nat.add_zero, Nat.zero_lt_one, if_true] at this
    rw [hownm] at this
    exact this.symm
  subst em
  simp only [clm, Claim.says, Nat.zero_add] at hsays
  obtain ⟨⟨hlen, hlc, hrows⟩, _⟩ := hsays
  have hrows2 := says_rows hok2 hno2 hs2
  have hyl : ys.length = len2 := hrows2.1
  obtain ⟨news, hsegs, hfc⟩ := first_of_rows (n := Nat.min len2 len0) hsz0 (Nat.min_le_left ..) hrows2
  have hargs : c.args = #[x, y] := by rw [← Array.toArray_toList (xs := c.args), ha]
  have htys : c.argTypes = #[T, T] := by rw [← Array.toArray_toList (xs := c.argTypes), ht]
  have hexec : ∀ {v : Value} {w' : World}, (Builtin.copy_ #[T, T] o.type #[.slice a0 len0 cap0, .slice a2 len2 cap2]).run C.P w = .ok v w' → (execOp (Act.eval ⟨tm, ds⟩) o).run C.P w = .ok (.value v) w' := by
    intro v w' hap
    simp [execOp, ho, resolve, hc, hargs, htys, invoke, builtin, hx, hy, hap]
  have hbnd : ∀ m, m ∈ wv.ms → bndM σ m := by
    have := h.bnd s hl
    rcases hform with ⟨_, hfa⟩ | ⟨_, _, _, _, _, hfa⟩ <;> (rw [hfa] at this; exact this)
  have hms : setMarkL (setMarkL wv.ms cc .dead) cc .own = wv.ms := by
    have := setMarkL_back wv.ms cc .dead (by omega)
    rwa [hownm] at this
  have finish : ∀ w', (Builtin.copy_ #[T, T] o.type #[.slice a0 len0 cap0, .slice a2 len2 cap2]).run C.P w = .ok (goInt (Nat.min len2 len0 : Nat)) w' → w'.heap.size = w.heap.size → SameIO w w' →
      (∀ b, b < w.heap.size → g b ≠ some (s, some cc) → w'.heap[b]? = w.heap[b]?) →
      (Mono w (Shd C g) w' (Shd C g) → HoldS el.ty.size w' (fun b => g b = some (s, some cc)) (RepC C.P el.ty w' (Shd C g)) a0 len0 cap0 (copyL xs ys)) → o.wp C.P ⟨tm, ds⟩ w next Q := by
    intro w' hap hws hio hH hnew
    have st : Step C g σ tm w g tm w' s ((listGet σ s).a.setX { wv with x := z }) (listGet σ s).id ((listGet σ s).gen + 1) :=
      ⟨by omega, fun b' hb hb' => hH b' hb (hb' _), fun b' _ hb' => hb', fun b' _ s' c' hs' hm hb' => hb', fun b' _ s' _ hb' => hb', fun b' hb' => by rw [hws]; exact h.gok b' hb', rfl, fun _ _ => rfl, by omega, .inl ⟨rfl, rfl⟩, hio,
        fun v hv hb => h.pin s v hv (by rw [isBox_setX] at hb; exact hb)⟩
    have hsh : Mono w (Shd C g) w' (Shd C g) := ⟨by omega, fun b' hb hb' => ⟨hH b' hb (by rw [hb'.2]; simp), hb'⟩⟩
    have hold := RepX.trans (ms' := setMarkL wv.ms cc .dead) (cl' := cl g (listSet σ s ⟨(listGet σ s).a.setX { wv with x := z }, (listGet σ s).id, (listGet σ s).gen + 1⟩) tm w' s) (c' := 0)
      hsh wv.t hx0 (setMarkL_length _ _ _) fun j hj => by
        rw [markAt_setMarkL _ _ _ _ (by omega)]
        split
        · exact .skip _
        · rename_i hjc
          exact Step.selfCle h st hl (0 + j) _ (fun hm => ⟨by omega, fun b' hb hb' => ⟨hH b' hb (by rw [hb']; simp; omega), hb'⟩⟩) (hbnd _ (mem_of_markAt _ _ (by omega)))
    have hnewc : RepX C.P w' (Shd C g) (cl g (listSet σ s ⟨(listGet σ s).a.setX { wv with x := z }, (listGet σ s).id, (listGet σ s).gen + 1⟩) tm w' s) (.sl el.ty) (0 + cc)
        [.slice a0 len0 cap0] (copyL xs ys) [.own] := by
      refine ⟨_, _, _, _, rfl, rfl, ?_, trivial⟩
      rw [Nat.zero_add]
      exact hnew hsh
    obtain ⟨_, hfin⟩ := setAt_repX wv.t hold hnewc hzz
    rw [splice_id _ _ _ hcell, ← setMarkL_splice _ _ _ (by rw [setMarkL_length]; omega), hms] at hfin
    have hS := h.replace st (fun _ => by
      have hbn := fun m hm => bndM_mono (fun s => (st.gens s).1) (hbnd m hm)
      rcases hform with ⟨hf, hfa⟩ | ⟨b, e', hf, hgb, hh, hfa⟩
      · rw [hfa] at hfin hbn ⊢
        exact ⟨⟨wcs, hf, hfin⟩, hbn⟩
      · rw [hfa] at hfin hbn ⊢
        exact ⟨⟨b, e', wcs, hf, hgb, (hH b (heap_lt hh) (by rw [hgb]; simp)).trans hh, hfin⟩, hbn⟩)
    have hmin : ((Nat.min ys.length xs.length : Nat) : Int) = ((Nat.min len2 len0 : Nat) : Int) := by rw [hyl, hlen]
    rw [hmin] at hq
    exact new_sound (a0 := .val ⟨.int .i64, ((Nat.min len2 len0 : Nat) : Int), [.shr]⟩) hS (.refl hS) (hexec hap) (fun d hd hl σ' tm' hv => AV.new (a := .val ⟨.int .i64, ((Nat.min len2 len0 : Nat) : Int), [.shr]⟩) (Val.int .i64 _) hv d) hq hK
  rcases hrows with hcap | ⟨ad, hsome, hsp, hown, ⟨vs, et, hblk, hfit⟩, hrows⟩
  · have h00 : len0 = 0 := by omega
    subst h00
    have hn0 : Nat.min len2 0 = 0 := Nat.min_zero ..
    rw [hn0] at hfc hsegs
    have hnews : news = [] := List.eq_nil_of_length_eq_zero (by rw [hsegs.1]; simp)
    rw [hnews] at hfc
    refine finish w (by rw [hn0]; exact run_copy_none T o.type e.elem el.ty.size hu hz a0 cap0 a2 len2 cap2 hfc) rfl (.refl w) (fun _ _ _ => rfl) (fun _ => ⟨by rw [copyL_length]; exact hlen, hlc, .inl hcap⟩)
  · subst hsome
    have hvs : vs = vs.toList.toArray := by simp
    rw [hvs] at hblk
    have had : ad = ⟨ad.block, ad.off, none⟩ := addr_eq hsp
    have hnl : news.length = Nat.min len2 len0 * el.ty.size := by rw [hsegs.1, List.length_take, hyl, Nat.min_eq_left (Nat.min_le_left ..)]
    have hmul : Nat.min len2 len0 * el.ty.size ≤ cap0 * el.ty.size := Nat.mul_le_mul_right _ (Nat.le_trans (Nat.min_le_right ..) hlc)
    have hin : ad.off + news.length ≤ vs.toList.length := by simp only [Array.length_toList]; omega
    have hap := run_copy_at (w := w) T o.type e.elem el.ty.size hu hz ad.block ad.off len0 cap0 a2 len2 cap2 _ news rfl hfc (hsegs.oneCell hsz0) hblk hin
    rw [← had] at hap
    refine finish _ hap (by simp) ⟨rfl, rfl, rfl, by first | exact Nat.le_refl _ | exact Nat.le_succ _ | (simp; done) | (simp; omega)⟩ (fun b _ hb => setRow_other w ad.block b _ (fun e => hb (by rw [e]; exact hown))) (fun hsh => ⟨by rw [copyL_length]; exact hlen, hlc, .inr ⟨ad, rfl, hsp, hown, ⟨_, et, setRow_heap w _ _ _ et _ hblk, ?_⟩, ?_⟩⟩)
    · rw [List.size_toArray, splice_length _ _ _ hin]; simpa using hfit
    · -- the rows
      obtain ⟨olds, hos, hoc⟩ := hrows.segs hsz0
      have hol : olds.length = len0 * el.ty.size := by rw [hos.1, hlen]
      have hmul2 : Nat.min len2 len0 * el.ty.size ≤ len0 * el.ty.size := Nat.mul_le_mul_right _ (Nat.min_le_right ..)
      have hmul3 : len0 * el.ty.size ≤ cap0 * el.ty.size := Nat.mul_le_mul_right _ hlc
      have hseg : Segs el.ty.size (RepC C.P el.ty w (Shd C g)) (news ++ olds.drop news.length) (copyL xs ys) := by
        have e1 : ys.take xs.length = ys.take (Nat.min len2 len0) := by
          rw [hlen, ← hyl]
          show _ = List.take (min ys.length len0) ys
          rcases Nat.le_total ys.length len0 with hle | hle
          · rw [Nat.min_eq_left hle, List.take_of_length_le hle, List.take_length]
          · rw [Nat.min_eq_right hle]
        have e2 : xs.drop ys.length = xs.drop (Nat.min len2 len0) := by
          rw [← hyl, ← hlen]
          show _ = List.drop (min ys.length xs.length) xs
          rcases Nat.le_total ys.length xs.length with hle | hle
          · rw [Nat.min_eq_left hle]
          · rw [Nat.min_eq_right hle, List.drop_of_length_le hle, List.drop_length]
        unfold copyL
        rw [e1, e2]
        refine hsegs.append ⟨by rw [List.length_drop, List.length_drop, hos.1, hnl, Nat.sub_mul], fun i hi => ?_⟩
        rw [List.length_drop] at hi
        rw [List.getElem_drop, List.drop_drop, hnl, ← Nat.add_mul]
        exact hos.2 _ (by omega)
      refine (hseg.mono fun _ _ => RepC.mono el.ty hsh).rows fun q hq => ?_
      rw [List.length_append, List.length_drop] at hq
      rw [cell_setRow_same w _ _ _ _ et _ hblk, List.getElem?_toArray, getElem?_splice _ _ _ _ hin]
      rcases Nat.lt_or_ge q news.length with hqo | hqo
      · rw [if_neg (by omega), if_pos (by omega), List.getElem?_append_left hqo]
        congr 1; omega
      · rw [if_neg (by omega), if_neg (by omega), List.getElem?_append_right hqo, List.getElem?_drop, show news.length + (q - news.length) = q by omega, ← hoc q (by omega), cell_of_block hblk]
end
end Go.GD
