import Derived.Test.YtbapfiaglcllnaaGDM
import Derived.Laws.BytesString
import Derived.Lib.ConvBytes
namespace Go.GD
open Go
theorem push_all (ns : List Int) (s : ByteArray) : ns.foldl (fun r n => r.push (UInt8.ofNat n.toNat)) s = ⟨⟨s.data.toList ++ ns.map fun (n : Int) => UInt8.ofNat n.toNat⟩⟩ := by
  induction ns generalizing s with
  | nil => simp
  | cons n ns ih =>
    rw [List.foldl_cons, ih]
    congr 1
    simp [ByteArray.push]
section
variable {C : Ctx} {g : Own} {σ : St} {tm : Array Value} {w : World} {E : Env} {o : Oper} {ρ : Type} {K : St → Option ρ} {r : ρ} {ds : List Deferred}
  {next : Act → World → Prop} {Q : Exit → Act → World → Prop}
theorem Val.str (l : List UInt8) : Val C g σ tm w (.string ⟨⟨l⟩⟩) ⟨.str, l, [.shr]⟩ :=
  ⟨_, rfl, ⟨_, rfl, rfl⟩, fun m hm => by simp at hm; subst hm; simp, fun m hm => by simp at hm; subst hm; trivial⟩
theorem bytes_run {P : Program} {a : Option Addr} {len cap : Nat} {xs : List Int} {Sh : Nat → Prop}
    (h : xs.length = len ∧ len ≤ cap ∧ (len = 0 ∨ ∃ ad : Addr, a = some ad ∧ ad.spot = none ∧ Rows (Ty.int .u8).size w (RepC P (.int .u8) w Sh) ad xs)) :
    (Conv.bytesToString (.slice a len cap)).run P w = .ok (.string ⟨⟨xs.map fun (n : Int) => UInt8.ofNat n.toNat⟩⟩) w := by
  obtain ⟨h1, h2, h3⟩ := h
  cases a with
  | none =>
    have hx : xs = [] := by
      rcases h3 with h3 | ⟨ad, e, _⟩
      · exact List.eq_nil_of_length_eq_zero (by omega)
      · cases e
    subst hx
    rfl
  | some ad =>
    have hload : (loadCells ad len).run P w = .ok (xs.map (Value.int .u8)).toArray w := by
      rcases h3 with h3 | ⟨ad', e, hsp, hr⟩
      · subst h3
        have hx : xs = [] := List.eq_nil_of_length_eq_zero h1
        subst hx
        have := run_loadCells (P := P) (w := w) ad 0 (fun _ => undef) (fun j hj => absurd hj (Nat.not_lt_zero _))
        simpa using this
      · injection e with e
        subst e
        have := run_loadCells (P := P) (w := w) ad len (fun j => .int .u8 (xs.getD j 0)) (fun j hj => by
          obtain ⟨cs, hl, hc, hrep⟩ := hr j (by omega)
          have := hc 0 (by simp [Ty.size])
          rw [addr_add hsp]
          simp only [Ty.size, Nat.mul_one, Nat.add_zero] at this
          rw [this, show cs = [.int .u8 xs[j]] from hrep]
          simp [List.getD, show j < xs.length by omega])
        rw [this]
        congr 1
        apply congrArg List.toArray
        apply List.ext_getElem?
        intro j
        rcases Nat.lt_or_ge j len with hj | hj
        · simp [hj, List.getD, show j < xs.length by omega]
        · rw [List.getElem?_eq_none (by simpa using hj), List.getElem?_eq_none (by simp; omega)]
    rw [run_bytesToString w ad len cap xs hload, push_all]
    rfl
theorem str_desc (hE : TabOK C.P E.tab) {T : Nat} (hT : E.ty T = some .str) : C.P.underlying T = some .string := by
  obtain ⟨e, he, hty⟩ := Env.ty_some hT
  obtain ⟨dd, _, hu2, hdo⟩ := (hE.find he).underlying default
  rw [hu2]
  cases dd with
  | int k' => have := Ty.eq_of_beq hdo; rw [hty] at this; cases this
  | bool => have := Ty.eq_of_beq hdo; rw [hty] at this; cases this
  | string => rfl
  | slice el =>
    simp only [descOK, Bool.and_eq_true] at hdo
    obtain ⟨_, hdo⟩ := hdo
    split at hdo
    · simp only [Bool.and_eq_true] at hdo
      have := Ty.eq_of_beq hdo.1; rw [hty] at this; cases this
    · cases hdo
  | struct fs => simp [descOK, hty, Ty.isAgg] at hdo
  | array n el => simp [descOK, hty, Ty.isAgg] at hdo
  | func ps rs v => simp [descOK, hty] at hdo
  | _ => simp [descOK] at hdo
def unown (g : Own) (d : Nat) : Own := fun b => match g b with
  | some (s, x) => if s = d then none else some (s, x)
  | none => none
theorem unown_ne {g : Own} {d b : Nat} (h : unown g d b ≠ none) : g b ≠ none := by
  intro e
  simp [unown, e] at h
theorem unown_other {g : Own} {d b s : Nat} {x : Option Nat} (h : g b = some (s, x)) (hs : s ≠ d) : unown g d b = some (s, x) := by simp [unown, h, hs]
theorem unown_same {g : Own} {d b : Nat} {x : Option Nat} (h : g b = some (d, x)) : unown g d b = none := by simp [unown, h]
theorem unown_none {g : Own} {d b : Nat} (h : g b = none) : unown g d b = none := by simp [unown, h]
theorem hand_shared {a0 : A} {v : Value} {w' w0 : World} (h : SRep C g σ tm w) (hs : w'.heap.size = w.heap.size) (hio : SameIO w w')
    (hH : ∀ b, b < w.heap.size → (∀ c, g b ≠ some (σ.length, some c)) → w'.heap[b]? = w.heap[b]?) (hexec : (execOp (Act.eval ⟨tm, ds⟩) o).run C.P w0 = .ok (.value v) w')
    (new : ∀ d, d < σ.length → ∀ σ' tm', SlotRep C (unown (handTo g σ.length d 0) d) σ' tm' w' d v a0 ∧ bndA σ' a0)
    (hr : (putA o.dst a0 .fin).run σ K = some r) (hK : Good C K r ds next) (hbox : a0.isBox = false := by rfl) : o.wp C.P ⟨tm, ds⟩ w0 next Q := by
  unfold Oper.wp
  rw [hexec, Oper.upon_value]
  cases hd : o.dst with
  | none =>
    rw [hd] at hr
    have st : Step C g σ tm w g tm w' σ.length .top 1 1 := by
      refine ⟨by omega, fun b hb hk => hH b hb (fun c => hk (some c)), fun _ _ h => h, fun _ _ _ _ _ _ h => h, fun _ _ _ _ h => h, fun b hb => by rw [hs]; exact h.gok b hb, rfl, fun _ _ => rfl,
        by rw [listGet_out _ _ (Nat.le_refl _)]; exact Nat.one_pos, .inr (by rw [listGet_out _ _ (Nat.le_refl _)]; exact Nat.one_pos), hio, fun _ _ hb => by cases hb⟩
    have := h.replace st (fun hl => absurd hl (Nat.lt_irrefl _))
    rw [listSet_out _ _ _ (Nat.le_refl _)] at this
    exact hK _ _ _ _ this rfl hr
  | some d =>
    rw [hd] at hr
    simp only [putA, Prog.run] at hr
    have h' : SRep C (handTo g σ.length d 0) σ tm w := h.grow (Grow.handTo h d 0)
    have st : Step C (handTo g σ.length d 0) σ tm w (unown (handTo g σ.length d 0) d) (tm.setIfInBounds d v) w' d a0 ((listGet σ d).id + 1) ((listGet σ d).gen + 1) := by
      refine ⟨by omega, fun b hb hk => hH b hb (fun c hc => hk _ (handTo_hand hc)), fun _ _ h => unown_none h, fun _ _ _ _ hne _ h => unown_other h hne, fun _ _ _ hne h => unown_other h hne, fun b hb => by rw [hs]; exact h'.gok b (unown_ne hb), by simp, fun s hs => getD_set_other hs,
        by omega, .inr (by omega), hio, fun _ _ hb => by rw [hbox] at hb; cases hb⟩
    have := h'.replace st (fun hl => by rw [getD_set_same (by rw [h.len]; exact hl)]; exact new d hl _ _)
    exact hK _ _ _ _ this rfl hr
theorem freeze_heap (w : World) (b k : Nat) {vs : Array Value} {e : TypeId} (h : w.heap[b]? = some (.cells vs e (0, 0))) : (w.freeze ⟨b, k, none⟩ 1).heap[b]? = some (.cells vs e (k, k + 1)) := by
  unfold World.freeze
  rw [if_neg (by decide)]
  show (w.heap.modify b _)[b]? = _
  rw [Array.getElem?_modify, if_pos rfl, h]
  rfl
theorem freeze_other (w : World) (b k : Nat) {c : Nat} (hc : c ≠ b) : (w.freeze ⟨b, k, none⟩ 1).heap[c]? = w.heap[c]? := by
  unfold World.freeze
  rw [if_neg (by decide)]
  show (w.heap.modify b _)[c]? = _
  rw [Array.getElem?_modify, if_neg (fun e => hc e.symm)]
theorem freeze_size (w : World) (b k : Nat) : (w.freeze ⟨b, k, none⟩ 1).heap.size = w.heap.size := by
  unfold World.freeze
  rw [if_neg (by decide)]
  show (w.heap.modify b _).size = _
  rw [Array.size_modify]
theorem run_convert_same {P : Program} (w : World) (t e : TypeId) (b off n c : Nat) {vs : Array Value} {et : TypeId} (hb : w.heap[b]? = some (.cells vs et (0, 0))) (ht : P.underlying t = some (.slice e)) (he : P.underlying e = some (.int .u8)) :
    (convert t t (.slice (some ⟨b, off, none⟩) n c)).run P w = .ok (.slice (some ⟨b, off, none⟩) n c) (w.freeze ⟨b, vs.size, none⟩ 1) := by
  have hsh : w.shape? b = some (et, vs.size) := by
    unfold World.shape?
    rw [hb]
  simp [convert, run_underlying ht, run_underlying he, markStringish, hsh]
theorem op_convertSame {s d : Nat} {x : Operand} (hE : TabOK C.P E.tab) (ho : o.op = .convert s d x) (hs : E.ty s = some (.sl (.int .u8))) (h : SRep C g σ tm w)
    (hr : (rdV E s x fun v => match castO v.t (.sl (.int .u8)) v.x with
      | some xs => .br (Nat.beq s d && Nat.blt 0 xs.length) (takeMarks (fun _ => true) false v.ms fun ms => match ms with
        | [.own] => putA o.dst (.val ⟨.sl (.int .u8), xs, [.shr]⟩) .fin
        | _ => .fail) .fail
      | none => .fail).run σ K = some r) (hK : Good C K r ds next) : o.wp C.P ⟨tm, ds⟩ w next Q := by
  obtain ⟨tv, hv, _, hr⟩ := rdV_inv (ds := ds) h hr
  split at hr
  case h_2 => simp [Prog.run] at hr
  rename_i xs hxs
  simp only [Prog.run] at hr
  cases hbnds : (Nat.beq s d && Nat.blt 0 xs.length) with
  | false => rw [hbnds] at hr; simp at hr
  | true =>
  rw [hbnds] at hr
  simp only [cond] at hr
  simp only [Bool.and_eq_true] at hbnds
  have hsd := Nat.eq_of_beq_eq_true hbnds.1
  subst hsd
  have hpos : 0 < xs.length := Nat.le_of_ble_eq_true hbnds.2
  obtain ⟨ety, exs⟩ := castO_some hxs
  obtain ⟨t0, ys, ms0⟩ := tv
  simp only at ety exs hr
  subst ety
  simp only at exs
  subst exs
  obtain ⟨cs, ev, hx, hn, hb⟩ := hv
  obtain ⟨g1, σ1, ms', h1, h2, h3, h4, h5, h6, h7, _⟩ := takeMarks_inv ms0 [] rfl h (hx.place σ.length 0 hn) (fun _ hm => by cases hm) hn hb hr
  have hN : σ1.length = σ.length := h2.len
  simp only [List.nil_append] at h4 h5
  split at h6
  case h_2 => simp [Prog.run] at h6
  obtain ⟨a1, len1, cap1, m1, ec, em, hs1⟩ := h5
  simp only [List.cons.injEq, and_true] at em
  subst em
  simp only [clm, Claim.says] at hs1
  obtain ⟨⟨hl1, hlc1, hblk⟩, _⟩ := hs1
  obtain ⟨e, he, hte⟩ := Env.ty_some hs
  obtain ⟨hu, te, hfe, hteq, _⟩ := (hE.find he).slice hte
  have hu8 : C.P.underlying e.elem = some (.int .u8) := int_desc hE (by unfold Env.ty; rw [hfe, Option.map_some, hteq])
  rcases hblk with hcap | ⟨ad, hsome, hsp, hown, ⟨vs, et, hblk, hfit⟩, hrows⟩
  · exfalso
    have : xs.length = len1 := hl1
    omega
  · subst hsome
    have had : ad = ⟨ad.block, ad.off, none⟩ := by cases ad; simp_all
    have hxv : Act.eval ⟨tm, ds⟩ x = .slice (some ⟨ad.block, ad.off, none⟩) len1 cap1 := by rw [ev, ec, ← had]; rfl
    have hother : ∀ b', b' ≠ ad.block → (w.freeze ⟨ad.block, vs.size, none⟩ 1).heap[b']? = w.heap[b']? := fun b' hb' => freeze_other w _ _ hb'
    have hgok := h1.gok ad.block (by rw [hown]; simp)
    refine hand_shared (a0 := .val ⟨.sl (.int .u8), _, [.shr]⟩) h1 (freeze_size _ _ _) ⟨by unfold World.freeze; rfl, by unfold World.freeze; rfl, by unfold World.freeze; rfl, by unfold World.freeze; exact Nat.le_refl _⟩ (fun b _ hk => hother b (fun e => hk 0 (by rw [e, hN]; exact hown)))
      (v := .slice (some ⟨ad.block, ad.off, none⟩) len1 cap1) (by simp only [execOp, ho, hxv]; rw [Sem.run_bind, run_convert_same w s e.elem ad.block ad.off len1 cap1 hblk hu hu8]; rfl)
      (fun d hl σ' tm' => ⟨⟨_, rfl, ⟨_, _, _, _, rfl, rfl, ⟨hl1, hlc1, .inr ⟨_, rfl, rfl, by rw [freeze_size]; exact heap_lt hblk, ⟨?_, ?_⟩, ?_⟩⟩, by simp⟩⟩, fun mm hm => ?_⟩) h6 hK
    · rcases hgok.2 with h | h
      · exact .inl h
      · exact .inr (.inr h)
    · exact unown_same (handTo_hand (by rw [hN]; exact hown))
    · intro i hi
      obtain ⟨cs', k1, k2, k3⟩ := hrows i hi
      refine ⟨cs', k1, fun j hj => ?_, k3⟩
      rw [← k2 j hj]
      simp only [World.cell?, freeze_heap w ad.block vs.size hblk, hblk]
    · simp only [List.mem_singleton] at hm; subst hm; trivial
theorem op_convert {s d : Nat} {x : Operand} (hE : TabOK C.P E.tab) (ho : o.op = .convert s d x) (h : SRep C g σ tm w)
    (hr : (opP E o).run σ K = some r) (hK : Good C K r ds next) : o.wp C.P ⟨tm, ds⟩ w next Q := by
  have hr0 := hr
  unfold opP at hr
  rw [ho] at hr
  simp only at hr
  split at hr
  · rename_i k0 k hs hd
    exact op_convertInt hE ho hs hd h hr0 hK
  · rename_i hs hd
    clear hr0
    obtain ⟨xs, m, a, len, cap, hx, hok, hno, _, hs2, hq⟩ := rdS_inv (ds := ds) h hr
    obtain ⟨e, he, hte⟩ := Env.ty_some hs
    obtain ⟨hu, te, hfe, hteq, _⟩ := (hE.find he).slice hte
    obtain ⟨e2, he2, hte2⟩ := Env.ty_some hd
    have hu8 : C.P.underlying e.elem = some (.int .u8) := int_desc hE (by unfold Env.ty; rw [hfe, Option.map_some, hteq])
    have hstr := str_desc hE hd
    refine out_val h ?_ (Val.str _) hq hK
    have hb := bytes_run (P := C.P) (says_rows hok hno hs2)
    simp [execOp, ho, hx, run_convert_bytes_string w s d e.elem a len cap hu hu8 hstr, hb]
  · rename_i hs hd
    clear hr0
    obtain ⟨v, hv, _, hr⟩ := rdV_inv (ds := ds) h hr
    split at hr
    case h_2 => simp [Prog.run] at hr
    rename_i l hl
    obtain ⟨ety, rfl⟩ := castO_some hl
    obtain ⟨vt, vx, vms⟩ := v
    simp only at ety
    subst ety
    obtain ⟨cs, ev, ⟨m, _, hcs⟩, _, _⟩ := hv
    simp only at hr
    have hx : Act.eval ⟨tm, ds⟩ x = .string ⟨⟨vx⟩⟩ := by rw [ev, show cs = _ from hcs]; rfl
    obtain ⟨e, he, hte⟩ := Env.ty_some hd
    obtain ⟨hu, te, hfe, hteq, _⟩ := (hE.find he).slice hte
    have hu8 : C.P.underlying e.elem = some (.int .u8) := int_desc hE (by unfold Env.ty; rw [hfe, Option.map_some, hteq])
    have hstr := str_desc hE hs
    have hrun := Lib.run_convert_string_bytes (P := C.P) w s d e.elem ⟨⟨vx⟩⟩ hstr hu hu8
    have gr : Grow C g σ w g (Lib.bytesWorld w e.elem ⟨⟨vx⟩⟩) := by
      refine ⟨by rw [Lib.bytesWorld_size]; omega, fun b hb => Lib.bytesWorld_at_old w _ _ b hb, fun _ _ h => h, fun _ _ _ _ _ h => h, fun _ _ _ h => h, fun b hb => ?_, ⟨rfl, rfl, rfl, by first | exact Nat.le_refl _ | exact Nat.le_succ _ | (simp; done) | (simp; omega)⟩⟩
      have := h.gok b hb
      rw [Lib.bytesWorld_size]
      exact ⟨by omega, this.2⟩
    refine new_sound h gr (v := .slice (some ⟨w.heap.size, 0, none⟩) vx.length (grownCap w vx.length 0 e.elem)) (w0 := w) (by simp only [execOp, ho, hx]; rw [Sem.run_bind, hrun]; rfl) (fun d hd hl σ' tm' hv => ?_) hr hK
    have hsz : (ByteArray.mk ⟨vx⟩).size = vx.length := rfl
    refine ⟨⟨_, rfl, ⟨_, _, _, _, rfl, rfl, ⟨⟨by rw [List.length_map], ?_, .inr ⟨_, rfl, rfl, by rw [Lib.bytesWorld_size]; exact Nat.lt_succ_self _, ⟨.inl h.size, ?_⟩, fun i hi => ?_⟩⟩, by simp⟩⟩⟩, fun mm hm => ?_⟩
    · exact grownCap_ge w _ _ _
    · cases hg : g w.heap.size with
      | none => rfl
      | some p => exact absurd (h.gok w.heap.size (by rw [hg]; simp)).1 (Nat.lt_irrefl _)
    · rw [List.length_map] at hi
      refine ⟨[.int .u8 (vx.map fun (b : UInt8) => (b.toNat : Int))[i]], rfl, fun j hj => ?_, rfl⟩
      have hj : j = 0 := by simp [Ty.size] at hj; exact hj
      subst hj
      have := Lib.bytesWorld_cell w e.elem ⟨⟨vx⟩⟩ i (by rw [hsz]; exact hi)
      simp only [Ty.size, Nat.mul_one, Nat.zero_add, Nat.add_zero]
      rw [this]
      simp [List.getD, hi]
    · simp only [List.mem_singleton] at hm; subst hm; trivial
  · rename_i hs _
    exact op_convertSame hE ho hs h hr hK
  · simp [Prog.run] at hr
end
end Go.GD
