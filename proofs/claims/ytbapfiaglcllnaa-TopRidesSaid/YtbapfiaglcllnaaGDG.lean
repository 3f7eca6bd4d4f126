import Derived.Test.YtbapfiaglcllnaaGDF
import Derived.Test.YtbapfiaglcllnaaGDbb
namespace Go.GD
open Go
noncomputable section
section
variable {P : Program} {tab : List TE} {w : World}
theorem te_of {T s : Nat} (h : (findTE tab T).map (·.ty.size) = some s) : ∃ e, findTE tab T = some e ∧ e.ty.size = s := by
  cases hf : findTE tab T with
  | none => rw [hf] at h; cases h
  | some e => rw [hf] at h; exact ⟨e, rfl, Option.some.inj h⟩
def scalB (P : Program) (T : TypeId) : Bool := match P.info? T, P.underlying T with
  | some i, some (.struct _) => false && i.size == 1
  | some i, some (.array _ _) => false && i.size == 1
  | some i, some _ => i.size == 1
  | _, _ => false
theorem scalB_size {T : TypeId} (h : scalB P T = true) (w : World) : (sizeOf T).run P w = .ok 1 w := by
  unfold scalB at h
  split at h
  · simp at h
  · simp at h
  · rename_i i d h1 h2 hi hd
    have h : i.size = 1 := by simpa using h
    simp [sizeOf, typeInfo, hi, h]
  · cases h
theorem scalB_agg {T : TypeId} (h : scalB P T = true) (w : World) : (isAgg T).run P w = .ok false w := by
  unfold scalB at h
  split at h
  · simp at h
  · simp at h
  · rename_i i d h1 h2 hi hd
    cases d <;> simp_all [isAgg, underlying]
  · cases h
theorem g_load {T : TypeId} (hT : scalB P T = true) {b o : Nat} {v : Value} (hc : w.cell? ⟨b, o, none⟩ = some v) : (Instr.loadAt T (.pointer (some ⟨b, o, none⟩))).run P w = .ok v w := by
  simp [Instr.loadAt, Instr.sureAddr, loadVar, scalB_agg hT w, hc]
theorem g_store {T : TypeId} (hT : scalB P T = true) {b : Nat} {x v : Value} {et : TypeId} (hv : v.cells = #[v]) (h1 : v.oneCell' = true) (hb : w.heap[b]? = some (.cells #[x] et (0, 0))) :
    (Instr.storeAt T (.pointer (some ⟨b, 0, none⟩)) v).run P w = .ok () (w.setRow b #[v]) := by
  have := run_storeCells_at P b 0 et [v] 0 #[x] w hb (by simp) (fun u hu => by rw [List.mem_singleton.1 hu]; exact h1)
  simp [Instr.storeAt, Instr.sureAddr, storeVar, scalB_size hT w, hv]
  simpa using this
theorem g_alloc {T : TypeId} {z : Value} (hi : ∃ i, P.info? T = some i ∧ i.zero = some z) (w : World) : (Instr.alloc T true (.tuple #[])).run P w = .ok (.pointer (some ⟨w.heap.size, 0, none⟩)) (w.alloc (.cells z.cells T (0, 0))) := by
  obtain ⟨i, hi, hz⟩ := hi
  have hzv : (zeroValue T).run P w = .ok z w := by simp [zeroValue, Go.typeInfo, hi, hz]
  simp [Instr.alloc, hzv, newVar, newRow]
theorem g_loadA (hE : TabOK P tab) {T : TypeId} {n : Nat} (hT : (findTE tab T).map (fun e => (e.ty.size, e.ty.isAgg)) = some (n, true)) {b off : Nat} {cs : List Value} (hl : cs.length = n) (hc : ∀ j, j < n → w.cell? ⟨b, off + j, none⟩ = cs[j]?) :
    (Instr.loadAt T (.pointer (some ⟨b, off, none⟩))).run P w = .ok (.agg cs.toArray) w := by
  cases hf : findTE tab T with
  | none => rw [hf] at hT; cases hT
  | some e =>
    rw [hf] at hT
    simp only [Option.map_some, Option.some.injEq, Prod.mk.injEq] at hT
    have := loadVar_run (w := w) (b := b) (off := off) (hE.find hf) (cs := cs) (by rw [hT.1, hl]) (fun j hj => hc j (by rw [← hT.1]; exact hj))
    rw [show mkV e.ty cs = .agg cs.toArray by unfold mkV; rw [hT.2]; rfl] at this
    simp [Instr.loadAt, Instr.sureAddr, this]
theorem g_storeA (hE : TabOK P tab) {T : TypeId} {s : Nat} (hT : (findTE tab T).map (·.ty.size) = some s) {b off : Nat} {cs0 cs : List Value} {et : TypeId} {v : Value} (hv : v.cells = cs.toArray) (hl : cs.length = s) (h1 : ∀ v, v ∈ cs → v.oneCell' = true)
    (hb : w.heap[b]? = some (.cells cs0.toArray et (0, 0))) (hfit : off + cs.length ≤ cs0.length) : (Instr.storeAt T (.pointer (some ⟨b, off, none⟩)) v).run P w = .ok () (w.setRow b (splice cs0 off cs).toArray) := by
  obtain ⟨e, he, hes⟩ := te_of hT
  have := storeVar_run (P := P) (tab := tab) (T := T) (e := e) (b := b) (off := off) (w := w) (cs0 := cs0) (et := et) (cs := cs) (v := v) (hE.find he) hv (by rw [hes]; exact hl) h1 hb hfit
  simp [Instr.storeAt, Instr.sureAddr, this]
theorem g_slice {T el : TypeId} {size : Nat} (hu : P.underlying T = some (.slice el)) (hs : ∀ w, (sizeOf el).run P w = .ok size w) (a : Option Addr) (ha : ∀ ad, a = some ad → ad.spot = none) (len cap k : Nat) (hk : k ≤ cap) (w : World) :
    (Instr.sliceAt T (.slice a len cap) none (some (.int .i64 k)) none).run P w = .ok (.slice a k cap) w := by
  have hb : (Instr.sliceBounds true len cap none (some (.int .i64 k)) none).run P w = .ok (0, k, cap) w := by
    have : ¬ cap < k := by omega
    simp [Instr.sliceBounds, Instr.sliceBound, asIntOf, this]
  simp [Instr.sliceAt, Instr.slice, underlying, hu, hb, hs]
  intro _
  cases a with
  | none => rfl
  | some ad => simp [addr_add (ha ad rfl), ← addr_eq (ha ad rfl)]
theorem own_append {α : Type} {size bytes : Nat} {T el ty : TypeId} {zv : Value} {i : TypeInfo} (hu : P.underlying T = some (.slice el)) (hi : P.info? el = some i) (hz : i.zero = some zv) (his : i.size = size) (hib : i.bytes = bytes) (hzs : zv.cells.size = size) (hs0 : size ≠ 0)
    {R R' : List Value → α → Prop} {o : Option Nat} {a : Option Addr} {cap : Nat} {xs : List α} (h : HoldS size w (fun b => o = some b) R a xs.length cap xs)
    (hlim : (xs.length + 1) * bytes ≤ appendLimit) (hlen : xs.length + 1 ≤ 9223372036854775807) {bn : Nat} {en : TypeId} {c : List Value} (hbn : w.heap[bn]? = some (.cells c.toArray en (0, 0))) (hcl : c.length = size) (hc1 : ∀ v, v ∈ c → v.oneCell' = true) {x : α} (hRR : ∀ cs x, R cs x → R' cs x) (hx : R' c x) :
    ∃ a' cap' o' w', (Builtin.append_ #[T, T] ty #[.slice a xs.length cap, .slice (some ⟨bn, 0, none⟩) 1 1]).run P w = .ok (.slice a' (xs.length + 1) cap') w' ∧ HoldS size w' (fun b => o' = some b) R' a' (xs.length + 1) cap' (xs ++ [x]) ∧
      w.heap.size ≤ w'.heap.size ∧ (∀ b, b < w.heap.size → o ≠ some b → w'.heap[b]? = w.heap[b]?) ∧ (∀ b, o' = some b → (o = some b ∨ w.heap.size ≤ b) ∧ b < w'.heap.size) ∧ SameIO w w' := by
  have hsrc : Src P size T (.slice (some ⟨bn, 0, none⟩) 1 1) 1 c w := Src.ofSlice w hu ⟨bn, 0, none⟩ 1 1 c (by omega) (fun j u hj => by
    rw [addr_add rfl, show w.cell? ⟨bn, 0 + j, none⟩ = c[0 + j]? from cell_of_block hbn, Nat.zero_add]; exact hj) hc1
  have hseg1 : Segs size R' c [x] := ⟨by simp [hcl], fun k hk => by
    have : k = 0 := by simpa using hk
    subst this
    simp only [Nat.zero_mul, List.drop_zero, List.getElem_cons_zero]
    rw [List.take_of_length_le (by omega)]
    exact hx⟩
  obtain ⟨hl1, hlc1, hblk⟩ := h
  have hold : ∃ olds, Segs size R olds xs ∧ (Builtin.firstCells size xs.length (.slice a xs.length cap)).run P w.drew = .ok olds.toArray w.drew := by
    rcases hblk with hc0 | ⟨ad, rfl, hsp, _, _, hrow⟩
    · have hx0 : xs = [] := List.eq_nil_of_length_eq_zero (by omega)
      subst hx0
      refine ⟨[], ⟨by simp, fun i hi => by simp at hi⟩, ?_⟩
      cases a with
      | none => exact run_firstCells_none w.drew _ _ _ _
      | some ad => exact run_firstCells_some w.drew size 0 ad _ _ [] (by simp) (fun j v hj => by simp at hj)
    · obtain ⟨olds, ho1, ho2⟩ := hrow.segs hs0
      refine ⟨olds, ho1, run_firstCells_some w.drew size _ ad _ _ _ ho1.1 (fun j v hj => ?_)⟩
      have hj' : j < olds.length := by
        rcases Nat.lt_or_ge j olds.length with h | h
        · exact h
        · rw [List.getElem?_eq_none h] at hj; cases hj
      rw [addr_add hsp]
      exact (ho2 j hj').trans hj
  by_cases hroom : xs.length + 1 ≤ cap
  · rcases hblk with hc0 | ⟨ad, rfl, hsp, hown, ⟨vs, et, hb, hfit⟩, hrow⟩
    · omega
    · have hvs : vs = vs.toList.toArray := by simp
      rw [hvs] at hb
      have had : ad = ⟨ad.block, ad.off, none⟩ := addr_eq hsp
      have hmul : (xs.length + 1) * size ≤ cap * size := Nat.mul_le_mul_right _ hroom
      rw [Nat.add_mul] at hmul
      have hin : ad.off + xs.length * size + c.length ≤ vs.toList.length := by simp only [Array.length_toList]; omega
      have hap := run_append_at (w := w) T T ty el size hu hi his ad.block ad.off xs.length cap (.slice (some ⟨bn, 0, none⟩) 1 1) 1 c hsrc hroom hb hin
      rw [← had] at hap
      obtain ⟨olds, hos, hoc⟩ := hrow.segs hs0
      refine ⟨some ad, cap, o, _, hap, ⟨by simp, hroom, .inr ⟨ad, rfl, hsp, hown, ⟨_, et, setRow_heap w _ _ _ et _ hb, ?_⟩, ?_⟩⟩, by simp, fun b' hb' ho => setRow_other w ad.block b' _ (fun e => ho (by rw [e]; exact hown)), fun b' hb' => ⟨.inl hb', ?_⟩, ⟨rfl, rfl, rfl, by first | exact Nat.le_refl _ | exact Nat.le_succ _ | (simp; done) | (simp; omega)⟩⟩
      · rw [List.size_toArray, splice_length _ _ _ hin]; simpa using hfit
      · refine ((hos.mono hRR).append hseg1).rows fun q hq => ?_
        rw [List.length_append] at hq
        rw [cell_setRow_same w _ _ _ _ et _ hb, List.getElem?_toArray, getElem?_splice _ _ _ _ hin]
        rcases Nat.lt_or_ge q olds.length with hqo | hqo
        · rw [if_pos (by rw [hos.1] at hqo; omega), List.getElem?_append_left hqo, ← hoc q hqo, cell_of_block hb]
        · have := hos.1
          rw [if_neg (by omega), if_pos (by omega), List.getElem?_append_right hqo]
          congr 1; omega
      · have hown : o = some ad.block := hown
        rw [hown] at hb'
        injection hb' with hb'
        rw [setRow_size, ← hb']
        exact heap_lt hb
  · have hlt : cap < xs.length + 1 := by omega
    obtain ⟨olds, hos, hfo⟩ := hold
    have hfit := growslice_fits (need := xs.length + 1) (old := cap) (bytes := i.bytes) hlt (by rw [hib]; exact hlim)
    have hap := run_append_grow_src (P := P) w T T ty el i zv hu hi hz a xs.length cap olds (by rw [his]; exact hfo) (.slice (some ⟨bn, 0, none⟩) 1 1) 1 c (by rw [his]; exact hsrc) hlt (by omega) hfit
    have hge := grownCap_ge w (xs.length + 1) cap el
    have hnew := heap_alloc_new w.drew (.cells ((olds ++ c).toArray ++ Builtin.zeroCells zv.cells (grownCap w (xs.length + 1) cap el - (xs.length + 1))) el (0, 0))
    refine ⟨_, _, some w.heap.size, _, hap, ⟨by simp, hge, .inr ⟨_, rfl, rfl, rfl, ⟨_, _, hnew, ?_⟩, ?_⟩⟩, by rw [World.size_alloc]; exact Nat.le_succ _, (fun b hb _ => heap_alloc_old w.drew _ b hb), fun b hb => ?_, ⟨rfl, rfl, rfl, by first | exact Nat.le_refl _ | exact Nat.le_succ _ | (simp; done) | (simp; omega)⟩⟩
    · have e3 : (olds ++ c).toArray.size = (xs.length + 1) * size := by rw [List.size_toArray, List.length_append, hos.1, hcl, Nat.add_mul, Nat.one_mul]
      rw [Array.size_append, e3, size_zeroCells, hzs, ← Nat.add_mul]
      show 0 + _ ≤ _
      rw [Nat.zero_add]
      exact Nat.mul_le_mul_right _ (by omega)
    · refine ((hos.mono hRR).append hseg1).rows fun q hq => ?_
      show (World.alloc _ _).cell? ⟨w.drew.heap.size, 0 + q, none⟩ = _
      rw [World.cell?_alloc_new, Nat.zero_add, Array.getElem?_append_left (by rw [List.size_toArray]; exact hq), List.getElem?_toArray]
    · injection hb with hb
      subst hb
      exact ⟨.inr (Nat.le_refl _), by rw [World.size_alloc]; exact Nat.lt_succ_self _⟩
end
section
variable {P : Program} {ops : Array Oper} {Q : Exit → Act → World → Prop} {N : Nat} {f : Nat → Value} {ds : List Deferred} {w : World}
theorem yielded_bool {j s : Nat} {b : Bool} (hj : (ops[j]?).bind (·.dst) = some s) (hs : s < N) (hb : f s = .bool b) : yielded ops (Fr N f ds).tmps j = some b := by
  have : (Fr N f ds).tmps[s]? = some (.bool b) := by simp [Fr, hs, hb]
  simp [yielded, hj, this]
theorem yielded_undef {j s : Nat} (hj : (ops[j]?).bind (·.dst) = some s) (hs : s < N) (hb : f s = undef) : yielded ops (Fr N f ds).tmps j = none := by
  have : (Fr N f ds).tmps[s]? = some undef := by simp [Fr, hs, hb]
  simp [yielded, hj, this, undef]
theorem sh_on {op : Op} {d : Option Nat} {l : List (Op × Option Nat × Option (Nat × Bool))} {j s : Nat} {want : Bool} (hj : (ops[j]?).bind (·.dst) = some s) (hs : s < N) (hb : f s = .bool want) (k : wpSh P ops Q ((op, d, none) :: l) (Fr N f ds) w) :
    wpSh P ops Q ((op, d, some (j, want)) :: l) (Fr N f ds) w := by
  intro o h1 h2 h3
  rw [if_pos (by simp [Region.wanted, show o.guard = some (j, want) from h3, yielded_bool hj hs hb])]
  have := k { o with guard := none } h1 h2 rfl
  rw [if_pos (by simp [Region.wanted])] at this
  exact this
theorem sh_off {op : Op} {d : Nat} {l : List (Op × Option Nat × Option (Nat × Bool))} {j s : Nat} {want : Bool} (hd : d < N) (hj : (ops[j]?).bind (·.dst) = some s) (hs : s < N) (hb : f s = .bool (!want) ∨ f s = undef) (k : wpSh P ops Q l (Fr N (put_ f d undef) ds) w) :
    wpSh P ops Q ((op, some d, some (j, want)) :: l) (Fr N f ds) w := by
  intro o h1 h2 h3
  have hy : Region.wanted o (yielded ops (Fr N f ds).tmps) = false := by
    rcases hb with hb | hb
    · simp [Region.wanted, show o.guard = some (j, want) from h3, yielded_bool hj hs hb]
    · simp [Region.wanted, show o.guard = some (j, want) from h3, yielded_undef hj hs hb]
  rw [if_neg (by rw [hy]; simp), show o.dst = some d from h2, Fr.put hd]
  exact k
theorem sh_bin {op : BinOp} {x y : Operand} {T T' : TypeId} {d : Nat} {l : List (Op × Option Nat × Option (Nat × Bool))} {k : IntKind} {a b : Int} {v : Value} (hd : d < N) (hx : (Fr N f ds).eval x = .int k a) (hy : (Fr N f ds).eval y = .int k b)
    (hv : (binOp op T (.int k a) (.int k b)).run P w = .ok v w) (h : wpSh P ops Q l (Fr N (put_ f d v) ds) w) : wpSh P ops Q ((.binOp op T x y T', some d, none) :: l) (Fr N f ds) w :=
  sh_val hd (fun o ho => by simp [execOp, ho, hx, hy, run_guard, hv]) h
theorem sh_pick {c x y : Operand} {d : Nat} {l : List (Op × Option Nat × Option (Nat × Bool))} {b : Bool} {v : Value} (hd : d < N) (hc : (Fr N f ds).eval c = .bool b) (hv : (if b then (Fr N f ds).eval x else (Fr N f ds).eval y) = v)
    (h : wpSh P ops Q l (Fr N (put_ f d v) ds) w) : wpSh P ops Q ((.pick c x y, some d, none) :: l) (Fr N f ds) w :=
  sh_val hd (fun o ho => by simp [execOp, ho, hc, asBool, ← hv]) h
theorem sh_load {x : Operand} {T : TypeId} {d b o : Nat} {v : Value} {l : List (Op × Option Nat × Option (Nat × Bool))} (hd : d < N) (hT : scalB P T = true) (hx : (Fr N f ds).eval x = .pointer (some ⟨b, o, none⟩)) (hc : w.cell? ⟨b, o, none⟩ = some v)
    (h : wpSh P ops Q l (Fr N (put_ f d v) ds) w) : wpSh P ops Q ((.load T x, some d, none) :: l) (Fr N f ds) w :=
  sh_val hd (fun p hp => by simp [execOp, hp, hx, g_load hT hc]) h
theorem sh_store {x y : Operand} {T : TypeId} {b : Nat} {v u : Value} {et : TypeId} {l : List (Op × Option Nat × Option (Nat × Bool))} (hT : scalB P T = true) (hx : (Fr N f ds).eval x = .pointer (some ⟨b, 0, none⟩)) (hy : (Fr N f ds).eval y = v) (hv : v.cells = #[v]) (h1 : v.oneCell' = true)
    (hb : w.heap[b]? = some (.cells #[u] et (0, 0))) (h : wpSh P ops Q l (Fr N f ds) (w.setRow b #[v])) : wpSh P ops Q ((.store T x y, none, none) :: l) (Fr N f ds) w :=
  sh_skip (fun p hp => by simp [execOp, hp, hx, hy, g_store hT hv h1 hb]) h
theorem sh_extract {x : Operand} {i d : Nat} {vs : Array Value} {v : Value} {l : List (Op × Option Nat × Option (Nat × Bool))} (hd : d < N) (hx : (Fr N f ds).eval x = .tuple vs) (hv : vs[i]? = some v)
    (h : wpSh P ops Q l (Fr N (put_ f d v) ds) w) : wpSh P ops Q ((.extract x i, some d, none) :: l) (Fr N f ds) w :=
  sh_val hd (fun p hp => by simp [execOp, hp, hx, Instr.extract, hv]) h
end
def regOf (n : Nat) : Code → Option (Array Oper)
  | .region id ops _ => if Nat.beq id n then some ops else none
  | .seq a b => match regOf n a with
    | some x => some x
    | none => regOf n b
  | .block _ c | .loop c | .scope c => regOf n c
  | .cond _ a b => match regOf n a with
    | some x => some x
    | none => regOf n b
  | _ => none
theorem wp_loop_nat {P : Program} {c : Code} {Q : Exit → Act → World → Prop} (J : Nat → Act → World → Prop) {n0 : Nat} {a0 : Act} {w0 : World} (h0 : J n0 a0 w0)
    (round : ∀ n a w, J n a w → ∃ m, n = m + 1 ∧ c.wp P (Exit.then (J m) Q) a w) : (Code.loop c).wp P Q a0 w0 := by
  have hex : ∀ (x : Act) (w : World), (∃ n, J n x w) → ∃ n, J n x w ∧ ∀ m, J m x w → n ≤ m := by
    intro x w ⟨n, hn⟩
    induction n using Nat.strongRecOn with
    | _ n ih =>
      by_cases hm : ∃ m, m < n ∧ J m x w
      · obtain ⟨m, hlt, hj⟩ := hm
        exact ih m hlt hj
      · exact ⟨n, hn, fun m hj => Nat.le_of_not_lt fun hlt => hm ⟨m, hlt, hj⟩⟩
  let μ : Act → World → Nat := fun x w => open Classical in if hx : ∃ n, J n x w then (hex x w hx).choose else 0
  have hμ : ∀ x w, (∃ n, J n x w) → J (μ x w) x w ∧ ∀ m, J m x w → μ x w ≤ m := by
    intro x w hx
    have e : μ x w = (hex x w hx).choose := by simp only [μ]; rw [dif_pos hx]
    rw [e]
    exact (hex x w hx).choose_spec
  refine wp_loop (fun x w => ∃ n, J n x w) μ ⟨n0, h0⟩ fun x w hx => ?_
  obtain ⟨h1, _⟩ := hμ x w hx
  obtain ⟨m, hm, hw⟩ := round _ x w h1
  refine wp_mono hw fun e a w h => ?_
  cases e with
  | normal =>
    have h : J m a w := h
    exact ⟨⟨m, h⟩, by have := (hμ _ _ ⟨m, h⟩).2 m h; omega⟩
  | _ => exact h
end
end Go.GD
