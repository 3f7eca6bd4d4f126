import Derived.Test.YtmmlfdnpgigfbaaGD13
namespace Go.GD
open Go

theorem flatten_get {α : Type} {size : Nat} : (css : List (List α)) → (∀ cs, cs ∈ css → cs.length = size) → ∀ (k j : Nat) (hk : k < css.length), j < size → css.flatten[k * size + j]? = css[k][j]?
  | [], _, k, _, hk, _ => by simp at hk
  | cs :: css, h, 0, j, _, hj => by
    have := h cs (List.mem_cons_self ..)
    simp only [Nat.zero_mul, Nat.zero_add, List.flatten_cons, List.getElem_cons_zero]
    rw [List.getElem?_append_left (by omega)]
  | cs :: css, h, k + 1, j, hk, hj => by
    have hl := h cs (List.mem_cons_self ..)
    have ih := flatten_get css (fun c hc => h c (List.mem_cons_of_mem _ hc)) k j (by simpa using hk) hj
    simp only [List.flatten_cons, List.getElem_cons_succ]
    rw [List.getElem?_append_right (by rw [hl, Nat.add_mul]; omega), ← ih, hl, Nat.add_mul]
    congr 1; omega

theorem flatten_length {α : Type} {size : Nat} : (css : List (List α)) → (∀ cs, cs ∈ css → cs.length = size) → css.flatten.length = css.length * size
  | [], _ => by simp
  | cs :: css, h => by
    rw [List.flatten_cons, List.length_append, h cs (List.mem_cons_self ..), flatten_length css (fun c hc => h c (List.mem_cons_of_mem _ hc)), List.length_cons, Nat.add_mul]; omega

section
variable {C : Ctx} {g : Own} {σ : St} {tm : Array Value} {w : World} {E : Env} {o : Oper} {ρ : Type} {K : St → Option ρ} {r : ρ} {ds : List Deferred}
  {next : Act → World → Prop} {Q : Exit → Act → World → Prop}

/-- shared for good -/
theorem share_inv {tv : TV} {k : List Mk → Prog} {v : Value} (h : SRep C g σ tm w) (hv : Val C g σ tm w v tv) (hr : (takeMarks (fun _ => false) true tv.ms k).run σ K = some r) :
    ∃ g1 σ1 ms' cs, SRep C g1 σ1 tm w ∧ HandLe C g σ tm w g1 σ1 tm w ∧ v = mkV tv.t cs ∧ v.cells = cs.toArray ∧ RepC C.P tv.t w (Shd C g1) cs tv.x ∧ (k ms').run σ1 K = some r ∧
      (∀ b, g b = none → g1 b = none) := by
  obtain ⟨cs, e, hx, hn, hb⟩ := hv
  obtain ⟨g1, σ1, ms', h1, h2, h3, h4, h5, h6, h7, h8⟩ := takeMarks_inv tv.ms [] rfl h (hx.place σ.length 0 hn) (fun _ hm => by cases hm) hn hb hr
  simp only [List.nil_append] at h4 h5
  refine ⟨g1, σ1, ms', cs, h1, h2, e, by rw [e]; exact mkV_cells hx, ?_, h6, h7⟩
  have hlen := (RepX.length _ h5).2
  refine repC_of_repX tv.t (RepX.trans (cl' := shareAll) (c' := 0) (Mono.refl _ _) tv.t h5 rfl fun i hi => ?_)
  rcases h8 (fun _ => rfl) rfl _ (mem_of_markAt ms' i (by omega)) with e | e <;> rw [e]
  · exact .share _
  · exact .nil_share

def PartsAre (tm : Array Value) (ds : List Deferred) : Nat → List (Nat × Operand) → List (List Value) → Prop
  | _, [], [] => True
  | i, (j, o) :: l, cs :: css => j = i ∧ (Act.eval ⟨tm, ds⟩ o).cells = cs.toArray ∧ PartsAre tm ds (i + 1) l css
  | _, _, _ => False

def AllRep (P : Program) (t : Ty) (w : World) (Sh : Nat → Prop) : List (List Value) → List t.den → Prop
  | [], [] => True
  | cs :: css, x :: xs => RepC P t w Sh cs x ∧ AllRep P t w Sh css xs
  | _, _ => False

theorem AllRep.mono {P : Program} {t : Ty} {w w' : World} {Sh Sh' : Nat → Prop} (m : Mono w Sh w' Sh') : (css : List (List Value)) → ∀ {xs : List t.den}, AllRep P t w Sh css xs → AllRep P t w' Sh' css xs
  | [], [], _ => trivial
  | [], _ :: _, h => h
  | _ :: _, [], h => h
  | _ :: css, _ :: _, h => ⟨RepC.mono t m h.1, AllRep.mono m css h.2⟩

theorem AllRep.len {P : Program} {t : Ty} {w : World} {Sh : Nat → Prop} : (css : List (List Value)) → ∀ {xs : List t.den}, AllRep P t w Sh css xs → css.length = xs.length ∧ ∀ cs, cs ∈ css → cs.length = t.size
  | [], [], _ => ⟨rfl, fun _ h => by cases h⟩
  | [], _ :: _, h => h.elim
  | _ :: _, [], h => h.elim
  | cs :: css, _ :: _, h => by
    obtain ⟨h1, h2⟩ := AllRep.len css h.2
    exact ⟨by simp [h1], List.forall_mem_cons.2 ⟨RepC.length t h.1, h2⟩⟩

theorem AllRep.get {P : Program} {t : Ty} {w : World} {Sh : Nat → Prop} : (css : List (List Value)) → ∀ {xs : List t.den}, AllRep P t w Sh css xs → ∀ (i : Nat) (h1 : i < css.length) (h2 : i < xs.length), RepC P t w Sh css[i] xs[i]
  | [], [], _, i, h1, _ => by simp at h1
  | [], _ :: _, h, _, _, _ => h.elim
  | _ :: _, [], h, _, _, _ => h.elim
  | cs :: css, x :: xs, h, i, h1, h2 => by
    cases i with
    | zero => exact h.1
    | succ i => exact AllRep.get css h.2 i (by simpa using h1) (by simpa using h2)

theorem rowsP_inv {T : Nat} {t : Ty} : (l : List (Nat × Operand)) → ∀ {i : Nat} {g : Own} {σ : St} {k : List t.den → Prog}, SRep C g σ tm w → (rowsP E T t i l k).run σ K = some r →
    ∃ g1 σ1 xs css, SRep C g1 σ1 tm w ∧ HandLe C g σ tm w g1 σ1 tm w ∧ PartsAre tm ds i l css ∧ AllRep C.P t w (Shd C g1) css xs ∧ (k xs).run σ1 K = some r
  | [], i, g, σ, k, h, hr => ⟨g, σ, [], [], h, .refl .., trivial, trivial, hr⟩
  | (j, o) :: l, i, g, σ, k, h, hr => by
    simp only [rowsP] at hr
    split at hr
    case isFalse => simp [Prog.run] at hr
    rename_i hij
    obtain ⟨v, hv, _, hr⟩ := rdV_inv (ds := ds) h hr
    split at hr
    case h_2 => simp [Prog.run] at hr
    rename_i y hy
    obtain ⟨ety, rfl⟩ := castO_some hy
    subst ety
    obtain ⟨g1, σ1, ms', cs, h1, h2, h3, h4, h5, h6, _⟩ := share_inv h hv hr
    obtain ⟨g2, σ2, xs, css, q1, q2, q3, q4, q5⟩ := rowsP_inv l h1 h6
    exact ⟨g2, σ2, v.x :: xs, cs :: css, q1, h2.trans q2, ⟨(Nat.eq_of_beq_eq_true hij).symm, h4, q3⟩, ⟨RepC.mono v.t q2.sh h5, q4⟩, q5⟩

theorem fill_rows {size : Nat} : (l : List (Nat × Operand)) → ∀ {i : Nat} {css : List (List Value)} {pre rest : List Value}, PartsAre tm ds i l css → (∀ cs, cs ∈ css → cs.length = size) → pre.length = i * size → l.length * size ≤ rest.length →
    Instr.fill (fun i => some (i * size, size)) (pre ++ rest).toArray (l.map fun (i, x) => (i, Act.eval ⟨tm, ds⟩ x)) = some (pre ++ css.flatten ++ rest.drop (l.length * size)).toArray
  | [], i, [], pre, rest, _, _, _, _ => by simp [Instr.fill]
  | [], _, _ :: _, _, _, h, _, _, _ => h.elim
  | _ :: _, _, [], _, _, h, _, _, _ => h.elim
  | (j, o) :: l, i, cs :: css, pre, rest, h, hs, hp, hr => by
    obtain ⟨rfl, hc, h⟩ := h
    have hcl := hs cs (List.mem_cons_self ..)
    simp only [List.length_cons, Nat.add_mul, Nat.one_mul] at hr
    rw [List.map_cons, fill_step (ys := cs) (off := j * size) (size := size) rfl hc hcl (by rw [List.length_append, hp]; omega)]
    have hsp : splice (pre ++ rest) (j * size) cs = (pre ++ cs) ++ rest.drop size := by
      rw [splice_right _ _ _ _ (by omega), hp, Nat.sub_self]
      unfold splice
      rw [hcl, Nat.zero_add, List.take_zero, List.nil_append, List.append_assoc]
    rw [hsp, fill_rows l h (fun c hc => hs c (List.mem_cons_of_mem _ hc)) (by rw [List.length_append, hp, hcl, Nat.add_mul]; omega) (by rw [List.length_drop]; omega)]
    congr 2
    rw [List.drop_drop, List.flatten_cons, List.length_cons, Nat.add_mul, Nat.one_mul, Nat.add_comm size]
    simp [List.append_assoc]

theorem run_buildSlice' {P : Program} {T n : Nat} {el : TypeId} {size : Nat} {zv : Value} {parts : Array (Nat × Value)} {final : Array Value} (hu : P.underlying T = some (.slice el))
    (hs : (sizeOf el).run P w = .ok size w) (hz : (zeroValue el).run P w = .ok zv w) (hb : n * size ≤ 16777216)
    (hf : ∀ init : Array Value, init.size = n * size → Instr.fill (fun i => some (i * size, size)) init parts.toList = some final) :
    (Instr.buildSlice T n parts).run P w = .ok (.slice (some ⟨w.heap.size, 0, none⟩) n n) (w.alloc (.cells final el)) := by
  have hnb : ¬ (n * size > 2 ^ 24) := by
    have : (2 : Nat) ^ 24 = 16777216 := by decide
    omega
  unfold Instr.buildSlice
  simp only [Sem.run_bind, underlying, run_program, Result.andThen_ok, hu, Sem.run_pure, hs, hnb, if_false]
  by_cases h0 : n * size = 0
  · have hi := hf ((Array.range (n * size)).map fun i => (#[] : Array Value)[i % (#[] : Array Value).size]!) (by simp)
    simp only [h0, if_true]
    rw [h0] at hi
    simp only [Sem.run_bind, Sem.run_pure, Result.andThen_ok, hi]
    simp [newRow]
  · have hi := hf ((Array.range (n * size)).map fun i => zv.cells[i % zv.cells.size]!) (by simp)
    simp only [h0, if_false, Sem.run_bind, hz, Sem.run_pure, Result.andThen_ok, hi]
    simp [newRow]

theorem op_buildSlice {T n : Nat} {ps : Array (Nat × Operand)} (hE : TabOK C.P E.tab) (ho : o.op = .buildSlice T n ps) (h : SRep C g σ tm w)
    (hr : (opP E o).run σ K = some r) (hK : Good C K r ds next) : o.wp C.P ⟨tm, ds⟩ w next Q := by
  unfold opP at hr
  rw [ho] at hr
  simp only at hr
  split at hr
  case h_2 => simp [Prog.run] at hr
  rename_i e he
  split at hr
  case h_2 => simp [Prog.run] at hr
  rename_i el hel
  split at hr
  case h_2 => simp [Prog.run] at hr
  rename_i z hty hz
  have hty := Ty.eq_of_beq hty
  split at hr
  case isFalse => simp [Prog.run] at hr
  rename_i hb
  simp only [Bool.and_eq_true] at hb
  have hn := Nat.eq_of_beq_eq_true hb.1
  have hb2 : n * el.ty.size ≤ 16777216 := by simpa using hb.2
  obtain ⟨hu, te, hte, hteq, hsz0⟩ := (hE.find he).slice hty
  obtain ⟨g1, σ1, xs, css, h1, h2, h3, h4, h5⟩ := rowsP_inv (ds := ds) ps.toList h hr
  obtain ⟨hl1, hl2⟩ := AllRep.len css h4
  have hpl : ∀ (l : List (Nat × Operand)) (i : Nat) (css : List (List Value)), PartsAre tm ds i l css → css.length = l.length := by
    intro l
    induction l with
    | nil => intro i css h; cases css with
      | nil => rfl
      | cons _ _ => exact h.elim
    | cons p l ih => intro i css h; cases css with
      | nil => exact h.elim
      | cons cs css => obtain ⟨j, o⟩ := p; simp [ih _ _ h.2.2]
  have hcl := hpl _ _ _ h3
  have hFel := hE.find hel
  obtain ⟨cs, hzv, hcsl, hcells, hzc⟩ := hFel.zero hz w
  have hn' : n = ps.size := by simpa using hn
  have exec : (execOp (Act.eval ⟨tm, ds⟩) o).run C.P w = .ok (.value (.slice (some ⟨w.heap.size, 0, none⟩) n n)) (w.alloc (.cells css.flatten.toArray e.elem)) := by
    have hrun := run_buildSlice' (w := w) (P := C.P) (T := T) (n := n) (parts := ps.map fun (i, x) => (i, Act.eval ⟨tm, ds⟩ x)) (final := css.flatten.toArray) hu (hFel.sizeOf w) hzv hb2 (fun init hi => by
      have := fill_rows (size := el.ty.size) ps.toList (pre := []) (rest := init.toList) h3 hl2 (by simp) (by simp only [Array.length_toList]; rw [hi, hn']; exact Nat.le_refl _)
      rw [Array.toList_map]
      simp only [List.nil_append, Array.toArray_toList] at this
      rw [this]
      congr 1
      rw [List.drop_eq_nil_of_le (by simp only [Array.length_toList]; rw [hi, hn']; exact Nat.le_refl _), List.append_nil])
    simp only [execOp, ho]
    rw [Sem.run_bind, hrun]; rfl
  refine new_sound h1 (Grow.alloc h1 (.refl h1) rfl (.cells css.flatten.toArray e.elem) (o.dst.getD 0, some 0)) (v := .slice (some ⟨w.heap.size, 0, none⟩) n n) (w0 := w) exec (fun d hd hl σ' tm' hv => ?_) h5 hK
  rw [hd] at hv ⊢
  simp only [Option.getD_some] at hv ⊢
  have hxl : xs.length = n := by omega
  refine ⟨⟨[.slice (some ⟨w.heap.size, 0, none⟩) n n], rfl, ⟨_, _, _, _, rfl, rfl, ⟨hxl, Nat.le_refl _, .inr ⟨_, rfl, rfl, withNew_new, ⟨_, _, heap_alloc_new w _, ?_⟩, fun k hk => ?_⟩⟩, trivial⟩⟩, fun mm hm => ?_⟩
  · show 0 + n * el.ty.size ≤ css.flatten.toArray.size
    rw [List.size_toArray, flatten_length css hl2, hcl, ← hn, Nat.zero_add]; exact Nat.le_refl _
  · have hk0 : k < xs.length := hk
    have hk' : k < css.length := by omega
    refine ⟨css[k], hl2 _ (List.getElem_mem _), fun j hj => ?_, ?_⟩
    · rw [World.cell?_alloc_new, Nat.zero_add]
      simp only [List.getElem?_toArray]
      exact flatten_get css hl2 k j hk' hj
    · exact RepC.mono el.ty hv.sh (AllRep.get css h4 k hk' hk)
  · simp only [List.mem_singleton] at hm; subst hm; trivial
end
end Go.GD
