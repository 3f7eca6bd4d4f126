import Derived.Test.YtbapfiaglcllnaaXAall
import Derived.Test.YtbapfiaglcllnaaH47all
import Derived.Test.YtbapfiaglcllnaaXN1
import Derived.Test.YtbapfiaglcllnaaXH24all
import Derived.Laws.OwnMore
section
namespace Go.Proofs.Ytbapfiaglcllnaa.D
set_option maxRecDepth 10000
open Go Go.GD Go.Proofs
def Apart (n : Nat) (dst : Nat → Nat) (f f' : Nat → Value) : Prop := ∀ s, (∀ j, j < n → dst j ≠ s) → f' s = f s
theorem reg_drawS {ops : Array Oper} {id N n : Nat} {f : Nat → Value} {w w2 : World} {Q : Exit → Act → World → Prop} (deps : List (List Nat)) (haft : (ops.toList.map fun o => (o.after.toList.filter fun e => Region.binds .any e).map (·.on)) = deps) (hlen : deps.length = n + 1)
    (hlt : ∀ j, j < n + 1 → ∀ i, i ∈ deps.getD j [] → i < j) (hall : ∀ i, i < n → i ∈ deps.getD n []) (dst : Nat → Nat) (vs : Nat → Value) (hd : ∀ j, j < n → dst j < N) (hinj : ∀ i j, i < n → j < n → dst i = dst j → i = j)
    (step : ∀ j o f', j < n → ops.toList[j]? = some o → Apart n dst f f' → (∀ i, i < n → i ∈ deps.getD j [] → f' (dst i) = vs i) → o.dst = some (dst j) ∧ o.guard = none ∧ (execOp (Fr N f' []).eval o).run Try.prog w.drew = .ok (.value (vs j)) w.drew)
    (hst : ∀ o f', ops.toList[n]? = some o → Apart n dst f f' → (∀ j, j < n → f' (dst j) = vs j) → o.dst = none ∧ o.guard = none ∧ (execOp (Fr N f' []).eval o).run Try.prog w.drew = .ok .skip w2)
    (hQ : ∀ f', Apart n dst f f' → (∀ j, j < n → f' (dst j) = vs j) → Q .normal (Fr N f' []) w2) : (Code.region id ops true).wp Try.prog Q (Fr N f []) w := by
  have hol : ops.toList.length = n + 1 := by
    have := congrArg List.length haft
    rw [List.length_map, hlen] at this
    exact this
  have hget : ∀ j o, ops.toList[j]? = some o → deps.getD j [] = (o.after.toList.filter fun e => Region.binds .any e).map (·.on) := fun j o ho => by
    rw [List.getD_eq_getElem?_getD, ← haft, List.getElem?_map, ho]; rfl
  have hmem : ∀ j o, ops.toList[j]? = some o → ∀ i, i ∈ deps.getD j [] → ∃ e, e ∈ o.after.toList ∧ Region.binds .any e = true ∧ e.on = i := fun j o ho i hi => by
    rw [hget j o ho] at hi
    obtain ⟨e, he, rfl⟩ := List.mem_map.1 hi
    have := List.mem_filter.1 he
    exact ⟨e, this.1, this.2, rfl⟩
  have hjn : ∀ j o, ops.toList[j]? = some o → j < n + 1 := fun j o ho => by rw [← hol]; exact (List.getElem?_eq_some_iff.1 ho).1
  refine region_inv (Checked.mixed Try.checked) (fun j o ho e he hb => ?_) (fun D a w' => ∃ f', a = Fr N f' [] ∧ Apart n dst f f' ∧ (∀ j, j < n → D j = true → f' (dst j) = vs j) ∧ w' = bif D n then w2 else w.drew)
    (fun D j o a w' ho hD hedge hdown hI => ?_) (fun D a w' hA hI => ?_) ⟨f, rfl, fun _ _ => rfl, fun _ _ h => by (cases h), rfl⟩
  · refine hlt j (hjn j o ho) e.on ?_
    rw [hget j o ho]
    exact List.mem_map.2 ⟨e, List.mem_filter.2 ⟨he, hb⟩, rfl⟩
  · obtain ⟨f', rfl, hap, hv, rfl⟩ := hI
    have hj := hjn j o ho
    by_cases hjn' : j < n
    · have hDn : D n = false := by
        cases hDn : D n with
        | false => rfl
        | true =>
          obtain ⟨on, hon⟩ : ∃ o, ops.toList[n]? = some o := ⟨_, List.getElem?_eq_getElem (by omega)⟩
          obtain ⟨e, he, hb, hej⟩ := hmem n on hon j (hall j hjn')
          have := hdown n on hDn hon e he hb
          rw [hej, hD] at this; cases this
      rw [hDn, cond_false]
      obtain ⟨h1, h2, h3⟩ := step j o f' hjn' ho hap (fun i hi hm => by
        obtain ⟨e, he, hb, hei⟩ := hmem j o ho i hm
        exact hv i hi (by rw [← hei]; exact hedge e he hb))
      refine ⟨h2, ?_⟩
      unfold Oper.wp
      rw [h3, Oper.upon_value, h1, Fr.put (hd j hjn')]
      refine ⟨_, rfl, fun s hs => ?_, fun i hi hDi => ?_, ?_⟩
      · rw [fr_ne _ _ _ (fun e => hs j hjn' e.symm)]; exact hap s hs
      · by_cases hij : i = j
        · subst hij; exact fr_same _ _ _
        · rw [fr_ne _ _ _ (fun e => hij (hinj i j hi hjn' e))]
          refine hv i hi ?_
          simpa [hij] using hDi
      · have : ¬ n = j := by omega
        simp [this, hDn]
    · have : j = n := by omega
      subst this
      rw [hD, cond_false]
      have hvall : ∀ i, i < j → f' (dst i) = vs i := fun i hi => by
        obtain ⟨e, he, hb, hei⟩ := hmem j o ho i (hall i hi)
        exact hv i hi (by rw [← hei]; exact hedge e he hb)
      obtain ⟨h1, h2, h3⟩ := hst o f' ho hap hvall
      refine ⟨h2, ?_⟩
      unfold Oper.wp
      rw [h3, Oper.upon_skip, h1]
      exact ⟨f', rfl, hap, fun i hi _ => hvall i hi, by simp⟩
  · obtain ⟨f', rfl, hap, hv, rfl⟩ := hI
    have hsz : ops.size = n + 1 := by rw [← Array.length_toList, hol]
    rw [hA n (by omega), cond_true]
    exact hQ f' hap fun j hj => hv j hj (hA j (by omega))
theorem reg_draw {ops : Array Oper} {id N n : Nat} {f : Nat → Value} {w : World} {Q : Exit → Act → World → Prop} (deps : List (List Nat)) (haft : (ops.toList.map fun o => (o.after.toList.filter fun e => Region.binds .any e).map (·.on)) = deps) (hlen : deps.length = n)
    (hlt : ∀ j, j < n → ∀ i, i ∈ deps.getD j [] → i < j) (dst : Nat → Nat) (vs : Nat → Value) (hd : ∀ j, j < n → dst j < N) (hinj : ∀ i j, i < n → j < n → dst i = dst j → i = j)
    (step : ∀ j o f', j < n → ops.toList[j]? = some o → Apart n dst f f' → (∀ i, i < n → i ∈ deps.getD j [] → f' (dst i) = vs i) → o.dst = some (dst j) ∧ o.guard = none ∧ (execOp (Fr N f' []).eval o).run Try.prog w.drew = .ok (.value (vs j)) w.drew)
    (hQ : ∀ f', Apart n dst f f' → (∀ j, j < n → f' (dst j) = vs j) → Q .normal (Fr N f' []) w.drew) : (Code.region id ops true).wp Try.prog Q (Fr N f []) w := by
  have hol : ops.toList.length = n := by
    have := congrArg List.length haft
    rw [List.length_map, hlen] at this
    exact this
  have hget : ∀ j o, ops.toList[j]? = some o → deps.getD j [] = (o.after.toList.filter fun e => Region.binds .any e).map (·.on) := fun j o ho => by
    rw [List.getD_eq_getElem?_getD, ← haft, List.getElem?_map, ho]; rfl
  have hmem : ∀ j o, ops.toList[j]? = some o → ∀ i, i ∈ deps.getD j [] → ∃ e, e ∈ o.after.toList ∧ Region.binds .any e = true ∧ e.on = i := fun j o ho i hi => by
    rw [hget j o ho] at hi
    obtain ⟨e, he, rfl⟩ := List.mem_map.1 hi
    have := List.mem_filter.1 he
    exact ⟨e, this.1, this.2, rfl⟩
  have hjn : ∀ j o, ops.toList[j]? = some o → j < n := fun j o ho => by rw [← hol]; exact (List.getElem?_eq_some_iff.1 ho).1
  refine region_inv (Checked.mixed Try.checked) (fun j o ho e he hb => ?_) (fun D a w' => ∃ f', a = Fr N f' [] ∧ Apart n dst f f' ∧ (∀ j, j < n → D j = true → f' (dst j) = vs j) ∧ w' = w.drew)
    (fun D j o a w' ho hD hedge hdown hI => ?_) (fun D a w' hA hI => ?_) ⟨f, rfl, fun _ _ => rfl, fun _ _ h => by (cases h), rfl⟩
  · refine hlt j (hjn j o ho) e.on ?_
    rw [hget j o ho]
    exact List.mem_map.2 ⟨e, List.mem_filter.2 ⟨he, hb⟩, rfl⟩
  · obtain ⟨f', rfl, hap, hv, rfl⟩ := hI
    have hj := hjn j o ho
    obtain ⟨h1, h2, h3⟩ := step j o f' hj ho hap (fun i hi hm => by
      obtain ⟨e, he, hb, hei⟩ := hmem j o ho i hm
      exact hv i hi (by rw [← hei]; exact hedge e he hb))
    refine ⟨h2, ?_⟩
    unfold Oper.wp
    rw [h3, Oper.upon_value, h1, Fr.put (hd j hj)]
    refine ⟨_, rfl, fun s hs => ?_, fun i hi hDi => ?_, rfl⟩
    · rw [fr_ne _ _ _ (fun e => hs j hj e.symm)]; exact hap s hs
    · by_cases hij : i = j
      · subst hij; exact fr_same _ _ _
      · rw [fr_ne _ _ _ (fun e => hij (hinj i j hi hj e))]
        refine hv i hi ?_
        simpa [hij] using hDi
  · obtain ⟨f', rfl, hap, hv, rfl⟩ := hI
    have hsz : ops.size = n := by rw [← Array.length_toList, hol]
    exact hQ f' hap fun j hj => hv j hj (hA j (by omega))
end Go.Proofs.Ytbapfiaglcllnaa.D
end

section
namespace Go.Proofs.Ytbapfiaglcllnaa.D.Rs
set_option maxRecDepth 10000
open Go Go.GD Go.Proofs
noncomputable def ops117 (n : Nat) : Array Oper := ((Try.f117.body).bind (regOf n)).getD #[]
noncomputable abbrev R (n : Nat) : Code := .region n (ops117 n) false
theorem sh0 : shg (ops117 0).toList = [(.move (.tmp 0), some 11, none), (.load 98 (.tmp 1), some 12, none), (.call { callee := .builtin .len, args := #[(.tmp 12)], argTypes := #[98] }, some 13, none), (.binOp .eql 3 (.tmp 11) (.tmp 13) 3, some 14, none)] := by kernel_rfl
theorem sh1 : shg (ops117 1).toList = [(.slice 152 (.tmp 2) none none none, some 15, none), (.call { callee := .value (.func 118), args := #[(.tmp 15)], argTypes := #[22] }, some 16, none), (.assign (.tmp 16), some 9, none)] := by kernel_rfl
theorem sh2 : shg (ops117 2).toList = [(.load 3 (.tmp 3), some 17, none), (.binOp .lss 3 (.tmp 17) (.const (.int .i64 0)) 3, some 18, none), (.move (.tmp 18), some 19, none), (.move (.tmp 9), some 20, some (2, false)), (.load 3 (.tmp 3), some 21, some (2, false)), (.binOp .lss 3 (.tmp 20) (.tmp 21) 3, some 22, some (2, false)), (.pick (.tmp 19) (.const (.bool true)) (.tmp 22), some 23, none)] := by kernel_rfl
theorem sh3 : shg (ops117 3).toList = [(.move (.tmp 9), some 24, none), (.store 3 (.tmp 3) (.tmp 24), none, none)] := by kernel_rfl
theorem sh4 : shg (ops117 4).toList = [(.load 22 (.tmp 4), some 25, none), (.load 22 (.tmp 5), some 26, none), (.call { callee := .builtin .copy, args := #[(.tmp 25), (.tmp 26)], argTypes := #[22, 22] }, some 27, none)] := by kernel_rfl
theorem sh5 : shg (ops117 5).toList = [(.assign (.const (.int .i64 1)), some 10, none)] := by kernel_rfl
theorem sh6 : shg (ops117 6).toList = [(.move (.tmp 10), some 28, none), (.load 3 (.tmp 6), some 29, none), (.binOp .leq 3 (.tmp 28) (.tmp 29) 3, some 30, none)] := by kernel_rfl
theorem sh8 : shg (ops117 8).toList = [(.load 22 (.tmp 5), some 33, none), (.move (.tmp 0), some 34, none), (.move (.tmp 10), some 35, none), (.indexAddr 22 (.tmp 33) (.tmp 34), some 36, none), (.store 3 (.tmp 36) (.tmp 35), none, none)] := by kernel_rfl
theorem sh9 : shg (ops117 9).toList = [(.move (.tmp 10), some 37, none), (.indexAddr 152 (.tmp 2) (.tmp 37), some 38, none), (.load 3 (.tmp 38), some 39, none), (.load 98 (.tmp 1), some 40, none), (.move (.tmp 0), some 41, none), (.indexAddr 98 (.tmp 40) (.tmp 41), some 42, none), (.fieldAddr 97 (.tmp 42) 2, some 43, none), (.load 3 (.tmp 43), some 44, none), (.binOp .add 3 (.tmp 39) (.tmp 44) 3, some 45, none), (.indexAddr 152 (.tmp 2) (.tmp 37), some 46, none), (.store 3 (.tmp 46) (.tmp 45), none, none)] := by kernel_rfl
theorem sh10 : shg (ops117 10).toList = [(.load 156 (.tmp 7), some 47, none), (.move (.tmp 0), some 48, none), (.binOp .add 3 (.tmp 48) (.const (.int .i64 1)) 3, some 49, none), (.call { callee := .value (.tmp 47), args := #[(.tmp 49)], argTypes := #[3] }, some 50, none)] := by kernel_rfl
theorem sh11 : shg (ops117 11).toList = [(.move (.tmp 10), some 51, none), (.indexAddr 152 (.tmp 2) (.tmp 51), some 52, none), (.load 3 (.tmp 52), some 53, none), (.load 98 (.tmp 1), some 54, none), (.move (.tmp 0), some 55, none), (.indexAddr 98 (.tmp 54) (.tmp 55), some 56, none), (.fieldAddr 97 (.tmp 56) 2, some 57, none), (.load 3 (.tmp 57), some 58, none), (.binOp .sub 3 (.tmp 53) (.tmp 58) 3, some 59, none), (.indexAddr 152 (.tmp 2) (.tmp 51), some 60, none), (.store 3 (.tmp 60) (.tmp 59), none, none)] := by kernel_rfl
theorem sh7 : shg (ops117 7).toList = [(.move (.tmp 10), some 31, none), (.binOp .add 3 (.tmp 31) (.const (.int .i64 1)) 3, some 32, none), (.assign (.tmp 32), some 10, none)] := by kernel_rfl
noncomputable def round117 : Code := .seq (.seq (R 6) (.cond (.tmp 30) .skip (.exit 0))) (.seq (.block 1 (.seq (R 8) (.seq (.region 9 (ops117 9) true) (.seq (R 10) (.region 11 (ops117 11) true))))) (R 7))
theorem body117 : Try.f117.body = some (.seq (.seq (R 0) (.cond (.tmp 14) (.seq (R 1) (.seq (.seq (R 2) (.cond (.tmp 23) (.seq (R 3) (R 4)) .skip)) .ret)) .skip)) (.seq (R 5) (.block 0 (.loop round117)))) := by kernel_rfl
theorem size117 : Try.f117.ntmps = 61 := by kernel_rfl
theorem res117 : Try.f117.results.toList = [] := by kernel_rfl
theorem k117 : Callable Try.prog 117 := ⟨Try.f117, Try.func117, by kernel_rfl, by kernel_rfl⟩
theorem u98 : Try.prog.underlying 98 = some (TypeDesc.slice 97) := by kernel_rfl
theorem s98 : scalB Try.prog 98 = true := by kernel_rfl
theorem s156 : scalB Try.prog 156 = true := by kernel_rfl
theorem z97 : ∀ w, (sizeOf 97).run Try.prog w = .ok 3 w := fun w => by
  obtain ⟨e, he, hes⟩ := te_of (tab := tab) (T := 97) (s := 3) (by kernel_rfl)
  have := (tabOK.find he).sizeOf w
  rwa [hes] at this
theorem z3 : ∀ w, (sizeOf 3).run Try.prog w = .ok 1 w := fun w => scalB_size s3 w
theorem g_idx {T el : TypeId} {size : Nat} (hu : Try.prog.underlying T = some (.slice el)) (hs : ∀ w, (sizeOf el).run Try.prog w = .ok size w) (w : World) (ad : Addr) (hsp : ad.spot = none) (n cl i : Nat) (h : i < n) :
    (Instr.indexAt T (.slice (some ad) n cl) (.int .i64 i)).run Try.prog w = .ok (.pointer (some ⟨ad.block, ad.off + i * size, none⟩)) w := by
  have hsz := hs w
  have hu : (Go.underlying T).run Try.prog w = .ok (TypeDesc.slice el) w := by simp [Go.underlying, hu]
  simp [Instr.indexAt, asIntOf, hu, h, addr_add hsp, hsz]
theorem g_idxA (w : World) (b k : Nat) (h : k < 4) : (Instr.indexAt 152 (ptr b) (.int .i64 k)).run Try.prog w = .ok (.pointer (some ⟨b, k, none⟩)) w := by
  have hu : (Go.underlying 152).run Try.prog w = .ok (TypeDesc.array 4 3) w := by simp [Go.underlying]
  simp [Instr.indexAt, asIntOf, hu, Instr.sureAddr, addr_add]
  intro hk
  omega
abbrev rowI (xs : List Int) : List Value := xs.map (Value.int .i64)
structure S where
  now : List Int
  best : List Int
  fin : Int
  busy : List Int
abbrev Sec := Int × Int × Int
noncomputable def roundsR (rec : S → Option S) (sec : Int) (i : Nat) (teams : Int) : Nat → Nat → S → Option S
  | 0, _, _ => none
  | m + 1, team, s =>
    bif decide ((team : Int) ≤ teams) then
      bif Nat.blt team 4 then
        (rec ⟨s.now.set i team, s.best, s.fin, s.busy.set team (IntKind.i64.wrap (s.busy.getD team 0 + sec))⟩).bind fun s1 =>
        roundsR rec sec i teams m (team + 1) ⟨s1.now, s1.best, s1.fin, s1.busy.set team (IntKind.i64.wrap (s1.busy.getD team 0 - sec))⟩
      else none
    else some s
noncomputable def tryR (need : List Sec) (teams : Int) : Nat → Nat → S → Option S
  | 0, _, _ => none
  | n + 1, i, s =>
    bif ((i : Int) == (need.length : Int)) then (d118 s.busy).bind fun last =>
      bif decide (s.fin < 0) || decide (last < s.fin) then some ⟨s.now, s.now, last, s.busy⟩ else some s
    else match need[i]? with
      | some x => roundsR (tryR need teams n (i + 1)) x.2.2 i teams 10 1 s
      | none => none
structure Rq where
  w0 : World
  Ok : Nat → Prop
  bN : Nat
  bU : Nat
  bF : Nat
  bB : Nat
  bW : Nat
  bT : Nat
  bE : Nat
  rW : Nat
  rB : Nat
  vn : Value
  H : Nat
  need : List Sec
  teams : Int
def Rq.boxes (C : Rq) : List Nat := [C.bN, C.bU, C.bF, C.bB, C.bW, C.bT, C.bE, C.rW, C.rB]
def Rq.caps (C : Rq) : Array Value := #[ptr C.bN, ptr C.bU, ptr C.bF, ptr C.bB, ptr C.bW, ptr C.bT, ptr C.bE]
abbrev secTy : Ty := .pair (.int .i64) (.pair (.int .i64) (.int .i64))
structure Rq.OK (C : Rq) : Prop where
  nd : C.boxes.Nodup
  need : RepC Try.prog (.sl secTy) C.w0 C.Ok [C.vn] C.need
structure ValsR (C : Rq) (s : S) (vals : Nat → List Value) : Prop where
  n : vals C.bN = [C.vn]
  u : vals C.bU = rowI s.busy
  f : vals C.bF = [.int .i64 s.fin]
  b : vals C.bB = [.slice (some ⟨C.rB, 0, none⟩) C.need.length C.need.length]
  w : vals C.bW = [.slice (some ⟨C.rW, 0, none⟩) C.need.length C.need.length]
  t : vals C.bT = [.int .i64 C.teams]
  e : vals C.bE = [.func (.func 117) #[] C.caps]
  rw : vals C.rW = rowI s.now
  rb : vals C.rB = rowI s.best
  lw : s.now.length = C.need.length
  lb : s.best.length = C.need.length
  lu : s.busy.length = 4
def Str (C : Rq) (s : S) (w : World) : Prop := ∃ vals, Hp C.boxes C.H C.w0 none vals w ∧ ValsR C s vals
section
variable {C : Rq} {s : S} {w w1 : World}
theorem Str.later (h : Str C s w) (k : Later w w1) : Str C s w1 := by
  obtain ⟨vals, hp, hv⟩ := h
  exact ⟨vals, hp.later k, hv⟩
theorem Str.setF (hC : C.OK) (h : Str C s w) (n : Int) : Str C { s with fin := n } (w.setRow C.bF #[.int .i64 n]) := by
  obtain ⟨vals, hp, hv⟩ := h
  have nd := hC.nd
  simp only [Rq.boxes, List.nodup_cons, List.mem_cons, not_or, List.not_mem_nil, not_false_eq_true, and_true, List.nodup_nil] at nd
  obtain ⟨⟨a1, a2, a3, a4, a5, a6, a7, a8⟩, ⟨b2, b3, b4, b5, b6, b7, b8⟩, ⟨c3, c4, c5, c6, c7, c8⟩, ⟨d4, d5, d6, d7, d8⟩, ⟨e5, e6, e7, e8⟩, ⟨f6, f7, f8⟩, ⟨g7, g8⟩, h8⟩ := nd
  exact ⟨_, hp.set (x := C.bF) (by simp [Rq.boxes]) [.int .i64 n], ⟨(putV_ne _ _ _ a2).trans hv.n, (putV_ne _ _ _ b2).trans hv.u, putV_same _ _ _, (putV_ne _ _ _ (fun e => c3 e.symm)).trans hv.b, (putV_ne _ _ _ (fun e => c4 e.symm)).trans hv.w, (putV_ne _ _ _ (fun e => c5 e.symm)).trans hv.t, (putV_ne _ _ _ (fun e => c6 e.symm)).trans hv.e, (putV_ne _ _ _ (fun e => c7 e.symm)).trans hv.rw, (putV_ne _ _ _ (fun e => c8 e.symm)).trans hv.rb, hv.lw, hv.lb, hv.lu⟩⟩
theorem Str.setU (hC : C.OK) (h : Str C s w) (xs : List Int) (hl : xs.length = 4) : Str C { s with busy := xs } (w.setRow C.bU (rowI xs).toArray) := by
  obtain ⟨vals, hp, hv⟩ := h
  have nd := hC.nd
  simp only [Rq.boxes, List.nodup_cons, List.mem_cons, not_or, List.not_mem_nil, not_false_eq_true, and_true, List.nodup_nil] at nd
  obtain ⟨⟨a1, a2, a3, a4, a5, a6, a7, a8⟩, ⟨b2, b3, b4, b5, b6, b7, b8⟩, ⟨c3, c4, c5, c6, c7, c8⟩, ⟨d4, d5, d6, d7, d8⟩, ⟨e5, e6, e7, e8⟩, ⟨f6, f7, f8⟩, ⟨g7, g8⟩, h8⟩ := nd
  exact ⟨_, hp.set (x := C.bU) (by simp [Rq.boxes]) (rowI xs), ⟨(putV_ne _ _ _ a1).trans hv.n, putV_same _ _ _, (putV_ne _ _ _ (fun e => b2 e.symm)).trans hv.f, (putV_ne _ _ _ (fun e => b3 e.symm)).trans hv.b, (putV_ne _ _ _ (fun e => b4 e.symm)).trans hv.w, (putV_ne _ _ _ (fun e => b5 e.symm)).trans hv.t, (putV_ne _ _ _ (fun e => b6 e.symm)).trans hv.e, (putV_ne _ _ _ (fun e => b7 e.symm)).trans hv.rw, (putV_ne _ _ _ (fun e => b8 e.symm)).trans hv.rb, hv.lw, hv.lb, hl⟩⟩
theorem Str.setW (hC : C.OK) (h : Str C s w) (xs : List Int) (hl : xs.length = C.need.length) : Str C { s with now := xs } (w.setRow C.rW (rowI xs).toArray) := by
  obtain ⟨vals, hp, hv⟩ := h
  have nd := hC.nd
  simp only [Rq.boxes, List.nodup_cons, List.mem_cons, not_or, List.not_mem_nil, not_false_eq_true, and_true, List.nodup_nil] at nd
  obtain ⟨⟨a1, a2, a3, a4, a5, a6, a7, a8⟩, ⟨b2, b3, b4, b5, b6, b7, b8⟩, ⟨c3, c4, c5, c6, c7, c8⟩, ⟨d4, d5, d6, d7, d8⟩, ⟨e5, e6, e7, e8⟩, ⟨f6, f7, f8⟩, ⟨g7, g8⟩, h8⟩ := nd
  exact ⟨_, hp.set (x := C.rW) (by simp [Rq.boxes]) (rowI xs), ⟨(putV_ne _ _ _ a7).trans hv.n, (putV_ne _ _ _ b7).trans hv.u, (putV_ne _ _ _ c7).trans hv.f, (putV_ne _ _ _ d7).trans hv.b, (putV_ne _ _ _ e7).trans hv.w, (putV_ne _ _ _ f7).trans hv.t, (putV_ne _ _ _ g7).trans hv.e, putV_same _ _ _, (putV_ne _ _ _ (fun e => h8 e.symm)).trans hv.rb, hl, hv.lb, hv.lu⟩⟩
theorem Str.setB (hC : C.OK) (h : Str C s w) (xs : List Int) (hl : xs.length = C.need.length) : Str C { s with best := xs } (w.setRow C.rB (rowI xs).toArray) := by
  obtain ⟨vals, hp, hv⟩ := h
  have nd := hC.nd
  simp only [Rq.boxes, List.nodup_cons, List.mem_cons, not_or, List.not_mem_nil, not_false_eq_true, and_true, List.nodup_nil] at nd
  obtain ⟨⟨a1, a2, a3, a4, a5, a6, a7, a8⟩, ⟨b2, b3, b4, b5, b6, b7, b8⟩, ⟨c3, c4, c5, c6, c7, c8⟩, ⟨d4, d5, d6, d7, d8⟩, ⟨e5, e6, e7, e8⟩, ⟨f6, f7, f8⟩, ⟨g7, g8⟩, h8⟩ := nd
  exact ⟨_, hp.set (x := C.rB) (by simp [Rq.boxes]) (rowI xs), ⟨(putV_ne _ _ _ a8).trans hv.n, (putV_ne _ _ _ b8).trans hv.u, (putV_ne _ _ _ c8).trans hv.f, (putV_ne _ _ _ d8).trans hv.b, (putV_ne _ _ _ e8).trans hv.w, (putV_ne _ _ _ f8).trans hv.t, (putV_ne _ _ _ g8).trans hv.e, (putV_ne _ _ _ h8).trans hv.rw, putV_same _ _ _, hv.lw, hl, hv.lu⟩⟩
theorem Str.cells (hS : Str C s w) : w.cell? ⟨C.bN, 0, none⟩ = some C.vn ∧ w.cell? ⟨C.bF, 0, none⟩ = some (.int .i64 s.fin) ∧ w.cell? ⟨C.bB, 0, none⟩ = some (.slice (some ⟨C.rB, 0, none⟩) C.need.length C.need.length) ∧
    w.cell? ⟨C.bW, 0, none⟩ = some (.slice (some ⟨C.rW, 0, none⟩) C.need.length C.need.length) ∧ w.cell? ⟨C.bT, 0, none⟩ = some (.int .i64 C.teams) ∧ w.cell? ⟨C.bE, 0, none⟩ = some (.func (.func 117) #[] C.caps) := by
  obtain ⟨vals, hp, hv⟩ := hS
  exact ⟨hp.cell1 (by simp [Rq.boxes]) hv.n, hp.cell1 (by simp [Rq.boxes]) hv.f, hp.cell1 (by simp [Rq.boxes]) hv.b, hp.cell1 (by simp [Rq.boxes]) hv.w, hp.cell1 (by simp [Rq.boxes]) hv.t, hp.cell1 (by simp [Rq.boxes]) hv.e⟩
theorem Str.rows (hS : Str C s w) : (∃ e, w.heap[C.bU]? = some (.cells (rowI s.busy).toArray e (0, 0))) ∧ (∃ v e, w.heap[C.bF]? = some (.cells #[v] e (0, 0))) ∧ (∃ e, w.heap[C.rW]? = some (.cells (rowI s.now).toArray e (0, 0))) ∧ ∃ e, w.heap[C.rB]? = some (.cells (rowI s.best).toArray e (0, 0)) := by
  obtain ⟨vals, hp, hv⟩ := hS
  obtain ⟨e1, h1⟩ := hp.at_ C.bU (by simp [Rq.boxes])
  obtain ⟨e2, h2⟩ := hp.row1 (b := C.bF) (by simp [Rq.boxes]) hv.f
  obtain ⟨e3, h3⟩ := hp.at_ C.rW (by simp [Rq.boxes])
  obtain ⟨e4, h4⟩ := hp.at_ C.rB (by simp [Rq.boxes])
  rw [hv.u] at h1
  rw [hv.rw] at h3
  rw [hv.rb] at h4
  exact ⟨⟨e1, h1⟩, ⟨_, e2, h2⟩, ⟨e3, h3⟩, e4, h4⟩
theorem Str.lens (hS : Str C s w) : s.now.length = C.need.length ∧ s.best.length = C.need.length ∧ s.busy.length = 4 := by
  obtain ⟨vals, hp, hv⟩ := hS
  exact ⟨hv.lw, hv.lb, hv.lu⟩
theorem Str.mono0 (hS : Str C s w) : Mono C.w0 C.Ok w (ShB C.w0 C.Ok C.boxes none) := by
  obtain ⟨vals, hp, _⟩ := hS
  exact shB_old hp
theorem Rq.OK.vn (hC : C.OK) : ∃ a cap, C.vn = .slice a C.need.length cap ∧ ShareS 3 C.w0 C.Ok (RepC Try.prog secTy C.w0 C.Ok) a C.need.length cap C.need := by
  obtain ⟨a, len, cap, h1, h2⟩ := hC.need
  simp only [List.cons.injEq, and_true] at h1
  have := h2.1
  subst this
  exact ⟨a, cap, h1, h2⟩
theorem rowI_set (xs : List Int) (i : Nat) (v : Int) : rowI (xs.set i v) = (rowI xs).set i (.int .i64 v) := by
  unfold rowI; rw [List.map_set]
theorem splice_one (cs : List Value) (i : Nat) (v : Value) (h : i < cs.length) : splice cs i [v] = cs.set i v := by
  apply List.ext_getElem?
  intro j
  rw [getElem?_splice _ _ _ _ (by simp; omega), List.getElem?_set]
  simp only [List.length_cons, List.length_nil]
  by_cases h1 : j < i
  · rw [if_pos h1, if_neg (by omega)]
  · by_cases h2 : i = j
    · subst h2; rw [if_neg (by omega), if_pos (by omega), if_pos rfl, if_pos h]; simp
    · rw [if_neg h1, if_neg (by omega), if_neg h2]
theorem splice_whole (cs ys : List Value) (h : ys.length = cs.length) : splice cs 0 ys = ys := by
  unfold splice; simp [h]
end
end Go.Proofs.Ytbapfiaglcllnaa.D.Rs
end

section
namespace Go.Proofs.Ytbapfiaglcllnaa.D.Rs
set_option maxRecDepth 10000
open Go Go.GD Go.Proofs
structure FR (C : Rq) (i : Nat) (f : Nat → Value) : Prop where
  t0 : f 0 = .int .i64 i
  t1 : f 1 = ptr C.bN
  t2 : f 2 = ptr C.bU
  t3 : f 3 = ptr C.bF
  t4 : f 4 = ptr C.bB
  t5 : f 5 = ptr C.bW
  t6 : f 6 = ptr C.bT
  t7 : f 7 = ptr C.bE
theorem FR.keep {C : Rq} {i : Nat} {f f' : Nat → Value} (h : FR C i f) (k : KeepN 8 f f') : FR C i f' :=
  ⟨(k 0 (by decide)).trans h.t0, (k 1 (by decide)).trans h.t1, (k 2 (by decide)).trans h.t2, (k 3 (by decide)).trans h.t3, (k 4 (by decide)).trans h.t4, (k 5 (by decide)).trans h.t5, (k 6 (by decide)).trans h.t6, (k 7 (by decide)).trans h.t7⟩
def depsS : List (List Nat) := [[], [0], [1], [], [], [3, 4], [5], [6], [2, 7], [0, 0, 1, 2, 3, 4, 5, 6, 7, 8], [9, 8, 0, 1, 2, 3, 4, 5, 6, 7, 8]]
theorem aft9 : ((ops117 9).toList.map fun o => (o.after.toList.filter fun e => Region.binds .any e).map (·.on)) = depsS := by kernel_rfl
theorem aft11 : ((ops117 11).toList.map fun o => (o.after.toList.filter fun e => Region.binds .any e).map (·.on)) = depsS := by kernel_rfl
theorem deps_lt : ∀ j, j < 11 → ∀ i, i ∈ depsS.getD j [] → i < j := by decide
theorem deps_all : ∀ i, i < 10 → i ∈ depsS.getD 10 [] := by decide
theorem gd2 : ((ops117 2)[2]?).bind (·.dst) = some 19 := by kernel_rfl
theorem fl2 (w : World) (b o : Nat) : (Instr.fieldAt 97 (.pointer (some ⟨b, o, none⟩)) 2).run Try.prog w = .ok (.pointer (some ⟨b, o + 2, none⟩)) w := Nt.g_fld 97 2 2 3 1 (by kernel_rfl) (by kernel_rfl) (by decide) w b o
section
variable {C : Rq} {s : S} {w : World} {i : Nat} {f : Nat → Value} {Q : Exit → Act → World → Prop}
theorem regU (hC : C.OK) {rg : Nat} {d0 : Nat} {op : BinOp} {v : Int} (haft : ((ops117 rg).toList.map fun o => (o.after.toList.filter fun e => Region.binds .any e).map (·.on)) = depsS) (hd0 : 37 ≤ d0 ∧ d0 + 10 ≤ 61)
    (hsh : shg (ops117 rg).toList = [(.move (.tmp 10), some d0, none), (.indexAddr 152 (.tmp 2) (.tmp d0), some (d0 + 1), none), (.load 3 (.tmp (d0 + 1)), some (d0 + 2), none), (.load 98 (.tmp 1), some (d0 + 3), none), (.move (.tmp 0), some (d0 + 4), none), (.indexAddr 98 (.tmp (d0 + 3)) (.tmp (d0 + 4)), some (d0 + 5), none), (.fieldAddr 97 (.tmp (d0 + 5)) 2, some (d0 + 6), none), (.load 3 (.tmp (d0 + 6)), some (d0 + 7), none), (.binOp op 3 (.tmp (d0 + 2)) (.tmp (d0 + 7)) 3, some (d0 + 8), none), (.indexAddr 152 (.tmp 2) (.tmp d0), some (d0 + 9), none), (.store 3 (.tmp (d0 + 9)) (.tmp (d0 + 8)), none, none)])
    (hF : FR C i f) (hS : Str C s w) {team : Nat} (h10 : f 10 = .int .i64 team) (ht : team < 4) {x : Sec} (hx : C.need[i]? = some x) (hop : ∀ w, (binOp op 3 (.int .i64 (s.busy.getD team 0)) (.int .i64 x.2.2)).run Try.prog w = .ok (.int .i64 v) w)
    (hQ : ∀ f' w', FR C i f' → f' 10 = .int .i64 team → Str C { s with busy := s.busy.set team v } w' → Q .normal (Fr 61 f' []) w') : (Code.region rg (ops117 rg) true).wp Try.prog Q (Fr 61 f []) w := by
  obtain ⟨cN, _⟩ := hS.cells
  obtain ⟨⟨eU, hU⟩, _⟩ := hS.rows
  obtain ⟨_, _, hlu⟩ := hS.lens
  obtain ⟨aC, cC, hvn, h1, h2, h3⟩ := hC.vn
  obtain ⟨hlt, hxe⟩ := List.getElem?_eq_some_iff.1 hx
  rcases h3 with h3 | ⟨ad, rfl, hsp, hblt, hok, hrows⟩
  · omega
  obtain ⟨cs, g1, g2, g3⟩ := hrows i hlt
  rw [hxe] at g3
  obtain ⟨c1, c2, rfl, q1, c3, c4, rfl, q2, q3⟩ := g3
  have q1 : c1 = [.int .i64 x.1] := q1
  have q2 : c3 = [.int .i64 x.2.1] := q2
  have q3 : c4 = [.int .i64 x.2.2] := q3
  subst q1 q2 q3
  have hcell : w.cell? ⟨ad.block, ad.off + i * 3 + 2, none⟩ = some (.int .i64 x.2.2) := by
    have := g2 2 (by decide)
    have e := (hS.mono0.2 ad.block hblt hok).1
    simp only [World.cell?] at this ⊢
    rw [e]
    exact this
  have hcU : w.cell? ⟨C.bU, team, none⟩ = some (.int .i64 (s.busy.getD team 0)) := by
    rw [cell_of_block hU]
    simp [rowI, List.getElem?_map, List.getD_eq_getElem?_getD, List.getElem?_eq_getElem (show team < s.busy.length by omega)]
  let vs : Nat → Value := fun j => match j with
    | 0 => .int .i64 team
    | 1 => .pointer (some ⟨C.bU, team, none⟩)
    | 2 => .int .i64 (s.busy.getD team 0)
    | 3 => .slice (some ad) C.need.length cC
    | 4 => .int .i64 i
    | 5 => .pointer (some ⟨ad.block, ad.off + i * 3, none⟩)
    | 6 => .pointer (some ⟨ad.block, ad.off + i * 3 + 2, none⟩)
    | 7 => .int .i64 x.2.2
    | 8 => .int .i64 v
    | _ => .pointer (some ⟨C.bU, team, none⟩)
  have st1 := g_storeA (P := Try.prog) (tab := tab) (w := w.drew) tabOK Nt.t3 (b := C.bU) (off := team) (cs0 := rowI s.busy) (cs := [.int .i64 v]) (et := eU) (v := .int .i64 v) rfl rfl (fun v hv => by rw [List.mem_singleton.1 hv]; rfl) hU (by simp [rowI]; omega)
  rw [splice_one _ _ _ (by simp [rowI]; omega), ← rowI_set] at st1
  refine reg_drawS (n := 10) (w2 := w.drew.setRow C.bU (rowI (s.busy.set team v)).toArray) depsS haft rfl deps_lt deps_all (fun j => d0 + j) vs (fun j hj => by omega) (fun a b _ _ e => by omega) (fun j o f' hj ho hap hdep => ?_) (fun o f' ho hap hv => ?_) fun f' hap hv => ?_
  · have hsj := congrArg (fun l => l[j]?) hsh
    simp only [shg] at hsj
    rw [List.getElem?_map, ho] at hsj
    have a0 : f' 0 = .int .i64 i := (hap 0 (fun j _ => by show d0 + j ≠ _; omega)).trans hF.t0
    have a1 : f' 1 = ptr C.bN := (hap 1 (fun j _ => by show d0 + j ≠ _; omega)).trans hF.t1
    have a2 : f' 2 = ptr C.bU := (hap 2 (fun j _ => by show d0 + j ≠ _; omega)).trans hF.t2
    have a10 : f' 10 = .int .i64 team := (hap 10 (fun j _ => by show d0 + j ≠ _; omega)).trans h10
    have cN' : w.drew.cell? ⟨C.bN, 0, none⟩ = some (.slice (some ad) C.need.length cC) := cN.trans (by rw [hvn])
    have need : ∀ k, k ∈ depsS.getD j [] → k < 10 → f' (d0 + k) = vs k := fun k hk hk' => hdep k hk' hk
    have : j = 0 ∨ j = 1 ∨ j = 2 ∨ j = 3 ∨ j = 4 ∨ j = 5 ∨ j = 6 ∨ j = 7 ∨ j = 8 ∨ j = 9 := by omega
    rcases this with rfl | rfl | rfl | rfl | rfl | rfl | rfl | rfl | rfl | rfl <;> simp only [Option.map_some, List.getElem?_cons_zero, List.getElem?_cons_succ, Option.some.injEq, Prod.mk.injEq] at hsj <;> obtain ⟨e1, e2, e3⟩ := hsj <;> refine ⟨e2, e3, ?_⟩
    · simp [execOp, e1, Fr.tmp, a10, vs]
    · have d := need 0 (by decide) (by decide)
      simp only [execOp, e1]
      rw [Fr.tmp (by omega), Fr.tmp (by omega), a2, show f' d0 = .int .i64 team from d]
      simp [g_idxA _ _ _ ht, vs]
    · have d := need 1 (by decide) (by decide)
      simp only [execOp, e1]
      rw [Fr.tmp (by omega), show f' (d0 + 1) = .pointer (some ⟨C.bU, team, none⟩) from d]
      rw [Sem.run_bind, g_load s3 (w := w.drew) (v := .int .i64 (s.busy.getD team 0)) hcU]; rfl
    · simp only [execOp, e1]
      rw [Fr.tmp (by omega), a1]
      rw [Sem.run_bind, g_load s98 cN']; rfl
    · simp [execOp, e1, Fr.tmp, a0, vs]
    · have d := need 3 (by decide) (by decide)
      have d' := need 4 (by decide) (by decide)
      simp only [execOp, e1]
      rw [Fr.tmp (by omega), Fr.tmp (by omega), show f' (d0 + 3) = .slice (some ad) C.need.length cC from d, show f' (d0 + 4) = .int .i64 i from d']
      rw [Sem.run_bind, g_idx u98 z97 w.drew ad hsp C.need.length cC i hlt]; rfl
    · have d := need 5 (by decide) (by decide)
      simp only [execOp, e1]
      rw [Fr.tmp (by omega), show f' (d0 + 5) = .pointer (some ⟨ad.block, ad.off + i * 3, none⟩) from d]
      rw [Sem.run_bind, fl2]; rfl
    · have d := need 6 (by decide) (by decide)
      simp only [execOp, e1]
      rw [Fr.tmp (by omega), show f' (d0 + 6) = .pointer (some ⟨ad.block, ad.off + i * 3 + 2, none⟩) from d]
      rw [Sem.run_bind, g_load s3 (w := w.drew) (v := .int .i64 x.2.2) hcell]; rfl
    · have d := need 2 (by decide) (by decide)
      have d' := need 7 (by decide) (by decide)
      simp only [execOp, e1]
      rw [Fr.tmp (by omega), Fr.tmp (by omega), show f' (d0 + 2) = .int .i64 (s.busy.getD team 0) from d, show f' (d0 + 7) = .int .i64 x.2.2 from d']
      have hop' := hop w.drew
      simp only [List.getD_eq_getElem?_getD] at hop'
      simp [run_guard, hop', vs]
    · have d := need 0 (by decide) (by decide)
      simp only [execOp, e1]
      rw [Fr.tmp (by omega), Fr.tmp (by omega), a2, show f' d0 = .int .i64 team from d]
      simp [g_idxA _ _ _ ht, vs]
  · have hsj := congrArg (fun l => l[10]?) hsh
    simp only [shg] at hsj
    rw [List.getElem?_map, ho] at hsj
    simp only [Option.map_some, List.getElem?_cons_zero, List.getElem?_cons_succ, Option.some.injEq, Prod.mk.injEq] at hsj
    obtain ⟨e1, e2, e3⟩ := hsj
    refine ⟨e2, e3, ?_⟩
    simp only [execOp, e1]
    rw [Fr.tmp (by omega), Fr.tmp (by omega), show f' (d0 + 9) = .pointer (some ⟨C.bU, team, none⟩) from hv 9 (by decide), show f' (d0 + 8) = .int .i64 v from hv 8 (by decide)]
    simp [st1]
  · have hd : Later w w.drew := ⟨Nat.le_refl _, fun _ _ => rfl, ⟨rfl, rfl, rfl, Nat.le_succ _⟩⟩
    exact hQ f' _ (hF.keep fun k hk => hap k (fun j _ => by show d0 + j ≠ _; omega)) ((hap 10 (fun j _ => by show d0 + j ≠ _; omega)).trans h10) ((hS.later hd).setU hC _ (by rw [List.length_set]; exact hlu))
theorem reg1 (hF : FR C i f) (hS : Str C s w) {last : Int} (hl : d118 s.busy = some last) (hQ : ∀ f' w', FR C i f' → f' 9 = .int .i64 last → Str C s w' → Q .normal (Fr 61 f' []) w') : (R 1).wp Try.prog Q (Fr 61 f []) w := by
  obtain ⟨⟨eU, hU⟩, _⟩ := hS.rows
  obtain ⟨_, _, hlu⟩ := hS.lens
  refine reg_sh sh1 ?_
  have hsl : (Instr.sliceAt 152 (ptr C.bU) none none none).run Try.prog w = .ok (.slice (some ⟨C.bU, 0, none⟩) 4 4) w := by
    simp [Instr.sliceAt, underlying, Instr.sureAddr, Instr.sliceBounds, z3 w, addr_add]
  refine sh_val (v := .slice (some ⟨C.bU, 0, none⟩) 4 4) (w' := w) (by decide) (fun p hp => by
    simp only [execOp, hp]
    rw [Fr.tmp (by decide), hF.t2]
    simp [hsl]) ?_
  refine sh_call (g := 118) (args := #[.slice (some ⟨C.bU, 0, none⟩) 4 4]) (w' := w) (by decide) (fun p hp => by
    have kf : ∀ a : Act, a.eval (.func 118) = .func (.func 118) #[] #[] := fun _ => rfl
    simp [execOp, hp, resolve, Deferred.ofValue, invoke, kf, Fr.tmp, put_, k118.run]) ?_
  have hrep : RepC Try.prog (.sl (.int .i64)) w (fun _ => True) [.slice (some ⟨C.bU, 0, none⟩) 4 4] s.busy := by
    refine ⟨_, 4, 4, rfl, hlu, Nat.le_refl _, .inr ⟨_, rfl, rfl, heap_lt hU, trivial, fun j hj => ⟨[.int .i64 s.busy[j]], rfl, fun k hk => ?_, rfl⟩⟩⟩
    have hk : k < 1 := hk
    have : k = 0 := by omega
    subst this
    rw [cell_of_block hU]
    simp [rowI, List.getElem?_map, List.getElem?_eq_getElem hj, Ty.size]
  refine (does118 w (fun _ => True) [.slice (some ⟨C.bU, 0, none⟩) 4 4] s.busy last hrep hl).mono ?_
  rintro ex w1 ⟨us, g', rfl, ⟨_, _, hu⟩, z1, z2, _, z4⟩
  have hu : us = [.int .i64 last] := hu
  subst hu
  refine ⟨_, rfl, ?_⟩
  refine sh_assign (v := .int .i64 last) (by decide) (by simp [Fr.tmp, put_]; rfl) ?_
  exact hQ _ _ (hF.keep (by repeat (first | exact KeepN.refl _ _ | refine KeepN.put (by decide) ?_))) (fr_same _ _ _) (hS.later ⟨z1, z2, z4⟩)
theorem reg2 (hF : FR C i f) (hS : Str C s w) {last : Int} (h9 : f 9 = .int .i64 last) (hQ : ∀ f', FR C i f' → f' 9 = .int .i64 last → f' 23 = .bool (decide (s.fin < 0) || decide (last < s.fin)) → Q .normal (Fr 61 f' []) w) : (R 2).wp Try.prog Q (Fr 61 f []) w := by
  obtain ⟨_, cF, _⟩ := hS.cells
  refine reg_sh sh2 ?_
  refine sh_load (v := .int .i64 s.fin) (by decide) s3 (by rw [Fr.tmp (by decide)]; exact hF.t3) cF ?_
  refine sh_lss (k := .i64) (a := s.fin) (b := 0) (by decide) (by simp [Fr.tmp, put_]) rfl ?_
  refine sh_move (v := .bool (decide (s.fin < 0))) (by decide) (by simp [Fr.tmp, put_]) ?_
  cases hb : decide (s.fin < 0) with
  | true =>
    refine sh_off (s := 19) (by decide) gd2 (by decide) (.inl (by simp [put_])) ?_
    refine sh_off (s := 19) (by decide) gd2 (by decide) (.inl (by simp [put_])) ?_
    refine sh_off (s := 19) (by decide) gd2 (by decide) (.inl (by simp [put_])) ?_
    refine sh_pick (b := true) (v := .bool true) (by decide) (by simp [Fr.tmp, put_]) rfl ?_
    exact hQ _ (hF.keep (by repeat (first | exact KeepN.refl _ _ | refine KeepN.put (by decide) ?_))) (by simp [put_, h9]) (by rw [hb, Bool.true_or]; exact fr_same _ _ _)
  | false =>
    refine sh_on (s := 19) gd2 (by decide) (by simp [put_]) (sh_move (v := .int .i64 last) (by decide) (by simp [Fr.tmp, put_, h9]) ?_)
    refine sh_on (s := 19) gd2 (by decide) (by simp [put_]) (sh_load (v := .int .i64 s.fin) (by decide) s3 (by rw [Fr.tmp (by decide)]; simp only [put_]; exact hF.t3) cF ?_)
    refine sh_on (s := 19) gd2 (by decide) (by simp [put_]) (sh_lss (k := .i64) (a := last) (b := s.fin) (by decide) (by simp [Fr.tmp, put_]) (by simp [Fr.tmp, put_]) ?_)
    refine sh_pick (b := false) (v := .bool (decide (last < s.fin))) (by decide) (by simp [Fr.tmp, put_]) (by simp [Fr.tmp, put_]) ?_
    exact hQ _ (hF.keep (by repeat (first | exact KeepN.refl _ _ | refine KeepN.put (by decide) ?_))) (by simp [put_, h9]) (by rw [hb, Bool.false_or]; exact fr_same _ _ _)
theorem reg34 (hC : C.OK) (hF : FR C i f) (hS : Str C s w) {last : Int} (h9 : f 9 = .int .i64 last) (hQ : ∀ f' w', Str C ⟨s.now, s.now, last, s.busy⟩ w' → Q .normal (Fr 61 f' []) w') : (Code.seq (R 3) (R 4)).wp Try.prog Q (Fr 61 f []) w := by
  obtain ⟨_, ⟨v1, e1, r1⟩, _⟩ := hS.rows
  refine wp_seq (reg_sh sh3 ?_)
  refine sh_move (v := .int .i64 last) (by decide) (by simp [Fr.tmp, h9]) ?_
  refine sh_store (v := .int .i64 last) s3 (by rw [Fr.tmp (by decide)]; simp only [put_]; exact hF.t3) (by simp [Fr.tmp, put_]) rfl rfl r1 ?_
  have hS2 := hS.setF hC last
  generalize w.setRow C.bF #[Value.int .i64 last] = w2 at hS2
  obtain ⟨_, _, cB, cW, _⟩ := hS2.cells
  obtain ⟨_, _, ⟨eW, rW⟩, eB, rB⟩ := hS2.rows
  obtain ⟨lw, lb, _⟩ := hS2.lens
  have lw : s.now.length = C.need.length := lw
  have lb : s.best.length = C.need.length := lb
  have rW : w2.heap[C.rW]? = some (.cells (rowI s.now).toArray eW (0, 0)) := rW
  have rB : w2.heap[C.rB]? = some (.cells (rowI s.best).toArray eB (0, 0)) := rB
  show (Code.region 4 (ops117 4) false).wp Try.prog _ _ w2
  refine (reg_sh sh4 ?_)
  refine sh_load (v := .slice (some ⟨C.rB, 0, none⟩) C.need.length C.need.length) (by decide) s22 (by rw [Fr.tmp (by decide)]; simp only [put_]; exact hF.t4) cB ?_
  refine sh_load (v := .slice (some ⟨C.rW, 0, none⟩) C.need.length C.need.length) (by decide) s22 (by rw [Fr.tmp (by decide)]; simp only [put_]; exact hF.t5) cW ?_
  have hf : (Builtin.firstCells 1 C.need.length (.slice (some ⟨C.rW, 0, none⟩) C.need.length C.need.length)).run Try.prog w2 = .ok (rowI s.now).toArray w2 :=
    run_firstCells_some w2 1 _ ⟨C.rW, 0, none⟩ _ _ (rowI s.now) (by simp [rowI, lw]) (fun j v hj => by
      rw [addr_add rfl, Nat.zero_add, cell_of_block rW]; exact hj)
  have hcp := fun ty => run_copy_at (P := Try.prog) (w := w2) 22 ty 3 1 u22 z3 C.rB 0 C.need.length C.need.length (some ⟨C.rW, 0, none⟩) C.need.length C.need.length C.need.length (rowI s.now) (Nat.min_self _) hf (fun v hv => by
    obtain ⟨n, _, rfl⟩ := List.mem_map.1 hv; rfl) rB (by simp [rowI, lw, lb])
  rw [splice_whole _ _ (by simp [rowI, lw, lb])] at hcp
  refine sh_val (v := goInt C.need.length) (w' := w2.setRow C.rB (rowI s.now).toArray) (by decide) (fun p hp => by
    simp [execOp, hp, resolve, invoke, builtin, Fr.tmp, put_, hcp]) ?_
  exact hQ _ _ (hS2.setB hC s.now lw)
theorem reg8 (hC : C.OK) (hF : FR C i f) (hS : Str C s w) {team : Nat} (h10 : f 10 = .int .i64 team) (hi : i < C.need.length) (hQ : ∀ f' w', FR C i f' → f' 10 = .int .i64 team → Str C { s with now := s.now.set i team } w' → Q .normal (Fr 61 f' []) w') : (R 8).wp Try.prog Q (Fr 61 f []) w := by
  obtain ⟨_, _, _, cW, _⟩ := hS.cells
  obtain ⟨_, _, ⟨eW, rW⟩, _⟩ := hS.rows
  obtain ⟨lw, _⟩ := hS.lens
  refine reg_sh sh8 ?_
  refine sh_load (v := .slice (some ⟨C.rW, 0, none⟩) C.need.length C.need.length) (by decide) s22 (by rw [Fr.tmp (by decide)]; exact hF.t5) cW ?_
  refine sh_move (v := .int .i64 i) (by decide) (by simp [Fr.tmp, put_, hF.t0]) ?_
  refine sh_move (v := .int .i64 team) (by decide) (by simp [Fr.tmp, put_, h10]) ?_
  have hix := g_idx u22 z3 w ⟨C.rW, 0, none⟩ rfl C.need.length C.need.length i hi
  refine sh_val (v := .pointer (some ⟨C.rW, 0 + i * 1, none⟩)) (w' := w) (by decide) (fun p hp => by
    simp only [execOp, hp]
    rw [Fr.tmp (by decide), Fr.tmp (by decide)]
    simp only [put_]
    simp [hix]) ?_
  have st1 := g_storeA (P := Try.prog) (tab := tab) (w := w) tabOK Nt.t3 (b := C.rW) (off := 0 + i * 1) (cs0 := rowI s.now) (cs := [.int .i64 team]) (et := eW) (v := .int .i64 team) rfl rfl (fun v hv => by rw [List.mem_singleton.1 hv]; rfl) rW (by simp [rowI]; omega)
  rw [show 0 + i * 1 = i by omega, splice_one _ _ _ (by simp [rowI]; omega), ← rowI_set] at st1
  refine sh_skip (w' := w.setRow C.rW (rowI (s.now.set i team)).toArray) (fun p hp => by
    simp only [execOp, hp]
    rw [Fr.tmp (by decide), Fr.tmp (by decide)]
    simp only [put_]
    simp [st1]) ?_
  exact hQ _ _ (hF.keep (by repeat (first | exact KeepN.refl _ _ | refine KeepN.put (by decide) ?_))) (by simp [put_, h10]) (hS.setW hC _ (by rw [List.length_set]; exact lw))
def TriesR (C : Rq) (i : Nat) (rec : S → Option S) : Prop := ∀ s s' w, Str C s w → rec s = some s' →
  Calls Try.prog 117 (#[.int .i64 i] ++ C.caps) w fun ex w' => ∃ v, ex = .returned v ∧ Str C s' w'
set_option maxHeartbeats 2000000 in
theorem loop117 (hC : C.OK) {rec : S → Option S} (hi : i < C.need.length) (hM : C.need.length ≤ 1000000) (hrec : TriesR C (i + 1) rec) {x : Sec} (hx : C.need[i]? = some x) {s' : S} {m : Nat} (hF : FR C i f) (h10 : f 10 = .int .i64 (1 : Nat)) (hS : Str C s w) (hr : roundsR rec x.2.2 i C.teams m 1 s = some s')
    (hQ : ∀ f' w', Str C s' w' → Q .normal (Fr 61 f' []) w') : (Code.block 0 (.loop round117)).wp Try.prog Q (Fr 61 f []) w := by
  refine wp_block (wp_loop_nat (fun m a w => ∃ f s team, a = Fr 61 f [] ∧ FR C i f ∧ f 10 = .int .i64 (team : Nat) ∧ team ≤ 4 ∧ Str C s w ∧ roundsR rec x.2.2 i C.teams m team s = some s') (n0 := m) ⟨f, s, 1, rfl, hF, h10, by omega, hS, hr⟩ ?_)
  clear hr hS hF h10
  rintro m _ w ⟨f, s, team, rfl, hF, h10, ht4, hS, hr⟩
  cases m with
  | zero => cases hr
  | succ m =>
  refine ⟨m, rfl, ?_⟩
  unfold round117
  obtain ⟨_, _, _, _, cT, _⟩ := hS.cells
  refine wp_seq (wp_seq (reg_sh sh6 ?_))
  refine sh_move (v := .int .i64 (team : Int)) (by decide) (by simp [Fr.tmp, h10]) ?_
  refine sh_load (v := .int .i64 C.teams) (by decide) s3 (by rw [Fr.tmp (by decide)]; simp only [put_]; exact hF.t6) cT ?_
  refine sh_bin (k := .i64) (a := team) (b := C.teams) (v := .bool (decide ((team : Int) ≤ C.teams))) (by decide) (by simp [Fr.tmp, put_]) (by simp [Fr.tmp, put_]) (by simp [binOp, Op.intCmp]) ?_
  simp only [roundsR] at hr
  refine wp_cond_split (t := decide ((team : Int) ≤ C.teams)) (by rw [Fr.tmp (by decide), fr_same]) (fun ht => ?_) (fun ht => ?_)
  · rw [ht, cond_true] at hr
    cases hb : Nat.blt team 4 with
    | false => rw [hb] at hr; cases hr
    | true =>
    rw [hb, cond_true] at hr
    have hlt : team < 4 := by simpa [Nat.blt_eq] using hb
    obtain ⟨s1, hr1, hr2⟩ := Option.bind_eq_some_iff.1 hr
    refine Go.wp_skip ?_
    refine wp_seq (wp_block (wp_seq (reg8 hC (hF.keep (by repeat (first | exact KeepN.refl _ _ | refine KeepN.put (by decide) ?_))) hS (team := team) (by simp [put_, h10]) hi fun f1 w1 hF1 h10 hS1 => ?_)))
    refine wp_seq (regU hC (d0 := 37) (v := IntKind.i64.wrap (s.busy.getD team 0 + x.2.2)) aft9 (by decide) sh9 hF1 hS1 h10 hlt hx (fun w => by simp [binOp, Op.intArith]) fun f2 w2 hF2 h10 hS2 => ?_)
    obtain ⟨_, _, _, _, _, cE⟩ := hS2.cells
    refine wp_seq (reg_sh sh10 ?_)
    refine sh_load (v := .func (.func 117) #[] C.caps) (by decide) s156 (by rw [Fr.tmp (by decide)]; exact hF2.t7) cE ?_
    refine sh_move (v := .int .i64 i) (by decide) (by simp [Fr.tmp, put_, hF2.t0]) ?_
    refine sh_add (k := .i64) (a := i) (b := 1) (by decide) (by simp [Fr.tmp, put_]) rfl ?_
    have hw : IntKind.i64.wrap ((i : Int) + 1) = ((i + 1 : Nat) : Int) := by rw [wrap_i64 (by omega) (by omega)]; omega
    rw [hw]
    refine sh_call (g := 117) (args := #[.int .i64 ((i + 1 : Nat) : Int)] ++ C.caps) (w' := w2) (by decide) (fun p hp => by
      simp [execOp, hp, resolve, Deferred.ofValue, invoke, Fr.tmp, put_, k117.run]) ?_
    refine (hrec _ s1 w2 hS2 hr1).mono ?_
    rintro ex w3 ⟨v, rfl, hS3⟩
    refine ⟨v, rfl, ?_⟩
    refine regU hC (d0 := 51) (v := IntKind.i64.wrap (s1.busy.getD team 0 - x.2.2)) aft11 (by decide) sh11 (hF2.keep (by repeat (first | exact KeepN.refl _ _ | refine KeepN.put (by decide) ?_))) hS3 (by simp [put_, h10]) hlt hx (fun w => by simp [binOp, Op.intArith]) fun f4 w4 hF4 h10 hS4 => ?_
    refine (reg_sh sh7 ?_)
    refine sh_move (v := .int .i64 (team : Int)) (by decide) (by simp [Fr.tmp, h10]) ?_
    refine sh_add (k := .i64) (a := team) (b := 1) (by decide) (by simp [Fr.tmp, put_]) rfl ?_
    have hw : IntKind.i64.wrap ((team : Int) + 1) = ((team + 1 : Nat) : Int) := by rw [wrap_i64 (by omega) (by omega)]; omega
    rw [hw]
    refine sh_assign (v := .int .i64 ((team + 1 : Nat) : Int)) (by decide) (by simp [Fr.tmp, put_]) ?_
    exact ⟨_, _, team + 1, rfl, hF4.keep (by repeat (first | exact KeepN.refl _ _ | refine KeepN.put (by decide) ?_)), fr_same _ _ _, by omega, hS4, hr2⟩
  · rw [ht, cond_false] at hr
    injection hr with hr
    subst hr
    exact Go.wp_exit (hQ _ w hS)
end
theorem start117 (a : Value) (C : Rq) : ((#[a] ++ C.caps) ++ Array.replicate (Try.f117.ntmps - (#[a] ++ C.caps).size) undef).size = 61 := by
  rw [Array.size_append, Array.size_replicate, size117]; rfl
theorem try_does {C : Rq} (hC : C.OK) (hM : C.need.length ≤ 1000000) : ∀ n i, i ≤ C.need.length → TriesR C i (tryR C.need C.teams n i)
  | 0, _, _ => fun _ _ _ _ hr => by cases hr
  | n + 1, i, hi => by
    intro s s' w hS hr
    have ih := try_does hC hM n
    refine calls_of_wp Try.func117 body117 ?_
    rw [Fr.of (N := 61) (a := { tmps := (#[Value.int .i64 i] ++ C.caps) ++ Array.replicate (Try.f117.ntmps - (#[Value.int .i64 i] ++ C.caps).size) undef, defers := [] }) (start117 _ C)]
    simp only []
    generalize hf : (fun s => ((#[Value.int .i64 i] ++ C.caps) ++ Array.replicate (Try.f117.ntmps - (#[Value.int .i64 i] ++ C.caps).size) undef).getD s undef) = f
    have hF : FR C i f := by
      constructor <;> rw [← hf] <;> simp [Rq.caps]
    clear hf
    have ret : ∀ f' w', Str C s' w' → bodyPost Try.prog Try.f117 (fun ex w' => ∃ v, ex = .returned v ∧ Str C s' w') .normal (Fr 61 f' []) w' := fun f' w' h => by
      refine ⟨rfl, .tuple #[], ?_, .tuple #[], rfl, h⟩
      exact (run_results (vs := []) (by rw [res117]; rfl)).trans rfl
    simp only [tryR] at hr
    obtain ⟨cN, _⟩ := hS.cells
    obtain ⟨aC, cC, hvn, _⟩ := hC.vn
    rw [hvn] at cN
    refine wp_seq (wp_seq (reg_sh sh0 ?_))
    refine sh_move (v := .int .i64 i) (by decide) (by simp [Fr.tmp, hF.t0]) ?_
    refine sh_load (v := .slice aC C.need.length cC) (by decide) s98 (by rw [Fr.tmp (by decide)]; simp only [put_]; exact hF.t1) cN ?_
    refine sh_len (al := aC) (n := C.need.length) (cl := cC) (by decide) u98 (by simp [Fr.tmp, put_]) ?_
    refine sh_bin (k := .i64) (a := i) (b := C.need.length) (v := .bool ((i : Int) == (C.need.length : Int))) (by decide) (by simp [Fr.tmp, put_]) (by simp [Fr.tmp, put_]) (by simp [binOp, Op.intCmp]) ?_
    refine wp_cond_split (t := ((i : Int) == (C.need.length : Int))) (by rw [Fr.tmp (by decide), fr_same]) (fun ht => ?_) (fun ht => ?_)
    · rw [ht, cond_true] at hr
      obtain ⟨last, hl, hr⟩ := Option.bind_eq_some_iff.1 hr
      refine wp_seq (reg1 (hF.keep (by repeat (first | exact KeepN.refl _ _ | refine KeepN.put (by decide) ?_))) hS hl fun f1 w1 hF1 h9 hS1 => ?_)
      refine wp_seq (wp_seq (reg2 hF1 hS1 h9 fun f2 hF2 h9 h23 => ?_))
      refine wp_cond_split (t := (decide (s.fin < 0) || decide (last < s.fin))) (by rw [Fr.tmp (by decide)]; exact h23) (fun hb => ?_) (fun hb => ?_)
      · rw [hb, cond_true] at hr
        injection hr with hr
        subst hr
        exact reg34 hC hF2 hS1 h9 fun f3 w3 hS3 => Go.wp_ret (ret f3 w3 hS3)
      · rw [hb, cond_false] at hr
        injection hr with hr
        subst hr
        exact Go.wp_skip (Go.wp_ret (ret f2 w1 hS1))
    · rw [ht, cond_false] at hr
      split at hr
      case h_2 => cases hr
      rename_i x hx
      have hlt : i < C.need.length := (List.getElem?_eq_some_iff.1 hx).1
      refine Go.wp_skip (wp_seq (reg_sh sh5 ?_))
      refine sh_assign (v := .int .i64 1) (by decide) rfl ?_
      exact loop117 hC hlt hM (ih (i + 1) hlt) hx (hF.keep (by repeat (first | exact KeepN.refl _ _ | refine KeepN.put (by decide) ?_))) (fr_same _ _ _) hS hr ret
end Go.Proofs.Ytbapfiaglcllnaa.D.Rs
end

section
namespace Go.Proofs.Ytbapfiaglcllnaa.D.Rs
set_option maxRecDepth 10000
open Go Go.GD Go.Proofs
structure Hq (B : List Nat) (w0 : World) (vals : Nat → List Value) (w : World) : Prop where
  old : Later w0 w
  at_ : ∀ b, b ∈ B → w0.heap.size ≤ b ∧ ∃ e, w.heap[b]? = some (.cells (vals b).toArray e (0, 0))
theorem Hq.nil (w : World) (vals : Nat → List Value) : Hq [] w vals w := ⟨.refl w, fun _ h => by cases h⟩
section
variable {B : List Nat} {w0 w : World} {vals : Nat → List Value}
theorem Hq.alloc (h : Hq B w0 vals w) {b : Nat} (hb : w.heap.size = b) {cs : List Value} {c : Array Value} (hc : c = cs.toArray) (T : TypeId) : Hq (b :: B) w0 (putV vals b cs) (w.alloc (.cells c T (0, 0))) := by
  subst hb hc
  refine ⟨h.old.trans (Later.alloc _ _), fun b hb => ?_⟩
  rcases List.mem_cons.1 hb with rfl | hb
  · exact ⟨h.old.1, T, by rw [putV_same]; exact heap_alloc_new w _⟩
  · obtain ⟨h1, e, h2⟩ := h.at_ b hb
    have hlt := heap_lt h2
    exact ⟨h1, e, by rw [putV_ne _ _ _ (by omega)]; exact (heap_alloc_old w _ hlt).trans h2⟩
theorem Hq.set (h : Hq B w0 vals w) {x : Nat} (hx : x ∈ B) {cs : List Value} {c : Array Value} (hc : c = cs.toArray) : Hq B w0 (putV vals x cs) (w.setRow x c) := by
  subst hc
  obtain ⟨h0, _⟩ := h.at_ x hx
  refine ⟨h.old.setFresh h0 _, fun b hb => ?_⟩
  obtain ⟨h1, e, h2⟩ := h.at_ b hb
  by_cases hbx : b = x
  · subst hbx
    exact ⟨h1, e, by rw [putV_same]; exact setRow_heap w b _ _ e _ h2⟩
  · exact ⟨h1, e, by rw [putV_ne _ _ _ hbx]; exact (setRow_other _ _ _ _ hbx).trans h2⟩
theorem Hq.row1 (h : Hq B w0 vals w) {b : Nat} (hb : b ∈ B) {v : Value} (hv : vals b = [v]) : ∃ e, w.heap[b]? = some (.cells #[v] e (0, 0)) := by
  obtain ⟨_, e, he⟩ := h.at_ b hb
  rw [hv] at he
  exact ⟨e, he⟩
theorem Hq.hp (h : Hq B w0 vals w) {B' : List Nat} (hB : ∀ b, b ∈ B' → b ∈ B) {H : Nat} (hH : w.heap.size = H) : Hp B' H w0 none vals w := by
  refine ⟨fun b hb => ?_, by omega, h.old, by have := h.old.1; omega, fun b hb => (h.at_ b (hB b hb)).2, fun b hb => by cases hb⟩
  obtain ⟨h1, e, h2⟩ := h.at_ b (hB b hb)
  have := heap_lt h2
  omega
end
noncomputable def ops81 (n : Nat) : Array Oper := ((Try.f81.body).bind (regOf n)).getD #[]
noncomputable abbrev B (n : Nat) : Code := .region n (ops81 n) false
theorem sb0 : shg (ops81 0).toList = [(.box 98 (.tmp 0), some 2, none), (.box 3 (.tmp 1), some 3, none), (.assign (.const (.slice none 0 0)), some 4, none), (.assign (.const (.int .i64 0)), some 5, none)] := by kernel_rfl
theorem sb1 : shg (ops81 1).toList = [(.load 98 (.tmp 2), some 11, none), (.call { callee := .builtin .len, args := #[(.tmp 11)], argTypes := #[98] }, some 12, none), (.makeSlice 22 (.tmp 12) (.tmp 12), some 13, none), (.alloc 22, some 6, none), (.store 22 (.tmp 6) (.tmp 13), none, none)] := by kernel_rfl
theorem sb2 : shg (ops81 2).toList = [(.load 98 (.tmp 2), some 14, none), (.call { callee := .builtin .len, args := #[(.tmp 14)], argTypes := #[98] }, some 15, none), (.makeSlice 22 (.tmp 15) (.tmp 15), some 16, none), (.alloc 22, some 7, none), (.store 22 (.tmp 7) (.tmp 16), none, none)] := by kernel_rfl
theorem sb3 : shg (ops81 3).toList = [(.alloc 3, some 8, none), (.store 3 (.tmp 8) (.const (.int .i64 (-1))), none, none)] := by kernel_rfl
theorem sb4 : shg (ops81 4).toList = [(.alloc 152, some 9, none)] := by kernel_rfl
theorem sb5 : shg (ops81 5).toList = [(.alloc 156, some 10, none)] := by kernel_rfl
theorem sb6 : shg (ops81 6).toList = [(.makeFunc (.func 117) #[] #[(.tmp 2), (.tmp 9), (.tmp 8), (.tmp 7), (.tmp 6), (.tmp 3), (.tmp 10)], some 17, none), (.store 156 (.tmp 10) (.tmp 17), none, none)] := by kernel_rfl
theorem sb7 : shg (ops81 7).toList = [(.load 156 (.tmp 10), some 18, none), (.call { callee := .value (.tmp 18), args := #[(.const (.int .i64 0))], argTypes := #[3] }, some 19, none)] := by kernel_rfl
theorem sb8 : shg (ops81 8).toList = [(.load 22 (.tmp 7), some 20, none), (.load 3 (.tmp 8), some 21, none), (.assign (.tmp 20), some 4, none), (.assign (.tmp 21), some 5, none)] := by kernel_rfl
theorem body81 : Try.f81.body = some (.seq (B 0) (.seq (B 1) (.seq (B 2) (.seq (B 3) (.seq (B 4) (.seq (B 5) (.seq (B 6) (.seq (B 7) (.seq (.region 8 (ops81 8) true) .ret))))))))) := by kernel_rfl
theorem size81 : Try.f81.ntmps = 22 := by kernel_rfl
theorem res81 : Try.f81.results.toList = [.tmp 4, .tmp 5] := by kernel_rfl
theorem k81 : Callable Try.prog 81 := ⟨Try.f81, Try.func81, by kernel_rfl, by kernel_rfl⟩
theorem aft8 : ((ops81 8).toList.map fun o => (o.after.toList.filter fun e => Region.binds .any e).map (·.on)) = [[], [], [0, 0], [1, 2, 0, 1, 2]] := by kernel_rfl
theorem i22 : (Try.prog.info? 22).map (fun i => (i.zero, i.size, i.bytes)) = some (some (Value.slice none 0 0), 1, 24) := by kernel_rfl
theorem i3' : (Try.prog.info? 3).map (fun i => (i.zero, i.size, i.bytes)) = some (some (Value.int .i64 0), 1, 8) := by kernel_rfl
theorem i152 : (Try.prog.info? 152).map (fun i => (i.zero, i.size, i.bytes)) = some (some (Value.agg #[.int .i64 0, .int .i64 0, .int .i64 0, .int .i64 0]), 4, 32) := by kernel_rfl
theorem i156 : (Try.prog.info? 156).map (fun i => (i.zero, i.size, i.bytes)) = some (some Value.nilFunc, 1, 8) := by kernel_rfl
theorem res2 {f : Nat → Value} {a b : Value} (w : World) (h6 : f 4 = a) (h7 : f 5 = b) : (results Try.f81 (Fr 22 f []).tmps).run Try.prog w = .ok (.tuple #[a, b]) w := by
  have g : ∀ s v, s < 22 → f s = v → (Fr 22 f []).tmps[s]?.getD undef = v := fun s v hs h => by rw [← Array.getD_eq_getD_getElem?, Fr.get hs, h]
  refine (run_results (vs := [a, b]) (by
    rw [res81]
    simp [readOne, g 4 a (by decide) h6, g 5 b (by decide) h7])).trans rfl
theorem mk22 (w : World) (n : Nat) (hn : n ≤ 1000) : (Instr.makeSlice 22 (.int .i64 n) (.int .i64 n)).run Try.prog w = .ok (.slice (some ⟨w.heap.size, 0, none⟩) n n) (w.alloc (.cells (rowI (List.replicate n 0)).toArray 3 (0, 0))) := by
  obtain ⟨i, hi, hz, hs, hb⟩ := info_at i3'
  have := run_make (P := Try.prog) w 22 3 i (.int .i64 0) u22 hi hz .i64 .i64 (n : Int) (n : Int) (by omega) (by omega) (by rw [hb]; omega) (by omega)
  rw [hs] at this
  have e : madeCells (Value.int .i64 0).cells (n * 1) = (rowI (List.replicate n 0)).toArray := by
    apply Array.ext'
    rw [show (Value.int .i64 0).cells = #[Value.int .i64 0] from rfl, toList_madeCells_one]
    simp [rowI]
  rw [Int.toNat_natCast, e] at this
  exact this
noncomputable def assignR (x : List Sec × Int) : Option (List Int × Int) :=
  bif Nat.ble x.1.length 1000 then (tryR x.1 x.2 10 0 ⟨List.replicate x.1.length 0, List.replicate x.1.length 0, -1, [0, 0, 0, 0]⟩).bind fun s => some (s.best, s.fin) else none
set_option maxHeartbeats 4000000 in
theorem assign_does : Does Try.prog 81 [.sl secTy, .int .i64] [.sl (.int .i64), .int .i64] false assignR := by
  intro w Ok cs x y hX hy
  obtain ⟨need, teams⟩ := x
  obtain ⟨c1, c2, rfl, hA, hT⟩ := hX
  have hT : c2 = [.int .i64 teams] := hT
  subst hT
  obtain ⟨aa, la, ca, rfl, hA2⟩ := id hA
  have hla : need.length = la := hA2.1
  subst hla
  simp only [assignR] at hy
  cases hM : Nat.ble need.length 1000 with
  | false => rw [hM] at hy; cases hy
  | true =>
  rw [hM, cond_true] at hy
  have hM := Nat.le_of_ble_eq_true hM
  obtain ⟨s, hext, hy⟩ := Option.bind_eq_some_iff.1 hy
  injection hy with hy
  subst hy
  show Calls Try.prog 81 #[.slice aa need.length ca, .int .i64 teams] w _
  refine calls_of_wp Try.func81 body81 ?_
  have hsz : (#[Value.slice aa need.length ca, .int .i64 teams] ++ Array.replicate (Try.f81.ntmps - #[Value.slice aa need.length ca, .int .i64 teams].size) undef).size = 22 := by
    rw [Array.size_append, Array.size_replicate, size81]; rfl
  rw [Fr.of (N := 22) (a := { tmps := #[Value.slice aa need.length ca, .int .i64 teams] ++ Array.replicate (Try.f81.ntmps - #[Value.slice aa need.length ca, .int .i64 teams].size) undef, defers := [] }) hsz]
  simp only []
  generalize hf : (fun s => (#[Value.slice aa need.length ca, .int .i64 teams] ++ Array.replicate (Try.f81.ntmps - #[Value.slice aa need.length ca, .int .i64 teams].size) undef).getD s undef) = f
  have f0 : f 0 = .slice aa need.length ca := by rw [← hf]; simp
  have f1 : f 1 = .int .i64 teams := by rw [← hf]; simp
  clear hf hsz
  generalize hN : w.heap.size = N
  refine wp_seq (reg_sh sb0 ?_)
  refine sh_box (v := .slice aa need.length ca) (by decide) (by simp [Fr.tmp, f0]) rfl ?_
  refine sh_box (v := .int .i64 teams) (by decide) (by simp [Fr.tmp, put_, f1]) rfl ?_
  refine sh_assign (v := .slice none 0 0) (by decide) rfl ?_
  refine sh_assign (v := .int .i64 0) (by decide) rfl ?_
  have H := ((Hq.nil w (fun _ => [])).alloc hN (cs := [.slice aa need.length ca]) rfl 98).alloc (b := N + 1) (by rw [World.size_alloc, hN]) (cs := [.int .i64 teams]) rfl 3
  have z : ((w.alloc (.cells #[.slice aa need.length ca] 98 (0, 0))).alloc (.cells #[.int .i64 teams] 3 (0, 0))).heap.size = N + 2 := by rw [World.size_alloc, World.size_alloc, hN]
  have e1 : (w.alloc (.cells #[.slice aa need.length ca] 98 (0, 0))).heap.size = N + 1 := by rw [World.size_alloc, hN]
  rw [e1, hN]
  show (Code.seq (B 1) _).wp Try.prog _ _ ((w.alloc (.cells #[.slice aa need.length ca] 98 (0, 0))).alloc (.cells #[.int .i64 teams] 3 (0, 0)))
  generalize (w.alloc (.cells #[.slice aa need.length ca] 98 (0, 0))).alloc (.cells #[.int .i64 teams] 3 (0, 0)) = W at H z
  obtain ⟨eN, hbN⟩ := H.row1 (b := N) (v := .slice aa need.length ca) (by simp) (by simp [putV])
  refine wp_seq (reg_sh sb1 ?_)
  refine sh_load (v := .slice aa need.length ca) (by decide) s98 (by simp [Fr.tmp, put_]) (cell1 hbN) ?_
  refine sh_len (al := aa) (n := need.length) (cl := ca) (by decide) u98 (by simp [Fr.tmp, put_]) ?_
  refine sh_val (v := .slice (some ⟨W.heap.size, 0, none⟩) need.length need.length) (w' := W.alloc (.cells (rowI (List.replicate need.length 0)).toArray 3 (0, 0))) (by decide) (fun p hp => by
    simp [execOp, hp, Fr.tmp, put_, mk22 W need.length hM]) ?_
  have H := H.alloc z (cs := rowI (List.replicate need.length 0)) rfl 3
  have z1 : (W.alloc (.cells (rowI (List.replicate need.length 0)).toArray 3 (0, 0))).heap.size = N + 3 := by rw [World.size_alloc, z]
  rw [z]
  generalize W.alloc (.cells (rowI (List.replicate need.length 0)).toArray 3 (0, 0)) = W at H z1
  clear z
  refine sh_alloc i22 (by decide) ?_
  have H := H.alloc z1 (cs := [.slice none 0 0]) (c := (Value.slice none 0 0).cells) rfl 22
  have z : (W.alloc (.cells (Value.slice none 0 0).cells 22 (0, 0))).heap.size = N + 4 := by rw [World.size_alloc, z1]
  rw [z1]
  generalize W.alloc (.cells (Value.slice none 0 0).cells 22 (0, 0)) = W at H z
  clear z1
  obtain ⟨e3, h3⟩ := H.row1 (b := N + 3) (v := .slice none 0 0) (by simp) (by simp [putV])
  refine sh_store (v := .slice (some ⟨N + 2, 0, none⟩) need.length need.length) s22 (by simp [Fr.tmp, put_]) (by simp [Fr.tmp, put_]) rfl rfl h3 ?_
  have H := H.set (x := N + 3) (by simp) (cs := [.slice (some ⟨N + 2, 0, none⟩) need.length need.length]) rfl
  have z1 : (W.setRow (N + 3) #[.slice (some ⟨N + 2, 0, none⟩) need.length need.length]).heap.size = N + 4 := by rw [setRow_size, z]
  show (Code.seq (B 2) _).wp Try.prog _ _ (W.setRow (N + 3) #[.slice (some ⟨N + 2, 0, none⟩) need.length need.length])
  generalize W.setRow (N + 3) #[.slice (some ⟨N + 2, 0, none⟩) need.length need.length] = W at H z1
  clear z
  obtain ⟨eN, hbN⟩ := H.row1 (b := N) (v := .slice aa need.length ca) (by simp) (by simp [putV])
  refine wp_seq (reg_sh sb2 ?_)
  refine sh_load (v := .slice aa need.length ca) (by decide) s98 (by simp [Fr.tmp, put_]) (cell1 hbN) ?_
  refine sh_len (al := aa) (n := need.length) (cl := ca) (by decide) u98 (by simp [Fr.tmp, put_]) ?_
  refine sh_val (v := .slice (some ⟨W.heap.size, 0, none⟩) need.length need.length) (w' := W.alloc (.cells (rowI (List.replicate need.length 0)).toArray 3 (0, 0))) (by decide) (fun p hp => by
    simp [execOp, hp, Fr.tmp, put_, mk22 W need.length hM]) ?_
  have H := H.alloc z1 (cs := rowI (List.replicate need.length 0)) rfl 3
  have z : (W.alloc (.cells (rowI (List.replicate need.length 0)).toArray 3 (0, 0))).heap.size = N + 5 := by rw [World.size_alloc, z1]
  rw [z1]
  generalize W.alloc (.cells (rowI (List.replicate need.length 0)).toArray 3 (0, 0)) = W at H z
  clear z1
  refine sh_alloc i22 (by decide) ?_
  have H := H.alloc z (cs := [.slice none 0 0]) (c := (Value.slice none 0 0).cells) rfl 22
  have z1 : (W.alloc (.cells (Value.slice none 0 0).cells 22 (0, 0))).heap.size = N + 6 := by rw [World.size_alloc, z]
  rw [z]
  generalize W.alloc (.cells (Value.slice none 0 0).cells 22 (0, 0)) = W at H z1
  clear z
  obtain ⟨e3, h3⟩ := H.row1 (b := N + 5) (v := .slice none 0 0) (by simp) (by simp [putV])
  refine sh_store (v := .slice (some ⟨N + 4, 0, none⟩) need.length need.length) s22 (by simp [Fr.tmp, put_]) (by simp [Fr.tmp, put_]) rfl rfl h3 ?_
  have H := H.set (x := N + 5) (by simp) (cs := [.slice (some ⟨N + 4, 0, none⟩) need.length need.length]) rfl
  have z : (W.setRow (N + 5) #[.slice (some ⟨N + 4, 0, none⟩) need.length need.length]).heap.size = N + 6 := by rw [setRow_size, z1]
  show (Code.seq (B 3) _).wp Try.prog _ _ (W.setRow (N + 5) #[.slice (some ⟨N + 4, 0, none⟩) need.length need.length])
  generalize W.setRow (N + 5) #[.slice (some ⟨N + 4, 0, none⟩) need.length need.length] = W at H z
  clear z1
  refine wp_seq (reg_sh sb3 ?_)
  refine sh_alloc i3' (by decide) ?_
  have H := H.alloc z (cs := [.int .i64 0]) (c := (Value.int .i64 0).cells) rfl 3
  have z1 : (W.alloc (.cells (Value.int .i64 0).cells 3 (0, 0))).heap.size = N + 7 := by rw [World.size_alloc, z]
  rw [z]
  generalize W.alloc (.cells (Value.int .i64 0).cells 3 (0, 0)) = W at H z1
  clear z
  obtain ⟨e3, h3⟩ := H.row1 (b := N + 6) (v := .int .i64 0) (by simp) (by simp [putV])
  refine sh_store (v := .int .i64 (-1)) s3 (by simp [Fr.tmp, put_]) rfl rfl rfl h3 ?_
  have H := H.set (x := N + 6) (by simp) (cs := [.int .i64 (-1)]) rfl
  have z : (W.setRow (N + 6) #[.int .i64 (-1)]).heap.size = N + 7 := by rw [setRow_size, z1]
  show (Code.seq (B 4) _).wp Try.prog _ _ (W.setRow (N + 6) #[.int .i64 (-1)])
  generalize W.setRow (N + 6) #[.int .i64 (-1)] = W at H z
  clear z1
  refine wp_seq (reg_sh sb4 ?_)
  refine sh_alloc i152 (by decide) ?_
  have H := H.alloc z (cs := rowI [0, 0, 0, 0]) (c := (Value.agg #[.int .i64 0, .int .i64 0, .int .i64 0, .int .i64 0]).cells) rfl 152
  have z1 : (W.alloc (.cells (Value.agg #[.int .i64 0, .int .i64 0, .int .i64 0, .int .i64 0]).cells 152 (0, 0))).heap.size = N + 8 := by rw [World.size_alloc, z]
  rw [z]
  show (Code.seq (B 5) _).wp Try.prog _ _ (W.alloc (.cells (Value.agg #[.int .i64 0, .int .i64 0, .int .i64 0, .int .i64 0]).cells 152 (0, 0)))
  generalize W.alloc (.cells (Value.agg #[.int .i64 0, .int .i64 0, .int .i64 0, .int .i64 0]).cells 152 (0, 0)) = W at H z1
  clear z
  refine wp_seq (reg_sh sb5 ?_)
  refine sh_alloc i156 (by decide) ?_
  have H := H.alloc z1 (cs := [.nilFunc]) (c := Value.nilFunc.cells) rfl 156
  have z : (W.alloc (.cells Value.nilFunc.cells 156 (0, 0))).heap.size = N + 9 := by rw [World.size_alloc, z1]
  rw [z1]
  show (Code.seq (B 6) _).wp Try.prog _ _ (W.alloc (.cells Value.nilFunc.cells 156 (0, 0)))
  generalize W.alloc (.cells Value.nilFunc.cells 156 (0, 0)) = W at H z
  clear z1
  let C : Rq := { w0 := w, Ok := Ok, bN := N, bU := N + 7, bF := N + 6, bB := N + 5, bW := N + 3, bT := N + 1, bE := N + 8, rW := N + 2, rB := N + 4, vn := .slice aa need.length ca, H := N + 9, need := need, teams := teams }
  refine wp_seq (reg_sh sb6 ?_)
  refine sh_val (v := .func (.func 117) #[] C.caps) (w' := W) (by decide) (fun p hp => by
    simp [execOp, hp, Instr.makeFunc, Fr.tmp, put_]
    rfl) ?_
  obtain ⟨e3, h3⟩ := H.row1 (b := N + 8) (v := .nilFunc) (by simp) (by simp [putV])
  refine sh_store (v := .func (.func 117) #[] C.caps) s156 (by simp [Fr.tmp, put_]) (by simp [Fr.tmp, put_]) rfl rfl h3 ?_
  have H := H.set (x := N + 8) (by simp) (cs := [.func (.func 117) #[] C.caps]) rfl
  have z1 : (W.setRow (N + 8) #[.func (.func 117) #[] C.caps]).heap.size = N + 9 := by rw [setRow_size, z]
  show (Code.seq (B 7) _).wp Try.prog _ _ (W.setRow (N + 8) #[.func (.func 117) #[] C.caps])
  generalize W.setRow (N + 8) #[.func (.func 117) #[] C.caps] = W at H z1
  clear z
  have hC : C.OK := by
    refine ⟨?_, hA⟩
    show [N, N + 7, N + 6, N + 5, N + 3, N + 1, N + 8, N + 2, N + 4].Nodup
    simp only [List.nodup_cons, List.mem_cons, not_or, List.not_mem_nil, not_false_eq_true, and_true, List.nodup_nil]
    omega
  have hS : Str C ⟨List.replicate need.length 0, List.replicate need.length 0, -1, [0, 0, 0, 0]⟩ W := by
    refine ⟨_, H.hp (B' := C.boxes) (fun b hb => by
      have : b = N ∨ b = N + 7 ∨ b = N + 6 ∨ b = N + 5 ∨ b = N + 3 ∨ b = N + 1 ∨ b = N + 8 ∨ b = N + 2 ∨ b = N + 4 := by simpa [C, Rq.boxes] using hb
      simp only [List.mem_cons, List.not_mem_nil, or_false]
      omega) z1, ?_⟩
    refine ⟨?_, ?_, ?_, ?_, ?_, ?_, ?_, ?_, ?_, List.length_replicate, List.length_replicate, rfl⟩ <;> simp [putV, C]
  refine wp_seq (reg_sh sb7 ?_)
  obtain ⟨_, _, _, _, _, cE⟩ := hS.cells
  refine sh_load (v := .func (.func 117) #[] C.caps) (by decide) s156 (by simp [Fr.tmp, put_]; rfl) cE ?_
  refine sh_call (g := 117) (args := #[.int .i64 ((0 : Nat) : Int)] ++ C.caps) (w' := W) (by decide) (fun p hp => by
    simp [execOp, hp, resolve, Deferred.ofValue, invoke, Fr.tmp, Fr.const, put_, k117.run]) ?_
  refine (try_does hC (by show need.length ≤ _; omega) 10 0 (Nat.zero_le _) _ s W hS hext).mono ?_
  rintro ex w' ⟨v, rfl, hS'⟩
  refine ⟨v, rfl, ?_⟩
  obtain ⟨_, cF, cB, _⟩ := hS'.cells
  obtain ⟨_, _, _, eB, rB⟩ := hS'.rows
  obtain ⟨_, lb, _⟩ := hS'.lens
  have lb : s.best.length = need.length := lb
  let vs : Nat → Value := fun j => match j with
    | 0 => .slice (some ⟨C.rB, 0, none⟩) need.length need.length
    | 1 => .int .i64 s.fin
    | 2 => .slice (some ⟨C.rB, 0, none⟩) need.length need.length
    | _ => .int .i64 s.fin
  let dst : Nat → Nat := fun j => [20, 21, 4, 5].getD j 0
  refine wp_seq (reg_draw (n := 4) _ aft8 rfl (by decide) dst vs (by decide) (fun i j hi hj => (show ∀ i, i < 4 → ∀ j, j < 4 → dst i = dst j → i = j by decide) i hi j hj) (fun j o f' hj ho hap hdep => ?_) fun f' hap hv => ?_)
  · have hsj := congrArg (fun l => l[j]?) sb8
    simp only [shg] at hsj
    rw [List.getElem?_map, ho] at hsj
    have a7 : f' 7 = ptr C.bB := (hap 7 (by decide)).trans (by simp [put_]; rfl)
    have a8 : f' 8 = ptr C.bF := (hap 8 (by decide)).trans (by simp [put_]; rfl)
    have : j = 0 ∨ j = 1 ∨ j = 2 ∨ j = 3 := by omega
    rcases this with rfl | rfl | rfl | rfl <;> simp only [Option.map_some, List.getElem?_cons_zero, List.getElem?_cons_succ, Option.some.injEq, Prod.mk.injEq] at hsj <;> obtain ⟨e1, e2, e3⟩ := hsj <;> refine ⟨e2, e3, ?_⟩
    · simp only [execOp, e1]
      rw [Fr.tmp (by decide), a7]
      rw [Sem.run_bind, g_load s22 (w := w'.drew) cB]; rfl
    · simp only [execOp, e1]
      rw [Fr.tmp (by decide), a8]
      rw [Sem.run_bind, g_load s3 (w := w'.drew) cF]; rfl
    · have d : f' 20 = vs 0 := hdep 0 (by decide) (by decide)
      simp [execOp, e1, Fr.tmp, d, vs]
    · have d : f' 21 = vs 1 := hdep 1 (by decide) (by decide)
      simp [execOp, e1, Fr.tmp, d, vs]
  · have hold : Later w w' := by
      obtain ⟨vals, hp, _⟩ := hS'
      exact hp.old
    refine Go.wp_ret ⟨rfl, _, res2 _ (hv 2 (by decide)) (hv 3 (by decide)), [.slice (some ⟨C.rB, 0, none⟩) need.length need.length, .int .i64 s.fin], fun _ => none, rfl, ?_, hN ▸ hold.1, hN ▸ hold.2.1, fun b hb => absurd rfl hb, hold.2.2.trans ⟨rfl, rfl, rfl, Nat.le_succ _⟩⟩
    refine ⟨[_], [_], [_], [_], rfl, rfl, ⟨_, _, _, .shr, rfl, rfl, ⟨lb, Nat.le_refl _, .inr ⟨_, rfl, rfl, heap_lt (w := w') rB, ⟨.inl (by show N ≤ N + 4; omega), rfl⟩, fun j hj => ⟨[.int .i64 s.best[j]], rfl, fun k hk => ?_, rfl⟩⟩⟩, by simp⟩, .shr, rfl, rfl⟩
    have hk : k < 1 := hk
    have : k = 0 := by omega
    subst this
    show w'.cell? ⟨C.rB, 0 + j * 1 + 0, none⟩ = _
    rw [cell_of_block rB]
    simp [rowI, List.getElem?_map, List.getElem?_eq_getElem hj]
example : assignR ([(1, 3, 10), (2, 1, 15)], 2) = some ([1, 2], 15) := by kernel_rfl
end Go.Proofs.Ytbapfiaglcllnaa.D.Rs
end
