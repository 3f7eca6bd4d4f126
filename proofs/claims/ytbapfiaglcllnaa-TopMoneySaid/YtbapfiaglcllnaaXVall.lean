import Derived.Test.YtbapfiaglcllnaaXRall
import Derived.Test.YtbapfiaglcllnaaXN1
import Derived.Test.YtbapfiaglcllnaaXN2
import Derived.Test.YtbapfiaglcllnaaXH24all
section
namespace Go.Proofs.Ytbapfiaglcllnaa.D
set_option maxRecDepth 10000
open Go Go.GD Go.Proofs
theorem reg_drawL {ops : Array Oper} {id N n : Nat} {f : Nat → Value} {w : World} {Q : Exit → Act → World → Prop} (deps : List (List Nat)) (haft : (ops.toList.map fun o => (o.after.toList.filter fun e => Region.binds .any e).map (·.on)) = deps) (hlen : deps.length = n + 1)
    (hlt : ∀ j, j < n + 1 → ∀ i, i ∈ deps.getD j [] → i < j) (hall : ∀ D : Nat → Bool, (∀ j, j < n → D j = true → ∀ i, i ∈ deps.getD j [] → D i = true) → (∀ i, i ∈ deps.getD n [] → D i = true) → ∀ i, i < n → D i = true) (dst : Nat → Nat) (vs : Nat → Value) (hd : ∀ j, j < n → dst j < N) (hinj : ∀ i j, i < n → j < n → dst i = dst j → i = j)
    (step : ∀ j o f', j < n → ops.toList[j]? = some o → Apart n dst f f' → (∀ i, i < n → i ∈ deps.getD j [] → f' (dst i) = vs i) → o.dst = some (dst j) ∧ o.guard = none ∧ (execOp (Fr N f' []).eval o).run Try.prog w.drew = .ok (.value (vs j)) w.drew)
    (hst : ∀ o f', ops.toList[n]? = some o → Apart n dst f f' → (∀ j, j < n → f' (dst j) = vs j) → o.guard = none ∧ o.wp Try.prog (Fr N f' []) w.drew (Q .normal) Q) : (Code.region id ops true).wp Try.prog Q (Fr N f []) w := by
  have hol : ops.toList.length = n + 1 := by
    have := congrArg List.length haft
    rw [List.length_map, hlen] at this
    exact this
  have hget : ∀ j o, ops.toList[j]? = some o → deps.getD j [] = (o.after.toList.filter fun e => Region.binds .any e).map (·.on) := fun j o ho => by
    rw [List.getD_eq_getElem?_getD, ← haft, List.getElem?_map, ho]; rfl
  have hmem : ∀ j o, ops.toList[j]? = some o → ∀ i, i ∈ deps.getD j [] → ∃ e, e ∈ o.after.toList ∧ Region.binds .any e = true ∧ e.on = i := fun j o ho i hi => by
    rw [hget j o ho] at hi
    obtain ⟨e, he, rfl⟩ := List.mem_map.1 hi
    have := List.mem_filter.1 he
    exact ⟨e, this.1, this.2, rfl⟩
  have hjn : ∀ j o, ops.toList[j]? = some o → j < n + 1 := fun j o ho => by rw [← hol]; exact (List.getElem?_eq_some_iff.1 ho).1
  have hop : ∀ j, j < n + 1 → ∃ o, ops.toList[j]? = some o := fun j hj => ⟨_, List.getElem?_eq_getElem (by omega)⟩
  refine region_inv (Checked.mixed Try.checked) (fun j o ho e he hb => ?_) (fun D a w' => (D n = false ∧ ∃ f', a = Fr N f' [] ∧ Apart n dst f f' ∧ (∀ j, j < n → D j = true → f' (dst j) = vs j) ∧ w' = w.drew) ∨ (D n = true ∧ Q .normal a w'))
    (fun D j o a w' ho hD hedge hdown hI => ?_) (fun D a w' hA hI => ?_) (.inl ⟨rfl, f, rfl, fun _ _ => rfl, fun _ _ h => by (cases h), rfl⟩)
  · refine hlt j (hjn j o ho) e.on ?_
    rw [hget j o ho]
    exact List.mem_map.2 ⟨e, List.mem_filter.2 ⟨he, hb⟩, rfl⟩
  · have hj := hjn j o ho
    have hclos : ∀ j, j < n → D j = true → ∀ i, i ∈ deps.getD j [] → D i = true := fun j hj hDj i hi => by
      obtain ⟨o, ho⟩ := hop j (by omega)
      obtain ⟨e, he, hb, hei⟩ := hmem j o ho i hi
      rw [← hei]; exact hdown j o hDj ho e he hb
    rcases hI with ⟨hDn, f', rfl, hap, hv, rfl⟩ | ⟨hDn, _⟩
    · by_cases hjn' : j < n
      · obtain ⟨h1, h2, h3⟩ := step j o f' hjn' ho hap (fun i hi hm => by
          obtain ⟨e, he, hb, hei⟩ := hmem j o ho i hm
          exact hv i hi (by rw [← hei]; exact hedge e he hb))
        refine ⟨h2, ?_⟩
        unfold Oper.wp
        rw [h3, Oper.upon_value, h1, Fr.put (hd j hjn')]
        refine .inl ⟨?_, _, rfl, fun s hs => ?_, fun i hi hDi => ?_, rfl⟩
        · have : ¬ n = j := by omega
          simp [this, hDn]
        · rw [fr_ne _ _ _ (fun e => hs j hjn' e.symm)]; exact hap s hs
        · by_cases hij : i = j
          · subst hij; exact fr_same _ _ _
          · rw [fr_ne _ _ _ (fun e => hij (hinj i j hi hjn' e))]
            refine hv i hi ?_
            simpa [hij] using hDi
      · have : j = n := by omega
        subst this
        have hvall := hall D hclos fun i hi => by
          obtain ⟨e, he, hb, hei⟩ := hmem j o ho i hi
          rw [← hei]; exact hedge e he hb
        obtain ⟨h1, h2⟩ := hst o f' ho hap fun i hi => hv i hi (hvall i hi)
        exact ⟨h1, Oper.wp_mono (fun a' w' h => .inr ⟨by simp, h⟩) h2⟩
    · exfalso
      by_cases hjn' : j < n
      · obtain ⟨on, hon⟩ := hop n (by omega)
        have := hall D hclos (fun i hi => by
          obtain ⟨e, he, hb, hei⟩ := hmem n on hon i hi
          rw [← hei]; exact hdown n on hDn hon e he hb) j hjn'
        rw [hD] at this; cases this
      · have : j = n := by omega
        subst this
        rw [hD] at hDn; cases hDn
  · have hsz : ops.size = n + 1 := by rw [← Array.length_toList, hol]
    rcases hI with ⟨hDn, _⟩ | ⟨_, h⟩
    · have := hA n (by omega)
      rw [this] at hDn; cases hDn
    · exact h
end Go.Proofs.Ytbapfiaglcllnaa.D
end

section
namespace Go.Proofs.Ytbapfiaglcllnaa.D.Nt
set_option maxRecDepth 10000
open Go Go.GD Go.Proofs
noncomputable def ops19 (n : Nat) : Array Oper := ((Try.f19.body).bind (regOf n)).getD #[]
noncomputable abbrev V (n : Nat) : Code := .region n (ops19 n) false
theorem sv0 : shg (ops19 0).toList = [(.assign (.const (.bool false)), some 4, none)] := by kernel_rfl
theorem sv1 : shg (ops19 1).toList = [(.move (.tmp 0), some 12, none), (.call { callee := .value (.func 53), args := #[(.tmp 12)], argTypes := #[50] }, some 13, none), (.binOp .neq 27 (.tmp 13) (.const (.int .i64 0)) 27, some 14, none)] := by kernel_rfl
theorem sv2 : shg (ops19 2).toList = [(.assign (.const (.bool false)), some 4, none)] := by kernel_rfl
theorem sv3 : shg (ops19 3).toList = [(.alloc 116, some 5, none)] := by kernel_rfl
theorem sv4 : shg (ops19 4).toList = [(.move (.tmp 0), some 15, none), (.call { callee := .builtin .len, args := #[(.tmp 15)], argTypes := #[50] }, some 16, none), (.move (.const (.int .i64 0)), some 17, none)] := by kernel_rfl
theorem sv5 : shg (ops19 5).toList = [(.binOp .lss 3 (.tmp 17) (.tmp 16) 3, some 18, none)] := by kernel_rfl
theorem sv6 : shg (ops19 6).toList = [(.indexAddr 50 (.tmp 15) (.tmp 17), some 19, none), (.load 104 (.tmp 19), some 20, none), (.alloc 104, some 7, none), (.store 104 (.tmp 7) (.tmp 20), none, none)] := by kernel_rfl
theorem sv7 : shg (ops19 7).toList = [(.fieldAddr 104 (.tmp 7) 0, some 21, none), (.load 3 (.tmp 21), some 22, none), (.indexAddr 116 (.tmp 5) (.tmp 22), some 23, none), (.fieldAddr 104 (.tmp 7) 1, some 24, none), (.load 3 (.tmp 24), some 25, none), (.call { callee := .value (.func 54), args := #[(.tmp 23), (.tmp 25), (.const (.int .i64 (-1)))], argTypes := #[115, 3, 3] }, some 26, none)] := by kernel_rfl
theorem sv8 : shg (ops19 8).toList = [(.binOp .add 3 (.tmp 17) (.const (.int .i64 1)) 3, some 27, none), (.move (.tmp 27), some 17, none)] := by kernel_rfl
theorem sv9 : shg (ops19 9).toList = [(.move (.tmp 1), some 28, none), (.call { callee := .builtin .len, args := #[(.tmp 28)], argTypes := #[51] }, some 29, none), (.move (.const (.int .i64 0)), some 30, none)] := by kernel_rfl
theorem sv10 : shg (ops19 10).toList = [(.binOp .lss 3 (.tmp 30) (.tmp 29) 3, some 31, none)] := by kernel_rfl
theorem sv11 : shg (ops19 11).toList = [(.indexAddr 51 (.tmp 28) (.tmp 30), some 32, none), (.load 110 (.tmp 32), some 33, none), (.alloc 110, some 9, none), (.store 110 (.tmp 9) (.tmp 33), none, none)] := by kernel_rfl
theorem sv12 : shg (ops19 12).toList = [(.fieldAddr 110 (.tmp 9) 0, some 34, none), (.load 3 (.tmp 34), some 35, none), (.call { callee := .value (.func 55), args := #[(.tmp 35)], argTypes := #[3] }, some 36, none), (.unOp .not 4 (.tmp 36), some 37, none), (.move (.tmp 37), some 38, none), (.fieldAddr 110 (.tmp 9) 1, some 39, some (4, false)), (.load 3 (.tmp 39), some 40, some (4, false)), (.call { callee := .value (.func 55), args := #[(.tmp 40)], argTypes := #[3] }, some 41, some (4, false)), (.unOp .not 4 (.tmp 41), some 42, some (4, false)), (.pick (.tmp 38) (.const (.bool true)) (.tmp 42), some 43, none), (.move (.tmp 43), some 44, none), (.fieldAddr 110 (.tmp 9) 0, some 45, some (10, false)), (.load 3 (.tmp 45), some 46, some (10, false)), (.fieldAddr 110 (.tmp 9) 1, some 47, some (10, false)), (.load 3 (.tmp 47), some 48, some (10, false)), (.binOp .eql 3 (.tmp 46) (.tmp 48) 3, some 49, some (10, false)), (.pick (.tmp 44) (.const (.bool true)) (.tmp 49), some 50, none), (.move (.tmp 50), some 51, none), (.fieldAddr 110 (.tmp 9) 2, some 52, some (17, false)), (.load 3 (.tmp 52), some 53, some (17, false)), (.binOp .lss 3 (.tmp 53) (.const (.int .i64 1)) 3, some 54, some (17, false)), (.pick (.tmp 51) (.const (.bool true)) (.tmp 54), some 55, none), (.move (.tmp 55), some 56, none), (.fieldAddr 110 (.tmp 9) 2, some 57, some (22, false)), (.load 3 (.tmp 57), some 58, some (22, false)), (.binOp .gtr 3 (.tmp 58) (.const (.int .i64 1099511627776)) 3, some 59, some (22, false)), (.pick (.tmp 56) (.const (.bool true)) (.tmp 59), some 60, none)] := by kernel_rfl
theorem sv13 : shg (ops19 13).toList = [(.assign (.const (.bool false)), some 4, none)] := by kernel_rfl
theorem sv14 : shg (ops19 14).toList = [(.fieldAddr 110 (.tmp 9) 0, some 61, none), (.load 3 (.tmp 61), some 62, none), (.indexAddr 116 (.tmp 5) (.tmp 62), some 63, none), (.fieldAddr 110 (.tmp 9) 2, some 64, none), (.load 3 (.tmp 64), some 65, none), (.call { callee := .value (.func 54), args := #[(.tmp 63), (.tmp 65), (.const (.int .i64 (-1)))], argTypes := #[115, 3, 3] }, some 66, none)] := by kernel_rfl
theorem sv15 : shg (ops19 15).toList = [(.fieldAddr 110 (.tmp 9) 1, some 67, none), (.load 3 (.tmp 67), some 68, none), (.indexAddr 116 (.tmp 5) (.tmp 68), some 69, none), (.fieldAddr 110 (.tmp 9) 2, some 70, none), (.load 3 (.tmp 70), some 71, none), (.call { callee := .value (.func 54), args := #[(.tmp 69), (.tmp 71), (.const (.int .i64 1))], argTypes := #[115, 3, 3] }, some 72, none)] := by kernel_rfl
theorem sv16 : shg (ops19 16).toList = [(.binOp .add 3 (.tmp 30) (.const (.int .i64 1)) 3, some 73, none), (.move (.tmp 73), some 30, none)] := by kernel_rfl
theorem sv17 : shg (ops19 17).toList = [(.load 116 (.tmp 5), some 74, none), (.move (.const (.int .i64 0)), some 75, none)] := by kernel_rfl
theorem sv18 : shg (ops19 18).toList = [(.binOp .lss 3 (.tmp 75) (.const (.int .i64 9)) 3, some 76, none)] := by kernel_rfl
theorem sv19 : shg (ops19 19).toList = [(.index 116 (.tmp 74) (.tmp 75), some 77, none), (.alloc 115, some 11, none), (.store 115 (.tmp 11) (.tmp 77), none, none)] := by kernel_rfl
theorem sv20 : shg (ops19 20).toList = [(.load 115 (.tmp 11), some 78, none), (.call { callee := .value (.func 56), args := #[(.tmp 78)], argTypes := #[115] }, some 79, none), (.unOp .not 4 (.tmp 79), some 80, none)] := by kernel_rfl
theorem sv21 : shg (ops19 21).toList = [(.assign (.const (.bool false)), some 4, none)] := by kernel_rfl
theorem sv22 : shg (ops19 22).toList = [(.binOp .add 3 (.tmp 75) (.const (.int .i64 1)) 3, some 81, none), (.move (.tmp 81), some 75, none)] := by kernel_rfl
theorem sv23 : shg (ops19 23).toList = [(.assign (.const (.bool true)), some 4, none)] := by kernel_rfl
noncomputable def roundA : Code := .seq (V 5) (.seq (.cond (.tmp 18) .skip (.exit 0)) (.seq (.block 1 (.seq (V 6) (.region 7 (ops19 7) true))) (V 8)))
noncomputable def roundB : Code := .seq (V 10) (.seq (.cond (.tmp 31) .skip (.exit 2)) (.seq (.block 3 (.seq (V 11) (.seq (.seq (V 12) (.cond (.tmp 60) (.seq (V 13) .ret) .skip)) (.seq (.region 14 (ops19 14) true) (.region 15 (ops19 15) true))))) (V 16)))
noncomputable def roundZ : Code := .seq (V 18) (.seq (.cond (.tmp 76) .skip (.exit 4)) (.seq (.block 5 (.seq (V 19) (.seq (V 20) (.cond (.tmp 80) (.seq (V 21) .ret) .skip)))) (V 22)))
theorem body19 : Try.f19.body = some (.seq (V 0) (.seq (.seq (V 1) (.cond (.tmp 14) (.seq (V 2) .ret) .skip)) (.seq (V 3) (.seq (.seq (V 4) (.block 0 (.loop roundA))) (.seq (.seq (V 9) (.block 2 (.loop roundB))) (.seq (.seq (V 17) (.block 4 (.loop roundZ))) (.seq (V 23) .ret))))))) := by kernel_rfl
theorem size19 : Try.f19.ntmps = 82 := by kernel_rfl
theorem res19 : Try.f19.results.toList = [.tmp 4] := by kernel_rfl
theorem k19 : Callable Try.prog 19 := ⟨Try.f19, Try.func19, by kernel_rfl, by kernel_rfl⟩
theorem u51 : Try.prog.underlying 51 = some (TypeDesc.slice 110) := by kernel_rfl
theorem zof {T s : Nat} (h : (findTE tab T).map (·.ty.size) = some s) (w : World) : (sizeOf T).run Try.prog w = .ok s w := by
  obtain ⟨e, he, hes⟩ := te_of h
  have := (tabOK.find he).sizeOf w
  rwa [hes] at this
theorem z104 (w : World) : (sizeOf 104).run Try.prog w = .ok 2 w := zof (by kernel_rfl) w
theorem z110 (w : World) : (sizeOf 110).run Try.prog w = .ok 3 w := zof (by kernel_rfl) w
theorem z115 (w : World) : (sizeOf 115).run Try.prog w = .ok 2 w := zof (by kernel_rfl) w
abbrev Tr := Int × Int × Int
abbrev trTy : Ty := .pair (.int .i64) (.pair (.int .i64) (.int .i64))
abbrev Open := List (Int × Int)
def addTo (o : Open) (k n sign : Int) : Option Open :=
  bif decide (0 ≤ k) && decide (k < 9) then (addD (o.getD k.toNat (0, 0)) (n, sign)).bind fun r => some (o.set k.toNat r.1) else none
def addShares : List Rd → Open → Option Open
  | [], o => some o
  | s :: l, o => (addTo o s.1 s.2 (-1)).bind fun o => addShares l o
noncomputable def badPay (x : Tr) : Option Bool :=
  (d55 x.1).bind fun a => bif !a then some true else (d55 x.2.1).bind fun b => some (!b || (x.1 == x.2.1 || (decide (x.2.2 < 1) || decide (x.2.2 > 1099511627776))))
noncomputable def pays : List Tr → Open → Option (Option Open)
  | [], o => some (some o)
  | x :: l, o => (badPay x).bind fun b => bif b then some none else (addTo o x.1 x.2.2 (-1)).bind fun o1 => (addTo o1 x.2.1 x.2.2 1).bind fun o2 => pays l o2
noncomputable def zeros : Open → Option Bool
  | [] => some true
  | s :: l => (d56 s).bind fun b => bif b then zeros l else some false
noncomputable def validD (x : List Rd × List Tr) : Option Bool :=
  bif Nat.ble x.1.length 1000000 && Nat.ble x.2.length 1000000 then
    (d53 x.1).bind fun e => bif e != 0 then some false else
    (addShares x.1 (List.replicate 9 (0, 0))).bind fun o => (pays x.2 o).bind fun r => match r with
      | none => some false
      | some o => zeros o
  else none
def flat : Open → List Value
  | [] => []
  | s :: l => .int .i64 s.1 :: .int .i64 s.2 :: flat l
theorem flat_length : (o : Open) → (flat o).length = 2 * o.length
  | [] => rfl
  | s :: l => by rw [flat, List.length_cons, List.length_cons, flat_length l, List.length_cons]; omega
theorem flat_part : (o : Open) → (k : Nat) → (h : k < o.length) → ((flat o).drop (k * 2)).take 2 = [.int .i64 o[k].1, .int .i64 o[k].2]
  | s :: l, 0, _ => rfl
  | s :: l, k + 1, h => by
    have := flat_part l k (by simpa using h)
    rw [flat, show (k + 1) * 2 = k * 2 + 1 + 1 by omega, List.drop_succ_cons, List.drop_succ_cons, this]
    rfl
theorem splice_cons2 (a b : Value) (l ys : List Value) (k : Nat) : splice (a :: b :: l) (k + 2) ys = a :: b :: splice l k ys := by
  unfold splice
  rw [show k + 2 + ys.length = k + ys.length + 1 + 1 by omega]
  simp
theorem flat_set : (o : Open) → (k : Nat) → (h : k < o.length) → (v : Int × Int) → splice (flat o) (k * 2) [.int .i64 v.1, .int .i64 v.2] = flat (o.set k v)
  | s :: l, 0, _, v => by unfold splice; simp [flat]
  | s :: l, k + 1, h, v => by
    rw [flat, show (k + 1) * 2 = k * 2 + 2 by omega, splice_cons2, flat_set l k (by simpa using h) v]
    rfl
structure Vst (w0 : World) (bo : Nat) (o : Open) (w : World) : Prop where
  hp : Hp [bo] (bo + 1) w0 none (fun _ => flat o) w
  len : o.length = 9
theorem Vst.later {w0 w w1 : World} {bo : Nat} {o : Open} (h : Vst w0 bo o w) (k : Later w w1) : Vst w0 bo o w1 := ⟨h.hp.later k, h.len⟩
theorem Vst.set {w0 w : World} {bo : Nat} {o : Open} (h : Vst w0 bo o w) {o' : Open} (hl : o'.length = 9) : Vst w0 bo o' (w.setRow bo (flat o').toArray) := by
  refine ⟨?_, hl⟩
  have := h.hp.set (x := bo) (by simp) (flat o')
  refine ⟨this.lo, this.sz, this.old, this.wH, fun b hb => ?_, this.hn⟩
  have hb : b = bo := by simpa using hb
  subst hb
  have := this.at_ b (by simp)
  rwa [putV_same] at this
theorem Vst.row {w0 w : World} {bo : Nat} {o : Open} (h : Vst w0 bo o w) : ∃ e, w.heap[bo]? = some (.cells (flat o).toArray e (0, 0)) := h.hp.at_ bo (by simp)
def depsA : List (List Nat) := [[], [0], [1], [], [3], [2, 4]]
theorem aft7 : ((ops19 7).toList.map fun o => (o.after.toList.filter fun e => Region.binds .any e).map (·.on)) = depsA := by kernel_rfl
theorem aft14 : ((ops19 14).toList.map fun o => (o.after.toList.filter fun e => Region.binds .any e).map (·.on)) = depsA := by kernel_rfl
theorem aft15 : ((ops19 15).toList.map fun o => (o.after.toList.filter fun e => Region.binds .any e).map (·.on)) = depsA := by kernel_rfl
theorem depsA_all : ∀ D : Nat → Bool, (∀ j, j < 5 → D j = true → ∀ i, i ∈ depsA.getD j [] → D i = true) → (∀ i, i ∈ depsA.getD 5 [] → D i = true) → ∀ i, i < 5 → D i = true := by
  intro D h1 h2 i hi
  have d2 := h2 2 (by decide)
  have d4 := h2 4 (by decide)
  have d1 := h1 2 (by decide) d2 1 (by decide)
  have d0 := h1 1 (by decide) d1 0 (by decide)
  have d3 := h1 4 (by decide) d4 3 (by decide)
  have : i = 0 ∨ i = 1 ∨ i = 2 ∨ i = 3 ∨ i = 4 := by omega
  rcases this with rfl | rfl | rfl | rfl | rfl <;> assumption
theorem g_idx9 (w : World) (b k : Nat) (h : k < 9) : (Instr.indexAt 116 (ptr b) (.int .i64 k)).run Try.prog w = .ok (.pointer (some ⟨b, k * 2, none⟩)) w := by
  have hu : (Go.underlying 116).run Try.prog w = .ok (TypeDesc.array 9 115) w := by simp [Go.underlying]
  simp [Instr.indexAt, asIntOf, hu, Instr.sureAddr, addr_add]
  omega
theorem regAdd {w0 w : World} {bo bs : Nat} {o o' : Open} {f : Nat → Value} {Q : Exit → Act → World → Prop} {rg d0 T S fk fa : Nat} {k n sign : Int} {cs : List Value} {e : TypeId}
    (haft : ((ops19 rg).toList.map fun o => (o.after.toList.filter fun e => Region.binds .any e).map (·.on)) = depsA) (hd0 : 21 ≤ d0 ∧ d0 + 5 < 82) (hT : T < 10)
    (hsh : shg (ops19 rg).toList = [(.fieldAddr S (.tmp T) fk, some d0, none), (.load 3 (.tmp d0), some (d0 + 1), none), (.indexAddr 116 (.tmp 5) (.tmp (d0 + 1)), some (d0 + 2), none), (.fieldAddr S (.tmp T) fa, some (d0 + 3), none), (.load 3 (.tmp (d0 + 3)), some (d0 + 4), none), (.call { callee := .value (.func 54), args := #[(.tmp (d0 + 2)), (.tmp (d0 + 4)), (.const (.int .i64 sign))], argTypes := #[115, 3, 3] }, some (d0 + 5), none)])
    (hfk : ∀ (w : World) (b o : Nat), (Instr.fieldAt S (.pointer (some ⟨b, o, none⟩)) fk).run Try.prog w = .ok (.pointer (some ⟨b, o + fk, none⟩)) w) (hfa : ∀ (w : World) (b o : Nat), (Instr.fieldAt S (.pointer (some ⟨b, o, none⟩)) fa).run Try.prog w = .ok (.pointer (some ⟨b, o + fa, none⟩)) w)
    (t5 : f 5 = ptr bo) (tT : f T = ptr bs) (hbs : w.heap[bs]? = some (.cells cs.toArray e (0, 0))) (ck : cs[fk]? = some (.int .i64 k)) (ca : cs[fa]? = some (.int .i64 n)) (hS : Vst w0 bo o w) (hadd : addTo o k n sign = some o')
    (hQ : ∀ f' w', Vst w0 bo o' w' → (∀ b, b < w.heap.size → b ≠ bo → w'.heap[b]? = w.heap[b]?) → (∀ s, s < 21 ∨ d0 + 5 < s ∨ s < d0 → f' s = f s) → Q .normal (Fr 82 f' []) w') : (Code.region rg (ops19 rg) true).wp Try.prog Q (Fr 82 f []) w := by
  unfold addTo at hadd
  cases hb : decide (0 ≤ k) && decide (k < 9) with
  | false => rw [hb] at hadd; cases hadd
  | true =>
  rw [hb, cond_true] at hadd
  obtain ⟨r, hr, hadd⟩ := Option.bind_eq_some_iff.1 hadd
  injection hadd with hadd
  subst hadd
  simp only [Bool.and_eq_true, decide_eq_true_eq] at hb
  have hkn : ((k.toNat : Nat) : Int) = k := by omega
  have hk9 : k.toNat < o.length := by rw [hS.len]; omega
  obtain ⟨eo, ho9⟩ := hS.row
  let vs : Nat → Value := fun j => match j with
    | 0 => .pointer (some ⟨bs, 0 + fk, none⟩)
    | 1 => .int .i64 k
    | 2 => .pointer (some ⟨bo, k.toNat * 2, none⟩)
    | 3 => .pointer (some ⟨bs, 0 + fa, none⟩)
    | _ => .int .i64 n
  refine reg_drawL (n := 5) depsA haft rfl (by decide) depsA_all (fun j => d0 + j) vs (fun j hj => by omega) (fun a b _ _ e => by omega) (fun j p f' hj hp hap hdep => ?_) (fun p f' hp hap hv => ?_)
  · have hsj := congrArg (fun l => l[j]?) hsh
    simp only [shg] at hsj
    rw [List.getElem?_map, hp] at hsj
    have aT : f' T = ptr bs := (hap T (fun j _ => by show d0 + j ≠ _; omega)).trans tT
    have a5 : f' 5 = ptr bo := (hap 5 (fun j _ => by show d0 + j ≠ _; omega)).trans t5
    have need : ∀ i, i ∈ depsA.getD j [] → i < 5 → f' (d0 + i) = vs i := fun i hi hi' => hdep i hi' hi
    have : j = 0 ∨ j = 1 ∨ j = 2 ∨ j = 3 ∨ j = 4 := by omega
    rcases this with rfl | rfl | rfl | rfl | rfl <;> simp only [Option.map_some, List.getElem?_cons_zero, List.getElem?_cons_succ, Option.some.injEq, Prod.mk.injEq] at hsj <;> obtain ⟨e1, e2, e3⟩ := hsj <;> refine ⟨e2, e3, ?_⟩
    · simp only [execOp, e1]
      rw [Fr.tmp (by omega), aT]
      rw [Sem.run_bind, hfk]; rfl
    · have d := need 0 (by decide) (by decide)
      simp only [execOp, e1]
      rw [Fr.tmp (by omega), show f' d0 = .pointer (some ⟨bs, 0 + fk, none⟩) from d]
      rw [Sem.run_bind, g_load s3 (w := w.drew) (v := .int .i64 k) ((cell_of_block hbs).trans (by rw [Nat.zero_add]; exact ck))]; rfl
    · have d := need 1 (by decide) (by decide)
      have hix := g_idx9 w.drew bo k.toNat (by omega)
      rw [hkn] at hix
      simp only [execOp, e1]
      rw [Fr.tmp (by omega), Fr.tmp (by omega), a5, show f' (d0 + 1) = .int .i64 k from d]
      rw [Sem.run_bind, hix]; rfl
    · simp only [execOp, e1]
      rw [Fr.tmp (by omega), aT]
      rw [Sem.run_bind, hfa]; rfl
    · have d := need 3 (by decide) (by decide)
      simp only [execOp, e1]
      rw [Fr.tmp (by omega), show f' (d0 + 3) = .pointer (some ⟨bs, 0 + fa, none⟩) from d]
      rw [Sem.run_bind, g_load s3 (w := w.drew) (v := .int .i64 n) ((cell_of_block hbs).trans (by rw [Nat.zero_add]; exact ca))]; rfl
  · have hsj := congrArg (fun l => l[5]?) hsh
    simp only [shg] at hsj
    rw [List.getElem?_map, hp] at hsj
    simp only [Option.map_some, List.getElem?_cons_zero, List.getElem?_cons_succ, Option.some.injEq, Prod.mk.injEq] at hsj
    obtain ⟨e1, e2, e3⟩ := hsj
    refine ⟨e3, ?_⟩
    have d2 : f' (d0 + 2) = .pointer (some ⟨bo, k.toNat * 2, none⟩) := hv 2 (by decide)
    have d4 : f' (d0 + 4) = .int .i64 n := hv 4 (by decide)
    have hex : (execOp (Fr 82 f' []).eval p).run Try.prog w.drew = .ok (.enter 54 #[.pointer (some ⟨bo, k.toNat * 2, none⟩), .int .i64 n, .int .i64 sign]) w.drew := by
      have kf : ∀ a : Act, a.eval (.func 54) = .func (.func 54) #[] #[] := fun _ => rfl
      simp [execOp, e1, resolve, Deferred.ofValue, invoke, kf, Fr.tmp (show d0 + 2 < 82 by omega), Fr.tmp (show d0 + 4 < 82 by omega), d2, d4, Fr.const, k54.run]
    unfold Oper.wp
    rw [hex, Oper.upon_enter]
    have hpart := flat_part o k.toNat hk9
    refine (add_does w.drew bo (k.toNat * 2) eo (flat o) [.int .i64 o[k.toNat].1, .int .i64 o[k.toNat].2] [.int .i64 n, .int .i64 sign] o[k.toNat] (n, sign) r ho9 hpart (by rw [flat_length]; show k.toNat * 2 + 2 ≤ _; omega) ⟨[_], [_], rfl, rfl, rfl⟩ ⟨[_], [_], rfl, rfl, rfl⟩ (by rw [List.getD_eq_getElem?_getD, List.getElem?_eq_getElem hk9] at hr; exact hr)).mono ?_
    rintro ex w' ⟨us, cs', rfl, hcl, hrep, _, hw⟩
    obtain ⟨a1, a2, rfl, h1, h2⟩ := hrep
    have h1 : a1 = [.int .i64 r.1.1] := h1
    have h2 : a2 = [.int .i64 r.1.2] := h2
    subst h1 h2
    have hw : w' = w.drew.setRow bo (splice (flat o) (k.toNat * 2) [.int .i64 r.1.1, .int .i64 r.1.2]).toArray := hw
    rw [flat_set o k.toNat hk9 r.1] at hw
    subst hw
    show Q .normal ((Fr 82 f' []).put p.dst _) _
    rw [e2, Fr.put (by omega)]
    have hd : Later w w.drew := ⟨Nat.le_refl _, fun _ _ => rfl, ⟨rfl, rfl, rfl, Nat.le_succ _⟩⟩
    refine hQ _ _ ((hS.later hd).set (by rw [List.length_set]; exact hS.len)) (fun b hb hn => (setRow_other _ _ _ _ hn)) fun s hs => ?_
    rw [fr_ne _ _ _ (by omega)]
    exact hap s (fun j _ => by show d0 + j ≠ _; omega)
end Go.Proofs.Ytbapfiaglcllnaa.D.Nt
end

section
namespace Go.Proofs.Ytbapfiaglcllnaa.D.Nt
set_option maxRecDepth 10000
open Go Go.GD Go.Proofs
theorem f104_0 (w : World) (b o : Nat) : (Instr.fieldAt 104 (.pointer (some ⟨b, o, none⟩)) 0).run Try.prog w = .ok (.pointer (some ⟨b, o + 0, none⟩)) w := g_fld 104 0 0 3 1 (by kernel_rfl) (by kernel_rfl) (by decide) w b o
theorem f104_1 (w : World) (b o : Nat) : (Instr.fieldAt 104 (.pointer (some ⟨b, o, none⟩)) 1).run Try.prog w = .ok (.pointer (some ⟨b, o + 1, none⟩)) w := g_fld 104 1 1 3 1 (by kernel_rfl) (by kernel_rfl) (by decide) w b o
theorem f110_0 (w : World) (b o : Nat) : (Instr.fieldAt 110 (.pointer (some ⟨b, o, none⟩)) 0).run Try.prog w = .ok (.pointer (some ⟨b, o + 0, none⟩)) w := g_fld 110 0 0 3 1 (by kernel_rfl) (by kernel_rfl) (by decide) w b o
theorem f110_1 (w : World) (b o : Nat) : (Instr.fieldAt 110 (.pointer (some ⟨b, o, none⟩)) 1).run Try.prog w = .ok (.pointer (some ⟨b, o + 1, none⟩)) w := g_fld 110 1 1 3 1 (by kernel_rfl) (by kernel_rfl) (by decide) w b o
theorem f110_2 (w : World) (b o : Nat) : (Instr.fieldAt 110 (.pointer (some ⟨b, o, none⟩)) 2).run Try.prog w = .ok (.pointer (some ⟨b, o + 2, none⟩)) w := g_fld 110 2 2 3 1 (by kernel_rfl) (by kernel_rfl) (by decide) w b o
theorem i110 : (Try.prog.info? 110).map (fun i => (i.zero, i.size, i.bytes)) = some (some (Value.agg #[.int .i64 0, .int .i64 0, .int .i64 0]), 3, 24) := by kernel_rfl
theorem i115 : (Try.prog.info? 115).map (fun i => (i.zero, i.size, i.bytes)) = some (some (Value.agg #[.int .i64 0, .int .i64 0]), 2, 16) := by kernel_rfl
theorem i116 : (Try.prog.info? 116).map (fun i => (i.zero, i.size, i.bytes)) = some (some (Value.agg (flat (List.replicate 9 (0, 0))).toArray), 18, 144) := by kernel_rfl
theorem t104 : (findTE tab 104).map (fun e => (e.ty.size, e.ty.isAgg)) = some (2, true) := by kernel_rfl
theorem t104s : (findTE tab 104).map (·.ty.size) = some 2 := by kernel_rfl
theorem t110 : (findTE tab 110).map (fun e => (e.ty.size, e.ty.isAgg)) = some (3, true) := by kernel_rfl
theorem t110s : (findTE tab 110).map (·.ty.size) = some 3 := by kernel_rfl
theorem t115 : (findTE tab 115).map (fun e => (e.ty.size, e.ty.isAgg)) = some (2, true) := by kernel_rfl
theorem t115s : (findTE tab 115).map (·.ty.size) = some 2 := by kernel_rfl
theorem t116 : (findTE tab 116).map (fun e => (e.ty.size, e.ty.isAgg)) = some (18, true) := by kernel_rfl
theorem g_idx {T el : TypeId} {size : Nat} (hu : Try.prog.underlying T = some (.slice el)) (hs : ∀ w, (sizeOf el).run Try.prog w = .ok size w) (w : World) (ad : Addr) (hsp : ad.spot = none) (n cl i : Nat) (h : i < n) :
    (Instr.indexAt T (.slice (some ad) n cl) (.int .i64 i)).run Try.prog w = .ok (.pointer (some ⟨ad.block, ad.off + i * size, none⟩)) w := by
  have hsz := hs w
  have hu : (Go.underlying T).run Try.prog w = .ok (TypeDesc.slice el) w := by simp [Go.underlying, hu]
  simp [Instr.indexAt, asIntOf, hu, h, addr_add hsp, hsz]
theorem wp_elem {N : Nat} {f : Nat → Value} {ops : Array Oper} {Q : Exit → Act → World → Prop} {w0 w : World} {T el size dp dv db sl si : Nat} {l : List (Op × Option Nat × Option (Nat × Bool))} {z : List Value} {bytes : Nat} {t : Ty} {enc : t.den → List Value}
    (hu : Try.prog.underlying T = some (.slice el)) (hs : ∀ w, (sizeOf el).run Try.prog w = .ok size w) (hte : (findTE tab el).map (fun e => (e.ty.size, e.ty.isAgg)) = some (size, true)) (htes : (findTE tab el).map (·.ty.size) = some size) (hi : (Try.prog.info? el).map (fun i => (i.zero, i.size, i.bytes)) = some (some (Value.agg z.toArray), size, bytes))
    (hzl : z.length = size) (hsz : t.size = size) (hd : dp < N ∧ dv < N ∧ db < N ∧ sl < N ∧ si < N) (hne : dp ≠ dv ∧ dp ≠ db ∧ dv ≠ db) {Ok : Nat → Prop} {al : Option Addr} {cl i : Nat} {xs : List t.den} (hrow : ShareS t.size w0 Ok (RepC Try.prog t w0 Ok) al xs.length cl xs) (hrc : ∀ w Ok cs x, RepC Try.prog t w Ok cs x → cs = enc x) (hoc : ∀ x, ∀ v, v ∈ enc x → v.oneCell' = true) (hel : ∀ x, (enc x).length = size)
    (hL : Later w0 w) (hlt : i < xs.length) (h1 : f sl = .slice al xs.length cl) (h2 : f si = .int .i64 i)
    (k : ∀ f' w', Later w w' → w'.heap[w.heap.size]? = some (.cells (enc xs[i]).toArray el (0, 0)) → f' db = ptr w.heap.size → (∀ s, s ≠ dp → s ≠ dv → s ≠ db → f' s = f s) → wpSh Try.prog ops Q l (Fr N f' []) w') :
    wpSh Try.prog ops Q ((.indexAddr T (.tmp sl) (.tmp si), some dp, none) :: (.load el (.tmp dp), some dv, none) :: (.alloc el, some db, none) :: (.store el (.tmp db) (.tmp dv), none, none) :: l) (Fr N f []) w := by
  obtain ⟨q1, q2, q3⟩ := hrow
  rcases q3 with q3 | ⟨ad, rfl, hsp, hblt, hok, hrows⟩
  · omega
  obtain ⟨cs, g1, g2, g3⟩ := hrows i hlt
  have := hrc _ _ _ _ g3
  subst this
  have hcell : ∀ j, j < size → w.cell? ⟨ad.block, ad.off + i * size + j, none⟩ = (enc xs[i])[j]? := fun j hj => by
    have e1 := g2 j (by omega)
    have e := hL.2.1 ad.block hblt
    rw [hsz] at e1
    simp only [World.cell?] at e1 ⊢
    rw [e]
    exact e1
  have hix := g_idx hu hs w ad hsp xs.length cl i hlt
  refine sh_val (v := .pointer (some ⟨ad.block, ad.off + i * size, none⟩)) (w' := w) hd.1 (fun p hp => by
    simp only [execOp, hp]
    rw [Fr.tmp hd.2.2.2.1, Fr.tmp hd.2.2.2.2, h1, h2]
    simp [hix]) ?_
  have hld := g_loadA (P := Try.prog) (tab := tab) (w := w) tabOK hte (b := ad.block) (off := ad.off + i * size) (cs := enc xs[i]) (hel _) hcell
  refine sh_val (v := .agg (enc xs[i]).toArray) (w' := w) hd.2.1 (fun p hp => by
    simp only [execOp, hp]
    rw [Fr.tmp hd.1, fr_same]
    simp [hld]) ?_
  obtain ⟨ti, hti, htz, _, _⟩ := info_at hi
  have hal := g_alloc (T := el) ⟨ti, hti, htz⟩ w
  refine sh_val (v := ptr w.heap.size) (w' := w.alloc (.cells z.toArray el (0, 0))) hd.2.2.1 (fun p hp => by
    simp only [execOp, hp]
    rw [Sem.run_bind, hal]; rfl) ?_
  have hnew : (w.alloc (.cells z.toArray el (0, 0))).heap[w.heap.size]? = some (.cells z.toArray el (0, 0)) := heap_alloc_new w _
  have hst := g_storeA (P := Try.prog) (tab := tab) tabOK htes (b := w.heap.size) (off := 0) (cs0 := z) (cs := enc xs[i]) (et := el) (v := .agg (enc xs[i]).toArray) rfl (hel _) (hoc _) hnew (by rw [hel, hzl]; omega)
  have hsp : splice z 0 (enc xs[i]) = enc xs[i] := by unfold splice; simp [hel, hzl]
  rw [hsp] at hst
  refine sh_skip (w' := (w.alloc (.cells z.toArray el (0, 0))).setRow w.heap.size (enc xs[i]).toArray) (fun p hp => by
    simp only [execOp, hp]
    rw [Fr.tmp hd.2.2.1, Fr.tmp hd.2.1, fr_same, fr_ne _ _ _ hne.2.2, fr_same]
    simp [hst]) ?_
  refine k _ _ ((Later.alloc w _).setFresh (Nat.le_refl _) _) (setRow_heap _ _ _ _ _ _ hnew) (fr_same _ _ _) fun s a b c => ?_
  rw [fr_ne _ _ _ c, fr_ne _ _ _ b, fr_ne _ _ _ a]
section
variable {w0 w : World} {bo : Nat} {Q : Exit → Act → World → Prop} {Ok : Nat → Prop}
theorem loopA {l : List Rd} {al : Option Addr} {cl : Nat} {vt : Value} (hl : ShareS 2 w0 Ok (RepC Try.prog shTy w0 Ok) al l.length cl l) (hM : l.length ≤ 1000000) {o o' : Open} {f : Nat → Value} (h1 : f 1 = vt) (h5 : f 5 = ptr bo) (h15 : f 15 = .slice al l.length cl) (h16 : f 16 = .int .i64 l.length) (h17 : f 17 = .int .i64 (0 : Nat)) (hS : Vst w0 bo o w) (hr : addShares l o = some o')
    (hQ : ∀ f' w', f' 1 = vt → f' 5 = ptr bo → Vst w0 bo o' w' → Q .normal (Fr 82 f' []) w') : (Code.block 0 (.loop roundA)).wp Try.prog Q (Fr 82 f []) w := by
  refine wp_block (wp_loop_nat (fun m a w => ∃ f o i, a = Fr 82 f [] ∧ f 1 = vt ∧ f 5 = ptr bo ∧ f 15 = .slice al l.length cl ∧ f 16 = .int .i64 l.length ∧ f 17 = .int .i64 (i : Nat) ∧ i ≤ l.length ∧ m = l.length - i + 1 ∧ Vst w0 bo o w ∧ addShares (l.drop i) o = some o') (n0 := l.length + 1) ⟨f, o, 0, rfl, h1, h5, h15, h16, h17, Nat.zero_le _, by omega, hS, hr⟩ ?_)
  clear hr hS h1 h5 h15 h16 h17
  rintro m _ w ⟨f, o, i, rfl, h1, h5, h15, h16, h17, hi, rfl, hS, hr⟩
  refine ⟨l.length - i, rfl, ?_⟩
  unfold roundA
  refine wp_seq (reg_sh sv5 ?_)
  refine sh_lss (k := .i64) (a := i) (b := l.length) (by decide) (by simp [Fr.tmp, h17]) (by simp [Fr.tmp, h16]) ?_
  refine wp_seq (wp_cond_split (t := decide ((i : Int) < l.length)) (by rw [Fr.tmp (by decide), fr_same]) (fun ht => ?_) (fun ht => ?_))
  · have hlt : i < l.length := by have := of_decide_eq_true ht; omega
    refine Go.wp_skip ?_
    rw [List.drop_eq_getElem_cons hlt] at hr
    simp only [addShares] at hr
    obtain ⟨o1, hr1, hr⟩ := Option.bind_eq_some_iff.1 hr
    refine wp_seq (wp_block (wp_seq (reg_sh sv6 ?_)))
    refine wp_elem (t := shTy) (enc := rc) (z := [.int .i64 0, .int .i64 0]) (bytes := 16) (w0 := w0) (xs := l) (cl := cl) (i := i) u50 z104 t104 t104s i104 rfl rfl (by decide) (by decide) hl (fun _ _ _ _ h => repC_rc.1 h) (fun x v hv => by simp [rc] at hv; rcases hv with rfl | rfl <;> rfl) (fun _ => rfl) hS.hp.old hlt (by simp [put_, h15]) (by simp [put_, h17]) fun f1 w1 hL hb7 h7 hk => ?_
    refine regAdd (d0 := 21) (o' := o1) (k := l[i].1) (n := l[i].2) aft7 (by decide) (by decide) sv7 f104_0 f104_1 (by rw [hk 5 (by decide) (by decide) (by decide)]; simp [put_, h5]) h7 hb7 rfl rfl (hS.later hL) hr1 fun f2 w2 hS2 _ hk2 => ?_
    refine reg_sh sv8 ?_
    have k : ∀ s, s < 19 → s ≠ 7 → s ≠ 18 → f2 s = f s := fun s hs h7 h18 => by
      rw [hk2 s (.inl (by omega)), hk s (by omega) (by omega) (by omega), fr_ne _ _ _ h18]
    refine sh_add (k := .i64) (a := i) (b := 1) (by decide) (by rw [Fr.tmp (by decide), k 17 (by decide) (by decide) (by decide)]; exact h17) rfl ?_
    have hw : IntKind.i64.wrap ((i : Int) + 1) = ((i + 1 : Nat) : Int) := by rw [wrap_i64 (by omega) (by omega)]; omega
    rw [hw]
    refine sh_move (v := .int .i64 ((i + 1 : Nat) : Int)) (by decide) (by simp [Fr.tmp, put_]) ?_
    refine ⟨_, o1, i + 1, rfl, ?_, ?_, ?_, ?_, fr_same _ _ _, hlt, by omega, hS2, hr⟩
    · simp [put_, k 1 (by decide) (by decide) (by decide), h1]
    · simp [put_, k 5 (by decide) (by decide) (by decide), h5]
    · simp [put_, k 15 (by decide) (by decide) (by decide), h15]
    · simp [put_, k 16 (by decide) (by decide) (by decide), h16]
  · have hge : i = l.length := by have := of_decide_eq_false ht; omega
    subst hge
    rw [List.drop_length] at hr
    simp only [addShares, Option.some.injEq] at hr
    subst hr
    exact Go.wp_exit (hQ _ w (by simp [put_, h1]) (by simp [put_, h5]) hS)
end
end Go.Proofs.Ytbapfiaglcllnaa.D.Nt
end

section
namespace Go.Proofs.Ytbapfiaglcllnaa.D.Nt
set_option maxRecDepth 10000
open Go Go.GD Go.Proofs
def rc3 (x : Tr) : List Value := [.int .i64 x.1, .int .i64 x.2.1, .int .i64 x.2.2]
theorem repC_rc3 {P : Program} {w : World} {Ok : Nat → Prop} {cs : List Value} {x : Tr} : RepC P trTy w Ok cs x ↔ cs = rc3 x := by
  constructor
  · rintro ⟨a0, b0, rfl, h0, a1, b1, rfl, h1, h2⟩
    rw [show a0 = _ from h0, show a1 = _ from h1, show b1 = _ from h2]
    rfl
  · rintro rfl
    exact ⟨[_], _, rfl, rfl, [_], [_], rfl, rfl, rfl⟩
theorem gd4 : ((ops19 12)[4]?).bind (·.dst) = some 38 := by kernel_rfl
theorem gd10 : ((ops19 12)[10]?).bind (·.dst) = some 44 := by kernel_rfl
theorem gd17 : ((ops19 12)[17]?).bind (·.dst) = some 51 := by kernel_rfl
theorem gd22 : ((ops19 12)[22]?).bind (·.dst) = some 56 := by kernel_rfl
section
variable {w0 w : World} {bo : Nat} {Q : Exit → Act → World → Prop} {Ok : Nat → Prop}
theorem call55 (w : World) (n : Int) {b : Bool} (h : d55 n = some b) : Calls Try.prog 55 #[.int .i64 n] w fun ex w' => ex = .returned (.bool b) ∧ Later w w' := by
  refine (does55 w (fun _ => True) [.int .i64 n] n b rfl h).mono ?_
  rintro ex w1 ⟨us, g', rfl, ⟨_, _, hu⟩, z1, z2, _, z4⟩
  have hu : us = [.bool b] := hu
  subst hu
  exact ⟨rfl, z1, z2, z4⟩
set_option maxHeartbeats 4000000 in
theorem reg12 {f : Nat → Value} {b9 : Nat} {x : Tr} {e : TypeId} {b : Bool} (h9 : f 9 = ptr b9) (hb9 : w.heap[b9]? = some (.cells (rc3 x).toArray e (0, 0))) (hbad : badPay x = some b)
    (hQ : ∀ f' w', (∀ s, s < 34 → f' s = f s) → f' 60 = .bool b → Later w w' → Q .normal (Fr 82 f' []) w') : (V 12).wp Try.prog Q (Fr 82 f []) w := by
  have kp : ∀ {f f' : Nat → Value} {d : Nat} {v : Value}, 34 ≤ d → (∀ s, s < 34 → f' s = f s) → ∀ s, s < 34 → put_ f' d v s = f s := fun hd h s hs => by rw [fr_ne _ _ _ (by omega)]; exact h s hs
  unfold badPay at hbad
  obtain ⟨r1, hr1, hbad⟩ := Option.bind_eq_some_iff.1 hbad
  have cell : ∀ {W : World}, Later w W → ∀ j, W.cell? ⟨b9, j, none⟩ = (rc3 x)[j]? := fun hL j => cell_of_block ((hL.2.1 b9 (heap_lt hb9)).trans hb9)
  have fld : ∀ {f : Nat → Value} {d k : Nat} {l : List (Op × Option Nat × Option (Nat × Bool))} {W : World}, d < 82 → f 9 = ptr b9 → (∀ (w : World) (b o : Nat), (Instr.fieldAt 110 (.pointer (some ⟨b, o, none⟩)) k).run Try.prog w = .ok (.pointer (some ⟨b, o + k, none⟩)) w) →
      wpSh Try.prog (ops19 12) Q l (Fr 82 (put_ f d (.pointer (some ⟨b9, k, none⟩))) []) W → wpSh Try.prog (ops19 12) Q ((.fieldAddr 110 (.tmp 9) k, some d, none) :: l) (Fr 82 f []) W := fun hd h hf hk => sh_val hd (fun p hp => by
    simp only [execOp, hp]
    rw [Fr.tmp (by decide), h]
    have := hf ‹World› b9 0
    rw [Nat.zero_add] at this
    simp [this]) hk
  have ld : ∀ {f : Nat → Value} {s d j : Nat} {v : Value} {l : List (Op × Option Nat × Option (Nat × Bool))} {W : World}, d < 82 → s < 82 → f s = .pointer (some ⟨b9, j, none⟩) → Later w W → (rc3 x)[j]? = some v →
      wpSh Try.prog (ops19 12) Q l (Fr 82 (put_ f d v) []) W → wpSh Try.prog (ops19 12) Q ((.load 3 (.tmp s), some d, none) :: l) (Fr 82 f []) W := fun hd hs h hL hv hk => sh_load hd s3 (by rw [Fr.tmp hs]; exact h) ((cell hL _).trans hv) hk
  refine reg_sh sv12 ?_
  refine fld (k := 0) (by decide) h9 f110_0 ?_
  refine ld (j := 0) (v := .int .i64 x.1) (by decide) (by decide) (fr_same _ _ _) (.refl w) rfl ?_
  refine sh_call (g := 55) (args := #[.int .i64 x.1]) (w' := w) (by decide) (fun p hp => by
    have kf : ∀ a : Act, a.eval (.func 55) = .func (.func 55) #[] #[] := fun _ => rfl
    simp [execOp, hp, resolve, Deferred.ofValue, invoke, kf, Fr.tmp, put_, k55.run]) ?_
  refine (call55 w x.1 hr1).mono ?_
  rintro ex w1 ⟨rfl, hL1⟩
  refine ⟨_, rfl, ?_⟩
  refine sh_val (v := .bool (!r1)) (w' := w1) (by decide) (fun p hp => by
    simp only [execOp, hp]
    simp [Fr.tmp, put_, Op.unary]) ?_
  refine sh_move (v := .bool (!r1)) (by decide) (by simp [Fr.tmp, put_]) ?_
  cases hb1 : (!r1) with
  | true =>
    rw [hb1, cond_true] at hbad
    injection hbad with hbad
    subst hbad
    iterate 4 refine sh_off (s := 38) (by decide) gd4 (by decide) (.inl (by simp [put_])) ?_
    refine sh_pick (b := true) (v := .bool true) (by decide) (by simp [Fr.tmp, put_]) rfl ?_
    refine sh_move (v := .bool true) (by decide) (by simp [Fr.tmp, put_]) ?_
    iterate 5 refine sh_off (s := 44) (by decide) gd10 (by decide) (.inl (by simp [put_])) ?_
    refine sh_pick (b := true) (v := .bool true) (by decide) (by simp [Fr.tmp, put_]) rfl ?_
    refine sh_move (v := .bool true) (by decide) (by simp [Fr.tmp, put_]) ?_
    iterate 3 refine sh_off (s := 51) (by decide) gd17 (by decide) (.inl (by simp [put_])) ?_
    refine sh_pick (b := true) (v := .bool true) (by decide) (by simp [Fr.tmp, put_]) rfl ?_
    refine sh_move (v := .bool true) (by decide) (by simp [Fr.tmp, put_]) ?_
    iterate 3 refine sh_off (s := 56) (by decide) gd22 (by decide) (.inl (by simp [put_])) ?_
    refine sh_pick (b := true) (v := .bool true) (by decide) (by simp [Fr.tmp, put_]) rfl ?_
    exact hQ _ _ (by repeat (first | exact fun _ _ => rfl | refine kp (by decide) ?_)) (fr_same _ _ _) hL1
  | false =>
  rw [hb1, cond_false] at hbad
  obtain ⟨r2, hr2, hbad⟩ := Option.bind_eq_some_iff.1 hbad
  injection hbad with hbad
  subst hbad
  refine sh_on (s := 38) gd4 (by decide) (by simp [put_]) (fld (k := 1) (by decide) (by simp [put_, h9]) f110_1 ?_)
  refine sh_on (s := 38) gd4 (by decide) (by simp [put_]) (ld (j := 1) (v := .int .i64 x.2.1) (by decide) (by decide) (fr_same _ _ _) hL1 rfl ?_)
  refine sh_on (s := 38) gd4 (by decide) (by simp [put_]) (sh_call (g := 55) (args := #[.int .i64 x.2.1]) (w' := w1) (by decide) (fun p hp => by
    have kf : ∀ a : Act, a.eval (.func 55) = .func (.func 55) #[] #[] := fun _ => rfl
    simp [execOp, hp, resolve, Deferred.ofValue, invoke, kf, Fr.tmp, put_, k55.run]) ?_)
  refine (call55 w1 x.2.1 hr2).mono ?_
  rintro ex w2 ⟨rfl, hL2⟩
  refine ⟨_, rfl, ?_⟩
  have hL2 := hL1.trans hL2
  refine sh_on (s := 38) gd4 (by decide) (by simp [put_]) (sh_val (v := .bool (!r2)) (w' := w2) (by decide) (fun p hp => by
    simp only [execOp, hp]
    simp [Fr.tmp, put_, Op.unary]) ?_)
  refine sh_pick (b := false) (v := .bool (!r2)) (by decide) (by simp [Fr.tmp, put_]) (by simp [Fr.tmp, put_]) ?_
  refine sh_move (v := .bool (!r2)) (by decide) (by simp [Fr.tmp, put_]) ?_
  cases hb2 : (!r2) with
  | true =>
    rw [hb2, Bool.true_or] at hQ
    iterate 5 refine sh_off (s := 44) (by decide) gd10 (by decide) (.inl (by simp [put_])) ?_
    refine sh_pick (b := true) (v := .bool true) (by decide) (by simp [Fr.tmp, put_]) rfl ?_
    refine sh_move (v := .bool true) (by decide) (by simp [Fr.tmp, put_]) ?_
    iterate 3 refine sh_off (s := 51) (by decide) gd17 (by decide) (.inl (by simp [put_])) ?_
    refine sh_pick (b := true) (v := .bool true) (by decide) (by simp [Fr.tmp, put_]) rfl ?_
    refine sh_move (v := .bool true) (by decide) (by simp [Fr.tmp, put_]) ?_
    iterate 3 refine sh_off (s := 56) (by decide) gd22 (by decide) (.inl (by simp [put_])) ?_
    refine sh_pick (b := true) (v := .bool true) (by decide) (by simp [Fr.tmp, put_]) rfl ?_
    exact hQ _ _ (by repeat (first | exact fun _ _ => rfl | refine kp (by decide) ?_)) (fr_same _ _ _) hL2
  | false =>
  rw [hb2, Bool.false_or] at hQ
  refine sh_on (s := 44) gd10 (by decide) (by simp [put_]) (fld (k := 0) (by decide) (by simp [put_, h9]) f110_0 ?_)
  refine sh_on (s := 44) gd10 (by decide) (by simp [put_]) (ld (j := 0) (v := .int .i64 x.1) (by decide) (by decide) (fr_same _ _ _) hL2 rfl ?_)
  refine sh_on (s := 44) gd10 (by decide) (by simp [put_]) (fld (k := 1) (by decide) (by simp [put_, h9]) f110_1 ?_)
  refine sh_on (s := 44) gd10 (by decide) (by simp [put_]) (ld (j := 1) (v := .int .i64 x.2.1) (by decide) (by decide) (fr_same _ _ _) hL2 rfl ?_)
  refine sh_on (s := 44) gd10 (by decide) (by simp [put_]) (sh_bin (k := .i64) (a := x.1) (b := x.2.1) (v := .bool (x.1 == x.2.1)) (by decide) (by simp [Fr.tmp, put_]) (by simp [Fr.tmp, put_]) (by simp [binOp, Op.intCmp]) ?_)
  refine sh_pick (b := false) (v := .bool (x.1 == x.2.1)) (by decide) (by simp [Fr.tmp, put_]) (by simp [Fr.tmp, put_]) ?_
  refine sh_move (v := .bool (x.1 == x.2.1)) (by decide) (by simp [Fr.tmp, put_]) ?_
  cases hb3 : (x.1 == x.2.1) with
  | true =>
    rw [hb3, Bool.true_or] at hQ
    iterate 3 refine sh_off (s := 51) (by decide) gd17 (by decide) (.inl (by simp [put_])) ?_
    refine sh_pick (b := true) (v := .bool true) (by decide) (by simp [Fr.tmp, put_]) rfl ?_
    refine sh_move (v := .bool true) (by decide) (by simp [Fr.tmp, put_]) ?_
    iterate 3 refine sh_off (s := 56) (by decide) gd22 (by decide) (.inl (by simp [put_])) ?_
    refine sh_pick (b := true) (v := .bool true) (by decide) (by simp [Fr.tmp, put_]) rfl ?_
    exact hQ _ _ (by repeat (first | exact fun _ _ => rfl | refine kp (by decide) ?_)) (fr_same _ _ _) hL2
  | false =>
  rw [hb3, Bool.false_or] at hQ
  refine sh_on (s := 51) gd17 (by decide) (by simp [put_]) (fld (k := 2) (by decide) (by simp [put_, h9]) f110_2 ?_)
  refine sh_on (s := 51) gd17 (by decide) (by simp [put_]) (ld (j := 2) (v := .int .i64 x.2.2) (by decide) (by decide) (fr_same _ _ _) hL2 rfl ?_)
  refine sh_on (s := 51) gd17 (by decide) (by simp [put_]) (sh_lss (k := .i64) (a := x.2.2) (b := 1) (by decide) (by simp [Fr.tmp, put_]) rfl ?_)
  refine sh_pick (b := false) (v := .bool (decide (x.2.2 < 1))) (by decide) (by simp [Fr.tmp, put_]) (by simp [Fr.tmp, put_]) ?_
  refine sh_move (v := .bool (decide (x.2.2 < 1))) (by decide) (by simp [Fr.tmp, put_]) ?_
  cases hb4 : decide (x.2.2 < 1) with
  | true =>
    rw [hb4, Bool.true_or] at hQ
    iterate 3 refine sh_off (s := 56) (by decide) gd22 (by decide) (.inl (by simp [put_])) ?_
    refine sh_pick (b := true) (v := .bool true) (by decide) (by simp [Fr.tmp, put_]) rfl ?_
    exact hQ _ _ (by repeat (first | exact fun _ _ => rfl | refine kp (by decide) ?_)) (fr_same _ _ _) hL2
  | false =>
  rw [hb4, Bool.false_or] at hQ
  refine sh_on (s := 56) gd22 (by decide) (by simp [put_]) (fld (k := 2) (by decide) (by simp [put_, h9]) f110_2 ?_)
  refine sh_on (s := 56) gd22 (by decide) (by simp [put_]) (ld (j := 2) (v := .int .i64 x.2.2) (by decide) (by decide) (fr_same _ _ _) hL2 rfl ?_)
  refine sh_on (s := 56) gd22 (by decide) (by simp [put_]) (sh_bin (k := .i64) (a := x.2.2) (b := 1099511627776) (v := .bool (decide (x.2.2 > 1099511627776))) (by decide) (by simp [Fr.tmp, put_]) rfl (by simp [binOp, Op.intCmp]) ?_)
  refine sh_pick (b := false) (v := .bool (decide (x.2.2 > 1099511627776))) (by decide) (by simp [Fr.tmp, put_]) (by simp [Fr.tmp, put_]) ?_
  exact hQ _ _ (by repeat (first | exact fun _ _ => rfl | refine kp (by decide) ?_)) (fr_same _ _ _) hL2
set_option maxHeartbeats 4000000 in
theorem loopB {l : List Tr} {al : Option Addr} {cl : Nat} (hl : ShareS 3 w0 Ok (RepC Try.prog trTy w0 Ok) al l.length cl l) (hM : l.length ≤ 1000000) {o : Open} {r : Option Open} {f : Nat → Value} (h5 : f 5 = ptr bo) (h28 : f 28 = .slice al l.length cl) (h29 : f 29 = .int .i64 l.length) (h30 : f 30 = .int .i64 (0 : Nat)) (hS : Vst w0 bo o w) (hr : pays l o = some r)
    (hQ : ∀ f' w' o', f' 5 = ptr bo → r = some o' → Vst w0 bo o' w' → Q .normal (Fr 82 f' []) w') (hR : ∀ f' w', r = none → f' 4 = .bool false → Later w0 w' → Q .ret (Fr 82 f' []) w') : (Code.block 2 (.loop roundB)).wp Try.prog Q (Fr 82 f []) w := by
  refine wp_block (wp_loop_nat (fun m a w => ∃ f o i, a = Fr 82 f [] ∧ f 5 = ptr bo ∧ f 28 = .slice al l.length cl ∧ f 29 = .int .i64 l.length ∧ f 30 = .int .i64 (i : Nat) ∧ i ≤ l.length ∧ m = l.length - i + 1 ∧ Vst w0 bo o w ∧ pays (l.drop i) o = some r) (n0 := l.length + 1) ⟨f, o, 0, rfl, h5, h28, h29, h30, Nat.zero_le _, by omega, hS, hr⟩ ?_)
  clear hr hS h5 h28 h29 h30
  rintro m _ w ⟨f, o, i, rfl, h5, h28, h29, h30, hi, rfl, hS, hr⟩
  refine ⟨l.length - i, rfl, ?_⟩
  unfold roundB
  refine wp_seq (reg_sh sv10 ?_)
  refine sh_lss (k := .i64) (a := i) (b := l.length) (by decide) (by simp [Fr.tmp, h30]) (by simp [Fr.tmp, h29]) ?_
  refine wp_seq (wp_cond_split (t := decide ((i : Int) < l.length)) (by rw [Fr.tmp (by decide), fr_same]) (fun ht => ?_) (fun ht => ?_))
  · have hlt : i < l.length := by have := of_decide_eq_true ht; omega
    refine Go.wp_skip ?_
    rw [List.drop_eq_getElem_cons hlt] at hr
    simp only [pays] at hr
    obtain ⟨b, hb, hr⟩ := Option.bind_eq_some_iff.1 hr
    refine wp_seq (wp_block (wp_seq (reg_sh sv11 ?_)))
    refine wp_elem (t := trTy) (enc := rc3) (z := [.int .i64 0, .int .i64 0, .int .i64 0]) (bytes := 24) (w0 := w0) (xs := l) (cl := cl) (i := i) u51 z110 t110 t110s i110 rfl rfl (by decide) (by decide) hl (fun _ _ _ _ h => repC_rc3.1 h) (fun x v hv => by simp [rc3] at hv; rcases hv with rfl | rfl | rfl <;> rfl) (fun _ => rfl) hS.hp.old hlt (by simp [put_, h28]) (by simp [put_, h30]) fun f1 w1 hL hb9 h9 hk => ?_
    refine wp_seq (wp_seq (reg12 h9 hb9 hb fun f2 w2 hk2 h60 hL2 => ?_))
    have hb9 := (hL2.2.1 _ (heap_lt hb9)).trans hb9
    have hS2 := (hS.later hL).later hL2
    have k : ∀ s, s < 32 → s ≠ 9 → s ≠ 31 → f2 s = f s := fun s hs h9 h31 => by
      rw [hk2 s (by omega), hk s (by omega) (by omega) h9, fr_ne _ _ _ h31]
    refine wp_cond_split (t := b) (by rw [Fr.tmp (by decide)]; exact h60) (fun hbt => ?_) (fun hbt => ?_)
    · rw [hbt, cond_true] at hr
      injection hr with hr
      refine wp_seq (reg_sh sv13 ?_)
      refine sh_assign (v := .bool false) (by decide) rfl ?_
      exact Go.wp_ret (hR _ _ hr.symm (fr_same _ _ _) hS2.hp.old)
    · rw [hbt, cond_false] at hr
      obtain ⟨o1, hr1, hr⟩ := Option.bind_eq_some_iff.1 hr
      obtain ⟨o2, hr2, hr⟩ := Option.bind_eq_some_iff.1 hr
      have h9' : f2 9 = ptr w.heap.size := (hk2 9 (by decide)).trans h9
      refine Go.wp_skip ?_
      have hbo9 : w.heap.size ≠ bo := by
        obtain ⟨e, h⟩ := hS.row
        have := heap_lt h
        omega
      refine wp_seq (regAdd (d0 := 61) (o' := o1) (k := l[i].1) (n := l[i].2.2) aft14 (by decide) (by decide) sv14 f110_0 f110_2 (by rw [k 5 (by decide) (by decide) (by decide)]; exact h5) h9' hb9 rfl rfl hS2 hr1 fun f3 w3 hS3 hw3 hk3 => ?_)
      refine regAdd (d0 := 67) (o' := o2) (k := l[i].2.1) (n := l[i].2.2) aft15 (by decide) (by decide) sv15 f110_1 f110_2 (by rw [hk3 5 (.inl (by decide)), k 5 (by decide) (by decide) (by decide)]; exact h5) ((hk3 9 (.inl (by decide))).trans h9') ((hw3 _ (heap_lt hb9) hbo9).trans hb9) rfl rfl hS3 hr2 fun f4 w4 hS4 _ hk4 => ?_
      have k4 : ∀ s, s < 32 → s ≠ 9 → s ≠ 31 → f4 s = f s := fun s hs h9 h31 => by
        rw [hk4 s (by omega), hk3 s (by omega), k s hs h9 h31]
      refine reg_sh sv16 ?_
      refine sh_add (k := .i64) (a := i) (b := 1) (by decide) (by rw [Fr.tmp (by decide), k4 30 (by decide) (by decide) (by decide)]; exact h30) rfl ?_
      have hw : IntKind.i64.wrap ((i : Int) + 1) = ((i + 1 : Nat) : Int) := by rw [wrap_i64 (by omega) (by omega)]; omega
      rw [hw]
      refine sh_move (v := .int .i64 ((i + 1 : Nat) : Int)) (by decide) (by simp [Fr.tmp, put_]) ?_
      refine ⟨_, o2, i + 1, rfl, ?_, ?_, ?_, fr_same _ _ _, hlt, by omega, hS4, hr⟩
      · simp [put_, k4 5 (by decide) (by decide) (by decide), h5]
      · simp [put_, k4 28 (by decide) (by decide) (by decide), h28]
      · simp [put_, k4 29 (by decide) (by decide) (by decide), h29]
  · have hge : i = l.length := by have := of_decide_eq_false ht; omega
    subst hge
    rw [List.drop_length] at hr
    simp only [pays, Option.some.injEq] at hr
    exact Go.wp_exit (hQ _ w o (by simp [put_, h5]) hr.symm hS)
end
end Go.Proofs.Ytbapfiaglcllnaa.D.Nt
end

section
namespace Go.Proofs.Ytbapfiaglcllnaa.D.Nt
set_option maxRecDepth 10000
open Go Go.GD Go.Proofs
section
variable {w0 w : World} {Q : Exit → Act → World → Prop}
theorem index_run (o : Open) (k : Nat) (h : k < o.length) (h9 : o.length = 9) (w : World) : (Instr.index 116 (.agg (flat o).toArray) (.int .i64 k)).run Try.prog w = .ok (.agg #[.int .i64 o[k].1, .int .i64 o[k].2]) w := by
  have hu : (Go.underlying 116).run Try.prog w = .ok (TypeDesc.array 9 115) w := by simp [Go.underlying]
  have ha : (isAgg 115).run Try.prog w = .ok true w := by
    obtain ⟨te, hte, _⟩ : ∃ e, findTE tab 115 = some e ∧ e.ty.size = 2 := te_of t115s
    have h1 := (tabOK.find hte).isAgg w
    have h2 : te.ty.isAgg = true := by
      have := t115
      rw [hte] at this
      simpa using congrArg (fun x => (x.map (·.2)).getD false) this
    rw [h2] at h1
    exact h1
  have hz := z115 w
  have hpart : (part 115 (flat o).toArray (k * 2)).run Try.prog w = .ok (.agg #[.int .i64 o[k].1, .int .i64 o[k].2]) w := by
    simp [part, ha]
    exact flat_part o k h
  simp [Instr.index, asIntOf, hu, hz, hpart]
  intro hk
  omega
theorem loopZ {o : Open} (h9 : o.length = 9) {b : Bool} {f : Nat → Value} (h74 : f 74 = .agg (flat o).toArray) (h75 : f 75 = .int .i64 (0 : Nat)) (hL : Later w0 w) (hr : zeros o = some b)
    (hQ : ∀ f' w', b = true → Later w0 w' → Q .normal (Fr 82 f' []) w') (hR : ∀ f' w', b = false → f' 4 = .bool false → Later w0 w' → Q .ret (Fr 82 f' []) w') : (Code.block 4 (.loop roundZ)).wp Try.prog Q (Fr 82 f []) w := by
  refine wp_block (wp_loop_nat (fun m a w => ∃ f i, a = Fr 82 f [] ∧ f 74 = .agg (flat o).toArray ∧ f 75 = .int .i64 (i : Nat) ∧ i ≤ 9 ∧ m = 9 - i + 1 ∧ Later w0 w ∧ zeros (o.drop i) = some b) (n0 := 9 + 1) ⟨f, 0, rfl, h74, h75, Nat.zero_le _, by omega, hL, hr⟩ ?_)
  clear hr hL h74 h75
  rintro m _ w ⟨f, i, rfl, h74, h75, hi, rfl, hL, hr⟩
  refine ⟨9 - i, rfl, ?_⟩
  unfold roundZ
  refine wp_seq (reg_sh sv18 ?_)
  refine sh_lss (k := .i64) (a := i) (b := 9) (by decide) (by simp [Fr.tmp, h75]) rfl ?_
  refine wp_seq (wp_cond_split (t := decide ((i : Int) < 9)) (by rw [Fr.tmp (by decide), fr_same]) (fun ht => ?_) (fun ht => ?_))
  · have hlt : i < 9 := by have := of_decide_eq_true ht; omega
    have hlo : i < o.length := by omega
    refine Go.wp_skip ?_
    rw [List.drop_eq_getElem_cons hlo] at hr
    simp only [zeros] at hr
    obtain ⟨z, hz, hr⟩ := Option.bind_eq_some_iff.1 hr
    refine wp_seq (wp_block (wp_seq (reg_sh sv19 ?_)))
    have hix := index_run o i hlo h9 w
    refine sh_val (v := .agg #[.int .i64 o[i].1, .int .i64 o[i].2]) (w' := w) (by decide) (fun p hp => by
      simp only [execOp, hp]
      rw [Fr.tmp (by decide), Fr.tmp (by decide)]
      simp only [put_]
      simp [h74, h75, hix]) ?_
    refine sh_alloc i115 (by decide) ?_
    have hnew : (w.alloc (.cells (Value.agg #[.int .i64 0, .int .i64 0]).cells 115 (0, 0))).heap[w.heap.size]? = some (.cells ([.int .i64 0, .int .i64 0] : List Value).toArray 115 (0, 0)) := heap_alloc_new w _
    have hst := g_storeA (P := Try.prog) (tab := tab) tabOK t115s (b := w.heap.size) (off := 0) (cs0 := [.int .i64 0, .int .i64 0]) (cs := [.int .i64 o[i].1, .int .i64 o[i].2]) (et := 115) (v := .agg #[.int .i64 o[i].1, .int .i64 o[i].2]) rfl rfl (fun v hv => by simp at hv; rcases hv with rfl | rfl <;> rfl) hnew (Nat.le_refl 2)
    have hst : (Instr.storeAt 115 (.pointer (some ⟨w.heap.size, 0, none⟩)) (.agg #[.int .i64 o[i].1, .int .i64 o[i].2])).run Try.prog (w.alloc (.cells (Value.agg #[.int .i64 0, .int .i64 0]).cells 115 (0, 0))) = .ok () ((w.alloc (.cells (Value.agg #[.int .i64 0, .int .i64 0]).cells 115 (0, 0))).setRow w.heap.size #[.int .i64 o[i].1, .int .i64 o[i].2]) := hst
    refine sh_skip (w' := (w.alloc (.cells (Value.agg #[.int .i64 0, .int .i64 0]).cells 115 (0, 0))).setRow w.heap.size #[.int .i64 o[i].1, .int .i64 o[i].2]) (fun p hp => by
      simp only [execOp, hp]
      rw [Fr.tmp (by decide), Fr.tmp (by decide)]
      simp only [put_]
      simp [hst]) ?_
    have hL1 : Later w ((w.alloc (.cells (Value.agg #[.int .i64 0, .int .i64 0]).cells 115 (0, 0))).setRow w.heap.size #[.int .i64 o[i].1, .int .i64 o[i].2]) := (Later.alloc w _).setFresh (Nat.le_refl _) _
    have hrow := setRow_heap _ _ _ #[.int .i64 o[i].1, .int .i64 o[i].2] _ _ hnew
    show (Code.seq (V 20) _).wp Try.prog _ _ ((w.alloc (.cells (Value.agg #[.int .i64 0, .int .i64 0]).cells 115 (0, 0))).setRow w.heap.size #[.int .i64 o[i].1, .int .i64 o[i].2])
    generalize (w.alloc (.cells (Value.agg #[.int .i64 0, .int .i64 0]).cells 115 (0, 0))).setRow w.heap.size #[.int .i64 o[i].1, .int .i64 o[i].2] = W at hL1 hrow
    refine wp_seq (reg_sh sv20 ?_)
    have hld := g_loadA (P := Try.prog) (tab := tab) (w := W) tabOK t115 (b := w.heap.size) (off := 0) (cs := [.int .i64 o[i].1, .int .i64 o[i].2]) rfl (fun j _ => by rw [Nat.zero_add]; exact cell_of_block hrow)
    refine sh_val (v := .agg #[.int .i64 o[i].1, .int .i64 o[i].2]) (w' := W) (by decide) (fun p hp => by
      simp only [execOp, hp]
      rw [Fr.tmp (by decide)]
      simp only [put_]
      simp [hld]) ?_
    refine sh_call (g := 56) (args := #[.agg #[.int .i64 o[i].1, .int .i64 o[i].2]]) (w' := W) (by decide) (fun p hp => by
      have kf : ∀ a : Act, a.eval (.func 56) = .func (.func 56) #[] #[] := fun _ => rfl
      simp [execOp, hp, resolve, Deferred.ofValue, invoke, kf, Fr.tmp, put_, k56.run]) ?_
    refine (does56 W (fun _ => True) [.int .i64 o[i].1, .int .i64 o[i].2] o[i] z ⟨[_], [_], rfl, rfl, rfl⟩ hz).mono ?_
    rintro ex w1 ⟨us, g', rfl, ⟨_, _, hu⟩, y1, y2, _, y4⟩
    have hu : us = [.bool z] := hu
    subst hu
    have hL2 : Later w0 w1 := (hL.trans hL1).trans ⟨y1, y2, y4⟩
    refine ⟨_, rfl, ?_⟩
    refine sh_val (v := .bool (!z)) (w' := w1) (by decide) (fun p hp => by
      simp only [execOp, hp]
      simp [Fr.tmp, put_, resV, argVals, mkV, Ty.isAgg, Ty.size, Op.unary]) ?_
    refine wp_cond_split (t := !z) (by rw [Fr.tmp (by decide), fr_same]) (fun hn => ?_) (fun hn => ?_)
    · have hzf : z = false := by simpa using hn
      rw [hzf, cond_false] at hr
      injection hr with hr
      refine wp_seq (reg_sh sv21 ?_)
      refine sh_assign (v := .bool false) (by decide) rfl ?_
      exact Go.wp_ret (hR _ _ hr.symm (fr_same _ _ _) hL2)
    · have hzt : z = true := by simpa using hn
      rw [hzt, cond_true] at hr
      refine Go.wp_skip ?_
      refine (reg_sh sv22 ?_)
      refine sh_add (k := .i64) (a := i) (b := 1) (by decide) (by simp [Fr.tmp, put_, h75]) rfl ?_
      have hw : IntKind.i64.wrap ((i : Int) + 1) = ((i + 1 : Nat) : Int) := by rw [wrap_i64 (by omega) (by omega)]; omega
      rw [hw]
      refine sh_move (v := .int .i64 ((i + 1 : Nat) : Int)) (by decide) (by simp [Fr.tmp, put_]) ?_
      exact ⟨_, i + 1, rfl, by simp [put_, h74], fr_same _ _ _, hlt, by omega, hL2, hr⟩
  · have hge : i = 9 := by have := of_decide_eq_false ht; omega
    subst hge
    rw [List.drop_of_length_le (by omega)] at hr
    simp only [zeros, Option.some.injEq] at hr
    exact Go.wp_exit (hQ _ w hr.symm hL)
end
set_option maxHeartbeats 2000000 in
theorem valid_does : Does Try.prog 19 [.sl shTy, .sl trTy] [.bool] true validD := by
  intro w Ok cs x y hX hy
  obtain ⟨l, t⟩ := x
  obtain ⟨c1, c2, rfl, hA, hB⟩ := hX
  obtain ⟨al, ll, cl, rfl, hA2⟩ := id hA
  obtain ⟨at_, lt_, ct, rfl, hB2⟩ := id hB
  have hll : l.length = ll := hA2.1
  have hlt : t.length = lt_ := hB2.1
  subst hll hlt
  simp only [validD] at hy
  cases hM : Nat.ble l.length 1000000 && Nat.ble t.length 1000000 with
  | false => rw [hM] at hy; cases hy
  | true =>
  rw [hM, cond_true] at hy
  rw [Bool.and_eq_true] at hM
  have hM1 := Nat.le_of_ble_eq_true hM.1
  have hM2 := Nat.le_of_ble_eq_true hM.2
  obtain ⟨e, he, hy⟩ := Option.bind_eq_some_iff.1 hy
  show Calls Try.prog 19 #[.slice al l.length cl, .slice at_ t.length ct] w _
  refine calls_of_wp Try.func19 body19 ?_
  have hsz : (#[Value.slice al l.length cl, .slice at_ t.length ct] ++ Array.replicate (Try.f19.ntmps - #[Value.slice al l.length cl, .slice at_ t.length ct].size) undef).size = 82 := by
    rw [Array.size_append, Array.size_replicate, size19]; rfl
  rw [Fr.of (N := 82) (a := { tmps := #[Value.slice al l.length cl, .slice at_ t.length ct] ++ Array.replicate (Try.f19.ntmps - #[Value.slice al l.length cl, .slice at_ t.length ct].size) undef, defers := [] }) hsz]
  simp only []
  generalize hf : (fun s => (#[Value.slice al l.length cl, .slice at_ t.length ct] ++ Array.replicate (Try.f19.ntmps - #[Value.slice al l.length cl, .slice at_ t.length ct].size) undef).getD s undef) = f
  have f0 : f 0 = .slice al l.length cl := by rw [← hf]; simp
  have f1 : f 1 = .slice at_ t.length ct := by rw [← hf]; simp
  clear hf hsz
  have fin : ∀ {f' : Nat → Value} {w' : World} {b : Bool}, b = y → f' 4 = .bool b → Later w w' → bodyPost Try.prog Try.f19 (fun e w' => ∃ us g', e = .returned (resV [.bool] us) ∧
      RepX Try.prog w' (fun b => (w.heap.size ≤ b ∨ Ok b) ∧ g' b = none) (clR g') (pk [.bool]) 0 us y (rMarks true (pk [.bool])) ∧
      w.heap.size ≤ w'.heap.size ∧ (∀ b, b < w.heap.size → w'.heap[b]? = w.heap[b]?) ∧ (∀ b, g' b ≠ none → w.heap.size ≤ b ∧ b < w'.heap.size) ∧ SameIO w w') .ret (Fr 82 f' []) w' := by
    intro f' w' b hb h4 hL
    subst hb
    exact ⟨rfl, .bool b, res_at w' res19 (by decide) h4, [.bool b], fun _ => none, rfl, ⟨_, rfl, rfl⟩, hL.1, hL.2.1, fun b hb => absurd rfl hb, hL.2.2⟩
  refine wp_seq (reg_sh sv0 ?_)
  refine sh_assign (v := .bool false) (by decide) rfl ?_
  refine wp_seq (wp_seq (reg_sh sv1 ?_))
  refine sh_move (v := .slice al l.length cl) (by decide) (by simp [Fr.tmp, put_, f0]) ?_
  refine sh_call (g := 53) (args := #[.slice al l.length cl]) (w' := w) (by decide) (fun p hp => by
    have kf : ∀ a : Act, a.eval (.func 53) = .func (.func 53) #[] #[] := fun _ => rfl
    simp [execOp, hp, resolve, Deferred.ofValue, invoke, kf, Fr.tmp, put_, k53.run]) ?_
  refine (does53 w Ok [.slice al l.length cl] l e hA he).mono ?_
  rintro ex w1 ⟨us, g', rfl, ⟨_, _, hu⟩, z1, z2, _, z4⟩
  have hu : us = [.int .i64 e] := hu
  subst hu
  have hL1 : Later w w1 := ⟨z1, z2, z4⟩
  refine ⟨_, rfl, ?_⟩
  refine sh_val (v := .bool (e != 0)) (w' := w1) (by decide) (fun p hp => by
    simp [execOp, hp, Fr.tmp, Fr.const, put_, resV, argVals, mkV, Ty.isAgg, Ty.size, run_guard, binOp, Op.intCmp]) ?_
  refine wp_cond_split (t := (e != 0)) (by rw [Fr.tmp (by decide), fr_same]) (fun ht => ?_) (fun ht => ?_)
  · rw [ht, cond_true] at hy
    injection hy with hy
    refine wp_seq (reg_sh sv2 ?_)
    refine sh_assign (v := .bool false) (by decide) rfl ?_
    exact Go.wp_ret (fin hy (fr_same _ _ _) hL1)
  · rw [ht, cond_false] at hy
    obtain ⟨o, ho, hy⟩ := Option.bind_eq_some_iff.1 hy
    obtain ⟨r, hr, hy⟩ := Option.bind_eq_some_iff.1 hy
    refine Go.wp_skip (wp_seq (reg_sh sv3 ?_))
    refine sh_alloc i116 (by decide) ?_
    have hS : Vst w w1.heap.size (List.replicate 9 (0, 0)) (w1.alloc (.cells (Value.agg (flat (List.replicate 9 (0, 0))).toArray).cells 116 (0, 0))) := by
      refine ⟨⟨fun b hb => ?_, by rw [World.size_alloc]; exact Nat.le_refl _, hL1.trans (Later.alloc _ _), by have := hL1.1; omega, fun b hb => ?_, fun b hb => by cases hb⟩, by simp⟩
      · have hb : b = w1.heap.size := by simpa using hb
        have := hL1.1
        omega
      · have hb : b = w1.heap.size := by simpa using hb
        subst hb
        exact ⟨116, heap_alloc_new w1 _⟩
    show (Code.seq (.seq (V 4) (.block 0 (.loop roundA))) _).wp Try.prog _ _ (w1.alloc (.cells (Value.agg (flat (List.replicate 9 (0, 0))).toArray).cells 116 (0, 0)))
    generalize w1.alloc (.cells (Value.agg (flat (List.replicate 9 (0, 0))).toArray).cells 116 (0, 0)) = W at hS
    refine wp_seq (wp_seq (reg_sh sv4 ?_))
    refine sh_move (v := .slice al l.length cl) (by decide) (by simp [Fr.tmp, put_, f0]) ?_
    refine sh_len (al := al) (n := l.length) (cl := cl) (by decide) u50 (by simp [Fr.tmp, put_]) ?_
    refine sh_move (v := .int .i64 0) (by decide) rfl ?_
    refine loopA (vt := .slice at_ t.length ct) hA2 hM1 (by simp [put_, f1]) (by simp [put_]) (by simp [put_]) (by simp [put_]) (by simp [put_]) hS ho fun f2 w2 g1 g5 hS2 => ?_
    refine wp_seq (wp_seq (reg_sh sv9 ?_))
    refine sh_move (v := .slice at_ t.length ct) (by decide) (by simp [Fr.tmp, g1]) ?_
    refine sh_len (al := at_) (n := t.length) (cl := ct) (by decide) u51 (by simp [Fr.tmp, put_]) ?_
    refine sh_move (v := .int .i64 0) (by decide) rfl ?_
    refine loopB (Ok := Ok) (r := r) hB2 hM2 (by simp [put_, g5]) (by simp [put_]) (by simp [put_]) (by simp [put_]) hS2 hr (fun f3 w3 o' g5 hro hS3 => ?_) (fun f3 w3 hrn g4 hL3 => ?_)
    · subst hro
      have hy : zeros o' = some y := hy
      obtain ⟨eo, hrow⟩ := hS3.row
      refine wp_seq (wp_seq (reg_sh sv17 ?_))
      have hld := g_loadA (P := Try.prog) (tab := tab) (w := w3) tabOK t116 (b := w1.heap.size) (off := 0) (cs := flat o') (by rw [flat_length, hS3.len]) (fun j _ => by rw [Nat.zero_add]; exact cell_of_block hrow)
      refine sh_val (v := .agg (flat o').toArray) (w' := w3) (by decide) (fun p hp => by
        simp only [execOp, hp]
        rw [Fr.tmp (by decide)]
        simp only [g5]
        simp [hld]) ?_
      refine sh_move (v := .int .i64 0) (by decide) rfl ?_
      refine loopZ (w0 := w) hS3.len (b := y) (by simp [put_]) (by simp [put_]) hS3.hp.old hy (fun f4 w4 hyt hL4 => ?_) (fun f4 w4 hyf g4 hL4 => fin hyf.symm g4 hL4)
      refine wp_seq (reg_sh sv23 ?_)
      refine sh_assign (v := .bool true) (by decide) rfl ?_
      exact Go.wp_ret (fin hyt.symm (fr_same _ _ _) hL4)
    · subst hrn
      have hy : some false = some y := hy
      injection hy with hy
      exact fin hy g4 hL3
end Go.Proofs.Ytbapfiaglcllnaa.D.Nt
end
