import Derived.Test.YtbapfiaglcllnaaXJaa
import Derived.Tactics
import Derived.Tactics2
import Derived.Defers
import Derived.Recover
import Derived.Laws.Pointers
import Derived.Test.YtbapfiaglcllnaaEXJall
import Derived.Test.YtbapfiaglcllnaaXHbb
import Derived.Test.YtbapfiaglcllnaaH47all
import Derived.Test.YtbapfiaglcllnaaGDG
section
namespace Go.Proofs.Ytbapfiaglcllnaa.D.Sc
open Go Go.GD Go.Proofs
theorem catch_panicking (p2 p3 p4 : Value) (w : World) :
    CallsD Try.prog 70 #[p2, p3, p4] (.panicking [{ v := .iface 135 (.agg #[]), recovered := false }]) w fun e u' w' =>
      e = .returned (.tuple #[]) ∧ u' = .panicking [{ v := .iface 135 (.agg #[]), recovered := true }] ∧
        w.heap.size ≤ w'.heap.size ∧ (∀ b, b < w.heap.size → w'.heap[b]? = w.heap[b]?) ∧ SameIO w w' := by
  refine callsD_of_wpS Try.func70 rfl fun c₀ cs hu => ?_
  apply wpS_seq
  apply wpS_region
  simp [wpOpsS, go_sem, recoverD, hu, Try.ntmps70, Exit.thenS]
  apply wpS_seq
  apply wpS_region
  simp [wpOpsS, go_sem, Exit.thenS]
  refine wpS_cond (t := true) (by simp [Act.eval]) ?_
  simp only [if_true]
  apply wpS_seq
  apply wpS_region
  simp [wpOpsS, go_sem, Exit.thenS, Instr.typeAssert]
  apply wpS_seq
  apply wpS_region
  simp [wpOpsS, go_sem, Exit.thenS]
  refine wpS_cond (t := false) (by simp [Act.eval]) ?_
  simp only [Bool.false_eq_true, if_false]
  refine wpS_of_wp (wp_skip ?_)
  refine ⟨rfl, _, rfl, .tuple #[], by simp [results, Try.results70], rfl, rfl, ?_, fun b hb => ?_, ?_⟩
  · show w.heap.size ≤ (w.heap.push _).size
    rw [Array.size_push]; omega
  · show (w.heap.push _)[b]? = _
    rw [Array.getElem?_push, if_neg (Nat.ne_of_lt hb)]
  · exact ⟨rfl, rfl, rfl, Nat.le_refl _⟩
theorem catch_idle (p2 p3 p4 : Value) (w : World) :
    CallsD Try.prog 70 #[p2, p3, p4] .returning w fun e u' w' => e = .returned (.tuple #[]) ∧ u' = .returning ∧ w' = w := by
  refine callsD_of_wpS Try.func70 rfl fun c₀ cs hu => ?_
  apply wpS_seq
  apply wpS_region
  simp [wpOpsS, go_sem, recoverD, hu, Try.ntmps70, Exit.thenS]
  apply wpS_seq
  apply wpS_region
  simp [wpOpsS, go_sem, Exit.thenS]
  refine wpS_cond (t := false) (by simp [Act.eval]) ?_
  simp only [Bool.false_eq_true, if_false]
  refine wpS_of_wp (wp_skip ?_)
  cases c₀
  simp_all [bodyPostS, results, Try.results70]
end Go.Proofs.Ytbapfiaglcllnaa.D.Sc
end

section
namespace Go.Proofs.Ytbapfiaglcllnaa.D.Sc
open Go Go.GD Go.Proofs Up
abbrev Rd := Int × Int × Int × Int × Int × Int × Int
def getL {α : Type} : Option (α ⊕ Nat) → Option α
  | some (.inl y) => some y
  | _ => none
theorem getL_some {α : Type} : {o : Option (α ⊕ Nat)} → {y : α} → getL o = some y → o = some (.inl y)
  | some (.inl _), _, h => by injection h with h; rw [h]
  | some (.inr _), _, h => by cases h
  | none, _, h => by cases h
def onR {α β : Type} (p : Nat → Option β) (q : Option β) : Option (α ⊕ Nat) → Option β
  | some (.inr T) => p T
  | some (.inl _) => q
  | none => none
noncomputable def ret71 (x : (pk ps71).den) : Option (pk rs71).den := getL (d71 x)
theorem ret71_some {x : (pk ps71).den} {y : (pk rs71).den} (h : ret71 x = some y) : d71 x = some (.inl y) := getL_some h
noncomputable def sg71 : Sig := { ps := ps71, rs := rs71, own := true, φ := ret71 }
theorem c71 : Contract Try.prog 71 sg71 := by rw [sg71]; exact Contract.of k71 (does71.returns fun _ _ h => ret71_some h)
noncomputable def env28 : Nat → Option Sig := fun n => match n with
  | 71 => some sg71
  | _ => none
theorem envOk28 : ∀ f sg, env28 f = some sg → Contract Try.prog f sg := by
  intro f sg h
  unfold env28 at h
  split at h
  · injection h with h; subst h; exact c71
  · cases h
def ann28 : List LoopAnn := []
def a28 : LoopAnn := { id := 2, live := [0, 2, 3, 4], frz := [] }
abbrev ps28 : List Ty := [.sl (.int .u8)]
abbrev rs28 : List Ty := [.sl rideTy, .int .i64, .int .u64]
noncomputable abbrev E28 : Env := { tab, fn := env28, nv := 8, res := resSlots Try.f28.results.toList }
noncomputable def ops28 (n : Nat) : Array Oper := ((Try.f28.body).bind (regOf n)).getD #[]
noncomputable abbrev R (n : Nat) : Code := .region n (ops28 n) false
noncomputable abbrev RD (n : Nat) : Code := .region n (ops28 n) true
noncomputable abbrev hd28 : Code := .seq (R 2) (.cond (.tmp 12) .skip (.exit 0))
noncomputable abbrev rest28 : Code := .seq (R 4) (.seq (R 5) (R 6))
noncomputable abbrev blk28 : Code := .block 1 (.seq (RD 3) rest28)
noncomputable abbrev end28 : Code := .seq (RD 7) .ret
theorem body28 : Try.f28.body = some (.seq (R 0) (.seq (R 1) (.seq (.block 0 (.loop (.seq hd28 blk28))) end28))) := by kernel_rfl
def headSt (b : List Int) (l : List Rd) (size link : Int) : St :=
  ⟨.val ⟨.sl (.int .u8), b, [.shr]⟩, 0, 0⟩ :: ⟨.top, 0, 0⟩ :: ⟨.box ⟨.sl rideTy, l, [.own]⟩, 0, 0⟩ :: ⟨.box ⟨.int .i64, size, [.shr]⟩, 0, 0⟩ :: ⟨.box ⟨.int .u64, link, [.shr]⟩, 0, 0⟩ :: List.replicate 28 ⟨.top, 0, 0⟩
structure ScanS where
  b : List Int
  l : List Rd
  size : Int
  link : Int
def getScan (σ : St) : Option ScanS := bif Nat.beq σ.length 33 then
  match (listGet σ 0).a, (listGet σ 2).a, (listGet σ 3).a, (listGet σ 4).a with
  | .val ⟨.sl (.int .u8), b, [.shr]⟩, .box ⟨t, l, [.own]⟩, .box ⟨.int .i64, size, [.shr]⟩, .box ⟨.int .u64, link, [.shr]⟩ =>
    match castO t rideTy.sl l with
    | some l => some ⟨b, l, size, link⟩
    | none => none
  | _, _, _, _ => none
  else none
noncomputable def rest (b : List Int) (size : Int) : List Int := List.drop (Int.toNat size) (List.take (Int.toNat (List.length b : Int)) b)
noncomputable def ok28 (b : List Int) (size : Int) : Bool := (decide (0 ≤ (size : Int)) && (decide ((size : Int) ≤ (List.length b : Int)) && decide (((List.length b : Int) : Int) ≤ (List.length b : Int))))
noncomputable def fBody (fuel : Nat) {ρ : Type} (k : Ex → St → Option ρ) (σ : St) : Option ρ :=
  codeC E28 ann28 fuel hd28 (fun e σ1 => match e with
    | .normal => match getScan σ1 with
      | some s => bif ok28 s.b s.size then onR (fun T => k (.pan T) (headSt s.b s.l s.size s.link)) (codeC E28 ann28 fuel blk28 k σ1) (d71 (rest s.b s.size, s.link)) else none
      | none => none
    | e => k e σ1) σ
noncomputable def kFin (e : Ex) (σ : St) : Option (pk rs28).den := match e with
  | .ret => readRes Try.f28.results.toList true rs28 σ some
  | _ => none
noncomputable def kLoop (fuel : Nat) (e : Ex) (σ : St) : Option (pk rs28).den := match e with
  | .exit 0 => codeC E28 ann28 fuel end28 kFin σ
  | .pan T => bif Nat.beq T 135 then readRes Try.f28.results.toList true rs28 σ some else none
  | _ => none
noncomputable def kHead (fuel : Nat) (e : Ex) (σ : St) : Option (pk rs28).den := match e with
  | .normal => bif Nat.beq σ.length 33 then loopC fuel (fBody fuel) a28 (kLoop fuel) (listSet σ 8 ⟨.top, (listGet σ 8).id + 1, (listGet σ 8).gen + 1⟩) else none
  | _ => none
noncomputable def scanH (fuel : Nat) (b : List Int) : Option (pk rs28).den := codeC E28 ann28 fuel (R 0) (kHead fuel) (initArgs [] ps28 b ++ List.replicate (Try.f28.ntmps - 1) topSlot)
noncomputable def lp28 (fuel : Nat) (b : List Int) (l : List Rd) (size link : Int) : Option (List Rd × Int × Int) :=
  iter (fun F ((b1, l, size, link) : List Int × List Rd × Int × Int) =>
    bif decide (size < (List.length b1 : Int)) then (
      bif ok28 b1 size then onR (fun T => bif Nat.beq T 135 then some (l, size, link) else none) (bif ok28 b1 size then (ret71 (rest b1 size, link)).bind fun r =>
          bif (Nat.ble ((List.length l + List.length [r.1]) * 56) appendLimit && Nat.ble (List.length l + List.length [r.1]) 9223372036854775807) then F (b1, l ++ [r.1], IntKind.i64.wrap (size + r.2.2), r.2.1) else none
          else none) (d71 (rest b1 size, link))
      else none)
    else some (l, size, link)) fuel (b, l, size, link)
theorem scanH_g (fuel : Nat) (b : List Int) : scanH fuel b = lp28 fuel b [] 0 0 := by kernel_rfl
end Go.Proofs.Ytbapfiaglcllnaa.D.Sc
end

section
namespace Go.Proofs.Ytbapfiaglcllnaa.D.Sc
set_option maxRecDepth 10000
open Go Go.GD Go.Proofs Up
structure Kp (b : List Int) (l : List Rd) (size link : Int) (σ : St) : Prop where
  len : σ.length = 33
  k0 : (listGet σ 0).a = .val ⟨.sl (.int .u8), b, [.shr]⟩
  k2 : (listGet σ 2).a = .box ⟨.sl rideTy, l, [.own]⟩
  k3 : (listGet σ 3).a = .box ⟨.int .i64, size, [.shr]⟩
  k4 : (listGet σ 4).a = .box ⟨.int .u64, link, [.shr]⟩
def sh28 : List Sh := .val (.sl (.int .u8)) [.shr] :: .top :: .box (.sl rideTy) [.own] :: .box (.int .i64) [.shr] :: .box (.int .u64) [.shr] :: List.replicate 28 .top
theorem top_data (σ : St) (ks frz : List Nat) : (n i : Nat) → (l : List Slot) → l.length = n → dataAt σ ks frz i (List.replicate n .top) l = some []
  | 0, _, [], _ => rfl
  | n + 1, i, _ :: l, h => top_data σ ks frz n (i + 1) l (by simpa using h)
theorem top_ok (ks : List Nat) : (n i : Nat) → ShOK ks i (List.replicate n .top)
  | 0, _ => trivial
  | n + 1, i => ⟨fun h => (by cases h), top_ok ks n (i + 1)⟩
theorem to_head {C : Ctx} {g : Own} {σ : St} {tm : Array Value} {w : World} {b : List Int} {l : List Rd} {size link : Int} (h : SRep C g σ tm w) (hk : Kp b l size link σ) :
    ∃ g', SRep C g' (headSt b l size link) tm w := by
  have hd : dataAt σ [0, 2, 3, 4] [] 0 sh28 σ = some [⟨.sl (.int .u8), b⟩, ⟨.sl rideTy, l⟩, ⟨.int .i64, size⟩, ⟨.int .u64, link⟩] := by
    have hlen := hk.len
    have e : ∃ s0 s1 s2 s3 s4 r, σ = s0 :: s1 :: s2 :: s3 :: s4 :: r ∧ r.length = 28 := by
      match σ, hlen with
      | s0 :: s1 :: s2 :: s3 :: s4 :: r, hl => exact ⟨s0, s1, s2, s3, s4, r, rfl, by simpa using hl⟩
    obtain ⟨s0, s1, s2, s3, s4, r, e, hr⟩ := e
    have k0 := hk.k0; have k2 := hk.k2; have k3 := hk.k3; have k4 := hk.k4
    rw [e] at k0 k2 k3 k4
    obtain ⟨a0, i0, g0⟩ := s0
    obtain ⟨a2, i2, g2⟩ := s2
    obtain ⟨a3, i3, g3⟩ := s3
    obtain ⟨a4, i4, g4⟩ := s4
    simp only [listGet] at k0 k2 k3 k4
    subst k0; subst k2; subst k3; subst k4
    conv => lhs; arg 6; rw [e]
    have := top_data σ [0, 2, 3, 4] [] 28 5 r hr
    simp only [sh28, dataAt, List.map_cons, List.map_nil, normMark, memNat, marksBeq, markBeq, cond, Bool.and_self, if_true, this]
  obtain ⟨g', h'⟩ := norm_sound h hd (sh := sh28) ⟨fun _ => rfl, fun h => (by cases h), fun _ => rfl, fun _ => rfl, fun _ => rfl, top_ok _ 28 5⟩
  exact ⟨g', h'⟩
theorem sn3 : shg (ops28 3).toList = [(.move (.tmp 0), some 14, none), (.load 3 (.tmp 3), some 15, none), (.slice 26 (.tmp 14) (some (.tmp 15)) none none, some 16, none), (.load 69 (.tmp 4), some 17, none),
    (.call { callee := .value (.func 71), args := #[.tmp 16, .tmp 17], argTypes := #[26, 69] }, some 18, none), (.move (.tmp 18), some 13, none), (.extract (.tmp 13) 0, some 19, none), (.extract (.tmp 13) 1, some 20, none), (.extract (.tmp 13) 2, some 21, none),
    (.alloc 40, some 5, none), (.store 40 (.tmp 5) (.tmp 19), none, none), (.assign (.tmp 20), some 6, none), (.assign (.tmp 21), some 7, none)] := by kernel_rfl
def deps3 : List (List Nat) := [[], [], [0, 1], [], [2, 3], [4], [5], [5], [5], [], [9, 6, 4, 0, 1, 2, 3, 4, 5, 6, 9], [7, 10, 0, 1, 2, 3, 4, 5, 6, 7, 9, 10], [8, 11, 0, 1, 2, 3, 4, 5, 6, 7, 8, 9, 10, 11]]
theorem aft3 : ((ops28 3).toList.map fun o => (o.after.toList.filter fun e => Region.binds .any e).map (·.on)) = deps3 := by kernel_rfl
theorem ty3 : E28.ty 3 = some (.int .i64) := by kernel_rfl
theorem ty26 : E28.ty 26 = some (.sl (.int .u8)) := by kernel_rfl
theorem ty69 : E28.ty 69 = some (.int .u64) := by kernel_rfl
theorem ty40 : E28.ty 40 = some rideTy := by kernel_rfl
theorem shg_get {l : List Oper} {s : List (Op × Option Nat × Option (Nat × Bool))} (hs : shg l = s) {j : Nat} {o : Oper} (ho : l[j]? = some o) : s[j]? = some (o.op, o.dst, o.guard) := by
  rw [← hs, shg, List.getElem?_map, ho]; rfl
structure Vs (b : List Int) (size link : Int) (D : Nat → Bool) (σ : St) : Prop where
  v14 : D 0 = true → (listGet σ 14).a = .val ⟨.sl (.int .u8), b, [.shr]⟩
  v15 : D 1 = true → (listGet σ 15).a = .val ⟨.int .i64, size, [.shr]⟩
  v16 : D 2 = true → (listGet σ 16).a = .val ⟨.sl (.int .u8), rest b size, [.shr]⟩
  v17 : D 3 = true → (listGet σ 17).a = .val ⟨.int .u64, link, [.shr]⟩
theorem listSet_length (σ : St) (s : Nat) (v : Slot) : (listSet σ s v).length = σ.length := by
  induction σ generalizing s with
  | nil => rfl
  | cons a l ih => cases s with
    | zero => rfl
    | succ s => simp [listSet, ih]
theorem Kp.set {b : List Int} {l : List Rd} {size link : Int} {σ : St} (h : Kp b l size link σ) {s : Nat} (v : Slot) (hs : s ≠ 0 ∧ s ≠ 2 ∧ s ≠ 3 ∧ s ≠ 4) : Kp b l size link (listSet σ s v) where
  len := by rw [listSet_length]; exact h.len
  k0 := by rw [listGet_set_other _ _ _ _ hs.1.symm]; exact h.k0
  k2 := by rw [listGet_set_other _ _ _ _ hs.2.1.symm]; exact h.k2
  k3 := by rw [listGet_set_other _ _ _ _ hs.2.2.1.symm]; exact h.k3
  k4 := by rw [listGet_set_other _ _ _ _ hs.2.2.2.symm]; exact h.k4
set_option maxHeartbeats 2000000 in
theorem reg3_pan {w0 : World} {Ok : Nat → Prop} {g : Own} {σ : St} {tm : Array Value} {w : World} {ds : List Deferred} {b : List Int} {l : List Rd} {size link : Int} {T : Nat} {Q : Exit → Act → World → Prop}
    (h : SRep (ctxOf Try.prog w0 Ok) g σ tm w) (hk : Kp b l size link σ) (hok : ok28 b size = true) (hd : d71 (rest b size, link) = some (.inr T))
    (hQ : ∀ g tm w, SRep (ctxOf Try.prog w0 Ok) g (headSt b l size link) tm w → Q (.panic [{ v := .iface T (.agg #[]), recovered := false }]) ⟨tm, ds⟩ w) : (RD 3).wp Try.prog Q ⟨tm, ds⟩ w := by
  have hE : TabOK (ctxOf Try.prog w0 Ok).P E28.tab := tabOK
  have hfn : EnvOK (ctxOf Try.prog w0 Ok) E28 := ⟨envOk28, (fun _ _ h => by cases h), fun s hs => absurd rfl hs⟩
  have hget : ∀ j o, (ops28 3).toList[j]? = some o → deps3.getD j [] = (o.after.toList.filter fun e => Region.binds .any e).map (·.on) := fun j o ho => by
    rw [List.getD_eq_getElem?_getD, ← aft3, List.getElem?_map, ho]; rfl
  have hlen : (ops28 3).toList.length = 13 := by
    have := congrArg List.length sn3
    simpa [shg] using this
  refine region_inv (Checked.mixed Try.checked) (fun j o ho e he hb => ?_)
    (fun D a w => a.defers = ds ∧ (∀ j, 4 ≤ j → j ≠ 9 → D j = false) ∧ ∃ g σ, SRep (ctxOf Try.prog w0 Ok) g σ a.tmps w ∧ Kp b l size link σ ∧ Vs b size link D σ)
    (fun D j o a w ho hD hedge hdown hI => ?_) (fun D a w' hA hI => ?_) ⟨rfl, fun _ _ _ => rfl, g, σ, h.grow (Grow.heap h rfl ⟨rfl, rfl, rfl, Nat.le_succ _⟩), hk, ⟨fun h => (by cases h), fun h => (by cases h), fun h => (by cases h), fun h => (by cases h)⟩⟩
  · have hj : j < 13 := by rw [← hlen]; exact (List.getElem?_eq_some_iff.1 ho).1
    have hm : e.on ∈ deps3.getD j [] := by rw [hget j o ho]; exact List.mem_map.2 ⟨e, List.mem_filter.2 ⟨he, hb⟩, rfl⟩
    have all : ∀ j, j < 13 → ∀ i, i ∈ deps3.getD j [] → i < j := by decide
    exact all j hj _ hm
  · obtain ⟨hds, hno, g, σ, h, hk, hv⟩ := hI
    have hj : j < 13 := by rw [← hlen]; exact (List.getElem?_eq_some_iff.1 ho).1
    have hdep : ∀ i, i ∈ deps3.getD j [] → D i = true := fun i hi => by
      rw [hget j o ho] at hi
      obtain ⟨e, he, rfl⟩ := List.mem_map.1 hi
      have := List.mem_filter.1 he
      exact hedge e this.1 this.2
    have hs := shg_get sn3 ho
    obtain ⟨tm, ds'⟩ := a
    simp only at hds h
    subst hds
    have lay : ∀ (s : Nat) (v : Slot), o.guard = none → (opP E28 o).run σ some = some (listSet σ s v) → s < 33 → (s ≠ 0 ∧ s ≠ 2 ∧ s ≠ 3 ∧ s ≠ 4) → (4 ≤ j → j = 9) → Vs b size link (fun i => decide (i = j) || D i) (listSet σ s v) →
        o.guard = none ∧ o.wp Try.prog ⟨tm, ds'⟩ w (fun a' w' => a'.defers = ds' ∧ (∀ i, 4 ≤ i → i ≠ 9 → (decide (i = j) || D i) = false) ∧ ∃ g σ, SRep (ctxOf Try.prog w0 Ok) g σ a'.tmps w' ∧ Kp b l size link σ ∧ Vs b size link (fun i => decide (i = j) || D i) σ) Q := by
      intro s v hg hr hs33 hne hj9 hvs
      refine ⟨hg, op_sound (C := ctxOf Try.prog w0 Ok) hE hfn h hr fun g' σ' a' w' h' hd' hk' => ?_⟩
      injection hk' with hk'
      subst hk'
      refine ⟨hd', fun i hi hi9 => ?_, g', _, h', hk.set v hne, hvs⟩
      have : i ≠ j := fun e => hi9 (by subst e; exact hj9 hi)
      simp [this, hno i hi hi9]
    have other : ∀ (s t : Nat) (v : Slot), t ≠ s → listGet (listSet σ s v) t = listGet σ t := fun s t v hne => listGet_set_other _ _ _ _ hne
    have same : ∀ (s : Nat) (v : Slot), s < 33 → listGet (listSet σ s v) s = v := fun s v hs => listGet_set_same _ _ _ (by rw [hk.len]; exact hs)
    have dec : ∀ i, i ≠ j → (decide (i = j) || D i) = D i := fun i hi => by simp [hi]
    have ok' := hok
    simp only [ok28, Bool.and_eq_true] at ok'
    have late : ∀ i, 4 ≤ i → i ≠ 9 → i ∈ deps3.getD j [] → False := fun i h1 h2 h3 => by
      have := hdep i h3
      rw [hno i h1 h2] at this; cases this
    match j, ho, hj, hs with
    | 0, ho, _, hs =>
      simp only [List.getElem?_cons_zero, Option.some.injEq, Prod.mk.injEq] at hs
      obtain ⟨h1, h2, h3⟩ := hs
      refine lay 14 ⟨.val ⟨.sl (.int .u8), b, [.shr]⟩, (listGet σ 14).id + 1, (listGet σ 14).gen + 1⟩ h3.symm ?_ (by decide) (by decide) (by decide) ⟨fun _ => ?_, fun hd => ?_, fun hd => ?_, fun hd => ?_⟩
      · simp [opP, ← h1, rdA, Prog.run, hk.k0, putA, ← h2, refMarks, refMark]
      · rw [same 14 _ (by decide)]
      · rw [other 14 15 _ (by decide)]; exact hv.v15 (by rw [dec 1 (by decide)] at hd; exact hd)
      · rw [other 14 16 _ (by decide)]; exact hv.v16 (by rw [dec 2 (by decide)] at hd; exact hd)
      · rw [other 14 17 _ (by decide)]; exact hv.v17 (by rw [dec 3 (by decide)] at hd; exact hd)
    | 1, ho, _, hs =>
      simp only [List.getElem?_cons_succ, List.getElem?_cons_zero, Option.some.injEq, Prod.mk.injEq] at hs
      obtain ⟨h1, h2, h3⟩ := hs
      refine lay 15 ⟨.val ⟨.int .i64, size, [.shr]⟩, (listGet σ 15).id + 1, (listGet σ 15).gen + 1⟩ h3.symm ?_ (by decide) (by decide) (by decide) ⟨fun hd => ?_, fun _ => ?_, fun hd => ?_, fun hd => ?_⟩
      · have hga : getAt (.int .i64) size 0 (.int .i64) = some size := rfl
        simp [opP, ← h1, ty3, rdP, loadP, Prog.run, hk.k3, hga, putA, out, ← h2, refMarks, refMark, Ty.size]
      · rw [other 15 14 _ (by decide)]; exact hv.v14 (by rw [dec 0 (by decide)] at hd; exact hd)
      · rw [same 15 _ (by decide)]
      · rw [other 15 16 _ (by decide)]; exact hv.v16 (by rw [dec 2 (by decide)] at hd; exact hd)
      · rw [other 15 17 _ (by decide)]; exact hv.v17 (by rw [dec 3 (by decide)] at hd; exact hd)
    | 2, ho, _, hs =>
      simp only [List.getElem?_cons_succ, List.getElem?_cons_zero, Option.some.injEq, Prod.mk.injEq] at hs
      obtain ⟨h1, h2, h3⟩ := hs
      have q14 := hv.v14 (hdep 0 (by decide))
      have q15 := hv.v15 (hdep 1 (by decide))
      refine lay 16 ⟨.val ⟨.sl (.int .u8), rest b size, [.shr]⟩, (listGet σ 16).id + 1, (listGet σ 16).gen + 1⟩ h3.symm ?_ (by decide) (by decide) (by decide) ⟨fun hd => ?_, fun hd => ?_, fun _ => ?_, fun hd => ?_⟩
      · have hc : castO (Ty.sl (.int .u8)) (Ty.sl (.int .u8)) b = some b := castO_refl _
        simp [opP, ← h1, ty26, rdS, rdSl, rdInt, optInt, Prog.run, q14, q15, useMarks, refMark, hc, putA, out, ← h2, rest, cond]
        have e1 : (decide (0 ≤ size) && decide (size ≤ (b.length : Int))) = true := by rw [ok'.1, ok'.2.1]; rfl
        rw [e1]
      · rw [other 16 14 _ (by decide)]; exact hv.v14 (by rw [dec 0 (by decide)] at hd; exact hd)
      · rw [other 16 15 _ (by decide)]; exact hv.v15 (by rw [dec 1 (by decide)] at hd; exact hd)
      · rw [same 16 _ (by decide)]
      · rw [other 16 17 _ (by decide)]; exact hv.v17 (by rw [dec 3 (by decide)] at hd; exact hd)
    | 3, ho, _, hs =>
      simp only [List.getElem?_cons_succ, List.getElem?_cons_zero, Option.some.injEq, Prod.mk.injEq] at hs
      obtain ⟨h1, h2, h3⟩ := hs
      refine lay 17 ⟨.val ⟨.int .u64, link, [.shr]⟩, (listGet σ 17).id + 1, (listGet σ 17).gen + 1⟩ h3.symm ?_ (by decide) (by decide) (by decide) ⟨fun hd => ?_, fun hd => ?_, fun hd => ?_, fun _ => ?_⟩
      · have hga : getAt (.int .u64) link 0 (.int .u64) = some link := rfl
        simp [opP, ← h1, ty69, rdP, loadP, Prog.run, hk.k4, hga, putA, out, ← h2, refMarks, refMark, Ty.size]
      · rw [other 17 14 _ (by decide)]; exact hv.v14 (by rw [dec 0 (by decide)] at hd; exact hd)
      · rw [other 17 15 _ (by decide)]; exact hv.v15 (by rw [dec 1 (by decide)] at hd; exact hd)
      · rw [other 17 16 _ (by decide)]; exact hv.v16 (by rw [dec 2 (by decide)] at hd; exact hd)
      · rw [same 17 _ (by decide)]
    | 4, ho, _, hs =>
      simp only [List.getElem?_cons_succ, List.getElem?_cons_zero, Option.some.injEq, Prod.mk.injEq] at hs
      obtain ⟨h1, h2, h3⟩ := hs
      refine ⟨h3.symm, ?_⟩
      have v16 := h.val (hv.v16 (hdep 2 (by decide)))
      have v17 := h.val (hv.v17 (hdep 3 (by decide)))
      obtain ⟨c16, e16, x16, _, _⟩ := v16
      obtain ⟨c17, e17, x17, _, _⟩ := v17
      have shr1 : ∀ m, m ∈ refMarks 16 (listGet σ 16).gen 0 [Mk.shr] → m = .shr := fun m hm => by simpa [refMarks, refMark] using hm
      have shr2 : ∀ m, m ∈ refMarks 17 (listGet σ 17).gen 0 [Mk.shr] → m = .shr := fun m hm => by simpa [refMarks, refMark] using hm
      have r16 := x16.all (fun m hm => by rw [shr1 m hm]; trivial) (fun m hm => by rw [shr1 m hm]; simp)
      have r17 := x17.all (fun m hm => by rw [shr2 m hm]; trivial) (fun m hm => by rw [shr2 m hm]; simp)
      obtain ⟨ad, n, cap, rfl, hsh⟩ := r16
      have r17 : c17 = [.int .u64 link] := r17
      subst r17
      have hx : RepC Try.prog (pk ps71) w (fun _ => True) ([.slice ad n cap] ++ [.int .u64 link]) (rest b size, link) := ⟨_, _, rfl, ⟨ad, n, cap, rfl, hsh⟩, rfl⟩
      have hcall := does71 w (fun _ => True) _ _ _ hx hd
      have hex : (execOp (Act.eval ⟨tm, ds'⟩) o).run Try.prog w = .ok (.enter 71 #[.slice ad n cap, .int .u64 link]) w := by
        have k1 : Act.eval ⟨tm, ds'⟩ (.tmp 16) = .slice ad n cap := e16
        have k2 : Act.eval ⟨tm, ds'⟩ (.tmp 17) = .int .u64 link := e17
        have k3 : Act.eval ⟨tm, ds'⟩ (.func 71) = .func (.func 71) #[] #[] := rfl
        simp [execOp, ← h1, resolve, Deferred.ofValue, invoke, k1, k2, k3, k71.run]
      unfold Oper.wp
      rw [hex, Oper.upon_enter]
      refine Calls.mono (show Calls Try.prog 71 #[.slice ad n cap, .int .u64 link] w _ from hcall) ?_
      rintro e w' ⟨rfl, q1, q2, q3⟩
      show Q _ _ w'
      obtain ⟨g', h'⟩ := to_head (h.grow (Grow.called (d := 0) (f := fun _ => none) h q1 q2 (fun _ hb => absurd rfl hb) q3)) hk
      exact hQ g' tm w' h'
    | 5, ho, _, hs => exact (late 4 (by decide) (by decide) (by decide)).elim
    | 6, ho, _, hs => exact (late 5 (by decide) (by decide) (by decide)).elim
    | 7, ho, _, hs => exact (late 5 (by decide) (by decide) (by decide)).elim
    | 8, ho, _, hs => exact (late 5 (by decide) (by decide) (by decide)).elim
    | 9, ho, _, hs =>
      simp only [List.getElem?_cons_succ, List.getElem?_cons_zero, Option.some.injEq, Prod.mk.injEq] at hs
      obtain ⟨h1, h2, h3⟩ := hs
      refine lay 5 ⟨.box ⟨rideTy, ((0, 0, 0, 0, 0, 0, 0) : Rd), ownMarks rideTy⟩, (listGet σ 5).id + 1, (listGet σ 5).gen + 1⟩ h3.symm ?_ (by decide) (by decide) (by decide) ⟨fun hd => ?_, fun hd => ?_, fun hd => ?_, fun hd => ?_⟩
      · have hp : E28.pinned (some 5) = false := rfl
        have hz : rideTy.zero = some ((0, 0, 0, 0, 0, 0, 0) : Rd) := rfl
        simp [opP, ← h1, ty40, ← h2, hp, hz, putA, Prog.run]
      · rw [other 5 14 _ (by decide)]; exact hv.v14 (by rw [dec 0 (by decide)] at hd; exact hd)
      · rw [other 5 15 _ (by decide)]; exact hv.v15 (by rw [dec 1 (by decide)] at hd; exact hd)
      · rw [other 5 16 _ (by decide)]; exact hv.v16 (by rw [dec 2 (by decide)] at hd; exact hd)
      · rw [other 5 17 _ (by decide)]; exact hv.v17 (by rw [dec 3 (by decide)] at hd; exact hd)
    | 10, ho, _, hs => exact (late 6 (by decide) (by decide) (by decide)).elim
    | 11, ho, _, hs => exact (late 7 (by decide) (by decide) (by decide)).elim
    | 12, ho, _, hs => exact (late 8 (by decide) (by decide) (by decide)).elim
    | n + 13, _, hj, _ => omega
  · obtain ⟨_, hno, _⟩ := hI
    have hsz : (ops28 3).size = 13 := by rw [← Array.length_toList, hlen]
    have := hA 4 (by omega)
    rw [hno 4 (by decide) (by decide)] at this; cases this
end Go.Proofs.Ytbapfiaglcllnaa.D.Sc
end

section
namespace Go.Proofs.Ytbapfiaglcllnaa.D.Sc
set_option maxRecDepth 10000
open Go Go.GD Go.Proofs Up
theorem getScan_inv {σ : St} {s : ScanS} (h : getScan σ = some s) : Kp s.b s.l s.size s.link σ := by
  unfold getScan at h
  cases hl : Nat.beq σ.length 33 with
  | false => rw [hl] at h; cases h
  | true =>
  rw [hl, cond_true] at h
  split at h
  case h_2 => cases h
  rename_i b t l size link q0 q2 q3 q4
  split at h
  case h_2 => cases h
  rename_i l' hc
  obtain ⟨e, rfl⟩ := castO_some hc
  subst e
  injection h with h
  subst h
  exact ⟨Nat.eq_of_beq_eq_true hl, q0, q2, q3, q4⟩
section
variable {w0 : World} {Ok : Nat → Prop} {ds : List Deferred}
theorem hfn28 : EnvOK (ctxOf Try.prog w0 Ok) E28 := ⟨envOk28, (fun _ _ h => by cases h), fun s hs => absurd rfl hs⟩
theorem body_sound {ρ : Type} {r : ρ} (fuel : Nat) (k : Ex → St → Option ρ) (Q : Exit → Act → World → Prop) (g : Own) (σ : St) (tm : Array Value) (w : World) (h : SRep (ctxOf Try.prog w0 Ok) g σ tm w) (hr : fBody fuel k σ = some r)
    (hQ : Post (ctxOf Try.prog w0 Ok) r ds k Q) : (Code.seq hd28 blk28).wp Try.prog Q ⟨tm, ds⟩ w := by
  refine wp_seq (code_sound (C := ctxOf Try.prog w0 Ok) mixed tabOK hfn28 hd28 _ _ g σ tm w h hr fun e g1 σ1 tm1 w1 h1 hk => ?_)
  cases e with
  | exit id => exact hQ (.exit id) g1 σ1 tm1 w1 h1 hk
  | ret => exact hQ .ret g1 σ1 tm1 w1 h1 hk
  | pan T => exact hQ (.pan T) g1 σ1 tm1 w1 h1 hk
  | normal =>
    show blk28.wp Try.prog Q ⟨tm1, ds⟩ w1
    simp only at hk
    split at hk
    case h_2 => cases hk
    rename_i s hs
    have hkp := getScan_inv hs
    cases hok : ok28 s.b s.size with
    | false => rw [hok] at hk; cases hk
    | true =>
    rw [hok, cond_true] at hk
    cases hd : d71 (rest s.b s.size, s.link) with
    | none => rw [hd] at hk; cases hk
    | some y =>
    rw [hd] at hk
    cases y with
    | inl y => exact code_sound (C := ctxOf Try.prog w0 Ok) mixed tabOK hfn28 blk28 _ _ g1 σ1 tm1 w1 h1 hk hQ
    | inr T =>
      refine wp_block (wp_seq (reg3_pan h1 hkp hok hd fun g2 tm2 w2 h2 => ?_))
      exact hQ (.pan T) g2 _ tm2 w2 h2 hk
end
theorem sn1 : shg (ops28 1).toList = [(.makeFunc (.func 70) #[] #[.tmp 2, .tmp 3, .tmp 4], some 8, none), (.defer { callee := .value (.tmp 8), args := #[], argTypes := #[] }, none, none)] := by kernel_rfl
theorem size28 : Try.f28.ntmps = 33 := by kernel_rfl
theorem res28 : resOK tab Try.f28.results.toList rs28 = true := by kernel_rfl
theorem nod28 : nodupB (Try.f28.results.toList.map rSlot) = true := by kernel_rfl
theorem k28 : Callable Try.prog 28 := ⟨Try.f28, Try.func28, by kernel_rfl, by kernel_rfl⟩
theorem k70 : Callable Try.prog 70 := ⟨Try.f70, Try.func70, by kernel_rfl, by kernel_rfl⟩
abbrev dfr (p2 p3 p4 : Value) : Deferred := { target := .fn (.func 70) #[p2, p3, p4], args := #[] }
set_option maxHeartbeats 1000000 in
theorem scan_does : Does Try.prog 28 ps28 rs28 true (scanH big) := by
  intro w Ok cs x y hx hy
  unfold scanH at hy
  refine calls_of_wp_defers Try.func28 body28 ?_
  have hps : ps28.length ≤ Try.f28.ntmps := by rw [size28]; decide
  have h0 := init_rep (P := Try.prog) (Ok := Ok) hps hx
  refine wp_seq (code_sound (C := ctxOf Try.prog w Ok) mixed tabOK hfn28 (R 0) _ _ _ _ _ w h0 hy fun e g1 σ1 tm1 w1 h1 hk => ?_)
  cases e with
  | exit id => cases hk
  | ret => cases hk
  | pan T => cases hk
  | normal =>
  have hk : (bif Nat.beq σ1.length 33 then loopC big (fBody big) a28 (kLoop big) (listSet σ1 8 ⟨.top, (listGet σ1 8).id + 1, (listGet σ1 8).gen + 1⟩) else none) = some y := hk
  cases hl : Nat.beq σ1.length 33 with
  | false => rw [hl] at hk; cases hk
  | true =>
  rw [hl, cond_true] at hk
  have hl := Nat.eq_of_beq_eq_true hl
  show (Code.seq (R 1) _).wp Try.prog _ _ _
  refine wp_seq (reg_sh sn1 ?_)
  intro o h1o h2o h3o
  have hw : Region.wanted o (yielded (ops28 1) tm1) = true := by simp [Region.wanted, show o.guard = none from h3o]
  rw [if_pos hw]
  have hex : (execOp (Act.eval ⟨tm1, []⟩) o).run Try.prog w1 = .ok (.value (.func (.func 70) #[] #[tm1.getD 2 undef, tm1.getD 3 undef, tm1.getD 4 undef])) w1 := by
    simp [execOp, show o.op = _ from h1o, Instr.makeFunc, Act.eval]
  generalize tm1.getD 2 undef = p2 at hex
  generalize tm1.getD 3 undef = p3 at hex
  generalize tm1.getD 4 undef = p4 at hex
  unfold Oper.wp
  rw [hex, Oper.upon_value, show o.dst = some 8 from h2o]
  obtain ⟨σ2, h2, hσ2, hd2⟩ := put_sound (dst := some 8) (a0 := .top) (v := .func (.func 70) #[] #[p2, p3, p4]) (ds := []) (K := some) h1 (.refl h1)
    (fun d _ _ σ' tm' _ => ⟨trivial, trivial⟩) (r := listSet σ1 8 ⟨.top, (listGet σ1 8).id + 1, (listGet σ1 8).gen + 1⟩) rfl
  injection hσ2 with hσ2
  subst hσ2
  intro o' h1o' h2o' h3o'
  have hw' : Region.wanted o' (yielded (ops28 1) (Act.put ⟨tm1, []⟩ (some 8) (.func (.func 70) #[] #[p2, p3, p4])).tmps) = true := by simp [Region.wanted, show o'.guard = none from h3o']
  rw [if_pos hw']
  have h8 : 8 < tm1.size := by rw [h1.len, hl]; decide
  have ev : (Act.put ⟨tm1, []⟩ (some 8) (.func (.func 70) #[] #[p2, p3, p4])).eval (.tmp 8) = .func (.func 70) #[] #[p2, p3, p4] := by
    show (tm1.setIfInBounds 8 _).getD 8 undef = _
    rw [Array.getD_eq_getD_getElem?, Array.getElem?_setIfInBounds_self, if_pos h8]; rfl
  have hex' : (execOp (Act.put ⟨tm1, []⟩ (some 8) (.func (.func 70) #[] #[p2, p3, p4])).eval o').run Try.prog w1 = .ok (.defer (dfr (p2) (p3) (p4))) w1 := by
    simp [execOp, show o'.op = _ from h1o', resolve, Deferred.ofValue, ev]
  unfold Oper.wp
  rw [hex', Oper.upon_defer, show o'.dst = none from h2o']
  have inv : ∀ W : World, (invoke (.fn (.func 70) #[p2, p3, p4]) #[]).run Try.prog W = .ok (.enter 70 #[p2, p3, p4]) W := fun W => by simp [invoke, k70.run]
  show (Code.seq (.block 0 (.loop (.seq hd28 blk28))) end28).wp Try.prog _ ⟨(Act.put ⟨tm1, []⟩ (some 8) (.func (.func 70) #[] #[p2, p3, p4])).tmps, [dfr p2 p3 p4]⟩ w1
  generalize (Act.put ⟨tm1, []⟩ (some 8) (.func (.func 70) #[] #[p2, p3, p4])).tmps = tm2 at *
  refine wp_seq (wp_block (loop_sound (C := ctxOf Try.prog w Ok) (r := y) (body_sound big) h2 hk fun e g3 σ3 tm3 w3 h3 hk3 => ?_))
  cases e with
  | normal => cases hk3
  | ret => cases hk3
  | exit id =>
    cases id with
    | succ n => cases hk3
    | zero =>
      have hk3 : codeC E28 ann28 big end28 kFin σ3 = some y := hk3
      show end28.wp Try.prog _ ⟨tm3, [dfr p2 p3 p4]⟩ w3
      refine code_sound (C := ctxOf Try.prog w Ok) mixed tabOK hfn28 end28 _ _ _ _ _ w3 h3 hk3 fun e g4 σ4 tm4 w4 h4 hk4 => ?_
      cases e with
      | normal => cases hk4
      | exit id => cases hk4
      | pan T => cases hk4
      | ret =>
        obtain ⟨_, v, hv, hR⟩ := ret_results (R := fun e w' => Returned Try.prog w Ok rs28 true y e w') tabOK res28 nod28 h4 hk4 fun _ _ h => h
        show Leaves Try.prog Try.f28 tm4 _ [dfr p2 p3 p4] .returning w4
        refine leaves_cons (f := 70) (args := #[p2, p3, p4]) (by simp) (inv w4) ((catch_idle p2 p3 p4 w4).mono ?_)
        rintro e u' w' ⟨rfl, rfl, rfl⟩
        exact ⟨v, hv, hR⟩
  | pan T =>
    have hk3 : (bif Nat.beq T 135 then readRes Try.f28.results.toList true rs28 σ3 some else none) = some y := hk3
    cases hT : Nat.beq T 135 with
    | false => rw [hT] at hk3; cases hk3
    | true =>
    rw [hT, cond_true] at hk3
    have hT := Nat.eq_of_beq_eq_true hT
    subst hT
    show Leaves Try.prog Try.f28 tm3 _ [dfr p2 p3 p4] (.panicking [{ v := .iface 135 (.agg #[]), recovered := false }]) w3
    refine leaves_cons (f := 70) (args := #[p2, p3, p4]) (by simp) (inv w3) ((catch_panicking p2 p3 p4 w3).mono ?_)
    rintro e u' w' ⟨rfl, rfl, q1, q2, q3⟩
    have h5 := h3.grow (Grow.called (d := 0) (f := fun _ => none) h3 q1 q2 (fun _ hb => absurd rfl hb) q3)
    obtain ⟨_, v, hv, hR⟩ := ret_results (R := fun e w' => Returned Try.prog w Ok rs28 true y e w') tabOK res28 nod28 h5 hk3 fun _ _ h => h
    exact ⟨v, hv, hR⟩
end Go.Proofs.Ytbapfiaglcllnaa.D.Sc
end
