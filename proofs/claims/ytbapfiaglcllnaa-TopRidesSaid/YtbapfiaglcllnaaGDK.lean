import Derived.Test.YtbapfiaglcllnaaGDcc
namespace Go.GD
open Go
noncomputable section
inductive Tr where
  | lf (s : Slot)
  | nd (a b : Tr)
def tget (T : Tr) : Nat → Slot :=
  Tr.rec (motive := fun _ => Nat → Slot) (fun s _ => s) (fun _ _ iha ihb n => Bool.rec (ihb (Nat.div n 2)) (iha (Nat.div n 2)) (Nat.beq (Nat.mod n 2) 0)) T
def tset (T : Tr) : Nat → Slot → Tr :=
  Tr.rec (motive := fun _ => Nat → Slot → Tr) (fun _ _ v => .lf v) (fun a b iha ihb n v => Bool.rec (.nd a (ihb (Nat.div n 2) v)) (.nd (iha (Nat.div n 2) v) b) (Nat.beq (Nat.mod n 2) 0)) T
def Full : Nat → Tr → Prop
  | 0, .lf _ => True
  | d + 1, .nd a b => Full d a ∧ Full d b
  | _, _ => False
theorem tget_nd (a b : Tr) (n : Nat) : tget (.nd a b) n = if n % 2 = 0 then tget a (n / 2) else tget b (n / 2) := by
  show (Bool.rec (tget b (n / 2)) (tget a (n / 2)) (Nat.beq (n % 2) 0) : Slot) = _
  cases h : Nat.beq (n % 2) 0 with
  | true => rw [if_pos (Nat.eq_of_beq_eq_true h)]
  | false => rw [if_neg (fun e => by rw [e] at h; cases h)]
theorem tset_nd (a b : Tr) (n : Nat) (v : Slot) : tset (.nd a b) n v = if n % 2 = 0 then .nd (tset a (n / 2) v) b else .nd a (tset b (n / 2) v) := by
  show (Bool.rec (.nd a (tset b (n / 2) v)) (.nd (tset a (n / 2) v) b) (Nat.beq (n % 2) 0) : Tr) = _
  cases h : Nat.beq (n % 2) 0 with
  | true => rw [if_pos (Nat.eq_of_beq_eq_true h)]
  | false => rw [if_neg (fun e => by rw [e] at h; cases h)]
theorem tset_full : (d : Nat) → (T : Tr) → Full d T → ∀ n v, Full d (tset T n v)
  | 0, .lf _, _, _, _ => trivial
  | 0, .nd _ _, h, _, _ => h.elim
  | _ + 1, .lf _, h, _, _ => h.elim
  | d + 1, .nd a b, h, n, v => by
    rw [tset_nd]
    split
    · exact ⟨tset_full d a h.1 _ _, h.2⟩
    · exact ⟨h.1, tset_full d b h.2 _ _⟩
theorem tget_same : (d : Nat) → (T : Tr) → Full d T → ∀ n v, tget (tset T n v) n = v
  | 0, .lf _, _, _, _ => rfl
  | 0, .nd _ _, h, _, _ => h.elim
  | _ + 1, .lf _, h, _, _ => h.elim
  | d + 1, .nd a b, h, n, v => by
    rw [tset_nd]
    by_cases hn : n % 2 = 0
    · rw [if_pos hn, tget_nd, if_pos hn]; exact tget_same d a h.1 _ _
    · rw [if_neg hn, tget_nd, if_neg hn]; exact tget_same d b h.2 _ _
theorem tget_other : (d : Nat) → (T : Tr) → Full d T → ∀ n m v, n < 2 ^ d → m < 2 ^ d → m ≠ n → tget (tset T n v) m = tget T m
  | 0, .lf _, _, n, m, _, hn, hm, hne => absurd (by simp at hn hm; omega) hne
  | 0, .nd _ _, h, _, _, _, _, _, _ => h.elim
  | _ + 1, .lf _, h, _, _, _, _, _, _ => h.elim
  | d + 1, .nd a b, h, n, m, v, hn, hm, hne => by
    rw [Nat.pow_succ] at hn hm
    rw [tset_nd]
    by_cases h1 : n % 2 = 0
    · rw [if_pos h1, tget_nd, tget_nd]
      by_cases h2 : m % 2 = 0
      · rw [if_pos h2, if_pos h2]; exact tget_other d a h.1 _ _ _ (by omega) (by omega) (by omega)
      · rw [if_neg h2, if_neg h2]
    · rw [if_neg h1, tget_nd, tget_nd]
      by_cases h2 : m % 2 = 0
      · rw [if_pos h2, if_pos h2]
      · rw [if_neg h2, if_neg h2]; exact tget_other d b h.2 _ _ _ (by omega) (by omega) (by omega)
def ofL : Nat → List Slot → Tr
  | 0, l => .lf (listGet l 0)
  | d + 1, l => .nd (ofL d (evens l)) (ofL d (odds l))
where
  evens : List Slot → List Slot
    | [] => []
    | [a] => [a]
    | a :: _ :: l => a :: evens l
  odds : List Slot → List Slot
    | [] => []
    | [_] => []
    | _ :: b :: l => b :: odds l
theorem evens_get : (l : List Slot) → (n : Nat) → listGet (ofL.evens l) n = listGet l (2 * n)
  | [], _ => rfl
  | [_], 0 => rfl
  | [_], n + 1 => by rw [show 2 * (n + 1) = 2 * n + 1 + 1 by omega]; rfl
  | _ :: _ :: _, 0 => rfl
  | a :: b :: l, n + 1 => by
    rw [show 2 * (n + 1) = 2 * n + 1 + 1 by omega]
    exact evens_get l n
theorem odds_get : (l : List Slot) → (n : Nat) → listGet (ofL.odds l) n = listGet l (2 * n + 1)
  | [], _ => rfl
  | [_], n => by cases n <;> rfl
  | _ :: _ :: _, 0 => rfl
  | a :: b :: l, n + 1 => by
    rw [show 2 * (n + 1) + 1 = 2 * n + 1 + 1 + 1 by omega]
    exact odds_get l n
theorem ofL_full : (d : Nat) → (l : List Slot) → Full d (ofL d l)
  | 0, _ => trivial
  | d + 1, _ => ⟨ofL_full d _, ofL_full d _⟩
theorem ofL_get : (d : Nat) → (l : List Slot) → ∀ n, n < 2 ^ d → tget (ofL d l) n = listGet l n
  | 0, l, n, h => by
    have : n = 0 := by simp at h; omega
    subst this; rfl
  | d + 1, l, n, h => by
    rw [Nat.pow_succ] at h
    show tget (.nd _ _) n = _
    rw [tget_nd]
    split
    · rw [ofL_get d _ _ (by omega), evens_get]; congr 1; omega
    · rw [ofL_get d _ _ (by omega), odds_get]; congr 1; omega
def tl (T : Tr) : Nat → Nat → List Slot
  | _, 0 => []
  | i, n + 1 => tget T i :: tl T (i + 1) n
theorem tl_length (T : Tr) : (i n : Nat) → (tl T i n).length = n
  | _, 0 => rfl
  | i, n + 1 => by rw [tl, List.length_cons, tl_length T (i + 1) n]
theorem tl_get (T : Tr) : (i n k : Nat) → k < n → listGet (tl T i n) k = tget T (i + k)
  | _, 0, _, h => by omega
  | i, n + 1, 0, _ => rfl
  | i, n + 1, k + 1, h => by
    show listGet (tl T (i + 1) n) k = _
    rw [tl_get T (i + 1) n k (by omega)]; congr 1; omega
theorem list_ext : (a b : List Slot) → a.length = b.length → (∀ i, i < a.length → listGet a i = listGet b i) → a = b
  | [], [], _, _ => rfl
  | [], _ :: _, h, _ => by simp at h
  | _ :: _, [], h, _ => by simp at h
  | x :: a, y :: b, h, hg => by
    have h0 : x = y := hg 0 (by simp)
    subst h0
    rw [list_ext a b (by simpa using h) fun i hi => hg (i + 1) (by simpa using hi)]
structure Sim (d N : Nat) (T : Tr) (σ : St) : Prop where
  len : σ.length = N
  room : N ≤ 2 ^ d
  full : Full d T
  get : ∀ s, s < N → tget T s = listGet σ s
def gK (N : Nat) (T : Tr) (s : Nat) : Slot := Bool.rec ⟨.top, 0, 0⟩ (tget T s) (Nat.blt s N)
def sK (N : Nat) (T : Tr) (s : Nat) (v : Slot) : Tr := Bool.rec T (tset T s v) (Nat.blt s N)
variable {d N : Nat} {T : Tr} {σ : St}
theorem blt_true {a b : Nat} (h : a < b) : Nat.blt a b = true := Nat.ble_eq_true_of_le h
theorem blt_false {a b : Nat} (h : b ≤ a) : Nat.blt a b = false := by
  cases hb : Nat.blt a b with
  | false => rfl
  | true => have := Nat.le_of_ble_eq_true hb; omega
theorem Sim.gK (h : Sim d N T σ) (s : Nat) : gK N T s = listGet σ s := by
  rcases Nat.lt_or_ge s N with hs | hs
  · rw [GD.gK, blt_true hs]; exact h.get s hs
  · rw [GD.gK, blt_false hs, listGet_out _ _ (by rw [h.len]; exact hs)]
theorem Sim.sK (h : Sim d N T σ) (s : Nat) (v : Slot) : Sim d N (sK N T s v) (listSet σ s v) := by
  rcases Nat.lt_or_ge s N with hs | hs
  · rw [GD.sK, blt_true hs]
    refine ⟨by rw [listSet_length, h.len], h.room, tset_full d T h.full _ _, fun t ht => ?_⟩
    by_cases e : t = s
    · subst e
      rw [listGet_set_same _ _ _ (by rw [h.len]; exact hs)]
      exact tget_same d T h.full _ _
    · rw [listGet_set_other _ _ _ _ e, ← h.get t ht]
      have := h.room
      exact tget_other d T h.full _ _ _ (by omega) (by omega) e
  · rw [GD.sK, blt_false hs, listSet_out _ _ _ (by rw [h.len]; exact hs)]
    exact h
theorem Sim.tl (h : Sim d N T σ) : tl T 0 N = σ :=
  list_ext _ _ (by rw [tl_length, h.len]) fun i hi => by
    rw [tl_length] at hi
    rw [tl_get T 0 N i hi, Nat.zero_add]; exact h.get i hi
theorem Sim.ofL (hl : σ.length = N) (hr : N ≤ 2 ^ d) : Sim d N (ofL d σ) σ :=
  ⟨hl, hr, ofL_full d σ, fun s hs => ofL_get d σ s (by omega)⟩
section
variable {ρ : Type}
def runK (N : Nat) (p : Prog) : Tr → (Tr → Option ρ) → Option ρ :=
  Prog.rec (motive := fun _ => Tr → (Tr → Option ρ) → Option ρ)
    (fun T k => k T) (fun _ _ => none)
    (fun s _ ih T k => ih (gK N T s) T k)
    (fun s v _ ih T k => ih (sK N T s v) k)
    (fun b _ _ ihp ihq T k => Bool.rec (ihq T k) (ihp T k) b)
    (fun s _ _ _ ihp ihq ihu T k => match gK N T s with
      | ⟨.val ⟨.bool, b, ms⟩, i, g⟩ => cond b (ihp (sK N T s ⟨.val ⟨.bool, true, ms⟩, i, g⟩) k) (ihq (sK N T s ⟨.val ⟨.bool, false, ms⟩, i, g⟩) k)
      | ⟨.tup [], _, _⟩ => ihu T k
      | _ => none)
    (fun _ _ ihp ihq T k => bothO (ihp T k) (ihq T k))
    (fun o _ ih T k => o.bind fun x => ih x T k) p
theorem runK_eq {N d : Nat} : (p : Prog) → ∀ {T : Tr} {σ : St} {kT : Tr → Option ρ} {k : St → Option ρ}, Sim d N T σ → (∀ T' σ', Sim d N T' σ' → kT T' = k σ') → runK N p T kT = p.run σ k
  | .fin, _, _, _, _, h, hk => hk _ _ h
  | .fail, _, _, _, _, _, _ => rfl
  | .get s p, _, _, _, _, h, hk => by
    show runK N (p (gK N _ s)) _ _ = _
    rw [h.gK]
    exact runK_eq (p _) h hk
  | .put s v p, _, _, _, _, h, hk => runK_eq p (h.sK s v) hk
  | .br b p q, _, _, _, _, h, hk => by
    cases b with
    | true => exact runK_eq p h hk
    | false => exact runK_eq q h hk
  | .brs s p q u, T, σ, kT, k, h, hk => by
    show (match gK N T s with
      | ⟨.val ⟨.bool, b, ms⟩, i, g⟩ => cond b (runK N p (sK N T s ⟨.val ⟨.bool, true, ms⟩, i, g⟩) kT) (runK N q (sK N T s ⟨.val ⟨.bool, false, ms⟩, i, g⟩) kT)
      | ⟨.tup [], _, _⟩ => runK N u T kT
      | _ => none) = _
    rw [h.gK]
    simp only [Prog.run]
    generalize listGet σ s = sl
    obtain ⟨a, i, g⟩ := sl
    cases a with
    | val v =>
      obtain ⟨t, b, ms⟩ := v
      cases t with
      | bool =>
        have b1 : b = true ∨ b = false := by
          have := Bool.eq_false_or_eq_true (b : Bool)
          exact this
        rcases b1 with rfl | rfl
        · exact runK_eq p (h.sK _ _) hk
        · exact runK_eq q (h.sK _ _) hk
      | _ => rfl
    | tup vs =>
      cases vs with
      | nil => exact runK_eq u h hk
      | cons _ _ => rfl
    | _ => rfl
  | .both p q, _, _, _, _, h, hk => by
    show bothO (runK N p _ _) (runK N q _ _) = bothO _ _
    rw [runK_eq p h hk, runK_eq q h hk]
  | .bind o p, _, _, _, _, h, hk => by
    cases o with
    | none => rfl
    | some x => exact runK_eq (p x) h hk
def runFK (N : Nat) (p : Prog) : Tr → List Nat → List Nat → (Tr → List Nat → List Nat → Option ρ) → Option ρ :=
  Prog.rec (motive := fun _ => Tr → List Nat → List Nat → (Tr → List Nat → List Nat → Option ρ) → Option ρ)
    (fun T R W k => k T R W) (fun _ _ _ _ => none)
    (fun s _ ih T R W k => ih (gK N T s) T (s :: R) W k)
    (fun s v _ ih T R W k => ih (sK N T s v) R (s :: W) k)
    (fun b _ _ ihp ihq T R W k => Bool.rec (ihq T R W k) (ihp T R W k) b)
    (fun s _ _ _ ihp ihq ihu T R W k => match gK N T s with
      | ⟨.val ⟨.bool, b, ms⟩, i, g⟩ => cond b (ihp (sK N T s ⟨.val ⟨.bool, true, ms⟩, i, g⟩) (s :: R) W k) (ihq (sK N T s ⟨.val ⟨.bool, false, ms⟩, i, g⟩) (s :: R) W k)
      | ⟨.tup [], _, _⟩ => ihu T (s :: R) W k
      | _ => none)
    (fun _ _ _ _ _ _ _ _ => none)
    (fun o _ ih T R W k => o.bind fun x => ih x T R W k) p
theorem runFK_eq {N d : Nat} : (p : Prog) → ∀ {T : Tr} {σ : St} {R W : List Nat} {kT : Tr → List Nat → List Nat → Option ρ} {k : St → List Nat → List Nat → Option ρ}, Sim d N T σ → (∀ T' σ' R W, Sim d N T' σ' → kT T' R W = k σ' R W) → runFK N p T R W kT = p.runF σ R W k
  | .fin, _, _, _, _, _, _, h, hk => hk _ _ _ _ h
  | .fail, _, _, _, _, _, _, _, _ => rfl
  | .get s p, _, _, _, _, _, _, h, hk => by
    show runFK N (p (gK N _ s)) _ _ _ _ = _
    rw [h.gK]
    exact runFK_eq (p _) h hk
  | .put s v p, _, _, _, _, _, _, h, hk => runFK_eq p (h.sK s v) hk
  | .br b p q, _, _, _, _, _, _, h, hk => by
    cases b with
    | true => exact runFK_eq p h hk
    | false => exact runFK_eq q h hk
  | .brs s p q u, T, σ, R, W, kT, k, h, hk => by
    show (match gK N T s with
      | ⟨.val ⟨.bool, b, ms⟩, i, g⟩ => cond b (runFK N p (sK N T s ⟨.val ⟨.bool, true, ms⟩, i, g⟩) (s :: R) W kT) (runFK N q (sK N T s ⟨.val ⟨.bool, false, ms⟩, i, g⟩) (s :: R) W kT)
      | ⟨.tup [], _, _⟩ => runFK N u T (s :: R) W kT
      | _ => none) = _
    rw [h.gK]
    simp only [Prog.runF]
    generalize listGet σ s = sl
    obtain ⟨a, i, g⟩ := sl
    cases a with
    | val v =>
      obtain ⟨t, b, ms⟩ := v
      cases t with
      | bool =>
        have b1 : b = true ∨ b = false := by
          have := Bool.eq_false_or_eq_true (b : Bool)
          exact this
        rcases b1 with rfl | rfl
        · exact runFK_eq p (h.sK _ _) hk
        · exact runFK_eq q (h.sK _ _) hk
      | _ => rfl
    | tup vs =>
      cases vs with
      | nil => exact runFK_eq u h hk
      | cons _ _ => rfl
    | _ => rfl
  | .both p q, _, _, _, _, _, _, _, _ => rfl
  | .bind o p, _, _, _, _, _, _, h, hk => by
    cases o with
    | none => rfl
    | some x => exact runFK_eq (p x) h hk
variable (E : Env) (ann : List LoopAnn) (fuel : Nat)
def drawK (N : Nat) (ops : List Oper) : List Oper → Nat → List (List Nat) → List (List Nat × List Nat) → Tr → (Tr → Option ρ) → Option ρ
  | [], _, _, _, T, k => k T
  | o :: l, j, anc, fps, T, k => runFK N (guardP ops o (opP E o)) T [] [] fun T' R W =>
    let mine := ancOf anc o.after.toList
    if edgesOk j o.after.toList && apartAll mine R W 0 fps then drawK N ops l (j + 1) (anc ++ [mine]) (fps ++ [(R, W)]) T' k else none
theorem drawK_eq (ops : List Oper) : (l : List Oper) → ∀ {j : Nat} {anc : List (List Nat)} {fps : List (List Nat × List Nat)} {T : Tr} {σ : St} {kT : Tr → Option ρ} {k : St → Option ρ}, Sim d N T σ → (∀ T' σ', Sim d N T' σ' → kT T' = k σ') →
    drawK E N ops l j anc fps T kT = drawC E ops l j anc fps σ k
  | [], _, _, _, _, _, _, _, h, hk => hk _ _ h
  | o :: l, j, anc, fps, T, σ, kT, k, h, hk => by
    simp only [drawK, drawC]
    refine runFK_eq _ h fun T' σ' R W h' => ?_
    split
    · exact drawK_eq ops l h' hk
    · rfl
def regK (N : Nat) (ops : List Oper) : List Oper → Tr → (Tr → Option ρ) → Option ρ
  | [], T, k => k T
  | o :: l, T, k => runK N (guardP ops o (opP E o)) T fun T' => regK N ops l T' k
theorem regK_eq (ops : List Oper) : (l : List Oper) → ∀ {T : Tr} {σ : St} {kT : Tr → Option ρ} {k : St → Option ρ}, Sim d N T σ → (∀ T' σ', Sim d N T' σ' → kT T' = k σ') → regK E N ops l T kT = regC E ops l σ k
  | [], _, _, _, _, h, hk => hk _ _ h
  | o :: l, T, σ, kT, k, h, hk => by
    simp only [regK, regC]
    exact runK_eq _ h fun T' σ' h' => regK_eq ops l h' hk
def nextKK (N : Nat) (sh : List Sh) (ks frz : List Nat) (F : (pk (shTys sh)).den → Option ρ) (k : Ex → Tr → Option ρ) : Ex → Tr → Option ρ
  | .normal, T => match dataAt (tl T 0 N) ks frz 0 sh (tl T 0 N) with
    | some l => match packL (shTys sh) l with
      | some s => F s
      | none => none
    | none => none
  | e, T => k e T
def loopK (d N : Nat) (f : (Ex → Tr → Option ρ) → Tr → Option ρ) (a : LoopAnn) (k : Ex → Tr → Option ρ) (T : Tr) : Option ρ :=
  let σ := tl T 0 N
  let sh := shapes σ a.live a.frz 0 σ
  match dataAt σ a.live a.frz 0 sh σ with
  | some l => match packL (shTys sh) l with
    | some s => iter (fun F s => f (nextKK N sh a.live a.frz F k) (ofL d (inject sh (unpackL (shTys sh) s)))) fuel s
    | none => none
  | none => none
def codeK (d N : Nat) : Code → (Ex → Tr → Option ρ) → Tr → Option ρ
  | .skip, k, T => k .normal T
  | .region _ ops false, k, T => match panOps E.tab ops.toList with
    | some (U, d0, d1) => cond (Nat.blt d0 N && Nat.blt d1 N) (runK N (panP d0 d1) T fun T' => k (.pan U) T') none
    | none => regK E N ops.toList ops.toList T fun T' => k .normal T'
  | .region id ops true, k, T => runK N (freezeP (findAnn ann (id + 1000000)).frz) T fun T => drawK E N ops.toList ops.toList 0 [] [] T fun T' => k .normal T'
  | .seq a b, k, T => codeK d N a (fun e T' => match e with
    | .normal => codeK d N b k T'
    | e => k e T') T
  | .cond c a b, k, T => match c with
    | .tmp s => match (gK N T s).a with
      | .val ⟨.bool, t, _⟩ => cond t (codeK d N a k T) (codeK d N b k T)
      | _ => none
    | _ => none
  | .block id c, k, T => codeK d N c (fun e T' => match e with
    | .exit i => if Nat.beq i id then k .normal T' else k (.exit i) T'
    | e => k e T') T
  | .loop c, k, T => loopK fuel d N (codeK d N c) (findAnn ann ((firstRegion c).getD 0)) k T
  | .exit id, k, T => k (.exit id) T
  | .ret, k, T => k .ret T
  | _, _, _ => none
theorem shapes_length (σ : St) (ks frz : List Nat) : (i : Nat) → (l : List Slot) → (shapes σ ks frz i l).length = l.length
  | _, [] => rfl
  | i, _ :: l => by rw [shapes, List.length_cons, List.length_cons, shapes_length σ ks frz (i + 1) l]
theorem inject_len : (hs : List Sh) → (l : List DV) → l.length = (shTys hs).length → (inject hs l).length = hs.length
  | [], _, _ => rfl
  | .top :: hs, l, h2 => by simpa [inject] using inject_len hs l (by simpa [shTys] using h2)
  | .val t ms :: hs, [], h2 => by simp [shTys] at h2
  | .val t ms :: hs, x :: l, h2 => by simpa [inject] using inject_len hs l (by simpa [shTys] using h2)
  | .box t ms :: hs, [], h2 => by simp [shTys] at h2
  | .box t ms :: hs, x :: l, h2 => by simpa [inject] using inject_len hs l (by simpa [shTys] using h2)
  | .bptr s o :: hs, l, h2 => by simpa [inject] using inject_len hs l (by simpa [shTys] using h2)
  | .cptr t :: hs, [], h2 => by simp [shTys] at h2
  | .cptr t :: hs, x :: l, h2 => by simpa [inject] using inject_len hs l (by simpa [shTys] using h2)
  | .mp t :: hs, [], h2 => by simp [shTys] at h2
  | .mp t :: hs, x :: l, h2 => by simpa [inject] using inject_len hs l (by simpa [shTys] using h2)
  | .mref s :: hs, l, h2 => by simpa [inject] using inject_len hs l (by simpa [shTys] using h2)
theorem unpackL_length : (ts : List Ty) → (x : (pk ts).den) → (unpackL ts x).length = ts.length
  | [], _ => rfl
  | [_], _ => rfl
  | t :: t' :: ts, x => by
    show (unpackL (t' :: ts) x.2).length + 1 = _
    rw [unpackL_length (t' :: ts) x.2]; rfl
theorem iter_congr {S : Type} {f g : (S → Option ρ) → S → Option ρ} (h : ∀ F F' s, (∀ s, F s = F' s) → f F s = g F' s) : (n : Nat) → ∀ s, iter f n s = iter g n s
  | 0, _ => rfl
  | n + 1, s => h _ _ s (iter_congr h n)
theorem codeK_eq : (c : Code) → ∀ {T : Tr} {σ : St} {kT : Ex → Tr → Option ρ} {k : Ex → St → Option ρ}, Sim d N T σ → (∀ e T' σ', Sim d N T' σ' → kT e T' = k e σ') → codeK E ann fuel d N c kT T = codeC E ann fuel c k σ
  | .skip, _, _, _, _, h, hk => hk _ _ _ h
  | .region _ ops false, T, σ, _, _, h, hk => by
    simp only [codeK, codeC]
    cases panOps E.tab ops.toList with
    | none => exact regK_eq E _ _ h fun T' σ' h' => hk _ _ _ h'
    | some q =>
      obtain ⟨U, d0, d1⟩ := q
      simp only
      rw [h.len]
      cases (Nat.blt d0 N && Nat.blt d1 N) with
      | false => rfl
      | true =>
        rw [cond_true, cond_true]
        exact runK_eq _ h fun T' σ' h' => hk _ _ _ h'
  | .region id ops true, _, _, _, _, h, hk => runK_eq _ h fun T' σ' h' => drawK_eq E _ _ h' fun T'' σ'' h'' => hk _ _ _ h''
  | .seq a b, _, _, _, _, h, hk => by
    simp only [codeK, codeC]
    refine codeK_eq a h fun e T' σ' h' => ?_
    cases e with
    | normal => exact codeK_eq b h' hk
    | _ => exact hk _ _ _ h'
  | .cond c a b, T, σ, kT, k, h, hk => by
    simp only [codeK, codeC]
    cases c with
    | tmp s =>
      simp only
      rw [h.gK]
      generalize (listGet σ s).a = x
      cases x with
      | val v =>
        obtain ⟨t, x, ms⟩ := v
        cases t with
        | bool =>
          have b1 : x = true ∨ x = false := by
            have := Bool.eq_false_or_eq_true (x : Bool)
            exact this
          rcases b1 with rfl | rfl
          · exact codeK_eq a h hk
          · exact codeK_eq b h hk
        | _ => rfl
      | _ => rfl
    | _ => rfl
  | .block id c, _, _, _, _, h, hk => by
    simp only [codeK, codeC]
    refine codeK_eq c h fun e T' σ' h' => ?_
    cases e with
    | exit i => simp only; split <;> exact hk _ _ _ h'
    | _ => exact hk _ _ _ h'
  | .loop c, T, σ, kT, k, h, hk => by
    simp only [codeK, codeC, loopK, loopC]
    rw [h.tl]
    generalize dataAt σ _ _ 0 _ σ = o
    cases o with
    | none => rfl
    | some l =>
      simp only
      generalize packL _ l = o2
      cases o2 with
      | none => rfl
      | some s =>
        refine iter_congr (fun F F' s hF => ?_) fuel _
        have hlen : (inject (shapes σ (findAnn ann ((firstRegion c).getD 0)).live (findAnn ann ((firstRegion c).getD 0)).frz 0 σ) (unpackL (shTys (shapes σ (findAnn ann ((firstRegion c).getD 0)).live (findAnn ann ((firstRegion c).getD 0)).frz 0 σ)) s)).length = N := by
          rw [inject_len _ _ (unpackL_length _ _), shapes_length, h.len]
        refine codeK_eq c (Sim.ofL hlen h.room) fun e T' σ' h' => ?_
        cases e with
        | normal =>
          simp only [nextKK, nextK]
          rw [h'.tl]
          generalize dataAt σ' _ _ 0 _ σ' = o3
          cases o3 with
          | none => rfl
          | some l3 =>
            simp only
            generalize packL _ l3 = o4
            cases o4 with
            | none => rfl
            | some s4 => exact hF _
        | exit i => exact hk _ _ _ h'
        | ret => exact hk _ _ _ h'
        | pan U => exact hk _ _ _ h'
  | .exit id, _, _, _, _, h, hk => hk _ _ _ h
  | .ret, _, _, _, _, h, hk => hk _ _ _ h
  | .scope c, _, _, _, _, _, _ => rfl
  | .label _, _, _, _, _, _, _ => rfl
  | .goto _, _, _, _, _, _, _ => rfl
  | .refuse _, _, _, _, _, _, _ => rfl
  | .rangeFunc _ _ _ _, _, _, _, _, _, _ => rfl
end
def fnKX (tab : List TE) (fn : Nat → Option Sig) (bx : Nat → Option BxSig) (nv : Nat) (ann : List LoopAnn) (fuel : Nat) (f : Func) (pm : List (List Mk)) (ps rs : List Ty) (own : Bool) (x : (pk ps).den) : Option (pk rs).den :=
  match f.body with
  | none => none
  | some c =>
    let σ := initArgs pm ps x ++ List.replicate (f.ntmps - ps.length) topSlot
    let N := f.ntmps
    codeK { tab, fn, nv, res := resSlots f.results.toList, bx } ann fuel (Nat.log2 N + 1) N c (fun e T => match e with
      | .normal | .ret => readRes f.results.toList own rs (tl T 0 N) some
      | _ => none) (ofL (Nat.log2 N + 1) σ)
def fnK (tab : List TE) (fn : Nat → Option Sig) (nv : Nat) (ann : List LoopAnn) (fuel : Nat) (f : Func) (pm : List (List Mk)) (ps rs : List Ty) (own : Bool) (x : (pk ps).den) : Option (pk rs).den :=
  fnKX tab fn (fun _ => none) nv ann fuel f pm ps rs own x
def fnKB (tab : List TE) (fn : Nat → Option Sig) (bx : Nat → Option BxSig) (nv : Nat) (ann : List LoopAnn) (fuel : Nat) (f : Func) (t : Ty) (bm : List Mk) (ps rs : List Ty) (x : t.den) (y : (pk ps).den) : Option (t.den × (pk rs).den) :=
  match f.body with
  | none => none
  | some c =>
    let σ := ⟨.box ⟨t, x, bm⟩, 0, 0⟩ :: (initArgs [] ps y ++ List.replicate (f.ntmps - (ps.length + 1)) topSlot)
    let N := f.ntmps
    codeK { tab, fn, nv, res := resSlots f.results.toList, bx, pins := [0] } ann fuel (Nat.log2 N + 1) N c (fun e T => match e with
      | .normal | .ret => readBox f.results.toList t bm rs (tl T 0 N) fun x z => some (x, z)
      | _ => none) (ofL (Nat.log2 N + 1) σ)
theorem initArgs_length : (pm : List (List Mk)) → (ts : List Ty) → (x : (pk ts).den) → (initArgs pm ts x).length = ts.length
  | _, [], _ => rfl
  | _, [_], _ => rfl
  | pm, t :: t' :: ts, x => by
    show (initArgs pm.tail (t' :: ts) x.2).length + 1 = _
    rw [initArgs_length pm.tail (t' :: ts) x.2]; rfl
theorem fnKX_eq {tab : List TE} {fn : Nat → Option Sig} {bx : Nat → Option BxSig} {nv : Nat} {ann : List LoopAnn} {fuel : Nat} {f : Func} {pm : List (List Mk)} {ps rs : List Ty} {own : Bool} {x : (pk ps).den} (hps : ps.length ≤ f.ntmps) :
    fnX tab fn bx nv ann fuel f pm ps rs own x = fnKX tab fn bx nv ann fuel f pm ps rs own x := by
  unfold fnX fnKX
  generalize f.body = bd
  cases bd with
  | none => rfl
  | some c =>
    refine (codeK_eq _ _ _ c (Sim.ofL ?_ ?_) fun e T' σ' h' => ?_).symm
    · rw [List.length_append, initArgs_length, List.length_replicate]; omega
    · exact Nat.le_of_lt Nat.lt_log2_self
    · cases e with
      | exit i => rfl
      | pan U => rfl
      | normal => simp only; rw [h'.tl]
      | ret => simp only; rw [h'.tl]
theorem fnK_eq {tab : List TE} {fn : Nat → Option Sig} {nv : Nat} {ann : List LoopAnn} {fuel : Nat} {f : Func} {pm : List (List Mk)} {ps rs : List Ty} {own : Bool} {x : (pk ps).den} (hps : ps.length ≤ f.ntmps) :
    fnD tab fn nv ann fuel f pm ps rs own x = fnK tab fn nv ann fuel f pm ps rs own x := fnKX_eq hps
end
end Go.GD
