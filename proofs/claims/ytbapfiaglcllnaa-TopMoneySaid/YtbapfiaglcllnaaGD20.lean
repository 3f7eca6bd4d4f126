import Derived.Test.YtbapfiaglcllnaaGD19
namespace Go.GD
open Go
theorem unpack_pack : (ts : List Ty) → (l : List DV) → {s : (pk ts).den} → packL ts l = some s → unpackL ts s = l
  | [], [], _, _ => rfl
  | [], _ :: _, _, h => by simp [packL] at h
  | [t], [], _, h => by simp [packL] at h
  | [t], [d], s, h => by
    simp only [packL] at h
    obtain ⟨e, rfl⟩ := castO_some h
    subst e
    rfl
  | [t], _ :: _ :: _, _, h => by simp [packL] at h
  | t :: t' :: ts, [], _, h => by simp [packL] at h
  | t :: t' :: ts, d :: l, s, h => by
    simp only [packL] at h
    split at h
    case h_2 => cases h
    rename_i x y hx hy
    injection h with h
    subst h
    obtain ⟨e, rfl⟩ := castO_some hx
    subst e
    simp only [unpackL]
    rw [unpack_pack (t' :: ts) l hy]
def Sh.isTop : Sh → Bool
  | .top => true
  | _ => false
def ShOK (ks : List Nat) : Nat → List Sh → Prop
  | _, [] => True
  | i, h :: hs => (h.isTop = false → memNat ks i = true) ∧ ShOK ks (i + 1) hs
theorem shapes_ok {σ : St} {ks frz : List Nat} : (l : List Slot) → (i : Nat) → ShOK ks i (shapes σ ks frz i l)
  | [], _ => trivial
  | s :: l, i => by
    refine ⟨fun h => ?_, shapes_ok l (i + 1)⟩
    by_cases hk : memNat ks i = true
    · exact hk
    · rw [if_neg hk] at h; cases h
def NormS (σ : St) (ks frz : List Nat) (i : Nat) (a b : Slot) : Prop :=
  b = ⟨.top, 0, 0⟩ ∨ (memNat ks i = true ∧
    ((∃ v, a.a = .val v ∧ b = ⟨.val ⟨v.t, v.x, v.ms.map (normMark σ ks frz i)⟩, 0, 0⟩) ∨
     (∃ v, a.a = .box v ∧ b = ⟨.box ⟨v.t, v.x, v.ms.map (normMark σ ks frz i)⟩, 0, 0⟩) ∨
     (∃ s off id, a.a = .bptr s off id ∧ b = ⟨.bptr s off 0, 0, 0⟩ ∧ (listGet σ s).id = id) ∨
     (∃ t x, a.a = .cptr t x none ∧ b = ⟨.cptr t x none, 0, 0⟩) ∨
     (∃ t x, a.a = .mp t x ∧ b = ⟨.mp t x, 0, 0⟩) ∨
     (∃ s id, a.a = .mref s id ∧ b = ⟨.mref s 0, 0, 0⟩ ∧ (listGet σ s).id = id)))
theorem dataAt_norm {σ : St} {ks frz : List Nat} : (sh : List Sh) → (l : List Slot) → (i : Nat) → {dl : List DV} → dataAt σ ks frz i sh l = some dl → ShOK ks i sh →
    (inject sh dl).length = l.length ∧ ∀ k, k < l.length → NormS σ ks frz (i + k) (listGet l k) (listGet (inject sh dl) k)
  | [], [], _, dl, h, _ => by
    simp only [dataAt] at h
    injection h with h; subst h
    exact ⟨rfl, fun k hk => by simp at hk⟩
  | [], _ :: _, _, _, h, _ => by simp [dataAt] at h
  | _ :: _, [], _, _, h, _ => by simp [dataAt] at h
  | hd :: hs, s :: l, i, dl, h, hok => by
    have step : ∀ {b : Slot} {dl' : List DV}, inject (hd :: hs) dl = b :: inject hs dl' → dataAt σ ks frz (i + 1) hs l = some dl' → NormS σ ks frz i s b →
        (inject (hd :: hs) dl).length = (s :: l).length ∧ ∀ k, k < (s :: l).length → NormS σ ks frz (i + k) (listGet (s :: l) k) (listGet (inject (hd :: hs) dl) k) := by
      intro b dl' e hd' hb
      obtain ⟨h1, h2⟩ := dataAt_norm hs l (i + 1) hd' hok.2
      rw [e]
      refine ⟨by simp [h1], fun k hk => ?_⟩
      cases k with
      | zero => exact hb
      | succ k =>
        have := h2 k (by simpa using hk)
        rw [show i + 1 + k = i + (k + 1) by omega] at this
        exact this
    cases hd with
    | top =>
      simp only [dataAt] at h
      exact step rfl h (.inl rfl)
    | val t ms =>
      obtain ⟨a, ia, ga⟩ := s
      cases a with
      | val v =>
        simp only [dataAt] at h
        split at h
        case isFalse => cases h
        rename_i hm
        split at h
        case h_2 => cases h
        rename_i r hr
        injection h with h
        subst h
        exact step rfl hr (.inr ⟨hok.1 rfl, .inl ⟨v, rfl, by rw [marksBeq_eq hm]⟩⟩)
      | _ => simp [dataAt] at h
    | box t ms =>
      obtain ⟨a, ia, ga⟩ := s
      cases a with
      | box v =>
        simp only [dataAt] at h
        split at h
        case isFalse => cases h
        rename_i hm
        split at h
        case h_2 => cases h
        rename_i r hr
        injection h with h
        subst h
        exact step rfl hr (.inr ⟨hok.1 rfl, .inr (.inl ⟨v, rfl, by rw [marksBeq_eq hm]⟩)⟩)
      | _ => simp [dataAt] at h
    | bptr s0 off =>
      obtain ⟨a, ia, ga⟩ := s
      cases a with
      | bptr s' off' id =>
        simp only [dataAt] at h
        split at h
        case isFalse => cases h
        rename_i hm
        simp only [Bool.and_eq_true] at hm
        obtain ⟨h1, h2, h3⟩ := hm
        have h1 := Nat.eq_of_beq_eq_true h1
        have h2 := Nat.eq_of_beq_eq_true h2
        have h3 := Nat.eq_of_beq_eq_true h3
        subst h1; subst h2
        exact step rfl h (.inr ⟨hok.1 rfl, .inr (.inr (.inl ⟨_, _, _, rfl, rfl, h3⟩))⟩)
      | _ => simp [dataAt] at h
    | cptr t =>
      obtain ⟨a, ia, ga⟩ := s
      cases a with
      | cptr t' x b =>
        cases b with
        | none =>
          simp only [dataAt] at h
          split at h
          case h_2 => cases h
          rename_i r hr
          injection h with h
          subst h
          exact step rfl hr (.inr ⟨hok.1 rfl, .inr (.inr (.inr (.inl ⟨_, _, rfl, rfl⟩)))⟩)
        | some _ => simp [dataAt] at h
      | _ => simp [dataAt] at h
    | mp t =>
      obtain ⟨a, ia, ga⟩ := s
      cases a with
      | mp t' x =>
        simp only [dataAt] at h
        split at h
        case isFalse => cases h
        rename_i hb
        split at h
        case h_2 => cases h
        rename_i r hr
        injection h with h
        subst h
        have := Ty.eq_of_beq hb
        subst this
        refine step (b := ⟨.mp t' x, 0, 0⟩) ?_ hr (.inr ⟨hok.1 rfl, .inr (.inr (.inr (.inr (.inl ⟨_, _, rfl, rfl⟩))))⟩)
        simp only [inject, castO_refl]
      | _ => simp [dataAt] at h
    | mref s0 =>
      obtain ⟨a, ia, ga⟩ := s
      cases a with
      | mref s' id =>
        simp only [dataAt] at h
        split at h
        case isFalse => cases h
        rename_i hm
        simp only [Bool.and_eq_true] at hm
        have h1 := Nat.eq_of_beq_eq_true hm.1
        have h3 := Nat.eq_of_beq_eq_true hm.2
        subst h1
        exact step rfl h (.inr ⟨hok.1 rfl, .inr (.inr (.inr (.inr (.inr ⟨_, _, rfl, rfl, h3⟩))))⟩)
      | _ => simp [dataAt] at h
theorem markAt_map {f : Mk → Mk} (hf : f .dead = .dead) : (ms : List Mk) → (c : Nat) → markAt (ms.map f) c = f (markAt ms c)
  | [], _ => hf.symm
  | _ :: _, 0 => rfl
  | _ :: l, c + 1 => markAt_map hf l c
theorem normMark_own {σ : St} {ks frz : List Nat} {i : Nat} {m : Mk} (h : (normMark σ ks frz i m).isOwn = true) : m = .own ∧ memNat frz i = false := by
  cases m with
  | own =>
    unfold normMark at h
    cases hf : memNat frz i <;> rw [hf] at h
    · exact ⟨rfl, rfl⟩
    · cases h
  | ref s c g =>
    unfold normMark at h
    simp only at h
    cases hv : (Nat.beq (listGet σ s).gen g && ((listGet σ s).a.mark c).isOwn) <;> rw [hv] at h
    · cases h
    · cases hk : (memNat ks s && !memNat frz s) <;> rw [hk] at h <;> cases h
  | sub s c g =>
    unfold normMark at h
    simp only at h
    cases hv : (Nat.beq (listGet σ s).gen g && ((listGet σ s).a.mark c).isOwn) <;> rw [hv] at h
    · cases h
    · cases hk : (memNat ks s && !memNat frz s) <;> rw [hk] at h <;> cases h
  | _ => cases h
section
variable {C : Ctx} {g : Own} {σ ν : St} {tm : Array Value} {w : World} {ks frz : List Nat}
theorem NormS.own {i : Nat} {a b : Slot} (h : NormS σ ks frz i a b) {c : Nat} (ho : (b.a.mark c).isOwn = true) :
    (a.a.mark c).isOwn = true ∧ memNat ks i = true ∧ memNat frz i = false ∧ ((∃ v u, a.a = .val v ∧ b.a = .val u) ∨ ∃ v u, a.a = .box v ∧ b.a = .box u) := by
  rcases h with rfl | ⟨hk, h⟩
  · cases ho
  · rcases h with ⟨v, e, rfl⟩ | ⟨v, e, rfl⟩ | ⟨_, _, _, _, rfl, _⟩ | ⟨_, _, _, rfl⟩ | ⟨_, _, _, rfl⟩ | ⟨_, _, _, rfl, _⟩
    · simp only [A.mark] at ho
      rw [markAt_map rfl] at ho
      obtain ⟨q1, q2⟩ := normMark_own ho
      exact ⟨by rw [e]; simp only [A.mark]; rw [q1]; rfl, hk, q2, .inl ⟨_, _, e, rfl⟩⟩
    · simp only [A.mark] at ho
      rw [markAt_map rfl] at ho
      obtain ⟨q1, q2⟩ := normMark_own ho
      exact ⟨by rw [e]; simp only [A.mark]; rw [q1]; rfl, hk, q2, .inr ⟨_, _, e, rfl⟩⟩
    · cases ho
    · cases ho
    · cases ho
    · cases ho
def A.keeps : A → Bool
  | .box _ | .mp .. => true
  | _ => false
def headOwn (g : Own) (ν : St) : Own := fun b =>
  match g b with
  | some (s, none) => cond (listGet ν s).a.keeps (some (s, none)) none
  | some (s, some c) => cond ((listGet ν s).a.mark c).isOwn (some (s, some c)) none
  | none => none
theorem headOwn_none {b : Nat} (h : g b = none) : headOwn g ν b = none := by simp [headOwn, h]
theorem headOwn_own {b s c : Nat} (h : g b = some (s, some c)) (ho : ((listGet ν s).a.mark c).isOwn = true) : headOwn g ν b = some (s, some c) := by simp [headOwn, h, ho]
theorem headOwn_off {b s c : Nat} (h : g b = some (s, some c)) (ho : ((listGet ν s).a.mark c).isOwn = false) : headOwn g ν b = none := by simp [headOwn, h, ho]
theorem headOwn_box {b s : Nat} (h : g b = some (s, none)) (ho : (listGet ν s).a.keeps = true) : headOwn g ν b = some (s, none) := by simp [headOwn, h, ho]
theorem headOwn_le {b : Nat} (h : headOwn g ν b ≠ none) : g b ≠ none := fun e => h (headOwn_none e)
theorem norm_sound {sh : List Sh} {dl : List DV} (h : SRep C g σ tm w) (hd : dataAt σ ks frz 0 sh σ = some dl) (hok : ShOK ks 0 sh) : ∃ g', SRep C g' (inject sh dl) tm w := by
  obtain ⟨hl, hn⟩ := dataAt_norm sh σ 0 hd hok
  simp only [Nat.zero_add] at hn
  generalize inject sh dl = ν at *
  have hout : ∀ s, σ.length ≤ s → listGet ν s = ⟨.top, 0, 0⟩ := fun s hs => listGet_out _ _ (by omega)
  have sh' : Mono w (Shd C g) w (Shd C (headOwn g ν)) := ⟨Nat.le_refl _, fun b _ hb => ⟨rfl, hb.1, headOwn_none hb.2⟩⟩
  have free : ∀ b, g b ≠ none → headOwn g ν b = none → Shd C (headOwn g ν) b := fun b hb hn => ⟨(h.gok b hb).2.imp id .inr, hn⟩
  have normOwn : ∀ s c, ((listGet ν s).a.mark c).isOwn = true → s < σ.length ∧ ((listGet σ s).a.mark c).isOwn = true ∧ memNat ks s = true ∧ memNat frz s = false ∧ placeV ν tm w s c = placeV σ tm w s c := by
    intro s c ho
    rcases Nat.lt_or_ge s σ.length with hs | hs
    · obtain ⟨h1, h2, h3, h4⟩ := (hn s hs).own ho
      refine ⟨hs, h1, h2, h3, ?_⟩
      unfold placeV
      rcases h4 with ⟨v, u, e1, e2⟩ | ⟨v, u, e1, e2⟩ <;> rw [e1, e2]
    · rw [hout s hs] at ho; cases ho
  have key : ∀ i c m, (memNat ks i = true) → (m = .own → ((listGet σ i).a.mark c).isOwn = true ∧ (listGet ν i).a.mark c = normMark σ ks frz i .own) →
      CLe w w (Shd C (headOwn g ν)) (cl g σ tm w i c m) (cl (headOwn g ν) ν tm w i c (normMark σ ks frz i m)) := by
    intro i c m hki hown
    have look : ∀ s c', Mono w (fun b => g b = some (s, some c')) w (fun b => headOwn g ν b = some (s, some c')) ∨ ((listGet ν s).a.mark c').isOwn = false := by
      intro s c'
      cases ho : ((listGet ν s).a.mark c').isOwn with
      | false => exact .inr rfl
      | true => exact .inl ⟨Nat.le_refl _, fun b _ hb => ⟨rfl, headOwn_own hb ho⟩⟩
    have lose : ∀ s c', ((listGet ν s).a.mark c').isOwn = false → Mono w (fun b => g b = some (s, some c')) w (Shd C (headOwn g ν)) := by
      intro s c' ho
      exact ⟨Nat.le_refl _, fun b _ hb => ⟨rfl, free b (by rw [show g b = _ from hb]; simp) (headOwn_off hb ho)⟩⟩
    have gone : ∀ s c', (memNat ks s && !memNat frz s) = false → ((listGet ν s).a.mark c').isOwn = false := by
      intro s c' hf
      cases ho : ((listGet ν s).a.mark c').isOwn with
      | false => rfl
      | true =>
        obtain ⟨_, _, q1, q2, _⟩ := normOwn s c' ho
        rw [q1, q2] at hf; cases hf
    have ref : ∀ s c' g0, CLe w w (Shd C (headOwn g ν)) (cl g σ tm w i c (.ref s c' g0)) (cl (headOwn g ν) ν tm w i c (normMark σ ks frz i (.ref s c' g0))) := by
      intro s c' g0
      unfold normMark
      simp only
      cases hv : (Nat.beq (listGet σ s).gen g0 && ((listGet σ s).a.mark c').isOwn) with
      | false => exact .skip _
      | true =>
        simp only [clm, validB, hv, cond]
        cases hkf : (memNat ks s && !memNat frz s) with
        | false => exact .hold_share _ _ (lose s c' (gone s c' hkf))
        | true =>
          show CLe _ _ _ _ (cond (validB ν s c' 0) _ _)
          cases hv' : validB ν s c' 0 with
          | false => exact .skip _
          | true =>
            simp only [validB, Bool.and_eq_true] at hv'
            obtain ⟨_, _, _, _, q⟩ := normOwn s c' hv'.2
            exact .hold _ _ _ _ ⟨Nat.le_refl _, fun b _ hb => ⟨rfl, headOwn_own hb hv'.2⟩⟩ fun v hv => q.trans hv
    have sub : ∀ s c' g0, CLe w w (Shd C (headOwn g ν)) (cl g σ tm w i c (.sub s c' g0)) (cl (headOwn g ν) ν tm w i c (normMark σ ks frz i (.sub s c' g0))) := by
      intro s c' g0
      unfold normMark
      simp only
      cases hv : (Nat.beq (listGet σ s).gen g0 && ((listGet σ s).a.mark c').isOwn) with
      | false => exact .skip _
      | true =>
        simp only [clm, validB, hv, cond]
        cases hkf : (memNat ks s && !memNat frz s) with
        | false => exact .hold_share _ _ (lose s c' (gone s c' hkf))
        | true =>
          show CLe _ _ _ _ (cond (validB ν s c' 0) _ _)
          cases hv' : validB ν s c' 0 with
          | false => exact .skip _
          | true =>
            simp only [validB, Bool.and_eq_true] at hv'
            exact .hold _ _ _ _ ⟨Nat.le_refl _, fun b _ hb => ⟨rfl, headOwn_own hb hv'.2⟩⟩ fun v hv => hv
    cases m with
    | ref s c' g0 => exact ref s c' g0
    | sub s c' g0 => exact sub s c' g0
    | own =>
      obtain ⟨q1, q2⟩ := hown rfl
      unfold normMark at q2 ⊢
      cases hf : memNat frz i with
      | true =>
        rw [hf] at q2
        exact .hold_share _ _ (lose i c (by rw [q2]; rfl))
      | false =>
        rw [hf] at q2
        exact .hold _ _ _ _ ((look i c).resolve_right (by rw [q2]; simp [Mk.isOwn])) (fun _ h => h)
    | bor q => exact .skip _
    | shr => exact .share _
    | nn => exact .share _
    | nil => exact .nil
    | dead => exact .skip _
  have bnd0 : ∀ i m, bndM ν (normMark σ ks frz i m) := by
    intro i m
    cases m with
    | own => unfold normMark; cases memNat frz i <;> trivial
    | ref s c g0 =>
      unfold normMark
      simp only
      cases (Nat.beq (listGet σ s).gen g0 && ((listGet σ s).a.mark c).isOwn) <;> cases (memNat ks s && !memNat frz s) <;> first | trivial | exact Nat.zero_le _
    | sub s c g0 =>
      unfold normMark
      simp only
      cases (Nat.beq (listGet σ s).gen g0 && ((listGet σ s).a.mark c).isOwn) <;> cases (memNat ks s && !memNat frz s) <;> first | trivial | exact Nat.zero_le _
    | _ => trivial
  have vals : ∀ i (v : TV) (cs : List Value), memNat ks i = true → ((listGet σ i).a.mark = markAt v.ms) → ((listGet ν i).a.mark = markAt (v.ms.map (normMark σ ks frz i))) →
      RepX C.P w (Shd C g) (cl g σ tm w i) v.t 0 cs v.x v.ms → RepX C.P w (Shd C (headOwn g ν)) (cl (headOwn g ν) ν tm w i) v.t 0 cs v.x (v.ms.map (normMark σ ks frz i)) := by
    intro i v cs hki e1 e2 hx
    refine RepX.trans sh' v.t hx (by simp) fun j hj => ?_
    rw [markAt_map rfl, Nat.zero_add]
    refine key i j _ hki fun hm => ?_
    rw [e1, e2, markAt_map rfl, hm]
    exact ⟨rfl, rfl⟩
  have hpin : ∀ s v, C.pin s = some v → (listGet ν s).a.isBox = true → tm.getD s undef = v := fun s v hv hb => by
    rcases Nat.lt_or_ge s σ.length with hs | hs
    · rcases hn s hs with e | ⟨hk, hnS⟩
      · rw [e] at hb; cases hb
      · rcases hnS with ⟨v', e, e'⟩ | ⟨v', e, e'⟩ | ⟨s0, off, id, e, e', hid⟩ | ⟨t, x, e, e'⟩ | ⟨t, x, e, e'⟩ | ⟨s0, id, e, e', hid⟩
        · rw [e'] at hb; cases hb
        · exact h.pin s v hv (by rw [e]; rfl)
        · rw [e'] at hb; cases hb
        · rw [e'] at hb; cases hb
        · rw [e'] at hb; cases hb
        · rw [e'] at hb; cases hb
    · rw [hout s hs] at hb; cases hb
  refine ⟨headOwn g ν, by rw [hl]; exact h.len, fun s hs => ?_, fun s hs => ?_, fun b hb => h.gok b (headOwn_le hb), h.frame, h.size, h.io, hpin⟩
  · have hsl := h.slots s (by omega)
    have hnS := hn s (by omega)
    rcases hnS with e | ⟨hk, hnS⟩
    · rw [e]; trivial
    · rcases hnS with ⟨v, e, e'⟩ | ⟨v, e, e'⟩ | ⟨s0, off, id, e, e', hid⟩ | ⟨t, x, e, e'⟩ | ⟨t, x, e, e'⟩ | ⟨s0, id, e, e', hid⟩
      · rw [e] at hsl
        have hv := vals s v
        obtain ⟨cs, ev, hx⟩ := hsl
        have := hv cs hk (by rw [e]; rfl) (by rw [e']; rfl) hx
        rw [e']
        exact ⟨cs, ev, this⟩
      · rw [e] at hsl
        have hv := vals s v
        obtain ⟨b, et, cs, ev, hg, hh, hx⟩ := hsl
        have := hv cs hk (by rw [e]; rfl) (by rw [e']; rfl) hx
        have hb : headOwn g ν b = some (s, none) := headOwn_box hg (by rw [e']; rfl)
        rw [e']
        exact ⟨b, et, cs, ev, hb, hh, this⟩
      · rw [e] at hsl
        rw [e']
        exact fun _ b ht => hsl hid b ht
      · rw [e] at hsl
        obtain ⟨ad, ev, hsp, hm⟩ := hsl
        rw [e']
        exact ⟨ad, ev, hsp, hm.mono sh' fun _ _ => RepC.mono t sh'⟩
      · rw [e] at hsl
        obtain ⟨b, clock, es, ev, hg, hh, hr⟩ := hsl
        rw [e']
        exact ⟨b, clock, es, ev, headOwn_box hg (by rw [e']; rfl), hh, hr⟩
      · rw [e] at hsl
        rw [e']
        exact fun _ => hsl hid
  · have hnS := hn s (by omega)
    rcases hnS with e | ⟨hk, hnS⟩
    · rw [e]; trivial
    · rcases hnS with ⟨v, e, e'⟩ | ⟨v, e, e'⟩ | ⟨s0, off, id, e, e', hid⟩ | ⟨t, x, e, e'⟩ | ⟨t, x, e, e'⟩ | ⟨s0, id, e, e', hid⟩
      · rw [e']
        intro m hm
        obtain ⟨m', _, rfl⟩ := List.mem_map.1 hm
        exact bnd0 s m'
      · rw [e']
        intro m hm
        obtain ⟨m', _, rfl⟩ := List.mem_map.1 hm
        exact bnd0 s m'
      · rw [e']; exact Nat.zero_le _
      · rw [e']; trivial
      · rw [e']; trivial
      · rw [e']; exact Nat.zero_le _
end
end Go.GD
