import Derived.Test.YtcfneiladppfnaaH30e
namespace Go.Proofs.Ytcfneiladppfnaa.D
open Go Go.GD Go.Proofs Go.RowKit Go.Shelf Go.Lib Go.Sort

set_option maxHeartbeats 8000000 in
set_option maxRecDepth 1000000 in
theorem df_none (fv : Value) (a : Option Addr) (len cap : Nat) (w : World) (R : World → Prop)
    (hidx : Calls Try.prog 30 #[.slice a len cap, fv] w fun e W => e = .returned (.int .i64 (-1)) ∧ R W) :
    Calls Try.prog 28 #[.slice a len cap, fv] w fun e W => e = .returned (.slice a len cap) ∧ R W := by
  go_enter Try.func28, Try.ntmps28
  go_wp2_with (go_at_call 30; refine hidx.mono ?_; rintro e w1 ⟨rfl, hs1⟩)
  all_goals (go_ret; exact ⟨rfl, hs1⟩)

theorem repC_rc {P : Program} {w : World} {Ok : Nat → Prop} {cs : List Value} {x : Rd} : RepC P rideTy w Ok cs x ↔ cs = rc x := by
  constructor
  · rintro ⟨a0, b0, rfl, h0, a1, b1, rfl, h1, a2, b2, rfl, h2, a3, b3, rfl, h3, a4, b4, rfl, h4, a5, b5, rfl, h5, h6⟩
    rw [show a0 = _ from h0, show a1 = _ from h1, show a2 = _ from h2, show a3 = _ from h3, show a4 = _ from h4, show a5 = _ from h5, show b5 = _ from h6]
    rfl
  · rintro rfl
    exact ⟨[_], _, rfl, rfl, [_], _, rfl, rfl, [_], _, rfl, rfl, [_], _, rfl, rfl, [_], _, rfl, rfl, [_], [_], rfl, rfl, rfl⟩

theorem eat_done2 {P : Program} {t : Ty} {w w' : World} {Ok B H : Nat → Prop} (hH : ∀ b, H b → (w.heap.size ≤ b ∨ B b) ∧ b < w'.heap.size) (hBO : ∀ b, B b → ¬ Ok b) (hsz : w.heap.size ≤ w'.heap.size)
    (hother : ∀ b, b < w.heap.size → ¬ B b → w'.heap[b]? = w.heap[b]?) (hio : SameIO w w') {a : Option Addr} {len cap : Nat} {ys : List t.den} (hl : ys.length = len) (hlc : len ≤ cap)
    (hmem : cap = 0 ∨ ∃ ad : Addr, a = some ad ∧ ad.spot = none ∧ H ad.block ∧ (∃ vs e, w'.heap[ad.block]? = some (.cells vs e (0, 0)) ∧ ad.off + cap * t.size ≤ vs.size) ∧ GD.Rows t.size w' (RepC P t w Ok) ad ys) :
    ∃ us g', Ending.returned (.slice a len cap) = .returned (resV [.sl t] us) ∧
      RepX P w' (fun b => (w.heap.size ≤ b ∨ Ok b) ∧ g' b = none) (clR g') (pk [.sl t]) 0 us ys (ownMarks (pk [.sl t])) ∧
      w.heap.size ≤ w'.heap.size ∧ (∀ b, b < w.heap.size → ¬ B b → w'.heap[b]? = w.heap[b]?) ∧ (∀ b, g' b ≠ none → (w.heap.size ≤ b ∨ B b) ∧ b < w'.heap.size) ∧ SameIO w w' := by
  classical
  have hg : ∀ b, (if H b then some 0 else none : Option Nat) ≠ none → H b := by
    intro b hb
    by_cases h : H b
    · exact h
    · rw [if_neg h] at hb; exact absurd rfl hb
  refine ⟨[.slice a len cap], fun b => if H b then some 0 else none, rfl, ⟨_, _, _, .own, rfl, rfl, ?_⟩, hsz, hother, fun b hb => hH b (hg b hb), hio⟩
  show HoldS _ _ _ _ _ _ _ _ ∧ True
  have hmono : Mono w Ok w' (fun b => (w.heap.size ≤ b ∨ Ok b) ∧ (if H b then some 0 else none : Option Nat) = none) := by
    refine ⟨hsz, fun b hlt hok => ⟨hother b hlt fun h => hBO b h hok, .inr hok, if_neg fun h => ?_⟩⟩
    rcases (hH b h).1 with h1 | h1
    · omega
    · exact hBO b h1 hok
  refine ⟨⟨hl, hlc, hmem.imp id ?_⟩, trivial⟩
  rintro ⟨ad, e, sp, hb, hv, hr⟩
  exact ⟨ad, e, sp, if_pos hb, hv, hr.mono rfl fun _ _ => RepC.mono t hmono⟩

def filterO (f : Rd → Option Bool) : List Rd → Option (List Rd)
  | [] => some []
  | x :: xs => (f x).bind fun b => (filterO f xs).bind fun r => some (bif b then r else x :: r)
def dfD (x : List Rd × (Rd → Option Bool)) : Option (List Rd) := bif Nat.ble x.1.length 9223372036854775807 then filterO x.2 x.1 else none

theorem filterO_some {f : Rd → Option Bool} : ∀ {xs y : List Rd}, filterO f xs = some y → (∀ x, x ∈ xs → f x = some ((f x).getD false)) ∧ y = xs.filter (fun x => !(f x).getD false)
  | [], y, h => ⟨fun x hx => (by cases hx), (Option.some.inj h).symm⟩
  | x :: xs, y, h => by
    unfold filterO at h
    cases hf : f x with
    | none => rw [hf] at h; cases h
    | some b =>
      rw [hf] at h
      simp only [Option.bind_some] at h
      cases hr : filterO f xs with
      | none => rw [hr] at h; cases h
      | some r =>
        rw [hr] at h
        simp only [Option.bind_some] at h
        obtain ⟨h1, h2⟩ := filterO_some hr
        refine ⟨fun z hz => ?_, ?_⟩
        · rcases List.mem_cons.1 hz with rfl | hz
          · rw [hf]; rfl
          · exact h1 z hz
        · rw [← Option.some.inj h, List.filter_cons, hf, ← h2]
          cases b <;> rfl

theorem index30 (xs : List Rd) (f : Rd → Option Bool) (p : Rd → Bool) (hf : ∀ x, x ∈ xs → f x = some (p x)) (hl : xs.length ≤ maxLen) : D30 xs f = some (findI p 0 xs) := by
  rw [e30, f30_1 xs f hl]
  have := forI_congr (body := fun ix el (_ : Unit) K => ((f el).bind fun r => bif r then some (ix : Int) else K () : Option Int)) (body' := fun ix el (s : Unit) K => bif p el then some (ix : Int) else K s) (fin := fun (_ : Unit) => some (-1)) (fin' := fun _ => some (-1)) xs 0
    (fun i h u K => by rw [hf _ (List.getElem_mem h), bindS]) (fun _ => rfl) ()
  rw [this, forI_find p xs 0 ()]

theorem df_eats : EatDoes Try.prog 28 [.sl rideTy, .fn rideTy .bool] [.sl rideTy] dfD := by
  intro w Ok B cs x y hX hBO hBs hy
  obtain ⟨xs, f⟩ := x
  simp only [dfD] at hy
  cases hcond : Nat.ble xs.length 9223372036854775807 with
  | false => rw [hcond] at hy; cases hy
  | true =>
  rw [hcond, cond_true] at hy
  have hM : xs.length ≤ maxLen := Nat.le_of_ble_eq_true hcond
  obtain ⟨hf, rfl⟩ := filterO_some hy
  obtain ⟨p, hp⟩ : ∃ p : Rd → Bool, p = fun x => (f x).getD false := ⟨_, rfl⟩
  have hf : ∀ x, x ∈ xs → f x = some (p x) := fun x hx => by rw [hp]; exact hf x hx
  rw [show xs.filter (fun x => !(f x).getD false) = xs.filter (fun x => !p x) by rw [hp]]
  clear hp hy
  obtain ⟨c1, c2, m1, m2, rfl, hm, hX1, hX2⟩ := hX
  obtain ⟨a, len, cap, m, rfl, rfl, hsay⟩ := hX1
  obtain ⟨v, m3, rfl, rfl, _, hX2⟩ := hX2
  simp only [eatMarks, shrMarks, List.cons_append, List.nil_append, List.cons.injEq] at hm
  obtain ⟨rfl, rfl, _⟩ := hm
  have hX2 := hX2 (by simp [clE])
  simp only [clE, Claim.says] at hsay
  obtain ⟨⟨hl, hlc, hblk⟩, _⟩ := hsay
  subst hl
  obtain ⟨fi, first, caps, e, hcf, hfn⟩ := hX2
  obtain rfl : v = .func (.func fi) first caps := by simpa using e
  have hokb : ∀ k, (Ok k ∨ (clE B 1 Mk.shr).blocks k) → Ok k := fun k hk => hk.resolve_right (by simp [clE, Claim.blocks])
  show Calls Try.prog 28 #[.slice a xs.length cap, .func (.func fi) first caps] w _
  -- the search
  have hR : RepC Try.prog (pk ps30) w (fun c => Ok c ∨ B c) [.slice a xs.length cap, .func (.func fi) first caps] (xs, f) := by
    refine ⟨[_], [_], rfl, ⟨a, xs.length, cap, rfl, rfl, hlc, ?_⟩, fi, first, caps, rfl, hcf, ?_⟩
    · rcases hblk with h | ⟨ad, h1, h2, h3, h4, h5⟩
      · exact .inl (by omega)
      · exact .inr ⟨ad, h1, h2, hBs _ h3, .inr h3, h5.mono rfl fun _ _ hr => repC_rc.2 (repC_rc.1 hr)⟩
    · intro w' hs hc
      exact hfn w' hs (fun c hcl hok => hc c hcl (.inl (hokb c hok)))
  have hidx := does30 w (fun c => Ok c ∨ B c) _ (xs, f) _ hR (index30 xs f p hf hM)
  have hidx : Calls Try.prog 30 #[.slice a xs.length cap, .func (.func fi) first caps] w fun e W => e = .returned (.int .i64 (findI p 0 xs)) ∧ w.heap.size ≤ W.heap.size ∧ (∀ c, c < w.heap.size → W.heap[c]? = w.heap[c]?) ∧ SameIO w W := by
    refine Calls.mono hidx ?_
    rintro e W ⟨us, g', rfl, hr, h1, h2, _, h3⟩
    obtain ⟨_, _, hr⟩ := hr
    obtain rfl : us = [.int .i64 (findI p 0 xs)] := hr
    exact ⟨rfl, h1, h2, h3⟩
  cases hany : xs.any p with
  | false =>
    rw [findI_neg p xs 0 hany] at hidx
    have hall : xs.filter (fun x => !p x) = xs := by
      rw [List.filter_eq_self]
      intro x hx
      have := List.any_eq_false.1 hany x hx
      simpa using this
    refine (df_none _ a xs.length cap w _ hidx).mono ?_
    rintro e W ⟨rfl, h1, h2, h3⟩
    rw [hall]
    refine eat_done2 (H := B) (fun c hc => ⟨.inr hc, Nat.lt_of_lt_of_le (hBs c hc) h1⟩) hBO h1 (fun c hc _ => h2 c hc) h3 rfl hlc (hblk.imp id ?_)
    rintro ⟨ad, q1, q2, q3, ⟨vs, et, q4, q5⟩, q6⟩
    exact ⟨ad, q1, q2, q3, ⟨vs, et, (h2 _ (hBs _ q3)).trans q4, q5⟩, q6.mono (h2 _ (hBs _ q3)) fun _ _ h => h⟩
  | true =>
    obtain ⟨k0, hk0, hk1, hk2, hk3⟩ := findI_pos p xs 0 hany
    rw [hk1, Nat.zero_add] at hidx
    rcases hblk with h0 | ⟨⟨b, off, sp⟩, rfl, rfl, hown, ⟨vs, et, hbk, hbfit⟩, hrows⟩
    · omega
    have hvs : vs = vs.toList.toArray := by simp
    rw [hvs] at hbk
    have hrow : ∀ j (h : j < xs.length) c, c < 7 → vs.toList[off + j * 7 + c]? = (rc xs[j])[c]? := fun j h c hc => by
      obtain ⟨us, _, u2, u3⟩ := hrows j h
      rw [repC_rc.1 u3] at u2
      rw [← u2 c hc, cell_of_block hbk]
      rfl
    have hcapp : ∀ z, (first ++ #[mkV rideTy (rc z)] ++ caps) = (first.push (rdV z) ++ caps) := fun z => by simp [mkV, rc, Ty.isAgg]
    refine (df_run fi first caps hcf p b off xs.length cap k0 w xs rfl hM hlc hk0 (fun j h hlt => hk3 j h hlt) (fun _ => hk2) vs.toList et hbk (by rw [Array.length_toList]; exact hbfit) hrow
      (hidx.mono fun e W ⟨h0, h1, h2, h3⟩ => ⟨h0, ⟨h1, fun c hc _ => h2 c hc, h3⟩, h2 b (hBs b hown)⟩) (fun W z hS hz => ?_)).mono ?_
    · have := hfn W hS.1 (fun c hcl hok => hS.2.1 c hcl (fun e => hBO b hown (e ▸ hokb c hok))) (rc z) z (p z) (repC_rc.2 rfl) (hf z hz)
      rw [hcapp z] at this
      refine this.mono ?_
      rintro e W' ⟨us, rfl, hr, h1, h2, h3⟩
      obtain rfl : us = [.bool (p z)] := hr
      exact ⟨rfl, h1, h2, h3⟩
    · rintro e W ⟨cur, rfl, hS, hb, hcl, hk⟩
      have hfl : (xs.filter (fun x => !p x)).length ≤ xs.length := List.length_filter_le _ _
      refine eat_done2 (H := B) (fun c hc => ⟨.inr hc, Nat.lt_of_lt_of_le (hBs c hc) hS.1⟩) hBO hS.1 (fun c hc hn => hS.2.1 c hc (fun e => hn (e ▸ hown))) hS.2.2 rfl (by omega) (.inr ⟨⟨b, off, none⟩, rfl, rfl, hown, ⟨_, et, hb, ?_⟩, fun i hi => ?_⟩)
      · rw [List.size_toArray, hcl, Array.length_toList]; exact hbfit
      · refine ⟨rc _, rfl, fun j hj => ?_, repC_rc.2 rfl⟩
        rw [cell_of_block hb]
        exact hk i hi j hj
end Go.Proofs.Ytcfneiladppfnaa.D
