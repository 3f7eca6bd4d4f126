import Derived.Test.YtaipbppgebjdeaaL53h
import Derived.Test.YtaipbppgebjdeaaL53e
open Go Go.GD Go.Proofs
namespace Go.Proofs.Ytaipbppgebjdeaa.D
theorem forI_congr2 {α σ ρ : Type} {body body' : Nat → α → σ → (σ → Option ρ) → Option ρ} {fin fin' : σ → Option ρ} : ∀ (xs ys : List α) (k : Nat), (hl : xs.length = ys.length) →
    (∀ i (h : i < xs.length) (h' : i < ys.length), ∀ s K, body (k + i) xs[i] s K = body' (k + i) ys[i] s K) → (∀ s, fin s = fin' s) → ∀ s, forI body fin k xs s = forI body' fin' k ys s
  | [], [], _, _, _, hf, s => hf s
  | x :: xs, y :: ys, k, hl, hb, hf, s => by
    simp only [forI]
    have h0 := hb 0 (by simp) (by simp) s
    simp only [Nat.add_zero, List.getElem_cons_zero] at h0
    rw [h0]
    congr 1
    funext s'
    refine forI_congr2 xs ys (k + 1) (by simpa using hl) (fun i h h' s K => ?_) hf s'
    have := hb (i + 1) (by simpa using h) (by simpa using h') s K
    rw [show k + (i + 1) = k + 1 + i by omega] at this
    simpa using this
  | [], _ :: _, _, hl, _, _, _ => by simp at hl
  | _ :: _, [], _, hl, _, _, _ => by simp at hl
theorem findI_map {α : Type} (q : Int → Bool) (f : α → Int) : ∀ (xs ys : List α) (k : Nat), xs.map f = ys.map f → findI (fun x => q (f x)) k xs = findI (fun x => q (f x)) k ys
  | [], [], _, _ => rfl
  | [], _ :: _, _, h => by simp at h
  | _ :: _, [], _, h => by simp at h
  | x :: xs, y :: ys, k, h => by
    simp only [List.map_cons, List.cons.injEq] at h
    simp only [findI, h.1]
    rw [findI_map q f xs ys (k + 1) h.2]
theorem runAt_map (p x : Pt) (run : Int) (h : x.1.map (fun (r : Rl) => r.1) = p.1.map (fun r => r.1)) : runAt x run = runAt p run := findI_map (fun r => r == run) (fun (r : Rl) => r.1) x.1 p.1 0 h
theorem right_set (ps xs : List Rl) (hs : List Sg) (h1 : ps.length ≤ 64) (hl : xs.length = ps.length) (hx : ∀ j (h : j < xs.length) (h' : j < ps.length), xs[j].1 = ps[j].1 ∧ D32 xs[j].2 = D32 ps[j].2) : D12 (xs, hs) = D12 (ps, hs) := by
  have hm : xs.map (fun (r : Rl) => r.1) = ps.map (fun r => r.1) := by
    apply List.ext_getElem (by simpa using hl)
    intro j h h'
    simp only [List.length_map] at h h'
    simp only [List.getElem_map, (hx j h h').1]
  have m1 : ps.length ≤ maxLen := by rw [maxLen_val]; omega
  have mx : xs.length ≤ maxLen := by rw [hl]; exact m1
  rw [e12, e12]
  simp only [hl]
  cases hd : decide ((hs.length : Int) > 200) with
  | true => simp only [condT]
  | false =>
    simp only [decide_eq_false_iff_not] at hd
    have m2 : hs.length ≤ maxLen := by rw [maxLen_val]; omega
    have c1 : decide ((ps.length : Int) > 64) = false := decide_eq_false (by omega)
    rw [c1, condF, condF, condF, condF]
    rw [f12_3 (ps, hs) ps m1, show ((ps.length : Nat) : Int) = ((xs.length : Nat) : Int) by rw [hl], f12_3 (xs, hs) xs mx, f12_1 (ps, hs) hs m2, f12_1 (xs, hs) hs m2]
    refine forI_congr2 xs ps 0 hl (fun i h h' s K => ?_) (fun _ => ?_) ()
    · obtain ⟨a1, a2⟩ := hx i h h'
      rw [a1, a2]
      cases hq : decide (((0 + i : Nat) : Int) > 0) with
      | false => simp only [condF]
      | true =>
        have hq := of_decide_eq_true hq
        rw [wrap_i64 (by omega) (by omega), show ((0 + i : Nat) : Int) - 1 = ((i - 1 : Nat) : Int) by omega, idx_get (show i - 1 < xs.length by omega), idx_get (show i - 1 < ps.length by omega)]
        simp only [bindS, (hx (i - 1) (by omega) (by omega)).1]
    · refine forI_congr _ _ (fun i h s K => ?_) (fun _ => rfl) ()
      rw [list34 (xs, hs) _ mx, list34 (ps, hs) _ m1, runAt_map (ps, hs) (xs, hs) _ hm]
end Go.Proofs.Ytaipbppgebjdeaa.D
