import Derived.Test.YtbapfiaglcllnaaXL24all
import Derived.Test.YtbapfiaglcllnaaXT3
import Derived.Test.YtbapfiaglcllnaaXN4
import Derived.Test.YtbapfiaglcllnaaXVall
section
open Go Go.GD Go.Proofs
namespace Go.Proofs.Ytbapfiaglcllnaa.D.Gr
theorem best_bad {g : Gp} (h40 : g.1.length ≤ 40 ∧ g.2.2.length ≤ 40) (h : rightV g ≠ 0) : D21 g.1 g.2.1 g.2.2 = some ([], 0, rightV g) := by
  have h12 : d22 (g.1, g.2.1, g.2.2) = some (rightV g) := right12 g h40
  show bestD (g.1, g.2.1, g.2.2) = _
  unfold bestD
  rw [h12, bindS, show (rightV g != 0) = true by simp [h]]
  rfl
theorem short_loop (fin : Unit → Option Bool) (hfin : ∀ l : List Bd, (∀ b ∈ l, b.2.length ≤ 20) → True) : ∀ (l : List Bd), (∀ b ∈ l, b.2.length ≤ 20) → forE (fun el (_ : Unit) K => (bif decide ((List.length el.2 : Int) > 20) then some true else K () : Option Bool)) fin l () = fin ()
  | [], _ => rfl
  | b :: l, h => by
    have h1 := h b (by simp)
    have h2 := short_loop fin hfin l fun b hb => h b (by simp [hb])
    simp only [forE]
    rw [decide_eq_false (by omega), cond_false]
    exact h2
theorem long_loop (fin : Unit → Option Bool) : ∀ (l : List Bd), (∃ b ∈ l, ¬ b.2.length ≤ 20) → forE (fun el (_ : Unit) K => (bif decide ((List.length el.2 : Int) > 20) then some true else K () : Option Bool)) fin l () = some true
  | [], h => by obtain ⟨b, hb, _⟩ := h; cases hb
  | b :: l, h => by
    simp only [forE]
    by_cases hb : b.2.length ≤ 20
    · rw [decide_eq_false (by omega), cond_false]
      obtain ⟨c, hc, hc'⟩ := h
      rcases List.mem_cons.1 hc with rfl | hc
      · exact absurd hb hc'
      · exact long_loop fin l ⟨c, hc, hc'⟩
    · rw [decide_eq_true (by omega), cond_true]
theorem group4 (g : Gp) (other : List Bd) (h1 : g.1.length ≤ 8) (h2 : g.2.2.length ≤ 8) (ho : other.length ≤ 10) : lp4_3 big g.1 g.2.1 g.2.2 other 0 = some true := by
  rw [f4_3 g.1 g.2.1 g.2.2 other (by unfold maxLen; omega)]
  by_cases hs : ∀ b ∈ other, b.2.length ≤ 20
  case neg =>
    refine long_loop _ other ?_
    simpa using hs
  rw [short_loop _ (fun _ _ => trivial) other hs]
  by_cases hr : rightV g = 0
  case neg =>
    have e22 : D22 g.1 g.2.1 g.2.2 = some (rightV g) := right12 g ⟨by omega, by omega⟩
    rw [best_bad ⟨by omega, by omega⟩ hr, bindS, show (rightV g != 0) = true by simp [hr]]
    simp [e22]
  have ha := acc_of hr
  obtain ⟨l, b1, b2, b3⟩ := best24 ha
  obtain ⟨c1, c2, c3⟩ := best_cost ha b1
  have hc : D23 g.1 g.2.1 g.2.2 (l.map (bdM g)) = some (csum (cM g) l, true) := by
    rw [cost27 ⟨ha.n8, ha.o8, ha.len⟩ (by rw [List.length_map]; omega) (fun b hb => by have := c2 b hb; omega), c3]
  rw [b2, bindS]
  simp only [bne_self_eq_false, cond_false]
  rw [hc, bindS, cost27 ⟨ha.n8, ha.o8, ha.len⟩ (by omega) (fun b hb => by have := hs b hb; omega), bindS]
  simp only [beq_self_eq_true, cond_true]
  cases hres : resP g.1.length (costP g.1.length g.1 g.2.1 g.2.2 other (0, 0)) with
  | mk k ok =>
    cases ok with
    | false => rfl
    | true =>
      obtain ⟨p1, p2⟩ := res_plan ha (by omega) hres
      obtain ⟨l', q1, q2, q3⟩ := plan_part h1 p1
      have hk := b3 l' q1
      have hlen := p1.len
      rw [X_len] at hlen
      have hql : (QO g other).length = other.length := by simp [QO]
      simp only [Bool.not_true, cond_false]
      have : csum (cM g) l ≤ k := by omega
      rw [decide_eq_true (by omega)]
end Go.Proofs.Ytbapfiaglcllnaa.D.Gr
end

section
open Go Go.GD Go.Proofs
namespace Go.Proofs.Ytbapfiaglcllnaa.D.Gr
abbrev Sr := Int × Int
abbrev Tf := Int × Int × Int
def Part (b : Nat → Int) (k : Nat) : Prop := ∃ LL : List (List Nat), LL.flatten.Perm (List.range 9) ∧ (∀ g ∈ LL, g ≠ [] ∧ (g.map b).sum = 0) ∧ k ≤ LL.length
def upd (b : Nat → Int) (u v : Nat) (x : Int) : Nat → Int := fun k => b k + (if k = u then x else 0) - (if k = v then x else 0)
theorem sum_upd (b : Nat → Int) (u v : Nat) (x : Int) : ∀ (g : List Nat), g.Nodup → (g.map (upd b u v x)).sum = (g.map b).sum + (if u ∈ g then x else 0) - (if v ∈ g then x else 0)
  | [], _ => by simp
  | k :: g, h => by
    obtain ⟨h1, h2⟩ := List.nodup_cons.1 h
    have ih := sum_upd b u v x g h2
    rw [List.map_cons, List.map_cons, List.sum_cons, List.sum_cons, ih]
    unfold upd
    by_cases e1 : k = u
    · subst e1
      by_cases e2 : k = v
      · subst e2; simp [h1]
      · by_cases e3 : v ∈ g
        · simp [h1, e2, e3]; omega
        · simp [h1, e2, e3, Ne.symm e2]; omega
    · by_cases e2 : k = v
      · subst e2
        by_cases e3 : u ∈ g
        · simp [h1, e1, e3]; omega
        · simp [h1, e1, e3, Ne.symm e1]; omega
      · by_cases e3 : v ∈ g <;> by_cases e4 : u ∈ g <;> simp [e1, e2, e3, e4, Ne.symm e1, Ne.symm e2] <;> omega
theorem part_step {b : Nat → Int} {u v : Nat} {x : Int} {k : Nat} (hu : u < 9) (hv : v < 9) (h : Part (upd b u v x) k) : Part b (k - 1) := by
  obtain ⟨LL, h1, h2, h3⟩ := h
  have hnd : LL.flatten.Nodup := h1.nodup_iff.2 List.nodup_range
  obtain ⟨g, hg, hug⟩ := List.mem_flatten.1 (h1.mem_iff.2 (List.mem_range.2 hu))
  have p1 : LL.Perm (g :: LL.erase g) := List.perm_cons_erase hg
  generalize LL.erase g = L1 at p1
  have f1 : LL.flatten.Perm (g ++ L1.flatten) := by have := p1.flatten; simpa using this
  have nd1 := f1.nodup_iff.1 hnd
  obtain ⟨ng, nL, hdis⟩ := List.nodup_append.1 nd1
  have hl := p1.length_eq
  rw [List.length_cons] at hl
  have hz := (h2 g hg).2
  rw [sum_upd b u v x g ng, if_pos hug] at hz
  by_cases hvg : v ∈ g
  · rw [if_pos hvg] at hz
    refine ⟨g :: L1, by have := f1.symm.trans h1; simpa using this, fun g' hg' => ?_, by rw [List.length_cons]; omega⟩
    rcases List.mem_cons.1 hg' with rfl | hg'
    · exact ⟨(h2 g' hg).1, by omega⟩
    · have hm : g' ∈ LL := p1.mem_iff.2 (List.mem_cons_of_mem _ hg')
      have hz' := (h2 g' hm).2
      have hu' : u ∉ g' := fun h => hdis u hug u (List.mem_flatten.2 ⟨g', hg', h⟩) rfl
      have hv' : v ∉ g' := fun h => hdis v hvg v (List.mem_flatten.2 ⟨g', hg', h⟩) rfl
      rw [sum_upd b u v x g' ((List.pairwise_flatten.1 hnd).1 g' hm), if_neg hu', if_neg hv'] at hz'
      exact ⟨(h2 g' hm).1, by omega⟩
  · rw [if_neg hvg] at hz
    have hvL : v ∈ L1.flatten := by
      have := f1.mem_iff.1 (h1.mem_iff.2 (List.mem_range.2 hv))
      rcases List.mem_append.1 this with h | h
      · exact absurd h hvg
      · exact h
    obtain ⟨h', hh, hvh⟩ := List.mem_flatten.1 hvL
    have p2 : L1.Perm (h' :: L1.erase h') := List.perm_cons_erase hh
    generalize L1.erase h' = L2 at p2
    have f2 : L1.flatten.Perm (h' ++ L2.flatten) := by have := p2.flatten; simpa using this
    have hl2 := p2.length_eq
    rw [List.length_cons] at hl2
    obtain ⟨nh, _, hdis2⟩ := List.nodup_append.1 (f2.nodup_iff.1 nL)
    have hm1 : h' ∈ LL := p1.mem_iff.2 (List.mem_cons_of_mem _ hh)
    have hz1 := (h2 h' hm1).2
    have hu1 : u ∉ h' := fun h => hdis u hug u (List.mem_flatten.2 ⟨h', hh, h⟩) rfl
    rw [sum_upd b u v x h' nh, if_neg hu1, if_pos hvh] at hz1
    refine ⟨(g ++ h') :: L2, ?_, fun g' hg' => ?_, by rw [List.length_cons]; omega⟩
    · rw [List.flatten_cons, List.append_assoc]
      exact ((f2.symm.append_left g).trans f1.symm).trans h1
    rcases List.mem_cons.1 hg' with rfl | hg'
    · refine ⟨fun e => (h2 g hg).1 (List.append_eq_nil_iff.1 e).1, ?_⟩
      rw [List.map_append, List.sum_append]
      omega
    · have hm1' : g' ∈ L1 := p2.mem_iff.2 (List.mem_cons_of_mem _ hg')
      have hm : g' ∈ LL := p1.mem_iff.2 (List.mem_cons_of_mem _ hm1')
      have hz' := (h2 g' hm).2
      have hu' : u ∉ g' := fun h => hdis u hug u (List.mem_flatten.2 ⟨g', hm1', h⟩) rfl
      have hv' : v ∉ g' := fun h => hdis2 v hvh v (List.mem_flatten.2 ⟨g', hg', h⟩) rfl
      rw [sum_upd b u v x g' ((List.pairwise_flatten.1 hnd).1 g' hm), if_neg hu', if_neg hv'] at hz'
      exact ⟨(h2 g' hm).1, by omega⟩
def eff : List Tf → Nat → Int
  | [], _ => 0
  | x :: ts, k => (if k = x.2.1.toNat then x.2.2 else 0) - (if k = x.1.toNat then x.2.2 else 0) + eff ts k
theorem part_pays : ∀ (ts : List Tf) (b : Nat → Int), (∀ x ∈ ts, x.1.toNat < 9 ∧ x.2.1.toNat < 9) → (∀ k, k < 9 → b k = eff ts k) → Part b (9 - ts.length)
  | [], b, _, h => by
    refine ⟨(List.range 9).map fun i => [i], ?_, fun g hg => ?_, by simp⟩
    · have : ((List.range 9).map fun i => [i]).flatten = List.range 9 := by decide
      rw [this]
    · obtain ⟨i, hi, rfl⟩ := List.mem_map.1 hg
      have := h i (List.mem_range.1 hi)
      refine ⟨by simp, ?_⟩
      simp [this, eff]
  | x :: ts, b, hx, h => by
    obtain ⟨h1, h2⟩ := hx x (by simp)
    have := part_pays ts (upd b x.1.toNat x.2.1.toNat x.2.2) (fun y hy => hx y (by simp [hy])) fun k hk => by
      have := h k hk
      rw [eff] at this
      unfold upd
      omega
    have := part_step h1 h2 this
    rw [List.length_cons]
    rwa [show 9 - ts.length - 1 = 9 - (ts.length + 1) by omega] at this
def clean (b : Nat → Int) : List (List Nat) → List (List Nat)
  | [] => []
  | g :: LL => if g.filter (fun k => b k != 0) = [] then clean b LL else g.filter (fun k => b k != 0) :: clean b LL
theorem sum_filter (b : Nat → Int) : ∀ g : List Nat, ((g.filter fun k => b k != 0).map b).sum = (g.map b).sum
  | [] => rfl
  | k :: g => by
    have := sum_filter b g
    rw [List.filter_cons]
    by_cases h : b k = 0
    · simp [h, this]
    · simp [h, this]
theorem clean_flat (b : Nat → Int) : ∀ LL : List (List Nat), (clean b LL).flatten = LL.flatten.filter fun k => b k != 0
  | [] => rfl
  | g :: LL => by
    unfold clean
    split
    · rename_i h
      rw [clean_flat b LL, List.flatten_cons, List.filter_append, h, List.nil_append]
    · rw [List.flatten_cons, List.flatten_cons, List.filter_append, clean_flat b LL]
theorem clean_mem (b : Nat → Int) : ∀ {LL : List (List Nat)}, (∀ g ∈ LL, (g.map b).sum = 0) → ∀ g ∈ clean b LL, g ≠ [] ∧ (g.map b).sum = 0
  | [], _, _, hg => by cases hg
  | g0 :: LL, h, g, hg => by
    unfold clean at hg
    split at hg
    · exact clean_mem b (fun g hg => h g (by simp [hg])) g hg
    · rename_i hne
      rcases List.mem_cons.1 hg with rfl | hg
      · exact ⟨hne, by rw [sum_filter]; exact h g0 (by simp)⟩
      · exact clean_mem b (fun g hg => h g (by simp [hg])) g hg
theorem clean_len (b : Nat → Int) : ∀ {LL : List (List Nat)}, (∀ g ∈ LL, g ≠ []) → LL.length + (clean b LL).flatten.length ≤ (clean b LL).length + LL.flatten.length
  | [], _ => Nat.le_refl _
  | g :: LL, h => by
    have ih := clean_len b (LL := LL) fun g hg => h g (by simp [hg])
    have h1 := List.length_pos_iff.2 (h g (by simp))
    unfold clean
    split
    · rw [List.flatten_cons, List.length_append, List.length_cons]; omega
    · have := List.length_filter_le (fun k => b k != 0) g
      rw [List.flatten_cons, List.flatten_cons, List.length_append, List.length_append, List.length_cons, List.length_cons]
      omega
def wt (r : List Sr) (i : Nat) : Int := (r[i]?.getD (0, 0)).2
def W (r : List Sr) (m : Nat) : Int := ((bits m).map (wt r)).sum
def zf (r : List Sr) (m : Nat) : Bool := W r m == 0
theorem wt_range (r : List Sr) : (List.range r.length).map (wt r) = r.map (·.2) := by
  refine List.ext_getElem (by simp) fun i h1 h2 => ?_
  rw [List.length_map] at h2
  simp [wt, h2]
theorem part_index {r : List Sr} {b : Nat → Int} {k : Nat} (h8 : r.length ≤ 8) (hnd : (r.map fun s => s.1.toNat).Nodup) (hb : ∀ s ∈ r, s.1.toNat < 9 ∧ b s.1.toNat = s.2 ∧ s.2 ≠ 0) (hc : ∀ k, k < 9 → b k ≠ 0 → ∃ s ∈ r, s.1.toNat = k) (h : Part b k) :
    ∃ L, PartOf (zf r) (2 ^ r.length - 1) L ∧ k + r.length ≤ L.length + 9 := by
  obtain ⟨LL, h1, h2, h3⟩ := h
  have hp : (LL.flatten.filter fun k => b k != 0).Perm (r.map fun s => s.1.toNat) := by
    rw [List.perm_ext_iff_of_nodup ((h1.nodup_iff.2 List.nodup_range).filter _) hnd]
    intro k
    rw [List.mem_filter, h1.mem_iff, List.mem_range, List.mem_map]
    constructor
    · rintro ⟨q1, q2⟩
      exact hc k q1 (by simpa using q2)
    · rintro ⟨s, hs, rfl⟩
      obtain ⟨q1, q2, q3⟩ := hb s hs
      exact ⟨q1, by rw [q2]; simpa using q3⟩
  have hv : ((clean b LL).map (List.map b)).flatten.Perm ((List.range r.length).map (wt r)) := by
    rw [← List.map_flatten, clean_flat, wt_range]
    refine (hp.map b).trans ?_
    rw [List.map_map]
    have : r.map (b ∘ fun s => s.1.toNat) = r.map (·.2) := List.map_congr_left fun s hs => (hb s hs).2.1
    rw [this]
  obtain ⟨s, hs, e⟩ := perm_lift hv
  obtain ⟨IL, q1, q2⟩ := split_lift e
  have hn : IL.flatten.Nodup := by rw [q1, hs.nodup_iff]; exact List.nodup_range
  have hlen : IL.length = (clean b LL).length := by
    have := congrArg List.length q2
    simpa using this
  have hpart := part_of_lists (fnd := zf r) hn fun ps hp => by
    have hm : ps.map (wt r) ∈ (clean b LL).map (List.map b) := by rw [← q2]; exact List.mem_map_of_mem hp
    obtain ⟨g, hg, e⟩ := List.mem_map.1 hm
    obtain ⟨c1, c2⟩ := clean_mem b (fun g hg => (h2 g hg).2) g hg
    refine ⟨fun e0 => c1 ?_, ?_⟩
    · rw [e0, List.map_nil] at e
      exact List.map_eq_nil_iff.1 e
    · have hps : ps.Nodup ∧ ∀ p ∈ ps, p < 8 := by
        refine ⟨(List.pairwise_flatten.1 hn).1 ps hp, fun p hpp => ?_⟩
        have : p ∈ IL.flatten := List.mem_flatten.2 ⟨ps, hp, hpp⟩
        rw [q1] at this
        have := List.mem_range.1 (hs.mem_iff.1 this)
        omega
      unfold zf W
      rw [sum_perm ((bits_mask_perm hps.1 hps.2).map (wt r)), ← e, c2]
      rfl
  rw [q1, mask_perm hs, full_mask] at hpart
  refine ⟨_, hpart, ?_⟩
  rw [List.length_map, hlen]
  have c := clean_len b (LL := LL) fun g hg => (h2 g hg).1
  rw [clean_flat, hp.length_eq, h1.length_eq, List.length_map, List.length_range] at c
  omega
end Go.Proofs.Ytbapfiaglcllnaa.D.Gr
end

section
open Go Go.GD Go.Proofs
namespace Go.Proofs.Ytbapfiaglcllnaa.D.Gr
theorem bit_off_all : allB 256 (fun S => allB 8 fun i => bif S.testBit i then (Nat.beq (Nat.xor S (2 ^ i)) (S - 2 ^ i) && Nat.ble (2 ^ i) S) && Nat.beq (Nat.land (2 ^ i) S) (2 ^ i) else true) = true := by decide +kernel
theorem bit_off {S i : Nat} (hS : S < 256) (h : S.testBit i = true) : S ^^^ 2 ^ i = S - 2 ^ i ∧ 2 ^ i ≤ S ∧ 2 ^ i &&& S = 2 ^ i := by
  have := allB_of (allB_of bit_off_all S hS) i (bit_lt hS h)
  rw [h, cond_true, Bool.and_eq_true, Bool.and_eq_true] at this
  exact ⟨Nat.eq_of_beq_eq_true this.1.1, Nat.le_of_ble_eq_true this.1.2, Nat.eq_of_beq_eq_true this.2⟩
theorem bit_off_lt {S i : Nat} (hS : S < 256) (h : S.testBit i = true) : S ^^^ 2 ^ i < S := by
  have := bit_off hS h
  have := Nat.two_pow_pos i
  omega
theorem W_split (r : List Sr) {S m : Nat} (h : m &&& S = m) : W r m + W r (S ^^^ m) = W r S := by
  unfold W
  rw [← sum_perm ((bits_split h).map (wt r)), List.map_append, List.sum_append]
theorem bits_one_all : allB 8 (fun i => listEq (bits (2 ^ i)) [i]) = true := by decide +kernel
theorem W_one (r : List Sr) {i : Nat} (h : i < 8) : W r (2 ^ i) = wt r i := by
  unfold W
  rw [listEq_of (allB_of bits_one_all i h)]
  simp
theorem W_zero (r : List Sr) : W r 0 = 0 := by
  unfold W
  rw [bits_zero]; rfl
theorem W_off (r : List Sr) {S i : Nat} (hS : S < 256) (h : S.testBit i = true) : W r S = W r (S ^^^ 2 ^ i) + wt r i := by
  have := W_split r (bit_off hS h).2.2
  rw [W_one r (bit_lt hS h)] at this
  omega
theorem part_sum {r : List Sr} : ∀ {L : List Nat} {T : Nat}, PartOf (zf r) T L → W r T = 0
  | [], T, h => by rw [show T = 0 from h, W_zero]
  | m :: L, T, h => by
    obtain ⟨h1, h2, h3, h4⟩ := h
    have := W_split r h2
    have h5 := part_sum h4
    have h6 : W r m = 0 := by simpa [zf] using h3
    omega
def zS (r : List Sr) (S : Nat) : Int := bif zf r S then 1 else 0
theorem zS_nn (r : List Sr) (S : Nat) : 0 ≤ zS r S ∧ zS r S ≤ 1 := by unfold zS; cases zf r S <;> simp
structure MS (r : List Sr) (M : Nat → Int) (n : Nat) : Prop where
  zero : M 0 = 0
  ub : ∀ S, S < n → S ≠ 0 → ∃ i, S.testBit i = true ∧ M S = M (S ^^^ 2 ^ i) + zS r S
  lb : ∀ S i, S < n → S.testBit i = true → M (S ^^^ 2 ^ i) + zS r S ≤ M S
theorem part_le {r : List Sr} {M : Nat → Int} {n : Nat} (hn : n ≤ 256) (hM : MS r M n) : ∀ (S : Nat), S < n → ∀ (T : Nat) (L : List Nat), T &&& S = T → PartOf (zf r) T L → (L.length : Int) ≤ M S := by
  intro S
  induction S using Nat.strongRecOn with
  | _ S ih =>
  intro hS T L hT hL
  by_cases h0 : S = 0
  · subst h0
    rw [Nat.and_zero] at hT
    subst hT
    match L, hL with
    | [], _ => rw [hM.zero]; exact Int.le_refl _
    | m :: L, h =>
      have := h.2.1
      rw [Nat.and_zero] at this
      exact absurd this.symm h.1
  obtain ⟨j, hj⟩ := bit_ex h0
  have hjl := bit_off_lt (show S < 256 by omega) hj
  have hz := zS_nn r S
  have nn : 0 ≤ M S := by
    have h1 := ih _ hjl (by omega) 0 [] (Nat.zero_and _) rfl
    have h2 := hM.lb S j hS hj
    have h1 : (0 : Int) ≤ M (S ^^^ 2 ^ j) := h1
    omega
  match L, hL with
  | [], _ => exact nn
  | m :: L, hL =>
    obtain ⟨h1, h2, h3, h4⟩ := hL
    by_cases hTS : T = S
    · subst hTS
      have hw : zS r T = 1 := by
        have := part_sum (r := r) (T := T) (L := m :: L) ⟨h1, h2, h3, h4⟩
        unfold zS zf
        rw [this]; rfl
      obtain ⟨i, hi⟩ := bit_ex h1
      have hiT := sub_bit h2 hi
      have := ih _ (bit_off_lt (by omega) hiT) (by have := bit_off_lt (show T < 256 by omega) hiT; omega) (T ^^^ m) L (sub_of fun k hk => ?_) h4
      · have h5 := hM.lb T i hS hiT
        rw [List.length_cons]
        omega
      · rw [Nat.testBit_xor] at hk ⊢
        rw [Nat.testBit_two_pow]
        have hTk : T.testBit k = true := by
          cases hTk : T.testBit k with
          | true => rfl
          | false =>
            rw [hTk] at hk
            have := sub_bit h2 (show m.testBit k = true by simpa using hk)
            rw [hTk] at this; cases this
        rw [hTk] at hk ⊢
        by_cases hik : i = k
        · subst hik; rw [hi] at hk; cases hk
        · simp [hik]
    · obtain ⟨i, hi, hiT⟩ : ∃ i, S.testBit i = true ∧ T.testBit i = false := by
        apply Classical.byContradiction
        intro hn
        refine hTS (Nat.eq_of_testBit_eq fun k => ?_)
        cases hk : T.testBit k with
        | true => exact (sub_bit hT hk).symm
        | false =>
          cases hs : S.testBit k with
          | false => rfl
          | true => exact absurd ⟨k, hs, hk⟩ hn
      have hil := bit_off_lt (show S < 256 by omega) hi
      have := ih _ hil (by omega) T (m :: L) (sub_of fun k hk => ?_) ⟨h1, h2, h3, h4⟩
      · have h5 := hM.lb S i hS hi
        omega
      · rw [Nat.testBit_xor, sub_bit hT hk, Nat.testBit_two_pow]
        by_cases hik : i = k
        · subst hik; rw [hiT] at hk; cases hk
        · simp [hik]
end Go.Proofs.Ytbapfiaglcllnaa.D.Gr
end

section
open Go Go.GD Go.Proofs
namespace Go.Proofs.Ytbapfiaglcllnaa.D.Gr
theorem on_all : allB 256 (fun S => allB 8 fun i => decide ((IntKind.i64.wrap (((BitVec.ofInt 64 (Int.fdiv (S : Int) (2 ^ (Nat.min (Int.toNat (i : Int)) 64))) &&& BitVec.ofInt 64 1).toNat : Int)) == 1) = S.testBit i)) = true := by decide +kernel
theorem on_nat {S i : Nat} (hS : S < 256) (hi : i < 8) : (IntKind.i64.wrap (((BitVec.ofInt 64 (Int.fdiv (S : Int) (2 ^ (Nat.min (Int.toNat (i : Int)) 64))) &&& BitVec.ofInt 64 1).toNat : Int)) == 1) = S.testBit i := of_decide_eq_true (allB_of (allB_of on_all S hS) i hi)
theorem off_all : allB 256 (fun S => allB 8 fun i => decide (IntKind.i64.wrap (((BitVec.ofInt 64 (S : Int) &&& ~~~ BitVec.ofInt 64 (IntKind.i64.wrap ((1 : Int) * 2 ^ (Nat.min (Int.toNat (i : Int)) 64)))).toNat : Int)) = (((bif S.testBit i then Nat.xor S (2 ^ i) else S) : Nat) : Int))) = true := by decide +kernel
theorem off_nat {S i : Nat} (hS : S < 256) (hi : i < 8) : IntKind.i64.wrap (((BitVec.ofInt 64 (S : Int) &&& ~~~ BitVec.ofInt 64 (IntKind.i64.wrap ((1 : Int) * 2 ^ (Nat.min (Int.toNat (i : Int)) 64)))).toNat : Int)) = (((bif S.testBit i then S ^^^ 2 ^ i else S) : Nat) : Int) := of_decide_eq_true (allB_of (allB_of off_all S hS) i hi)
theorem pow_all : allB 9 (fun n => decide (IntKind.i64.wrap ((1 : Int) * 2 ^ (Nat.min (Int.toNat (n : Int)) 64)) = ((2 ^ n : Nat) : Int))) = true := by decide +kernel
theorem pow_nat {n : Nat} (h : n ≤ 8) : IntKind.i64.wrap ((1 : Int) * 2 ^ (Nat.min (Int.toNat (n : Int)) 64)) = ((2 ^ n : Nat) : Int) := of_decide_eq_true (allB_of pow_all n (by omega))
def Small (r : List Sr) : Prop := ∀ s ∈ r, -137438953472 ≤ s.2 ∧ s.2 ≤ 137438953472
theorem wt_small {r : List Sr} (h : Small r) (i : Nat) : -137438953472 ≤ wt r i ∧ wt r i ≤ 137438953472 := by
  unfold wt
  cases hi : r[i]? with
  | none => simp
  | some s => exact h s (List.mem_of_getElem? hi)
theorem sum_small {f : Nat → Int} (h : ∀ i, -137438953472 ≤ f i ∧ f i ≤ 137438953472) : ∀ l : List Nat, -137438953472 * l.length ≤ (l.map f).sum ∧ (l.map f).sum ≤ 137438953472 * l.length
  | [] => by simp
  | i :: l => by
    have h1 := h i
    have h2 := sum_small h l
    rw [List.map_cons, List.sum_cons, List.length_cons]
    omega
theorem W_small {r : List Sr} (h : Small r) (S : Nat) : -1099511627776 ≤ W r S ∧ W r S ≤ 1099511627776 := by
  have h1 := sum_small (wt_small h) (bits S)
  have h2 : (bits S).length ≤ 8 := by have := List.length_filter_le S.testBit (List.range 8); rw [List.length_range] at this; exact this
  unfold W
  omega
def Mf (most : List Int) (s : Nat) : Int := most[s]?.getD 0
structure Ent (r : List Sr) (S : Nat) (sums most : List Int) : Prop where
  ls : sums.length = 2 ^ r.length
  lm : most.length = 2 ^ r.length
  sum : ∀ s, s < S → s < 2 ^ r.length → idx sums (s : Int) = some (W r s)
  ms : MS r (Mf most) S
  bnd : ∀ s, s < S → 0 ≤ Mf most s ∧ Mf most s ≤ s
  rest : ∀ s, S ≤ s → Mf most s = 0
theorem idx_Mf {most : List Int} {s : Nat} (h : s < most.length) : idx most (s : Int) = some (Mf most s) := by
  rw [idx_get h]
  unfold Mf
  rw [List.getElem?_eq_getElem h]; rfl
theorem Mf_set {most : List Int} {S : Nat} {y : Int} (h : S < most.length) (s : Nat) : Mf (most.set S y) s = if s = S then y else Mf most s := by
  unfold Mf
  rw [List.getElem?_set]
  by_cases e : S = s
  · subst e; simp [h]
  · rw [if_neg e, if_neg (Ne.symm e)]
theorem idxI_set_eq {l : List Int} {i : Nat} {x : Int} (h : i < l.length) : idx (l.set i x) (i : Int) = some x := by
  rw [idx_nat, List.getElem?_set]; simp [h]
theorem idxI_set_ne {l : List Int} {i j : Nat} {x : Int} (h : i ≠ j) : idx (l.set i x) (j : Int) = idx l (j : Int) := by
  rw [idx_nat, idx_nat, List.getElem?_set]; simp [h]
theorem set47 {r : List Sr} (h8 : r.length ≤ 8) (hr : Small r) {S : Nat} (h0 : S ≠ 0) (hS : S < 2 ^ r.length) {sums most : List Int} (hE : Ent r S sums most) (F : (List Sr × List Int × List Int × Int) → Option (List Int × List Int)) (Q : Option (List Int × List Int) → Prop)
    (hF : ∀ sums most, Ent r (S + 1) sums most → Q (F (r, sums, most, ((S + 1 : Nat) : Int)))) : Q (lp47_1 big F r sums most (S : Int) r (List.length r : Int) 0) := by
  have h256 := pow_256 h8
  have hls := hE.ls
  have hlm := hE.lm
  rw [f47_1 F r sums most (S : Int) r (by unfold maxLen; omega)]
  refine forI_rule (I := fun pre (s : List Int × List Int) => ∃ x y, s = (sums.set S x, most.set S y) ∧ ((∃ i, i < pre.length ∧ S.testBit i = true) → x = W r S) ∧ (∀ i, i < pre.length → S.testBit i = true → Mf most (S ^^^ 2 ^ i) ≤ y) ∧ (y = 0 ∨ ∃ i, i < pre.length ∧ S.testBit i = true ∧ y = Mf most (S ^^^ 2 ^ i)) ∧ 0 ≤ y ∧ y ≤ S - 1) Q r ?_ ?_ ?_
  · rintro pre el post e ⟨s1, m1⟩ ⟨x, y, hs, i1, i2, i3, i4, i5⟩ K hK
    injection hs with e1 e2
    subst e1 e2
    have hk : pre.length < r.length := by rw [e]; simp
    have hel : wt r pre.length = el.2 := by unfold wt; rw [e]; simp
    have hK : ∀ x y, ((∃ i, i < pre.length + 1 ∧ S.testBit i = true) → x = W r S) → (∀ i, i < pre.length + 1 → S.testBit i = true → Mf most (S ^^^ 2 ^ i) ≤ y) → (y = 0 ∨ ∃ i, i < pre.length + 1 ∧ S.testBit i = true ∧ y = Mf most (S ^^^ 2 ^ i)) → 0 ≤ y → y ≤ S - 1 → Q (K (sums.set S x, most.set S y)) := fun x y a1 a2 a3 a4 a5 =>
      hK _ ⟨x, y, rfl, by simpa using a1, by simpa using a2, by simpa using a3, a4, a5⟩
    simp only []
    rw [decide_eq_false (show ¬ (pre.length : Int) < 0 by omega), cond_false, on_nat (by omega) (by omega), off_nat (by omega) (by omega)]
    cases hb : S.testBit pre.length with
    | false =>
      rw [cond_false]
      refine hK x y (fun ⟨i, hi, hi2⟩ => i1 ⟨i, ?_, hi2⟩) (fun i hi hi2 => i2 i ?_ hi2) (i3.imp id fun ⟨i, hi, hi2, hi3⟩ => ⟨i, by omega, hi2, hi3⟩) i4 i5
      · by_cases e : i = pre.length
        · subst e; rw [hb] at hi2; cases hi2
        · omega
      · by_cases e : i = pre.length
        · subst e; rw [hb] at hi2; cases hi2
        · omega
    | true =>
      have hoff := bit_off_lt (show S < 256 by omega) hb
      have hbm := hE.bnd _ hoff
      have hW := W_off r (show S < 256 by omega) hb
      have hWS := W_small hr S
      simp only [cond_true, cond_false]
      rw [idxI_set_ne (by omega), hE.sum _ hoff (by omega), bindS, idxI_set_eq (by omega), bindS, idxI_set_eq (by omega), bindS, idxI_set_ne (by omega), idx_Mf (by omega), bindS, bindS, Int.toNat_natCast, List.set_set, List.set_set, ← hel, ← hW, wrap_i64 (by omega) (by omega)]
      refine hK _ _ (fun _ => rfl) (fun i hi hi2 => ?_) ?_ ?_ ?_
      · by_cases hgt : Mf most (S ^^^ 2 ^ pre.length) > y
        · rw [decide_eq_true hgt, cond_true]
          by_cases e : i = pre.length
          · subst e; exact Int.le_refl _
          · have := i2 i (by omega) hi2; omega
        · rw [decide_eq_false hgt, cond_false]
          by_cases e : i = pre.length
          · subst e; omega
          · exact i2 i (by omega) hi2
      · by_cases hgt : Mf most (S ^^^ 2 ^ pre.length) > y
        · rw [decide_eq_true hgt, cond_true]
          exact .inr ⟨pre.length, by omega, hb, rfl⟩
        · rw [decide_eq_false hgt, cond_false]
          exact i3.imp id fun ⟨i, hi, hi2, hi3⟩ => ⟨i, by omega, hi2, hi3⟩
      · by_cases hgt : Mf most (S ^^^ 2 ^ pre.length) > y
        · rw [decide_eq_true hgt, cond_true]; omega
        · rw [decide_eq_false hgt, cond_false]; omega
      · by_cases hgt : Mf most (S ^^^ 2 ^ pre.length) > y
        · rw [decide_eq_true hgt, cond_true]; omega
        · rw [decide_eq_false hgt, cond_false]; omega
  · rintro ⟨s1, m1⟩ ⟨x, y, hs, i1, i2, i3, i4, i5⟩
    injection hs with e1 e2
    subst e1 e2
    obtain ⟨j, hj⟩ := bit_ex h0
    have hjn : j < r.length := by
      rcases Nat.lt_or_ge j r.length with h | h
      · exact h
      · rw [Nat.testBit_lt_two_pow (Nat.lt_of_lt_of_le hS (Nat.pow_le_pow_right (by omega) h))] at hj
        cases hj
    have hx := i1 ⟨j, hjn, hj⟩
    subst hx
    have hjl := bit_off_lt (show S < 256 by omega) hj
    have i3' : ∃ i, i < r.length ∧ S.testBit i = true ∧ y = Mf most (S ^^^ 2 ^ i) := by
      rcases i3 with h | h
      · refine ⟨j, hjn, hj, ?_⟩
        have := i2 j hjn hj
        have := (hE.bnd _ hjl).1
        omega
      · exact h
    simp only []
    rw [idxI_set_eq (by omega), bindS]
    have fin : ∀ y', y' = y + zS r S → Q (F (r, sums.set S (W r S), most.set S y', ((S + 1 : Nat) : Int))) := by
      rintro y' rfl
      have hz := zS_nn r S
      refine hF _ _ ⟨by rw [List.length_set]; exact hls, by rw [List.length_set]; exact hlm, fun s hs hs2 => ?_, ⟨?_, fun s hs hs0 => ?_, fun s i hs hi => ?_⟩, fun s hs => ?_, fun s hs => ?_⟩
      · by_cases e : s = S
        · subst e; exact idxI_set_eq (by omega)
        · rw [idxI_set_ne (by omega)]; exact hE.sum s (by omega) hs2
      · rw [Mf_set (by omega), if_neg (by omega)]; exact hE.ms.zero
      · by_cases e : s = S
        · subst e
          obtain ⟨i, hi1, hi2, hi3⟩ := i3'
          have := bit_off_lt (show s < 256 by omega) hi2
          refine ⟨i, hi2, ?_⟩
          rw [Mf_set (by omega), Mf_set (by omega), if_pos rfl, if_neg (by omega), hi3]
        · obtain ⟨i, hi, hi2⟩ := hE.ms.ub s (by omega) hs0
          have := bit_off_lt (show s < 256 by omega) hi
          refine ⟨i, hi, ?_⟩
          rw [Mf_set (by omega), Mf_set (by omega), if_neg e, if_neg (by omega)]
          exact hi2
      · have hlt := bit_off_lt (show s < 256 by omega) hi
        rw [Mf_set (by omega), Mf_set (by omega), if_neg (show ¬ s ^^^ 2 ^ i = S by omega)]
        by_cases e : s = S
        · subst e
          rw [if_pos rfl]
          have hin : i < r.length := by
            rcases Nat.lt_or_ge i r.length with h | h
            · exact h
            · rw [Nat.testBit_lt_two_pow (Nat.lt_of_lt_of_le hS (Nat.pow_le_pow_right (by omega) h))] at hi
              cases hi
          have := i2 i hin hi
          omega
        · rw [if_neg e]
          exact hE.ms.lb s i (by omega) hi
      · rw [Mf_set (by omega)]
        by_cases e : s = S
        · rw [if_pos e]; omega
        · rw [if_neg e]; exact hE.bnd s (by omega)
      · rw [Mf_set (by omega), if_neg (by omega)]
        exact hE.rest s (by omega)
    have hw : IntKind.i64.wrap ((S : Int) + 1) = ((S + 1 : Nat) : Int) := by rw [wrap_i64 (by omega) (by omega)]; omega
    rw [hw]
    cases hz : (W r S == 0) with
    | true =>
      rw [cond_true, idxI_set_eq (by omega), bindS, bindS, Int.toNat_natCast, List.set_set, wrap_i64 (by omega) (by omega)]
      exact fin _ (by unfold zS zf; rw [hz]; rfl)
    | false =>
      rw [cond_false]
      exact fin _ (by unfold zS zf; rw [hz]; simp)
  · have h1 : S < sums.length := by omega
    have h2 : S < most.length := by omega
    have hm := hE.rest S (Nat.le_refl _)
    refine ⟨sums[S], Mf most S, ?_, fun ⟨i, hi, _⟩ => (by cases hi), fun i hi _ => (by cases hi), .inl hm, by omega, by omega⟩
    have e2 : Mf most S = most[S] := by unfold Mf; rw [List.getElem?_eq_getElem h2]; rfl
    rw [e2, List.set_getElem_self, List.set_getElem_self]
theorem groups47 {r : List Sr} (h8 : r.length ≤ 8) (hr : Small r) : ∃ sums most, D47 r = some (sums, most) ∧ Ent r (2 ^ r.length) sums most := by
  have h256 := pow_256 h8
  have hp := Nat.two_pow_pos r.length
  have hlim : (256 : Nat) * 8 ≤ appendLimit := by decide
  have hmk : (decide (0 ≤ ((2 ^ r.length : Nat) : Int)) && (decide (((2 ^ r.length : Nat) : Int) ≤ ((2 ^ r.length : Nat) : Int)) && (decide (8 * ((2 ^ r.length : Nat) : Int) ≤ (appendLimit : Int)) && decide (((2 ^ r.length : Nat) : Int) ≤ 9223372036854775807)))) = true := by
    simp only [Bool.and_eq_true, decide_eq_true_eq]
    omega
  rw [e47, decide_eq_false (show ¬ (List.length r : Int) < 0 by omega), cond_false, cond_false, pow_nat h8, hmk, cond_true, cond_true, Int.toNat_natCast]
  have e0 : Ent r 1 (List.replicate (2 ^ r.length) 0) (List.replicate (2 ^ r.length) 0) := by
    have hz : ∀ s, Mf (List.replicate (2 ^ r.length) 0) s = 0 := by
      intro s
      unfold Mf
      rw [List.getElem?_replicate]
      split <;> rfl
    refine ⟨by simp, by simp, fun s hs hs2 => ?_, ⟨hz 0, fun s hs hs0 => by omega, fun s i hs hi => ?_⟩, fun s hs => by rw [hz]; omega, fun s _ => hz s⟩
    · have : s = 0 := by omega
      subst this
      rw [W_zero, idx_get (by simpa using hp)]; simp
    · have : s = 0 := by omega
      subst this
      rw [Nat.zero_testBit] at hi; cases hi
  unfold lp47_3
  have := iter_natR (ρ := List Int × List Int) (step := fun (F : ((List ((Int) × (Int))) × (List (Int)) × (List (Int)) × Int) → Option ((List (Int)) × (List (Int)))) ((l1, sums, most, set_) : (List ((Int) × (Int))) × (List (Int)) × (List (Int)) × Int) =>
    bif decide (set_ < (List.length sums : Int)) then lp47_1 big F l1 sums most set_ l1 (List.length l1 : Int) 0
    else some (sums, most)) (2 ^ r.length - 1) (fun j (s : List Int × List Int) => (r, s.1, s.2, ((j + 1 : Nat) : Int)))
    (fun j s => Ent r (j + 1) s.1 s.2) (fun _ _ q => Ent r (2 ^ r.length) q.1 q.2) (fun F j hj s hs hF => ?_) (fun F s hs => ?_) (n := big) (Nat.lt_of_lt_of_le (show 2 ^ r.length - 1 < 256 by omega) (by decide)) (List.replicate (2 ^ r.length) 0, List.replicate (2 ^ r.length) 0) e0
  · obtain ⟨⟨c, k⟩, e, ho⟩ := this
    exact ⟨c, k, e, ho⟩
  · obtain ⟨sums, most⟩ := s
    simp only [] at hs ⊢
    have hl := hs.ls
    rw [decide_eq_true (show ((j + 1 : Nat) : Int) < (List.length sums : Int) by omega), cond_true]
    exact set47 h8 hr (S := j + 1) (by omega) (by omega) hs F (fun o => ∃ q, o = some q ∧ Ent r (2 ^ r.length) q.1 q.2) fun sums most hE => hF (sums, most) hE
  · obtain ⟨sums, most⟩ := s
    simp only [] at hs ⊢
    have hl := hs.ls
    rw [decide_eq_false (show ¬ ((2 ^ r.length - 1 + 1 : Nat) : Int) < (List.length sums : Int) by omega), cond_false]
    rw [show 2 ^ r.length - 1 + 1 = 2 ^ r.length by omega] at hs
    exact ⟨_, rfl, hs⟩
end Go.Proofs.Ytbapfiaglcllnaa.D.Gr
end

section
open Go Go.GD Go.Proofs
namespace Go.Proofs.Ytbapfiaglcllnaa.D.Gr
theorem sum_set {α : Type} (f : α → Int) : ∀ (l : List α) (i : Nat) (x : α) (h : i < l.length), ((l.set i x).map f).sum = (l.map f).sum - f l[i] + f x
  | [], i, x, h => by cases h
  | a :: l, 0, x, h => by
    simp only [List.set_cons_zero, List.map_cons, List.sum_cons, List.getElem_cons_zero]
    omega
  | a :: l, i + 1, x, h => by
    have := sum_set f l i x (by simpa using h)
    simp only [List.set_cons_succ, List.map_cons, List.sum_cons, List.getElem_cons_succ]
    omega
def atK (k : Nat) (s : Sr) : Int := if s.1.toNat = k then s.2 else 0
def amt (l : List Sr) (k : Nat) : Int := (l.map (atK k)).sum
def nzf (s : Sr) : Int := if s.2 = 0 then 0 else 1
def nz (l : List Sr) : Int := (l.map nzf).sum
theorem nz_in : ∀ l : List Sr, 0 ≤ nz l ∧ nz l ≤ l.length
  | [] => by simp [nz]
  | s :: l => by
    have := nz_in l
    unfold nz at *
    rw [List.map_cons, List.sum_cons, List.length_cons]
    unfold nzf at *
    split <;> omega
theorem eff_append : ∀ (a b : List Tf) (k : Nat), eff (a ++ b) k = eff a k + eff b k
  | [], b, k => by simp [eff]
  | x :: a, b, k => by
    rw [List.cons_append, eff, eff, eff_append a b k]
    omega
def okT (ops : List Int) (x : Tf) : Prop := x.1 ∈ ops ∧ x.2.1 ∈ ops ∧ x.1 ≠ x.2.1 ∧ 1 ≤ x.2.2 ∧ x.2.2 ≤ 137438953472
structure Set48 (g0 g : List Sr) (out : List Tf) : Prop where
  ops : g.map (·.1) = g0.map (·.1)
  small : Small g
  sum : (g.map (·.2)).sum = 0
  amt : ∀ k, amt g k + eff out k = amt g0 k
  ok : ∀ x ∈ out, okT (g0.map (·.1)) x
  len : out.length + nz g ≤ g0.length
  one : out.length + 1 ≤ g0.length
theorem sum_pos {α : Type} {f : α → Int} : ∀ {l : List α}, (∀ x ∈ l, 0 ≤ f x) → (l.map f).sum = 0 → ∀ x ∈ l, f x = 0
  | [], _, _, x, hx => by cases hx
  | a :: l, h, hs, x, hx => by
    rw [List.map_cons, List.sum_cons] at hs
    have h1 := h a (by simp)
    have h2 : 0 ≤ (l.map f).sum := by
      clear hs hx
      induction l with
      | nil => simp
      | cons b l ih =>
        rw [List.map_cons, List.sum_cons]
        have := h b (by simp)
        have := ih fun x hx => h x (by rcases List.mem_cons.1 hx with rfl | hx <;> simp [*])
        omega
    rcases List.mem_cons.1 hx with rfl | hx
    · omega
    · exact sum_pos (fun x hx => h x (by simp [hx])) (by omega) x hx
theorem amt_zero {l : List Sr} (h : ∀ s ∈ l, s.2 = 0) (k : Nat) : amt l k = 0 := by
  unfold amt
  induction l with
  | nil => rfl
  | cons s l ih =>
    rw [List.map_cons, List.sum_cons, ih fun s hs => h s (by simp [hs])]
    unfold atK
    rw [h s (by simp)]
    simp
theorem settle48 {g0 : List Sr} (h8 : g0.length ≤ 8) (hs : Small g0) (h0 : g0 ≠ []) (hnd : (g0.map (·.1)).Nodup) (hsum : (g0.map (·.2)).sum = 0) :
    ∃ out, D48 g0 = some out ∧ (∀ k, eff out k = amt g0 k) ∧ (∀ x ∈ out, okT (g0.map (·.1)) x) ∧ out.length + 1 ≤ g0.length := by
  rw [e48]
  unfold lp48_1
  have hl0 := List.length_pos_iff.2 h0
  have hlim : 8 * 24 ≤ appendLimit := by decide
  have I0 : Set48 g0 g0 [] := ⟨rfl, hs, hsum, fun k => by simp [eff], fun x hx => (by cases hx), by have := (nz_in g0).2; rw [List.length_nil]; omega, by rw [List.length_nil]; omega⟩
  refine iter_rule (ρ := List Tf) (fun (s : List Sr × List Tf) => Set48 g0 s.1 s.2) (fun s => (nz s.1).toNat) (fun _ out => (∀ k, eff out k = amt g0 k) ∧ (∀ x ∈ out, okT (g0.map (·.1)) x) ∧ out.length + 1 ≤ g0.length) ?_ big (g0, []) I0 ?_
  case refine_2 =>
    have := nz_in g0
    exact Nat.lt_of_lt_of_le (show (nz g0).toNat < 9 by omega) (by decide)
  rintro F ⟨g, out⟩ hI hF
  have hI : Set48 g0 g out := hI
  have hgl : g.length = g0.length := by have := congrArg List.length hI.ops; simpa using this
  have f1 : D90 g D91 = some (findI (fun s => decide (s.2 < 0)) 0 g) := Nt.index90 g D91 _ (fun s _ => e91 s) (by unfold maxLen; omega)
  have f2 : D90 g D92 = some (findI (fun s => decide (s.2 > 0)) 0 g) := Nt.index90 g D92 _ (fun s _ => e92 s) (by unfold maxLen; omega)
  simp only []
  rw [f1, bindS, f2, bindS]
  have done : ∀ (hz : ∀ s ∈ g, s.2 = 0), (∀ k, eff out k = amt g0 k) ∧ (∀ x ∈ out, okT (g0.map (·.1)) x) ∧ out.length + 1 ≤ g0.length := fun hz => ⟨fun k => by
    have := hI.amt k
    rw [amt_zero hz] at this
    omega, hI.ok, hI.one⟩
  cases h1 : g.any (fun s => decide (s.2 < 0)) with
  | false =>
    rw [findI_neg _ _ _ h1]
    refine ⟨out, rfl, done fun s hs => ?_⟩
    rw [List.any_eq_false] at h1
    exact sum_pos (f := fun s : Sr => s.2) (fun s hs => by have := h1 s hs; simp at this; omega) hI.sum s hs
  | true =>
  obtain ⟨i, hi, ei, hpi, _⟩ := findI_pos _ g 0 h1
  rw [ei, Nat.zero_add, decide_eq_false (show ¬ ((i : Nat) : Int) < 0 by omega), cond_false]
  cases h2 : g.any (fun s => decide (s.2 > 0)) with
  | false =>
    rw [findI_neg _ _ _ h2]
    refine ⟨out, rfl, done fun s hs => ?_⟩
    rw [List.any_eq_false] at h2
    have hneg : (g.map (fun s : Sr => -s.2)).sum = 0 := by
      have : ∀ l : List Sr, (l.map (fun s : Sr => -s.2)).sum = -(l.map (·.2)).sum := by
        intro l
        induction l with
        | nil => rfl
        | cons a l ih => rw [List.map_cons, List.map_cons, List.sum_cons, List.sum_cons, ih]; omega
      rw [this, hI.sum]; rfl
    have := sum_pos (f := fun s : Sr => -s.2) (fun s hs => by have := h2 s hs; simp at this; omega) hneg s hs
    omega
  | true =>
  obtain ⟨j, hj, ej, hpj, _⟩ := findI_pos _ g 0 h2
  rw [ej, Nat.zero_add, decide_eq_false (show ¬ ((j : Nat) : Int) < 0 by omega), cond_false]
  simp only [decide_eq_true_eq] at hpi hpj
  have hij : i ≠ j := by rintro rfl; omega
  have bi := hI.small g[i] (List.getElem_mem hi)
  have bj := hI.small g[j] (List.getElem_mem hj)
  have hm1 : IntKind.i64.wrap (0 - g[i].2) = -g[i].2 := by rw [wrap_i64 (by omega) (by omega)]; omega
  simp only [idx_get hi, idx_get hj, bindS, Int.toNat_natCast, hm1]
  generalize hm : (bif decide (g[j].2 < -g[i].2) then g[j].2 else -g[i].2) = m
  have hmb : 1 ≤ m ∧ m ≤ 137438953472 ∧ m ≤ g[j].2 ∧ m ≤ -g[i].2 ∧ (m = g[j].2 ∨ m = -g[i].2) := by
    subst hm
    by_cases h : g[j].2 < -g[i].2
    · rw [decide_eq_true h, cond_true]; omega
    · rw [decide_eq_false h, cond_false]; omega
  have hw1 : IntKind.i64.wrap (g[i].2 + m) = g[i].2 + m := wrap_i64 (by omega) (by omega)
  rw [hw1]
  have hj' : j < (g.set i (g[i].1, g[i].2 + m)).length := by rw [List.length_set]; exact hj
  have hgj : (g.set i (g[i].1, g[i].2 + m))[j] = g[j] := List.getElem_set_ne hij _
  simp only [idx_get hj', hgj, bindS]
  have hw2 : IntKind.i64.wrap (g[j].2 - m) = g[j].2 - m := wrap_i64 (by omega) (by omega)
  rw [hw2]
  have hi2 : i < ((g.set i (g[i].1, g[i].2 + m)).set j (g[j].1, g[j].2 - m)).length := by rw [List.length_set, List.length_set]; exact hi
  have hj2 : j < ((g.set i (g[i].1, g[i].2 + m)).set j (g[j].1, g[j].2 - m)).length := by rw [List.length_set, List.length_set]; exact hj
  have ea : ((g.set i (g[i].1, g[i].2 + m)).set j (g[j].1, g[j].2 - m))[i] = (g[i].1, g[i].2 + m) := by
    rw [List.getElem_set_ne (Ne.symm hij), List.getElem_set_self]
  have eb : ((g.set i (g[i].1, g[i].2 + m)).set j (g[j].1, g[j].2 - m))[j] = (g[j].1, g[j].2 - m) := List.getElem_set_self _
  simp only [idx_get hi2, idx_get hj2, ea, eb, bindS]
  have hlen := hI.one
  have hgrow : (Nat.ble ((List.length out + List.length [(g[i].1, g[j].1, m)]) * 24) appendLimit && Nat.ble (List.length out + List.length [(g[i].1, g[j].1, m)]) 9223372036854775807) = true :=
    grows (Nat.le_trans (Nat.mul_le_mul_right 24 (show List.length out + List.length [(g[i].1, g[j].1, m)] ≤ 8 by simp; omega)) hlim) (by decide)
  rw [hgrow, cond_true]
  have ss : ∀ f : Sr → Int, (((g.set i (g[i].1, g[i].2 + m)).set j (g[j].1, g[j].2 - m)).map f).sum = (g.map f).sum - f g[i] + f (g[i].1, g[i].2 + m) - f g[j] + f (g[j].1, g[j].2 - m) := fun f => by
    rw [sum_set f _ j _ hj', hgj, sum_set f g i _ hi]
  have hnz : nz ((g.set i (g[i].1, g[i].2 + m)).set j (g[j].1, g[j].2 - m)) + 1 ≤ nz g ∧ 2 ≤ nz g := by
    have h1 := ss nzf
    have h2 := sum_set nzf g i (g[i].1, 0) hi
    have h3 := sum_set nzf (g.set i (g[i].1, 0)) j (g[j].1, 0) (by rw [List.length_set]; exact hj)
    rw [List.getElem_set_ne hij, h2] at h3
    have h4 := (nz_in ((g.set i (g[i].1, 0)).set j (g[j].1, 0))).1
    unfold nz at h4 ⊢
    have k1 : nzf g[i] = 1 := if_neg (by omega)
    have k2 : nzf g[j] = 1 := if_neg (by omega)
    have k3 : nzf (g[i].1, 0) = 0 := rfl
    have k4 : nzf (g[j].1, 0) = 0 := rfl
    have k5 : nzf (g[i].1, g[i].2 + m) + nzf (g[j].1, g[j].2 - m) ≤ 1 := by
      unfold nzf
      simp only []
      split <;> split <;> omega
    omega
  refine hF (((g.set i (g[i].1, g[i].2 + m)).set j (g[j].1, g[j].2 - m)), out ++ [(g[i].1, g[j].1, m)]) ⟨?_, ?_, ?_, fun k => ?_, ?_, ?_, ?_⟩ ?_
  · rw [List.map_set, List.map_set]
    have e1 : (g.map (·.1)).set i ((g.map (·.1))[i]'(by rw [List.length_map]; exact hi)) = g.map (·.1) := List.set_getElem_self _
    have e2 : (g.map (·.1)).set j ((g.map (·.1))[j]'(by rw [List.length_map]; exact hj)) = g.map (·.1) := List.set_getElem_self _
    rw [List.getElem_map] at e1 e2
    simp only [e1, e2]
    exact hI.ops
  · intro s hs
    rcases List.mem_or_eq_of_mem_set hs with hs | rfl
    · rcases List.mem_or_eq_of_mem_set hs with hs | rfl
      · exact hI.small s hs
      · simp only []; omega
    · simp only []; omega
  · rw [ss, hI.sum]; simp only []; omega
  · have h1 := ss (atK k)
    have h2 := hI.amt k
    rw [eff_append]
    unfold amt at h2 ⊢
    rw [h1]
    unfold atK at h2 ⊢
    rw [eff, eff]
    simp only []
    by_cases k1 : g[i].1.toNat = k
    · by_cases k2 : g[j].1.toNat = k
      · simp [k1, k2]; omega
      · simp [k1, k2, Ne.symm k2]; omega
    · by_cases k2 : g[j].1.toNat = k
      · simp [k1, k2, Ne.symm k1]; omega
      · simp [k1, k2, Ne.symm k1, Ne.symm k2]; omega
  · intro x hx
    rcases List.mem_append.1 hx with hx | hx
    · exact hI.ok x hx
    · rw [List.mem_singleton] at hx
      subst hx
      have mi : g[i].1 ∈ g0.map (·.1) := by rw [← hI.ops]; exact List.mem_map_of_mem (List.getElem_mem hi)
      have mj : g[j].1 ∈ g0.map (·.1) := by rw [← hI.ops]; exact List.mem_map_of_mem (List.getElem_mem hj)
      refine ⟨mi, mj, fun e => hij ?_, hmb.1, hmb.2.1⟩
      rw [← hI.ops] at hnd
      exact (List.getElem_inj (xs := g.map (·.1)) (h₀ := by rw [List.length_map]; exact hi) (h₁ := by rw [List.length_map]; exact hj) hnd).1 (by rw [List.getElem_map, List.getElem_map]; exact e)
  · have := hI.len
    rw [List.length_append, List.length_singleton]
    simp only []
    omega
  · have := hI.len
    rw [List.length_append, List.length_singleton]
    omega
  · simp only []
    have := (nz_in ((g.set i (g[i].1, g[i].2 + m)).set j (g[j].1, g[j].2 - m))).1
    omega
end Go.Proofs.Ytbapfiaglcllnaa.D.Gr
end

section
open Go Go.GD Go.Proofs
namespace Go.Proofs.Ytbapfiaglcllnaa.D.Gr
def WF (f : Nat → Int) (m : Nat) : Int := ((bits m).map f).sum
theorem WF_off (f : Nat → Int) {S i : Nat} (hS : S < 256) (h : S.testBit i = true) : WF f S = WF f (S ^^^ 2 ^ i) + f i := by
  unfold WF
  rw [← sum_perm ((bits_split (bit_off hS h).2.2).map f), List.map_append, List.sum_append, listEq_of (allB_of bits_one_all i (bit_lt hS h))]
  simp
  omega
theorem WF_zero (f : Nat → Int) : WF f 0 = 0 := by unfold WF; rw [bits_zero]; rfl
theorem WF_one (S : Nat) : WF (fun _ => 1) S = (bits S).length := by
  unfold WF
  induction bits S with
  | nil => rfl
  | cons a l ih => rw [List.map_cons, List.sum_cons, ih, List.length_cons]; omega
def sh (r : List Sr) (i : Nat) : Sr := r[i]?.getD (0, 0)
theorem map_sh (r : List Sr) {β : Type} (f : Sr → β) : (List.range r.length).map (fun i => f (sh r i)) = r.map f := by
  refine List.ext_getElem (by simp) fun i h1 h2 => ?_
  rw [List.length_map] at h2
  simp [sh, h2]
theorem sh_mem {r : List Sr} {i : Nat} (h : i < r.length) : sh r i ∈ r := by
  unfold sh
  rw [List.getElem?_eq_getElem h]
  exact List.getElem_mem h
theorem amt_append (a b : List Sr) (k : Nat) : amt (a ++ b) k = amt a k + amt b k := by
  unfold amt
  rw [List.map_append, List.sum_append]
structure Net18 (r : List Sr) (M : Nat → Int) (S : Nat) (G : List Nat) (out : List Tf) : Prop where
  lt : S < 2 ^ r.length
  nd : G.Nodup
  mem : ∀ i ∈ G, i < r.length ∧ S.testBit i = false
  sum : ((G.map (sh r)).map (·.2)).sum + W r S = 0
  amt : ∀ k, eff out k + amt (G.map (sh r)) k + WF (fun i => atK k (sh r i)) S = amt r k
  len : (out.length : Int) + M (2 ^ r.length - 1) + zS r S + G.length + WF (fun _ => 1) S ≤ r.length + M S + 1
  cnt : (G.length : Int) + WF (fun _ => 1) S ≤ r.length
  ok : ∀ x ∈ out, okT (r.map (·.1)) x
  fin : S = 0 → G = []
theorem full_len {n : Nat} (hn : n ≤ 8) : ((bits (2 ^ n - 1)).length : Nat) = n := by rw [bits_full_range hn, List.length_range]
theorem path18 {r : List Sr} (h8 : r.length ≤ 8) (hs : Small r) (hnd : (r.map (·.1)).Nodup) (hsum : (r.map (·.2)).sum = 0) {sums most : List Int} (hE : Ent r (2 ^ r.length) sums most) :
    ∃ out, Nt.lp18_5 big r sums most [] [] ((2 ^ r.length - 1 : Nat) : Int) = some out ∧ (∀ k, eff out k = amt r k) ∧ (∀ x ∈ out, okT (r.map (·.1)) x) ∧ (out.length : Int) + Mf most (2 ^ r.length - 1) ≤ r.length := by
  have h256 := pow_256 h8
  have hp := Nat.two_pow_pos r.length
  have hls := hE.ls
  have hlm := hE.lm
  have hlim : 1000 * 24 ≤ appendLimit := by decide
  unfold Nt.lp18_5
  have hWfull : W r (2 ^ r.length - 1) = 0 := by
    unfold W
    rw [bits_full_range h8, wt_range, hsum]
  have hfull : ∀ i, i < r.length → (2 ^ r.length - 1).testBit i = true := fun i hi => by rw [Nat.testBit_two_pow_sub_one]; simpa using hi
  have I0 : Net18 r (Mf most) (2 ^ r.length - 1) [] [] := by
    refine ⟨by omega, List.nodup_nil, fun i hi => (by cases hi), by rw [hWfull]; rfl, fun k => ?_, ?_, ?_, fun x hx => (by cases hx), fun _ => rfl⟩
    · show eff [] k + 0 + _ = _
      unfold WF amt
      rw [bits_full_range h8, map_sh r (atK k), eff]
      omega
    · have : zS r (2 ^ r.length - 1) = 1 := by unfold zS zf; rw [hWfull]; rfl
      rw [this, WF_one, full_len h8, List.length_nil, List.length_nil]
      omega
    · rw [WF_one, full_len h8, List.length_nil]; omega
  refine iter_rule (ρ := List Tf) (fun (s : List Sr × List Int × List Int × List Tf × List Sr × Int) => ∃ (S : Nat) (G : List Nat) (out : List Tf), s = (r, sums, most, out, G.map (sh r), (S : Int)) ∧ Net18 r (Mf most) S G out) (fun s => s.2.2.2.2.2.toNat) (fun _ out => (∀ k, eff out k = amt r k) ∧ (∀ x ∈ out, okT (r.map (·.1)) x) ∧ (out.length : Int) + Mf most (2 ^ r.length - 1) ≤ r.length) ?_ big _ ⟨_, [], [], rfl, I0⟩ ?_
  case refine_2 => exact Nat.lt_of_lt_of_le (show (((2 ^ r.length - 1 : Nat) : Int)).toNat < 256 by omega) (by decide)
  rintro F s ⟨S, G, out, rfl, hI⟩ hF
  have hS := hI.lt
  have hF : ∀ (S' : Nat) (G' : List Nat) (out' : List Tf), S' < S → Net18 r (Mf most) S' G' out' → ∃ q, F (r, sums, most, out', G'.map (sh r), (S' : Int)) = some q ∧ (∀ k, eff q k = amt r k) ∧ (∀ x ∈ q, okT (r.map (·.1)) x) ∧ (q.length : Int) + Mf most (2 ^ r.length - 1) ≤ r.length :=
    fun S' G' out' hlt hI' => hF _ ⟨S', G', out', rfl, hI'⟩ (by simp only []; omega)
  simp only []
  by_cases h0 : S = 0
  · subst h0
    rw [show (((0 : Nat) : Int) != 0) = false from rfl, cond_false]
    have hG := hI.fin rfl
    subst hG
    refine ⟨out, rfl, fun k => ?_, hI.ok, ?_⟩
    · have := hI.amt k
      rw [WF_zero] at this
      simp [Gr.amt] at this
      exact this
    · have := hI.len
      have hz : zS r 0 = 1 := by unfold zS zf; rw [W_zero]; rfl
      rw [hz, hE.ms.zero, WF_zero, List.length_nil] at this
      omega
  rw [show ((S : Int) != 0) = true by simp; omega, cond_true, idx_Mf (by omega), bindS, hE.sum S (by omega) hS, bindS]
  have hb := hE.bnd S (by omega)
  have hzn := zS_nn r S
  have key : ∃ q, Nt.lp18_3 big F r sums most out (G.map (sh r)) (S : Int) (Mf most S - zS r S) (List.length r : Int) 0 = some q ∧ (∀ k, eff q k = amt r k) ∧ (∀ x ∈ q, okT (r.map (·.1)) x) ∧ (q.length : Int) + Mf most (2 ^ r.length - 1) ≤ r.length := by
    rw [Nt.f18_3 F r sums most out (G.map (sh r)) (S : Int) _ (by unfold maxLen; omega)]
    refine forI_rule (I := fun pre (_ : Unit) => ∀ i, i < pre.length → S.testBit i = true → Mf most (S ^^^ 2 ^ i) ≠ Mf most S - zS r S) (fun o => ∃ q, o = some q ∧ (∀ k, eff q k = amt r k) ∧ (∀ x ∈ q, okT (r.map (·.1)) x) ∧ (q.length : Int) + Mf most (2 ^ r.length - 1) ≤ r.length) r ?_ ?_ (fun i hi => (by cases hi))
    · rintro pre el post e ⟨⟩ hpre K hK
      have hk : pre.length < r.length := by rw [e]; simp
      have hel : sh r pre.length = el := by unfold sh; rw [e]; simp
      rw [decide_eq_false (show ¬ (pre.length : Int) < 0 by omega), cond_false, off_nat (by omega) (by omega)]
      have hK : (S.testBit pre.length = true → Mf most (S ^^^ 2 ^ pre.length) ≠ Mf most S - zS r S) → ∃ q, K () = some q ∧ (∀ k, eff q k = amt r k) ∧ (∀ x ∈ q, okT (r.map (·.1)) x) ∧ (q.length : Int) + Mf most (2 ^ r.length - 1) ≤ r.length := fun h => by
        refine hK () fun i hi hi2 => ?_
        rw [List.length_append, List.length_singleton] at hi
        by_cases e : i = pre.length
        · subst e; exact h hi2
        · exact hpre i (by omega) hi2
      cases hbt : S.testBit pre.length with
      | false =>
        rw [cond_false, show ((S : Int) != (S : Int)) = false by simp, cond_false]
        exact hK fun h => by rw [hbt] at h; cases h
      | true =>
      have hlt := bit_off_lt (show S < 256 by omega) hbt
      rw [cond_true, show (((S ^^^ 2 ^ pre.length : Nat) : Int) != (S : Int)) = true by simp; omega, cond_true, idx_Mf (by omega), bindS]
      cases hfound : (Mf most (S ^^^ 2 ^ pre.length) == Mf most S - zS r S) with
      | false =>
        rw [cond_false]
        exact hK fun _ => by simpa using hfound
      | true =>
      rw [cond_true]
      have hfound : Mf most (S ^^^ 2 ^ pre.length) = Mf most S - zS r S := by simpa using hfound
      have hc1 := WF_off (fun _ => 1) (show S < 256 by omega) hbt
      have hcn : 0 ≤ WF (fun _ => 1) (S ^^^ 2 ^ pre.length) := by rw [WF_one]; omega
      have hcnt := hI.cnt
      have hGl : G.length + 1 ≤ 8 := by omega
      have hW := W_off r (show S < 256 by omega) hbt
      have hlen := hI.len
      have hfb := (hE.bnd (2 ^ r.length - 1) (by omega)).1
      have hout : out.length ≤ 300 := by omega
      have hgr1 : (Nat.ble ((List.length (G.map (sh r)) + List.length [el]) * 16) appendLimit && Nat.ble (List.length (G.map (sh r)) + List.length [el]) 9223372036854775807) = true :=
        grows (Nat.le_trans (Nat.mul_le_mul (show List.length (G.map (sh r)) + List.length [el] ≤ 1000 by simp; omega) (show 16 ≤ 24 by omega)) hlim) (by decide)
      rw [hgr1, cond_true, hE.sum _ (by omega) (by omega), bindS]
      have eG : G.map (sh r) ++ [el] = (G ++ [pre.length]).map (sh r) := by rw [List.map_append, List.map_singleton, hel]
      rw [eG]
      have hmem' : ∀ i ∈ G ++ [pre.length], i < r.length ∧ (S ^^^ 2 ^ pre.length).testBit i = false := fun i hi => by
        rcases List.mem_append.1 hi with hi | hi
        · obtain ⟨q1, q2⟩ := hI.mem i hi
          refine ⟨q1, ?_⟩
          rw [Nat.testBit_xor, q2, Nat.testBit_two_pow]
          have : pre.length ≠ i := by rintro rfl; rw [hbt] at q2; cases q2
          simp [this]
        · rw [List.mem_singleton] at hi
          subst hi
          refine ⟨hk, ?_⟩
          rw [Nat.testBit_xor, hbt, Nat.testBit_two_pow]
          simp
      have hnd' : (G ++ [pre.length]).Nodup := by
        rw [List.nodup_append]
        refine ⟨hI.nd, by simp, fun a ha b hb => ?_⟩
        rw [List.mem_singleton] at hb
        subst hb
        rintro rfl
        have := (hI.mem _ ha).2
        rw [hbt] at this; cases this
      have hsum' : (((G ++ [pre.length]).map (sh r)).map (·.2)).sum + W r (S ^^^ 2 ^ pre.length) = 0 := by
        have h1 := hI.sum
        rw [List.map_append, List.map_append, List.sum_append]
        have h2 : (([pre.length].map (sh r)).map (·.2)).sum = wt r pre.length := by simp [wt, sh]
        rw [h2]
        omega
      have hamt' : ∀ k, eff out k + amt ((G ++ [pre.length]).map (sh r)) k + WF (fun i => atK k (sh r i)) (S ^^^ 2 ^ pre.length) = amt r k := fun k => by
        have h1 := hI.amt k
        have h2 := WF_off (fun i => atK k (sh r i)) (show S < 256 by omega) hbt
        rw [List.map_append, amt_append]
        have h3 : amt ([pre.length].map (sh r)) k = atK k (sh r pre.length) := by simp [Gr.amt]
        rw [h3]
        omega
      cases hz : (W r (S ^^^ 2 ^ pre.length) == 0) with
      | false =>
        rw [cond_false]
        have hz0 : zS r (S ^^^ 2 ^ pre.length) = 0 := by unfold zS zf; rw [hz]; rfl
        refine hF _ (G ++ [pre.length]) out hlt ⟨by omega, hnd', hmem', hsum', hamt', ?_, ?_, hI.ok, fun e0 => ?_⟩
        · rw [hz0, List.length_append, List.length_singleton]
          omega
        · rw [List.length_append, List.length_singleton]; omega
        · rw [e0, W_zero] at hz; cases hz
      | true =>
        rw [cond_true]
        have hz1 : zS r (S ^^^ 2 ^ pre.length) = 1 := by unfold zS zf; rw [hz]; rfl
        have hz' : W r (S ^^^ 2 ^ pre.length) = 0 := by simpa using hz
        have hopsnd : (((G ++ [pre.length]).map (sh r)).map (·.1)).Nodup := by
          have : ∀ L : List Nat, L.Nodup → (∀ i ∈ L, i < r.length) → ((L.map (sh r)).map (·.1)).Nodup := by
            intro L hL hLr
            rw [List.map_map]
            refine List.pairwise_map.2 ((List.pairwise_iff_forall_sublist.2 fun {a b} hab => ?_))
            have ha : a ∈ L := hab.subset (by simp)
            have hb : b ∈ L := hab.subset (by simp)
            have hne : a ≠ b := by
              have := hL.sublist hab
              simpa using this
            have h1 := hLr a ha
            have h2 := hLr b hb
            intro e
            refine hne ((List.getElem_inj (xs := r.map (·.1)) (h₀ := by rw [List.length_map]; exact h1) (h₁ := by rw [List.length_map]; exact h2) hnd).1 ?_)
            rw [List.getElem_map, List.getElem_map]
            simp only [Function.comp, sh, List.getElem?_eq_getElem h1, List.getElem?_eq_getElem h2, Option.getD_some] at e
            exact e
          exact this _ hnd' fun i hi => (hmem' i hi).1
        have hsm : Small ((G ++ [pre.length]).map (sh r)) := fun s hs' => by
          obtain ⟨i, hi, rfl⟩ := List.mem_map.1 hs'
          exact hs _ (sh_mem (hmem' i hi).1)
        obtain ⟨o2, q1, q2, q3, q4⟩ := settle48 (g0 := (G ++ [pre.length]).map (sh r)) (by simp; omega) hsm (by simp) hopsnd (by omega)
        rw [List.length_map, List.length_append, List.length_singleton] at q4
        rw [q1, bindS]
        have hgr2 : (Nat.ble ((List.length out + List.length o2) * 24) appendLimit && Nat.ble (List.length out + List.length o2) 9223372036854775807) = true :=
          grows (Nat.le_trans (Nat.mul_le_mul_right 24 (show List.length out + List.length o2 ≤ 1000 by omega)) hlim) (by decide)
        rw [hgr2, cond_true]
        refine hF _ [] (out ++ o2) hlt ⟨by omega, List.nodup_nil, fun i hi => (by cases hi), by rw [hz']; rfl, fun k => ?_, ?_, ?_, fun x hx => ?_, fun _ => rfl⟩
        · have := hamt' k
          rw [eff_append, q2 k]
          show _ + 0 + _ = _
          omega
        · rw [hz1, List.length_append, List.length_nil]
          omega
        · rw [List.length_nil]; omega
        · rcases List.mem_append.1 hx with hx | hx
          · exact hI.ok x hx
          · obtain ⟨a1, a2, a3⟩ := q3 x hx
            have hin : ∀ o, o ∈ ((G ++ [pre.length]).map (sh r)).map (·.1) → o ∈ r.map (·.1) := fun o ho => by
              obtain ⟨s, hs1, rfl⟩ := List.mem_map.1 ho
              obtain ⟨i, hi, rfl⟩ := List.mem_map.1 hs1
              exact List.mem_map_of_mem (sh_mem (hmem' i hi).1)
            exact ⟨hin _ a1, hin _ a2, a3⟩
    · rintro ⟨⟩ hno
      obtain ⟨i, hi, hi2⟩ := hE.ms.ub S (by omega) h0
      have hin : i < r.length := by
        rcases Nat.lt_or_ge i r.length with h | h
        · exact h
        · rw [Nat.testBit_lt_two_pow (Nat.lt_of_lt_of_le hS (Nat.pow_le_pow_right (by omega) h))] at hi
          cases hi
      exact absurd (by omega) (hno i hin hi)
  cases hz : (W r S == 0) with
  | true =>
    have hz1 : zS r S = 1 := by unfold zS zf; rw [hz]; rfl
    rw [cond_true]
    rw [hz1] at key
    rw [wrap_i64 (by omega) (by omega)]
    exact key
  | false =>
    have hz1 : zS r S = 0 := by unfold zS zf; rw [hz]; rfl
    rw [cond_false]
    rw [hz1, Int.sub_zero] at key
    exact key
end Go.Proofs.Ytbapfiaglcllnaa.D.Gr
end

section
open Go Go.GD Go.Proofs
namespace Go.Proofs.Ytbapfiaglcllnaa.D.Gr
def notUp : Option Int → Int → Bool
  | none, _ => false
  | some p, n => decide (n ≤ p)
def rightL : Option Int → Int → List Sr → Int
  | _, sum, [] => bif sum != 0 then 1 else 0
  | prev, sum, s :: l => bif decide (s.1 < 1) then 2 else bif decide (s.1 > 8) then 2 else bif decide (s.2 < -137438953472) then 2 else bif decide (s.2 > 137438953472) then 2
    else bif notUp prev s.1 then 11 else rightL (some s.1) (IntKind.i64.wrap (sum + s.2)) l
def rightS (l : List Sr) : Int := bif decide ((List.length l : Int) > 8) then 4 else rightL none 0 l
theorem loop17 {l : List Sr} (hl : l.length ≤ maxLen) : ∀ (ys pre : List Sr) (sum : Int), l = pre ++ ys → forI (fun ix el (sum_ : Int) K =>
    (bif decide (el.1 < 1) then some 2
    else bif decide (el.1 > 8) then some 2
    else bif decide (el.2 < (-137438953472)) then some 2
    else bif decide (el.2 > 137438953472) then some 2
    else bif decide ((ix : Int) > 0) then (
      (idx l (IntKind.i64.wrap ((ix : Int) - 1))).bind fun e5 =>
      bif decide (el.1 ≤ e5.1) then some 11
      else K (IntKind.i64.wrap (sum_ + el.2)))
    else K (IntKind.i64.wrap (sum_ + el.2)) : Option (Int)))
    (fun (sum_ : Int) =>
    (bif (sum_ != 0) then some 1
    else some 0 : Option (Int))) pre.length ys sum = some (rightL (pre.getLast?.map (·.1)) sum ys)
  | [], pre, sum, e => by
    rw [forI, rightL]
    cases (sum != 0) <;> rfl
  | x :: ys, pre, sum, e => by
    have ih := fun sum => loop17 hl ys (pre ++ [x]) sum (by rw [e]; simp)
    simp only [List.length_append, List.length_singleton, List.getLast?_append, List.getLast?_singleton, Option.some_or, Option.map_some] at ih
    rw [forI, rightL, ih]
    cases decide (x.1 < 1) with
    | true => rfl
    | false =>
    cases decide (x.1 > 8) with
    | true => rfl
    | false =>
    cases decide (x.2 < (-137438953472)) with
    | true => rfl
    | false =>
    cases decide (x.2 > 137438953472) with
    | true => rfl
    | false =>
    simp only [cond_false]
    rcases List.eq_nil_or_concat pre with rfl | ⟨p, q, rfl⟩
    · rfl
    · rw [List.concat_eq_append] at e ⊢
      have hlen : (p ++ [q]).length = p.length + 1 := by simp
      have hk : p.length < l.length := by rw [e]; simp
      have hq : l[p.length] = q := by simp [e]
      rw [hlen, decide_eq_true (show ((p.length + 1 : Nat) : Int) > 0 by omega), cond_true, wrap_pred (by omega) (by omega), Nat.add_sub_cancel, idx_get hk, bindS, hq]
      simp only [List.getLast?_append, List.getLast?_singleton, Option.some_or, Option.map_some, notUp]
      cases decide (x.1 ≤ q.1) <;> rfl
theorem right17 (l : List Sr) (hl : l.length ≤ maxLen) : D17 l = some (rightS l) := by
  rw [e17]
  unfold rightS
  cases decide ((List.length l : Int) > 8) with
  | true => rfl
  | false =>
    rw [cond_false, cond_false, f17_1 l 0 hl]
    exact loop17 hl l [] 0 rfl
theorem right53 (l : List Sr) (hl : l.length ≤ maxLen) : D53 l = some (rightS l) := by
  rw [← right17 l hl, e53, e17, f53_1 l 0 l hl, f17_1 l 0 hl]
  have e : (fun (ix : Nat) (el : Sr) (sum_ : Int) (K : Int → Option Int) =>
    ((D55 el.1).bind fun r =>
    bif (!r) then some 2
    else bif decide (el.2 < (-137438953472)) then some 2
    else bif decide (el.2 > 137438953472) then some 2
    else bif decide ((ix : Int) > 0) then (
      (idx l (IntKind.i64.wrap ((ix : Int) - 1))).bind fun e1 =>
      bif decide (el.1 ≤ e1.1) then some 11
      else K (IntKind.i64.wrap (sum_ + el.2)))
    else K (IntKind.i64.wrap (sum_ + el.2)) : Option (Int))) = fun (ix : Nat) (el : Sr) (sum_ : Int) (K : Int → Option Int) => (bif decide (el.1 < 1) then some 2
    else bif decide (el.1 > 8) then some 2
    else bif decide (el.2 < (-137438953472)) then some 2
    else bif decide (el.2 > 137438953472) then some 2
    else bif decide ((ix : Int) > 0) then (
      (idx l (IntKind.i64.wrap ((ix : Int) - 1))).bind fun e5 =>
      bif decide (el.1 ≤ e5.1) then some 11
      else K (IntKind.i64.wrap (sum_ + el.2)))
    else K (IntKind.i64.wrap (sum_ + el.2)) : Option (Int)) := by
    funext ix el sum_ K
    rw [e55]
    by_cases h1 : el.1 < 1
    · rw [decide_eq_false (show ¬ el.1 ≥ 1 by omega), cond_false, bindS, decide_eq_true h1]; rfl
    · rw [decide_eq_true (show el.1 ≥ 1 by omega), cond_true, bindS, decide_eq_false h1, cond_false]
      by_cases h2 : el.1 > 8
      · rw [decide_eq_true h2, decide_eq_false (show ¬ el.1 ≤ 8 by omega)]; rfl
      · rw [decide_eq_false h2, decide_eq_true (show el.1 ≤ 8 by omega)]; rfl
  rw [e]
structure Okl (l : List Sr) : Prop where
  len : l.length ≤ 8
  ops : ∀ s ∈ l, 1 ≤ s.1 ∧ s.1 ≤ 8
  small : Small l
  inc : (l.map (·.1)).Pairwise (· < ·)
  sum : (l.map (·.2)).sum = 0
theorem rightL_zero : ∀ (l : List Sr) (prev : Option Int) (sum : Int), -549755813888 * (8 - l.length) ≤ sum → sum ≤ 549755813888 * (8 - l.length) → l.length ≤ 8 → rightL prev sum l = 0 →
    (∀ s ∈ l, 1 ≤ s.1 ∧ s.1 ≤ 8) ∧ Small l ∧ (l.map (·.1)).Pairwise (· < ·) ∧ sum + (l.map (·.2)).sum = 0 ∧ ∀ p, prev = some p → ∀ s ∈ l, p < s.1
  | [], prev, sum, h1, h2, h3, h => by
    rw [rightL] at h
    refine ⟨fun _ h => (by cases h), fun _ h => (by cases h), .nil, ?_, fun _ _ _ h => (by cases h)⟩
    cases hs : (sum != 0) with
    | true => rw [hs] at h; cases h
    | false => simp at hs; subst hs; rfl
  | s :: l, prev, sum, h1, h2, h3, h => by
    rw [rightL] at h
    rw [List.length_cons] at h1 h2 h3
    by_cases a1 : s.1 < 1
    · rw [decide_eq_true a1] at h; cases h
    rw [decide_eq_false a1, cond_false] at h
    by_cases a2 : s.1 > 8
    · rw [decide_eq_true a2] at h; cases h
    rw [decide_eq_false a2, cond_false] at h
    by_cases a3 : s.2 < -137438953472
    · rw [decide_eq_true a3] at h; cases h
    rw [decide_eq_false a3, cond_false] at h
    by_cases a4 : s.2 > 137438953472
    · rw [decide_eq_true a4] at h; cases h
    rw [decide_eq_false a4, cond_false] at h
    have hp : notUp prev s.1 = false := by
      cases hpp : notUp prev s.1 with
      | false => rfl
      | true => rw [hpp] at h; cases h
    rw [hp, cond_false, wrap_i64 (by omega) (by omega)] at h
    obtain ⟨b1, b2, b3, b4, b5⟩ := rightL_zero l (some s.1) (sum + s.2) (by omega) (by omega) (by omega) h
    refine ⟨fun t ht => ?_, fun t ht => ?_, ?_, ?_, fun p e t ht => ?_⟩
    · rcases List.mem_cons.1 ht with rfl | ht
      · omega
      · exact b1 t ht
    · rcases List.mem_cons.1 ht with rfl | ht
      · omega
      · exact b2 t ht
    · rw [List.map_cons]
      refine List.pairwise_cons.2 ⟨fun o ho => ?_, b3⟩
      obtain ⟨t, ht, rfl⟩ := List.mem_map.1 ho
      exact b5 _ rfl t ht
    · rw [List.map_cons, List.sum_cons]; omega
    · subst e
      simp only [notUp, decide_eq_false_iff_not] at hp
      rcases List.mem_cons.1 ht with rfl | ht
      · omega
      · have := b5 _ rfl t ht; omega
theorem okl_of {l : List Sr} (h : rightS l = 0) : Okl l := by
  unfold rightS at h
  by_cases a : (List.length l : Int) > 8
  · rw [decide_eq_true a] at h; cases h
  rw [decide_eq_false a, cond_false] at h
  obtain ⟨b1, b2, b3, b4, b5⟩ := rightL_zero l none 0 (by omega) (by omega) (by omega) h
  exact ⟨by omega, b1, b2, b3, by omega⟩
def need (l : List Sr) : List Sr := l.filter fun s => s.2 != 0
theorem filterO_eq : ∀ l : List Sr, Nt.filterO D89 l = some (need l)
  | [] => rfl
  | s :: l => by
    rw [Nt.filterO, e89, bindS, filterO_eq l, bindS]
    unfold need
    rw [List.filter_cons]
    by_cases h : s.2 = 0
    · simp [h]
    · have h' : (s.2 == 0) = false := by simpa using h
      simp [h, h']
theorem needed46 {l : List Sr} (h : rightS l = 0) : D46 l = some (need l) := by
  have ho := okl_of h
  have h8 := ho.len
  have hlim : 8 * 24 ≤ appendLimit := by decide
  have hd : D87 l D89 = some (need l) := by
    show Nt.dfD (l, D89) = _
    unfold Nt.dfD
    rw [Nat.ble_eq_true_of_le (show l.length ≤ 9223372036854775807 by omega), cond_true]
    exact filterO_eq l
  rw [e46, right53 l (by unfold maxLen; omega), bindS, h, bne_self_eq_false, cond_false, e88,
    grows (Nat.le_trans (Nat.mul_le_mul (show List.length ([] : List Sr) + l.length ≤ 8 by simp; omega) (show 16 ≤ 24 by omega)) hlim) (by decide), cond_true, bindS, List.nil_append, hd, bindS]
structure Okr (r : List Sr) : Prop where
  len : r.length ≤ 8
  ops : ∀ s ∈ r, 1 ≤ s.1 ∧ s.1 ≤ 8 ∧ s.2 ≠ 0
  small : Small r
  nd : (r.map (·.1)).Nodup
  sum : (r.map (·.2)).sum = 0
theorem okr_of {l : List Sr} (h : Okl l) : Okr (need l) := by
  have hsub : (need l).Sublist l := List.filter_sublist
  refine ⟨Nat.le_trans hsub.length_le h.len, fun s hs => ?_, fun s hs => h.small s (hsub.subset hs), ?_, ?_⟩
  · have := h.ops s (hsub.subset hs)
    exact ⟨this.1, this.2, by simpa using (List.mem_filter.1 hs).2⟩
  · exact (h.inc.sublist (hsub.map (fun s : Sr => s.1))).imp fun h => by omega
  · rw [← h.sum]
    clear h hsub
    unfold need
    induction l with
    | nil => rfl
    | cons s l ih =>
      rw [List.filter_cons]
      by_cases e : s.2 = 0
      · simp [e, ih]
      · simp [e, ih]
theorem amt_need (l : List Sr) (k : Nat) : amt (need l) k = amt l k := by
  unfold amt need
  induction l with
  | nil => rfl
  | cons s l ih =>
    rw [List.filter_cons]
    by_cases e : s.2 = 0
    · simp [e, ih, atK]
    · simp [e, ih]
theorem eff_perm {a b : List Tf} (h : a.Perm b) (k : Nat) : eff a k = eff b k := by
  induction h with
  | nil => rfl
  | cons x _ ih => rw [eff, eff, ih]
  | swap x y l => simp only [eff]; omega
  | trans _ _ h1 h2 => exact h1.trans h2
theorem net18 {l : List Sr} (h : rightS l = 0) : ∃ xs m, Nt.netD l = some xs ∧ D20 l = some (((need l).length : Int) - m) ∧ (∀ k, eff xs k = amt l k) ∧ (∀ x ∈ xs, okT ((need l).map (·.1)) x) ∧ (xs.length : Int) + m ≤ (need l).length ∧ xs.length ≤ 8 ∧
    0 ≤ m ∧ ∀ L, PartOf (zf (need l)) (2 ^ (need l).length - 1) L → (L.length : Int) ≤ m := by
  have hr := okr_of (okl_of h)
  have h256 := pow_256 hr.len
  have hp := Nat.two_pow_pos (need l).length
  obtain ⟨sums, most, g1, hE⟩ := groups47 hr.len hr.small
  obtain ⟨out, p1, p2, p3, p4⟩ := path18 hr.len hr.small hr.nd hr.sum hE
  have hls := hE.ls
  have hlm := hE.lm
  have hb := hE.bnd (2 ^ (need l).length - 1) (by omega)
  have hn8 := hr.len
  have hD : Nt.D18 l = some out := by
    rw [Nt.e18, needed46 h, bindS, g1, bindS]
    simp only []
    rw [hls, show IntKind.i64.wrap (((2 ^ (need l).length : Nat) : Int) - 1) = ((2 ^ (need l).length - 1 : Nat) : Int) by rw [wrap_i64 (by omega) (by omega)]; omega]
    exact p1
  have hperm : (sortD (α := Nt.trTy.den) Nt.cfT out).Perm out := (sortD_perm (α := Nt.trTy.den) Nt.cfT_swo out).1
  have hub := part_le h256 hE.ms (2 ^ (need l).length - 1) (by omega)
  refine ⟨sortD (α := Nt.trTy.den) Nt.cfT out, Mf most (2 ^ (need l).length - 1), ?_, ?_, fun k => ?_, fun x hx => p3 x (hperm.mem_iff.1 hx), ?_, ?_, hb.1, fun L hL => hub _ L (by rw [Nat.and_self]) hL⟩
  · unfold Nt.netD
    rw [hD, bindS, Nat.ble_eq_true_of_le (show List.length out ≤ 4611686018427387903 by omega), cond_true]
  · rw [e20, needed46 h, bindS, g1, bindS]
    simp only []
    rw [hlm, show IntKind.i64.wrap (((2 ^ (need l).length : Nat) : Int) - 1) = ((2 ^ (need l).length - 1 : Nat) : Int) by rw [wrap_i64 (by omega) (by omega)]; omega, idx_Mf (by omega), bindS, wrap_i64 (by omega) (by omega)]
  · rw [eff_perm hperm k, p2 k, amt_need]
  · have := hperm.length_eq
    have e : (List.length (sortD (α := Nt.trTy.den) Nt.cfT out) : Int) = List.length out := by rw [this]
    rw [e]
    exact p4
  · have := hperm.length_eq
    have e : List.length (sortD (α := Nt.trTy.den) Nt.cfT out) = List.length out := this
    rw [e]
    omega
end Go.Proofs.Ytbapfiaglcllnaa.D.Gr
end

section
open Go Go.GD Go.Proofs
namespace Go.Proofs.Ytbapfiaglcllnaa.D.Gr
theorem mask20 (n : Int) : ((BitVec.ofInt 64 n &&& BitVec.ofInt 64 1048575).toNat : Int) = n % 1048576 := by
  rw [BitVec.toNat_and, BitVec.toNat_ofInt, show (BitVec.ofInt 64 1048575).toNat = 2 ^ 20 - 1 from by decide, Nat.and_two_pow_sub_one_eq_mod]
  have h : (0 : Int) ≤ n % ((2 ^ 64 : Nat) : Int) := Int.emod_nonneg _ (by decide)
  have e : ((2 ^ 64 : Nat) : Int) = 18446744073709551616 := by decide
  rw [e] at h ⊢
  omega
def val (p : Int × Int) : Int := p.1 * 1048576 + p.2
def Bd9 (c : Int) (p : Int × Int) : Prop := -2097152 * c ≤ p.1 ∧ p.1 ≤ 2097152 * c ∧ -2097152 * c ≤ p.2 ∧ p.2 ≤ 2097152 * c
theorem add_val {p : Int × Int} {n sign c : Int} (hs : sign = 1 ∨ sign = -1) (hn : -1099511627776 ≤ n ∧ n ≤ 1099511627776) (hb : Bd9 c p) (hc : 0 ≤ c ∧ c ≤ 10000) :
    ∃ q, Nt.addD p (n, sign) = some (q, ()) ∧ val q = val p + sign * n ∧ Bd9 (c + 1) q := by
  refine ⟨_, rfl, ?_⟩
  have hl : Nt.lowOf n = n % 1048576 := by
    unfold Nt.lowOf
    rw [mask20, wrap_i64 (by omega) (by omega)]
  have hf : n.fdiv (2 ^ 20) = n / 1048576 := Int.fdiv_eq_ediv_of_nonneg _ (by decide)
  obtain ⟨b1, b2, b3, b4⟩ := hb
  simp only [hl, hf]
  have hd := Int.emod_add_mul_ediv n 1048576
  unfold val Bd9
  rcases hs with rfl | rfl
  · simp only [Int.one_mul]
    rw [wrap_i64 (n := n / 1048576) (by omega) (by omega), wrap_i64 (n := n % 1048576) (by omega) (by omega), wrap_i64 (n := p.1 + n / 1048576) (by omega) (by omega), wrap_i64 (n := p.2 + n % 1048576) (by omega) (by omega)]
    omega
  · simp only [Int.neg_mul, Int.one_mul]
    rw [wrap_i64 (n := -(n / 1048576)) (by omega) (by omega), wrap_i64 (n := -(n % 1048576)) (by omega) (by omega), wrap_i64 (n := p.1 + -(n / 1048576)) (by omega) (by omega), wrap_i64 (n := p.2 + -(n % 1048576)) (by omega) (by omega)]
    omega
structure VS (c : Int) (o : Nt.Open) (f : Nat → Int) : Prop where
  len : o.length = 9
  bd : ∀ k, k < 9 → Bd9 c (o.getD k (0, 0))
  val : ∀ k, k < 9 → val (o.getD k (0, 0)) = f k
theorem addTo_ok {c : Int} {o : Nt.Open} {f : Nat → Int} (h : VS c o f) (hc : 0 ≤ c ∧ c ≤ 10000) {k n sign : Int} (hk : 0 ≤ k ∧ k < 9) (hs : sign = 1 ∨ sign = -1) (hn : -1099511627776 ≤ n ∧ n ≤ 1099511627776) :
    ∃ o', Nt.addTo o k n sign = some o' ∧ VS (c + 1) o' (fun j => f j + if j = k.toNat then sign * n else 0) := by
  obtain ⟨q, q1, q2, q3⟩ := add_val (sign := sign) hs hn (h.bd k.toNat (by omega)) hc
  unfold Nt.addTo
  rw [decide_eq_true hk.1, decide_eq_true hk.2, Bool.and_self, cond_true, q1, bindS]
  have hl := h.len
  have hget : ∀ j, (o.set k.toNat q).getD j (0, 0) = if j = k.toNat then q else o.getD j (0, 0) := fun j => by
    rw [List.getD_eq_getElem?_getD, List.getD_eq_getElem?_getD, List.getElem?_set]
    by_cases e : k.toNat = j
    · subst e
      rw [if_pos rfl, if_pos rfl, if_pos (by omega)]; rfl
    · rw [if_neg e, if_neg (Ne.symm e)]
  refine ⟨_, rfl, by rw [List.length_set]; exact hl, fun j hj => ?_, fun j hj => ?_⟩
  · rw [hget]
    split
    · exact q3
    · have := h.bd j hj
      unfold Bd9 at this ⊢
      omega
  · rw [hget]
    split
    · rename_i e
      rw [e, q2, h.val _ (by omega)]
    · rw [h.val j hj, Int.add_zero]
theorem VS.congr {c : Int} {o : Nt.Open} {f g : Nat → Int} (h : VS c o f) (e : ∀ k, k < 9 → f k = g k) : VS c o g := ⟨h.len, h.bd, fun k hk => (h.val k hk).trans (e k hk)⟩
theorem shares_ok : ∀ (l : List Sr) {o : Nt.Open} {c : Int} {f : Nat → Int}, (∀ s ∈ l, 1 ≤ s.1 ∧ s.1 ≤ 8) → Small l → VS c o f → 0 ≤ c → c + l.length ≤ 10000 → ∃ o', Nt.addShares l o = some o' ∧ VS (c + l.length) o' (fun k => f k - amt l k)
  | [], o, c, f, _, _, h, _, _ => ⟨o, rfl, by
    have : c + ((([] : List Sr).length : Nat) : Int) = c := by simp
    rw [this]
    exact h.congr fun k _ => by simp [amt]⟩
  | s :: l, o, c, f, h1, h2, h, hc0, hc => by
    have a1 := h1 s (by simp)
    have a2 := h2 s (by simp)
    rw [List.length_cons] at hc
    obtain ⟨o1, e1, v1⟩ := addTo_ok (sign := -1) h (by omega) (k := s.1) (n := s.2) (by omega) (.inr rfl) (by omega)
    obtain ⟨o2, e2, v2⟩ := shares_ok l (fun s hs => h1 s (by simp [hs])) (fun s hs => h2 s (by simp [hs])) v1 (by omega) (by omega)
    refine ⟨o2, by rw [Nt.addShares, e1, bindS, e2], ?_⟩
    have : c + 1 + (l.length : Int) = c + ((s :: l).length : Nat) := by rw [List.length_cons]; omega
    rw [← this]
    refine v2.congr fun k _ => ?_
    unfold amt
    rw [List.map_cons, List.sum_cons]
    unfold atK
    by_cases e : s.1.toNat = k
    · subst e; simp; omega
    · simp [e, Ne.symm e]
def goodT (x : Tf) : Bool := (decide (1 ≤ x.1) && decide (x.1 ≤ 8)) && ((decide (1 ≤ x.2.1) && decide (x.2.1 ≤ 8)) && ((x.1 != x.2.1) && (decide (1 ≤ x.2.2) && decide (x.2.2 ≤ 1099511627776))))
theorem op55 (n : Int) : d55 n = some (decide (1 ≤ n) && decide (n ≤ 8)) := by
  show D55 n = _
  rw [e55]
  by_cases h : 1 ≤ n
  · rw [decide_eq_true (show n ≥ 1 from h)]; rfl
  · rw [decide_eq_false (show ¬ n ≥ 1 from h)]; rfl
theorem bad_good (x : Tf) : Nt.badPay x = some (!goodT x) := by
  unfold Nt.badPay goodT
  rw [op55, bindS, op55]
  cases decide (1 ≤ x.1) && decide (x.1 ≤ 8) with
  | false => rfl
  | true =>
    simp only [Bool.not_true, cond_false, bindS, Bool.true_and]
    cases decide (1 ≤ x.2.1) && decide (x.2.1 ≤ 8) with
    | false => rfl
    | true =>
      simp only [Bool.not_true, Bool.false_or, Bool.true_and]
      cases hx : x.1 == x.2.1 with
      | true => simp [bne, hx]
      | false =>
        simp only [bne, hx, Bool.not_false, Bool.true_and, Bool.false_or]
        by_cases h1 : x.2.2 < 1
        · rw [decide_eq_true h1, decide_eq_false (show ¬ 1 ≤ x.2.2 by omega)]; rfl
        · rw [decide_eq_false h1, decide_eq_true (show 1 ≤ x.2.2 by omega)]
          by_cases h2 : x.2.2 > 1099511627776
          · rw [decide_eq_true h2, decide_eq_false (show ¬ x.2.2 ≤ 1099511627776 by omega)]; rfl
          · rw [decide_eq_false h2, decide_eq_true (show x.2.2 ≤ 1099511627776 by omega)]; rfl
theorem good_in {x : Tf} (h : goodT x = true) : (1 ≤ x.1 ∧ x.1 ≤ 8) ∧ (1 ≤ x.2.1 ∧ x.2.1 ≤ 8) ∧ x.1 ≠ x.2.1 ∧ 1 ≤ x.2.2 ∧ x.2.2 ≤ 1099511627776 := by
  unfold goodT at h
  simpa only [Bool.and_eq_true, decide_eq_true_eq, bne_iff_ne] using h
theorem pays_ok : ∀ (ts : List Tf) {o : Nt.Open} {c : Int} {f : Nat → Int}, VS c o f → 0 ≤ c → c + 2 * ts.length ≤ 10000 →
    (Nt.pays ts o = some none ∧ ¬ ∀ x ∈ ts, goodT x = true) ∨ ∃ o', Nt.pays ts o = some (some o') ∧ (∀ x ∈ ts, goodT x = true) ∧ VS (c + 2 * ts.length) o' (fun k => f k + eff ts k)
  | [], o, c, f, h, _, _ => .inr ⟨o, rfl, fun _ h => (by cases h), by
    have : c + 2 * ((([] : List Tf).length : Nat) : Int) = c := by simp
    rw [this]
    exact h.congr fun k _ => by simp [eff]⟩
  | x :: ts, o, c, f, h, hc0, hc => by
    rw [List.length_cons] at hc
    rw [Nt.pays, bad_good, bindS]
    cases hg : goodT x with
    | false =>
      left
      refine ⟨rfl, fun hall => ?_⟩
      rw [hall x (by simp)] at hg; cases hg
    | true =>
      obtain ⟨g1, g2, g3, g4, g5⟩ := good_in hg
      obtain ⟨o1, e1, v1⟩ := addTo_ok (sign := -1) h (by omega) (k := x.1) (n := x.2.2) (by omega) (.inr rfl) (by omega)
      obtain ⟨o2, e2, v2⟩ := addTo_ok (sign := 1) v1 (by omega) (k := x.2.1) (n := x.2.2) (by omega) (.inl rfl) (by omega)
      rw [Bool.not_true, cond_false, e1, bindS, e2, bindS]
      rcases pays_ok ts v2 (by omega) (by omega) with ⟨q1, q2⟩ | ⟨o3, q1, q2, q3⟩
      · left
        exact ⟨q1, fun hall => q2 fun y hy => hall y (by simp [hy])⟩
      · right
        refine ⟨o3, q1, fun y hy => ?_, ?_⟩
        · rcases List.mem_cons.1 hy with rfl | hy
          · exact hg
          · exact q2 y hy
        · have : c + 1 + 1 + 2 * (ts.length : Int) = c + 2 * ((x :: ts).length : Nat) := by rw [List.length_cons]; omega
          rw [← this]
          refine q3.congr fun k _ => ?_
          rw [eff]
          split <;> split <;> omega
theorem zero56 {c : Int} {p : Int × Int} (h : Bd9 c p) (hc : 0 ≤ c ∧ c ≤ 20000) : d56 p = some (val p == 0) := by
  show D56 p = _
  obtain ⟨b1, b2, b3, b4⟩ := h
  have hf : Int.fdiv p.2 (2 ^ (Nat.min (Int.toNat 20) 64)) = p.2 / 1048576 := Int.fdiv_eq_ediv_of_nonneg _ (by decide)
  rw [e56, mask20, wrap_i64 (n := p.2 % 1048576) (by omega) (by omega), hf, wrap_i64 (n := p.1 + p.2 / 1048576) (by omega) (by omega)]
  have hd := Int.emod_add_mul_ediv p.2 1048576
  unfold val
  by_cases h1 : p.2 % 1048576 = 0
  · rw [show (p.2 % 1048576 == 0) = true by simpa using h1, cond_true, show decide ((20 : Int) < 0) = false by decide, cond_false]
    congr 1
    rw [Bool.eq_iff_iff, beq_iff_eq, beq_iff_eq]
    omega
  · rw [show (p.2 % 1048576 == 0) = false by simpa using h1, cond_false]
    congr 1
    symm
    rw [beq_eq_false_iff_ne]
    omega
theorem zeros_ok {c : Int} (hc : 0 ≤ c ∧ c ≤ 20000) : ∀ (o : Nt.Open), (∀ p ∈ o, Bd9 c p) → Nt.zeros o = some (o.all fun p => val p == 0)
  | [], _ => rfl
  | p :: o, h => by
    rw [Nt.zeros, zero56 (h p (by simp)) hc, bindS, zeros_ok hc o fun q hq => h q (by simp [hq]), List.all_cons]
    cases (val p == 0) <;> rfl
theorem valid19 {l : List Sr} (h : rightS l = 0) {pay : List Tf} (hp : pay.length ≤ 1000) : ∃ b, D19 l pay = some b ∧ (b = true ↔ (∀ x ∈ pay, goodT x = true) ∧ ∀ k, k < 9 → eff pay k = amt l k) := by
  have ho := okl_of h
  have h8 := ho.len
  have h53 : d53 l = some 0 := by rw [← h]; exact right53 l (by unfold maxLen; omega)
  have v0 : VS 0 (List.replicate 9 (0, 0)) (fun _ => 0) := by
    have hg : ∀ k, (List.replicate 9 ((0 : Int), (0 : Int))).getD k (0, 0) = (0, 0) := fun k => by
      rw [List.getD_eq_getElem?_getD, List.getElem?_replicate]
      split <;> rfl
    refine ⟨rfl, fun k _ => ?_, fun k _ => by rw [hg]; rfl⟩
    rw [hg]; unfold Bd9; simp
  obtain ⟨o1, e1, v1⟩ := shares_ok l ho.ops ho.small v0 (Int.le_refl _) (by omega)
  show ∃ b, Nt.validD (l, pay) = some b ∧ _
  unfold Nt.validD
  simp only []
  rw [Nat.ble_eq_true_of_le (show l.length ≤ 1000000 by omega), Nat.ble_eq_true_of_le (show pay.length ≤ 1000000 by omega), Bool.and_self, cond_true, h53, bindS, bne_self_eq_false, cond_false, e1, bindS]
  rcases pays_ok pay v1 (by omega) (by omega) with ⟨q1, q2⟩ | ⟨o2, q1, q2, q3⟩
  · rw [q1, bindS]
    exact ⟨false, rfl, fun h => (by cases h), fun h => absurd h.1 q2⟩
  · rw [q1, bindS]
    simp only []
    have hlen := q3.len
    have hget : ∀ k (hk : k < o2.length), o2.getD k (0, 0) = o2[k] := fun k hk => by
      rw [List.getD_eq_getElem?_getD, List.getElem?_eq_getElem hk]; rfl
    rw [zeros_ok (c := 0 + (l.length : Int) + 2 * pay.length) (by omega) o2 fun p hp' => by
      obtain ⟨k, hk, rfl⟩ := List.getElem_of_mem hp'
      have := q3.bd k (by omega)
      rwa [hget k hk] at this]
    refine ⟨_, rfl, ?_⟩
    rw [List.all_eq_true]
    constructor
    · intro hz
      refine ⟨q2, fun k hk => ?_⟩
      have h1 := q3.val k hk
      have h2 := hz _ (List.getElem_mem (show k < o2.length by omega))
      rw [hget k (by omega)] at h1
      rw [beq_iff_eq] at h2
      omega
    · rintro ⟨_, hz⟩ p hp'
      obtain ⟨k, hk, rfl⟩ := List.getElem_of_mem hp'
      have h1 := q3.val k (by omega)
      have h2 := hz k (by omega)
      rw [hget k hk] at h1
      rw [beq_iff_eq]
      omega
end Go.Proofs.Ytbapfiaglcllnaa.D.Gr
end

section
open Go Go.GD Go.Proofs
namespace Go.Proofs.Ytbapfiaglcllnaa.D.Gr
theorem amt_none {r : List Sr} {k : Nat} (h : ∀ s ∈ r, s.1.toNat ≠ k) : amt r k = 0 := by
  unfold amt
  induction r with
  | nil => rfl
  | cons s r ih =>
    rw [List.map_cons, List.sum_cons, ih fun s hs => h s (by simp [hs])]
    unfold atK
    rw [if_neg (h s (by simp))]; rfl
theorem nodup_nat {r : List Sr} (hn : (r.map (·.1)).Nodup) (ho : ∀ s ∈ r, 1 ≤ s.1) : (r.map fun s => s.1.toNat).Nodup := by
  induction r with
  | nil => exact List.nodup_nil
  | cons s r ih =>
    rw [List.map_cons, List.nodup_cons] at hn ⊢
    refine ⟨fun h => hn.1 ?_, ih hn.2 fun s hs => ho s (by simp [hs])⟩
    obtain ⟨t, ht, e⟩ := List.mem_map.1 h
    have h1 := ho s (by simp)
    have h2 := ho t (by simp [ht])
    have : t.1 = s.1 := by omega
    rw [← this]
    exact List.mem_map_of_mem ht
theorem amt_one {r : List Sr} (hn : (r.map fun s => s.1.toNat).Nodup) : ∀ s ∈ r, amt r s.1.toNat = s.2 := by
  induction r with
  | nil => intro s hs; cases hs
  | cons t r ih =>
    rw [List.map_cons, List.nodup_cons] at hn
    intro s hs
    have e : amt (t :: r) s.1.toNat = atK s.1.toNat t + amt r s.1.toNat := by unfold amt; rw [List.map_cons, List.sum_cons]
    rw [e]
    rcases List.mem_cons.1 hs with rfl | hs
    · rw [amt_none fun u hu eu => hn.1 (by rw [← eu]; exact List.mem_map_of_mem (f := fun s : Sr => s.1.toNat) hu)]
      unfold atK
      simp
    · rw [ih hn.2 s hs]
      have : t.1.toNat ≠ s.1.toNat := fun eu => hn.1 (by rw [eu]; exact List.mem_map_of_mem (f := fun s : Sr => s.1.toNat) hs)
      unfold atK
      rw [if_neg this]
      omega
theorem lower {l : List Sr} (h : rightS l = 0) {m : Int} (hm : ∀ L, PartOf (zf (need l)) (2 ^ (need l).length - 1) L → (L.length : Int) ≤ m) {pay : List Tf} (hg : ∀ x ∈ pay, goodT x = true) (he : ∀ k, k < 9 → eff pay k = amt l k) : ((need l).length : Int) - m ≤ pay.length := by
  have hr := okr_of (okl_of h)
  have h8 := hr.len
  have hp := part_pays pay (amt l) (fun x hx => by
    obtain ⟨g1, g2, _⟩ := good_in (hg x hx)
    omega) fun k hk => (he k hk).symm
  have hnd := nodup_nat hr.nd fun s hs => (hr.ops s hs).1
  obtain ⟨L, q1, q2⟩ := part_index h8 hnd (fun s hs => by
    have := hr.ops s hs
    refine ⟨by omega, ?_, this.2.2⟩
    rw [← amt_need]
    exact amt_one hnd s hs) (fun k hk hne => by
    apply Classical.byContradiction
    intro hno
    refine hne ?_
    rw [← amt_need]
    exact amt_none fun s hs e => hno ⟨s, hs, e⟩) hp
  have := hm L q1
  omega
theorem law4g (l : List Sr) (pay : List Tf) (ages prices : List Int) (offers : List Of) (other : List Bd) : D4 l pay ages prices offers other = some true := by
  rw [e4, alive16, bindS, Bool.not_true, cond_false]
  by_cases c1 : (List.length l : Int) > 8
  · rw [decide_eq_true c1]; rfl
  rw [decide_eq_false c1, cond_false]
  by_cases c2 : (List.length pay : Int) > 20
  · rw [decide_eq_true c2]; rfl
  rw [decide_eq_false c2, cond_false]
  by_cases c3 : (List.length ages : Int) > 8
  · rw [decide_eq_true c3]; rfl
  rw [decide_eq_false c3, cond_false]
  by_cases c4 : (List.length prices : Int) > 8
  · rw [decide_eq_true c4]; rfl
  rw [decide_eq_false c4, cond_false]
  by_cases c5 : (List.length offers : Int) > 8
  · rw [decide_eq_true c5]; rfl
  rw [decide_eq_false c5, cond_false]
  by_cases c6 : (List.length other : Int) > 10
  · rw [decide_eq_true c6]; rfl
  rw [decide_eq_false c6, cond_false, right17 l (by unfold maxLen; omega), bindS]
  by_cases hr : rightS l = 0
  case neg => rw [show (rightS l != 0) = true by simp [hr]]; rfl
  rw [hr, bne_self_eq_false, cond_false]
  obtain ⟨xs, m, n1, n2, n3, n4, n5, n6, n7, n8⟩ := net18 hr
  have hn := okr_of (okl_of hr)
  have hgood : ∀ x ∈ xs, goodT x = true := fun x hx => by
    obtain ⟨a1, a2, a3, a4, a5⟩ := n4 x hx
    obtain ⟨s, hs, es⟩ := List.mem_map.1 a1
    obtain ⟨t, ht, et⟩ := List.mem_map.1 a2
    have o1 := hn.ops s hs
    have o2 := hn.ops t ht
    unfold goodT
    simp only [Bool.and_eq_true, decide_eq_true_eq, bne_iff_ne]
    omega
  have heff : ∀ k, k < 9 → eff xs k = amt l k := fun k _ => n3 k
  have hD18 : D18 l = some xs := n1
  obtain ⟨b, v1, v2⟩ := valid19 hr (pay := xs) (by omega)
  have hb : b = true := v2.2 ⟨hgood, heff⟩
  subst hb
  have hlow := lower hr n8 hgood heff
  rw [hD18, bindS, v1, bindS, Bool.not_true, cond_false, n2, bindS, show ((List.length xs : Int) != ((need l).length : Int) - m) = false by simp; omega, cond_false]
  obtain ⟨b, w1, w2⟩ := valid19 hr (pay := pay) (by omega)
  rw [w1, bindS]
  have hgr := group4 (ages, prices, offers) other (by simp only []; omega) (by simp only []; omega) (by omega)
  simp only [] at hgr
  cases b with
  | false => rw [cond_false]; exact hgr
  | true =>
    obtain ⟨u1, u2⟩ := w2.1 rfl
    have := lower hr n8 u1 u2
    rw [cond_true, decide_eq_false (show ¬ (List.length pay : Int) < (List.length xs : Int) by omega), cond_false]
    exact hgr
end Go.Proofs.Ytbapfiaglcllnaa.D.Gr
namespace Go.Proofs.Ytbapfiaglcllnaa.D
open Go Go.GD
theorem law4 (x : (pk ps4).den) (_ : Valid (pk ps4) x) : d4 x = some true := Gr.law4g x.1 x.2.1 x.2.2.1 x.2.2.2.1 x.2.2.2.2.1 x.2.2.2.2.2
end Go.Proofs.Ytbapfiaglcllnaa.D
end
