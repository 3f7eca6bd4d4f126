import Derived.Test.YtbapfiaglcllnaaXQall
import Derived.Test.YtbapfiaglcllnaaXGall
import Derived.Test.YtbapfiaglcllnaaXPaa
import Derived.Test.YtbapfiaglcllnaaXRall
import Derived.Test.YtbapfiaglcllnaaEXR8
import Derived.Test.YtbapfiaglcllnaaEXT3R
section
open Go Go.GD Go.Proofs
namespace Go.Proofs.Ytbapfiaglcllnaa.D.Jn
set_option maxRecDepth 1000000
open Up Ul
theorem good : (k : Nat) → k < 30 → ∃ f, Good k f
  | 0, _ => ⟨_, good0⟩
  | 1, _ => ⟨_, good1⟩
  | 2, _ => ⟨_, good2⟩
  | 3, _ => ⟨_, good3⟩
  | 4, _ => ⟨_, good4⟩
  | 5, _ => ⟨_, good5⟩
  | 6, _ => ⟨_, good6⟩
  | 7, _ => ⟨_, good7⟩
  | 8, _ => ⟨_, good8⟩
  | 9, _ => ⟨_, good9⟩
  | 10, _ => ⟨_, good10⟩
  | 11, _ => ⟨_, good11⟩
  | 12, _ => ⟨_, good12⟩
  | 13, _ => ⟨_, good13⟩
  | 14, _ => ⟨_, good14⟩
  | 15, _ => ⟨_, good15⟩
  | 16, _ => ⟨_, good16⟩
  | 17, _ => ⟨_, good17⟩
  | 18, _ => ⟨_, good18⟩
  | 19, _ => ⟨_, good19⟩
  | 20, _ => ⟨_, good20⟩
  | 21, _ => ⟨_, good21⟩
  | 22, _ => ⟨_, good22⟩
  | 23, _ => ⟨_, good23⟩
  | 24, _ => ⟨_, good24⟩
  | 25, _ => ⟨_, good25⟩
  | 26, _ => ⟨_, good26⟩
  | 27, _ => ⟨_, good27⟩
  | 28, _ => ⟨_, good28⟩
  | 29, _ => ⟨_, good29⟩
  | n + 30, h => by omega
theorem Good.split {k : Nat} {f : Fr} (h : Good k f) : log (k + 1) = log k ++ f.bytes := by
  have := h.at_
  unfold log
  obtain ⟨hk, e⟩ := List.getElem?_eq_some_iff.1 this
  rw [← List.take_append_getElem hk, List.map_append, List.flatten_append, e]
  simp
theorem Good.blen {k : Nat} {f : Fr} (h : Good k f) : f.bytes.length = f.n + 5 := by
  unfold Fr.bytes
  rw [List.length_cons, List.length_append, h.len, h.four]
theorem log_zero : log 0 = [] := rfl
theorem log_le {k a : Nat} (hk : k ≤ a) (ha : a ≤ 30) : ∃ T, log a = log k ++ T := by
  induction a with
  | zero => exact ⟨[], by rw [show k = 0 by omega]; rfl⟩
  | succ a ih =>
    rcases Nat.lt_or_ge a k with h | h
    · exact ⟨[], by rw [show k = a + 1 by omega, List.append_nil]⟩
    · obtain ⟨T, e⟩ := ih h (by omega)
      obtain ⟨f, hf⟩ := good a (by omega)
      exact ⟨T ++ f.bytes, by rw [hf.split, e, List.append_assoc]⟩
theorem log_lt {k a : Nat} (hk : k < a) (ha : a ≤ 30) {f : Fr} (hf : Good k f) : ∃ T, log a = log k ++ (f.bytes ++ T) := by
  obtain ⟨T, e⟩ := log_le (k := k + 1) (by omega) ha
  exact ⟨T, by rw [e, hf.split, List.append_assoc]⟩
theorem log_small {k : Nat} (hk : k ≤ 30) : (log k).length ≤ 21 * k := by
  induction k with
  | zero => simp [log_zero]
  | succ k ih =>
    obtain ⟨f, hf⟩ := good k (by omega)
    have := ih (by omega)
    rw [hf.split, List.length_append, hf.blen]
    rcases hf.n_ with h | h <;> omega
theorem mk_len (g : Int) (n : Nat) : (mk g n).length = n := by simp [mk]
theorem mk_get (g : Int) (n k : Nat) (h : k < n) : (mk g n)[k]? = some (ride g k) := by
  simp [mk, h]
theorem mk_drop (g : Int) {n k : Nat} (h : k < n) : (mk g n).drop k = ride g k :: (mk g n).drop (k + 1) := by
  have hk : k < (mk g n).length := by rw [mk_len]; exact h
  rw [List.drop_eq_getElem_cons hk]
  have := mk_get g n k h
  rw [List.getElem?_eq_getElem hk] at this
  injection this with this
  rw [this]
theorem mk_succ (g : Int) (n : Nat) : mk g (n + 1) = mk g n ++ [ride g n] := by simp [mk, List.range_succ]
theorem mk_take (g : Int) {n k : Nat} (h : k ≤ n) : (mk g n).take k = mk g k := by
  simp [mk, ← List.map_take, List.take_range, Nat.min_eq_left h]
theorem made_all : (n : Nat) → n < 31 → D6 4 ((n : Nat) : Int) = some (mk 4 n) ∧ D6 9 ((n : Nat) : Int) = some (mk 9 n)
  | 0, _ => ⟨by kernel_rfl, by kernel_rfl⟩
  | 1, _ => ⟨by kernel_rfl, by kernel_rfl⟩
  | 2, _ => ⟨by kernel_rfl, by kernel_rfl⟩
  | 3, _ => ⟨by kernel_rfl, by kernel_rfl⟩
  | 4, _ => ⟨by kernel_rfl, by kernel_rfl⟩
  | 5, _ => ⟨by kernel_rfl, by kernel_rfl⟩
  | 6, _ => ⟨by kernel_rfl, by kernel_rfl⟩
  | 7, _ => ⟨by kernel_rfl, by kernel_rfl⟩
  | 8, _ => ⟨by kernel_rfl, by kernel_rfl⟩
  | 9, _ => ⟨by kernel_rfl, by kernel_rfl⟩
  | 10, _ => ⟨by kernel_rfl, by kernel_rfl⟩
  | 11, _ => ⟨by kernel_rfl, by kernel_rfl⟩
  | 12, _ => ⟨by kernel_rfl, by kernel_rfl⟩
  | 13, _ => ⟨by kernel_rfl, by kernel_rfl⟩
  | 14, _ => ⟨by kernel_rfl, by kernel_rfl⟩
  | 15, _ => ⟨by kernel_rfl, by kernel_rfl⟩
  | 16, _ => ⟨by kernel_rfl, by kernel_rfl⟩
  | 17, _ => ⟨by kernel_rfl, by kernel_rfl⟩
  | 18, _ => ⟨by kernel_rfl, by kernel_rfl⟩
  | 19, _ => ⟨by kernel_rfl, by kernel_rfl⟩
  | 20, _ => ⟨by kernel_rfl, by kernel_rfl⟩
  | 21, _ => ⟨by kernel_rfl, by kernel_rfl⟩
  | 22, _ => ⟨by kernel_rfl, by kernel_rfl⟩
  | 23, _ => ⟨by kernel_rfl, by kernel_rfl⟩
  | 24, _ => ⟨by kernel_rfl, by kernel_rfl⟩
  | 25, _ => ⟨by kernel_rfl, by kernel_rfl⟩
  | 26, _ => ⟨by kernel_rfl, by kernel_rfl⟩
  | 27, _ => ⟨by kernel_rfl, by kernel_rfl⟩
  | 28, _ => ⟨by kernel_rfl, by kernel_rfl⟩
  | 29, _ => ⟨by kernel_rfl, by kernel_rfl⟩
  | 30, _ => ⟨by kernel_rfl, by kernel_rfl⟩
  | n + 31, h => by omega
theorem write_eq (a : Nat) (ha : a ≤ 30) : D7 (mk 4 a) = some (log a, 0) := by
  rw [e7, f7_1 _ _ _ (by rw [mk_len, maxLen_val]; omega)]
  have key : ∀ m k, k + m = a → forE (fun el ((b, link) : (List (Int)) × Int) K => ((D26 el).bind fun r => bif (!r) then some (([] : List (Int)), 2) else (D27 b el link).bind fun r1 => K (r1.1, r1.2) : Option ((List (Int)) × (Int))))
      (fun ((b, _) : (List (Int)) × Int) => (some (b, 0) : Option ((List (Int)) × (Int)))) ((mk 4 a).drop k) (log k, lk k) = some (log a, 0) := by
    intro m
    induction m with
    | zero =>
      intro k hk
      have : k = a := by omega
      subst this
      rw [List.drop_of_length_le (by rw [mk_len]; omega)]
      rfl
    | succ m ih =>
      intro k hk
      obtain ⟨f, hf⟩ := good k (by omega)
      rw [mk_drop 4 (by omega : k < a), forE]
      simp only [hf.range, hf.wr, bindS, Bool.not_true, cond_false]
      exact ih (k + 1) (by omega)
  exact key a 0 (by omega)
theorem get_small (n : Nat) (hn : n = 15 ∨ n = 16) (t : List Int) : D103 ((n : Int) :: t) = some ((n : Int), 1, 0) := by
  rw [e103]
  unfold lp103_1
  refine iter_eq (fun s : List Int × Int × Int => s = ((n : Int) :: t, 0, 0)) (fun _ => 0) (fun _ => ((n : Int), (1 : Int), (0 : Int))) (fun F s hI _ => ?_) big _ rfl (by show 0 < big; decide)
  subst hI
  have h0 : idx ((n : Int) :: t) 0 = some (n : Int) := rfl
  have h1 : decide ((0 : Int) ≥ ((((n : Int) :: t).length : Nat) : Int)) = false := decide_eq_false (by simp only [List.length_cons]; omega)
  simp only [h0, h1, bindS]
  rcases hn with rfl | rfl <;> rfl
theorem sum_loop (b : List Int) (size end_ : Int) (fin : Int → Option (List Int × Int × Int)) : ∀ (l : List Int) (s : Int),
    forE (fun el (s : Int) K => (bif decide ((8 : Int) < 0) then none else K (sumF s el) : Option ((List (Int)) × ((Int) × (Int))))) fin l s = fin (l.foldl sumF s)
  | [], s => rfl
  | x :: l, s => by rw [forE, show decide ((8 : Int) < 0) = false from rfl, cond_false]; exact sum_loop b size end_ fin l (sumF s x)
theorem unframe_eq {k : Nat} {f : Fr} (hf : Good k f) (tail : List Int) (ht : tail.length ≤ 100000) : D102 (f.bytes ++ tail) = some (f.body, (f.n : Int) + 5, 0) := by
  have hb := hf.blen
  have hn : f.n ≤ 16 := by rcases hf.n_ with h | h <;> omega
  rw [e102]
  have hg : D103 (f.bytes ++ tail) = some ((f.n : Int), 1, 0) := get_small f.n hf.n_ _
  rw [hg, bindS]
  have hlen : (f.bytes ++ tail).length = f.n + 5 + tail.length := by rw [List.length_append, hb]
  have w1 : IntKind.i64.wrap ((1 : Int) + (f.n : Int)) = (f.n : Int) + 1 := by rw [wrap_i64 (by omega) (by omega)]; omega
  have w2 : IntKind.i64.wrap ((f.n : Int) + 1 + 4) = (f.n : Int) + 5 := by rw [wrap_i64 (by omega) (by omega)]; omega
  simp only [w1, w2]
  have d1 : ((0 : Int) != 0) = false := rfl
  have d2 : decide ((f.n : Int) > 65536) = false := decide_eq_false (by omega)
  have d3 : decide (((f.bytes ++ tail).length : Int) < (f.n : Int) + 5) = false := decide_eq_false (by rw [hlen]; omega)
  have d4 : (decide (0 ≤ (f.n : Int) + 1) && (decide ((f.n : Int) + 1 ≤ (f.n : Int) + 5) && decide ((f.n : Int) + 5 ≤ ((f.bytes ++ tail).length : Int)))) = true := by
    simp only [Bool.and_eq_true, decide_eq_true_eq]; rw [hlen]; omega
  rw [d1, d2, d3, d4]
  simp only [cond_false, cond_true]
  have t1 : (((f.n : Int) + 1).toNat) = f.n + 1 := by omega
  have t2 : (((f.n : Int) + 5).toNat) = f.n + 5 := by omega
  have s4 : List.drop ((f.n : Int) + 1).toNat (List.take ((f.n : Int) + 5).toNat (f.bytes ++ tail)) = f.s4 := by
    rw [t1, t2, List.take_append_of_le_length (by omega), List.take_of_length_le (by omega)]
    unfold Fr.bytes
    rw [List.drop_succ_cons, ← hf.len, List.drop_left]
  have sb : List.drop (Int.toNat 1) (List.take ((f.n : Int) + 1).toNat (f.bytes ++ tail)) = f.body := by
    rw [t1, List.take_append_of_le_length (by omega)]
    unfold Fr.bytes
    rw [List.take_succ_cons, show Int.toNat 1 = 1 from rfl, List.drop_succ_cons, List.drop_zero, ← hf.len, List.take_left]
  rw [s4, f102_1 _ _ _ _ _ (by rw [hf.four, maxLen_val]; omega)]
  refine (sum_loop (f.bytes ++ tail) 1 ((f.n : Int) + 1) _ f.s4 0).trans ?_
  rw [hf.fold]
  have d5 : (decide (0 ≤ (1 : Int)) && (decide ((1 : Int) ≤ (f.n : Int) + 1) && decide ((f.n : Int) + 1 ≤ ((f.bytes ++ tail).length : Int)))) = true := by
    simp only [Bool.and_eq_true, decide_eq_true_eq]; rw [hlen]; omega
  simp only [d5, sb, hf.sum, bindS, bne_self_eq_false, cond_true, cond_false]
  rw [e99, limOk (by decide) (by rw [hf.len]; simp; omega)]
  have w3 : IntKind.i64.wrap ((f.n : Int) + 1 + 4) = (f.n : Int) + 5 := w2
  simp [w3]
theorem unframe_short (n : Nat) (hn : n = 15 ∨ n = 16) (t : List Int) (ht : t.length < n + 4) : D102 ((n : Int) :: t) = some ([], 0, 5) := by
  rw [e102, get_small n hn, bindS]
  have w1 : IntKind.i64.wrap ((1 : Int) + (n : Int)) = (n : Int) + 1 := by rw [wrap_i64 (by omega) (by omega)]; omega
  have w2 : IntKind.i64.wrap ((n : Int) + 1 + 4) = (n : Int) + 5 := by rw [wrap_i64 (by omega) (by omega)]; omega
  simp only [w1, w2]
  have d1 : ((0 : Int) != 0) = false := rfl
  have d2 : decide ((n : Int) > 65536) = false := decide_eq_false (by omega)
  have d3 : decide (((((n : Int) :: t).length : Nat) : Int) < (n : Int) + 5) = true := decide_eq_true (by simp only [List.length_cons]; omega)
  rw [d1, d2, d3]
  rfl
theorem record_whole {k : Nat} {f : Fr} (hf : Good k f) (tail : List Int) (ht : tail.length ≤ 100000) : d71 (f.bytes ++ tail, lk k) = some (.inl (ride 4 k, lk (k + 1), (f.n : Int) + 5)) := by
  show D71 (f.bytes ++ tail) (lk k) = _
  rw [e71, unframe_eq hf tail ht, bindS]
  have d1 : ((0 : Int) != 0) = false := rfl
  simp only [d1, cond_false]
  exact hf.rd
theorem record_part {k : Nat} {f : Fr} (hf : Good k f) (m : Nat) (h0 : 0 < m) (hm : m < f.bytes.length) (l : Int) : d71 (f.bytes.take m, l) = some (.inr 135) := by
  show D71 (f.bytes.take m) l = _
  rw [hf.blen] at hm
  have e : f.bytes.take m = (f.n : Int) :: (f.body ++ f.s4).take (m - 1) := by
    unfold Fr.bytes
    cases m with
    | zero => omega
    | succ m => rfl
  rw [e, e71, unframe_short f.n hf.n_ _ (by rw [List.length_take]; omega), bindS]
  rfl
end Go.Proofs.Ytbapfiaglcllnaa.D.Jn
end

section
open Go Go.GD Go.Proofs
namespace Go.Proofs.Ytbapfiaglcllnaa.D.Jn
set_option maxRecDepth 10000
open Up Ul
theorem last_whole (c : Nat) : ∀ a, a ≤ 30 → ∃ K, K ≤ a ∧ (log K).length ≤ c ∧ (K = a ∨ c < (log (K + 1)).length) := by
  intro a
  induction a with
  | zero => intro _; exact ⟨0, Nat.le_refl _, by rw [log_zero]; exact Nat.zero_le _, .inl rfl⟩
  | succ a ih =>
    intro ha
    rcases Nat.lt_or_ge c (log (a + 1)).length with h | h
    · obtain ⟨K, h1, h2, h3⟩ := ih (by omega)
      refine ⟨K, by omega, h2, .inr ?_⟩
      rcases h3 with h3 | h3
      · subst h3; exact h
      · exact h3
    · exact ⟨a + 1, Nat.le_refl _, h, .inl rfl⟩
theorem log_mono {j k : Nat} (h : j ≤ k) (hk : k ≤ 30) : (log j).length ≤ (log k).length := by
  obtain ⟨T, e⟩ := log_le h hk
  rw [e, List.length_append]; omega
theorem rest_eq (b : List Int) (s : Nat) : Sc.rest b (s : Int) = b.drop s := by
  unfold Sc.rest
  rw [Int.toNat_natCast, Int.toNat_natCast, List.take_length]
theorem scan_eq (a : Nat) (ha : a ≤ 30) (c : Nat) (hc : c ≤ (log a).length) {K : Nat} (hK : K ≤ a) (h1 : (log K).length ≤ c) (h2 : K = a ∨ c < (log (K + 1)).length) :
    D28 ((log a).take c) = some (mk 4 K, ((log K).length : Int), lk K) := by
  show Sc.scanH big _ = _
  rw [Sc.scanH_g]
  have hsm := log_small ha
  have hbl : ((log a).take c).length = c := by rw [List.length_take]; omega
  generalize hb : (log a).take c = b at *
  unfold Sc.lp28
  refine iter_eq (fun s : List Int × List Rd × Int × Int => ∃ k, k ≤ K ∧ s = (b, mk 4 k, ((log k).length : Int), lk k)) (fun s => K - s.2.1.length)
    (fun _ => (mk 4 K, ((log K).length : Int), lk K)) (fun F s hI hF => ?_) big (b, [], 0, 0) ⟨0, Nat.zero_le _, rfl⟩ (by show K - 0 < big; unfold big; omega)
  obtain ⟨k, hk, rfl⟩ := hI
  have hkc : (log k).length ≤ c := Nat.le_trans (log_mono hk (by omega)) h1
  have hok : Sc.ok28 b ((log k).length : Int) = true := by
    unfold Sc.ok28
    simp only [Bool.and_eq_true, decide_eq_true_eq]; rw [hbl]; omega
  have hrest : Sc.rest b ((log k).length : Int) = ((log a).drop (log k).length).take (c - (log k).length) := by
    rw [rest_eq, ← hb, List.drop_take]
  simp only [hok, cond_true]
  rcases Nat.lt_or_ge k K with hlt | hge
  · -- a whole frame
    obtain ⟨f, hf⟩ := good k (by omega)
    obtain ⟨T, hT⟩ := log_lt (k := k) (by omega) ha hf
    have hn1 : (log (k + 1)).length ≤ c := Nat.le_trans (log_mono (by omega) (by omega)) h1
    have hs1 : (log (k + 1)).length = (log k).length + f.bytes.length := by rw [hf.split, List.length_append]
    have hfb := hf.blen
    have hr2 : Sc.rest b ((log k).length : Int) = f.bytes ++ T.take (c - (log k).length - f.bytes.length) := by
      rw [hrest, hT, List.drop_left, List.take_append, List.take_of_length_le (by omega)]
    have hd : d71 (Sc.rest b ((log k).length : Int), lk k) = some (.inl (ride 4 k, lk (k + 1), (f.n : Int) + 5)) := by
      rw [hr2]
      refine record_whole hf _ ?_
      have : T.length ≤ (log a).length := by rw [hT, List.length_append, List.length_append]; omega
      rw [List.length_take]; omega
    have hret : Sc.ret71 (Sc.rest b ((log k).length : Int), lk k) = some (ride 4 k, lk (k + 1), (f.n : Int) + 5) := by
      show Sc.getL (d71 _) = _
      rw [hd]; rfl
    rw [decide_eq_true (show ((log k).length : Int) < (b.length : Int) by rw [hbl]; omega), cond_true, hd, hret]
    simp only [Sc.onR, bindS]
    rw [limOk (by decide) (by rw [mk_len]; simp; omega), cond_true]
    have e : (b, mk 4 k ++ [ride 4 k], IntKind.i64.wrap (((log k).length : Int) + ((f.n : Int) + 5)), lk (k + 1)) = (b, mk 4 (k + 1), ((log (k + 1)).length : Int), lk (k + 1)) := by
      rw [mk_succ, wrap_i64 (by omega) (by rcases hf.n_ with h | h <;> omega), hs1, hfb]
      rfl
    rw [e]
    refine hF _ ⟨k + 1, by omega, rfl⟩ ?_
    show K - (mk 4 (k + 1)).length < K - (mk 4 k).length
    rw [mk_len, mk_len]; omega
  · have hkK : k = K := by omega
    subst hkK
    rcases Nat.lt_or_ge (log k).length c with hlt | hge
    · -- a part of a frame
      have hka : k < a := by
        rcases h2 with h2 | h2
        · subst h2; omega
        · rcases Nat.lt_or_ge k a with h | h
          · exact h
          · have : k = a := by omega
            subst this; omega
      have h2 : c < (log (k + 1)).length := by
        rcases h2 with h2 | h2
        · omega
        · exact h2
      obtain ⟨f, hf⟩ := good k (by omega)
      obtain ⟨T, hT⟩ := log_lt (k := k) hka ha hf
      have hs1 : (log (k + 1)).length = (log k).length + f.bytes.length := by rw [hf.split, List.length_append]
      have hr2 : Sc.rest b ((log k).length : Int) = f.bytes.take (c - (log k).length) := by
        rw [hrest, hT, List.drop_left, List.take_append_of_le_length (by omega)]
      have hd : d71 (Sc.rest b ((log k).length : Int), lk k) = some (.inr 135) := by
        rw [hr2]
        exact record_part hf _ (by omega) (by omega) _
      rw [decide_eq_true (show ((log k).length : Int) < (b.length : Int) by rw [hbl]; omega), cond_true, hd]
      rfl
    · rw [decide_eq_false (show ¬ ((log k).length : Int) < (b.length : Int) by rw [hbl]; omega), cond_false]
theorem read_eq (a : Nat) (ha : a ≤ 30) (c : Nat) (hc : c ≤ (log a).length) : ∃ K, K ≤ a ∧ (log K).length ≤ c ∧ (c = (log a).length → K = a) ∧ D8 ((log a).take c) = some (mk 4 K, ((log K).length : Int)) := by
  obtain ⟨K, h1, h2, h3⟩ := last_whole c a ha
  refine ⟨K, h1, h2, fun e => ?_, ?_⟩
  · rcases h3 with h3 | h3
    · exact h3
    · rcases Nat.lt_or_ge K a with h | h
      · have := log_mono (j := K + 1) (k := a) (by omega) ha
        omega
      · omega
  · rw [e8, scan_eq a ha c hc h1 h2 h3, bindS]
end Go.Proofs.Ytbapfiaglcllnaa.D.Jn
end

section
open Go Go.GD Go.Proofs
namespace Go.Proofs.Ytbapfiaglcllnaa.D.Ms
open Up Ul
abbrev kTy : Ty := .pair (.int .i64) (.int .i64)
def key (r : Rd) : Int × Int := (r.1, r.2.1)
abbrev MapL := List (Int × ((Int × Int) × Rd))
theorem eqB_key (x y : Int × Int) : eqB kTy x y = decide (x = y) := by
  obtain ⟨a, b⟩ := x
  obtain ⟨c, d⟩ := y
  have : eqB kTy (a, b) (c, d) = ((a == c) && (b == d)) := rfl
  rw [this, Bool.eq_iff_iff]
  simp
theorem pget_pset (m : MapL) (k : Int × Int) (v : Rd) (k' : Int × Int) : pget kTy rideTy (pset kTy rideTy m k v) k' = if k' = k then some v else pget kTy rideTy m k' := by
  induction m with
  | nil =>
    show (bif eqB kTy k' k then some v else none) = _
    rw [eqB_key]
    by_cases h : k' = k <;> simp [h, pget]
  | cons p m ih =>
    obtain ⟨z, kk, vv⟩ := p
    show pget kTy rideTy (bif eqB kTy k kk then (0, (k, v)) :: m else (z, (kk, vv)) :: pset kTy rideTy m k v) k' = if k' = k then some v else bif eqB kTy k' kk then some vv else pget kTy rideTy m k'
    rw [eqB_key, eqB_key]
    by_cases h : k = kk
    · subst h
      rw [decide_eq_true rfl, cond_true]
      show (bif eqB kTy k' k then some v else pget kTy rideTy m k') = _
      rw [eqB_key]
      by_cases h' : k' = k <;> simp [h']
    · rw [decide_eq_false h, cond_false]
      show (bif eqB kTy k' kk then some vv else pget kTy rideTy (pset kTy rideTy m k v) k') = _
      rw [eqB_key, ih]
      by_cases h' : k' = kk
      · subst h'
        rw [decide_eq_true rfl, cond_true, cond_true, if_neg fun e => h e.symm]
      · rw [decide_eq_false h', cond_false, cond_false]
def Keyed (l : List Rd) : Prop := ∀ x, x ∈ l → ∀ y, y ∈ l → key x = key y → x = y
def setR (m : MapL) (r : Rd) : MapL := pset kTy rideTy m (r.1, r.2.1) r
theorem fold_get (k : Int × Int) : ∀ (l : List Rd) (m : MapL), pget kTy rideTy (l.foldl setR m) k = ((l.reverse.find? fun r => decide (key r = k)).or (pget kTy rideTy m k))
  | [], m => rfl
  | x :: l, m => by
    rw [List.foldl_cons, fold_get k l (setR m x), setR, pget_pset, List.reverse_cons, List.find?_append]
    cases (l.reverse.find? fun r => decide (key r = k)) with
    | some y => rfl
    | none =>
      simp only [Option.none_or, List.find?_cons, List.find?_nil]
      by_cases h : k = (x.1, x.2.1)
      · rw [if_pos h, decide_eq_true (show key x = k from h.symm)]; rfl
      · rw [if_neg h, decide_eq_false (show ¬ key x = k from fun e => h e.symm)]; rfl
theorem fold_some {A : List Rd} (hA : Keyed A) (k : Int × Int) (x : Rd) : pget kTy rideTy (A.foldl setR []) k = some x ↔ x ∈ A ∧ key x = k := by
  rw [fold_get]
  have e : pget kTy rideTy [] k = none := rfl
  rw [e, Option.or_none]
  constructor
  · intro h
    have h1 := List.mem_of_find?_eq_some h
    have h2 := List.find?_some h
    exact ⟨List.mem_reverse.1 h1, of_decide_eq_true h2⟩
  · rintro ⟨h1, h2⟩
    cases hf : (A.reverse.find? fun r => decide (key r = k)) with
    | none =>
      have := List.find?_eq_none.1 hf x (List.mem_reverse.2 h1)
      exact absurd (decide_eq_true h2) this
    | some y =>
      have q1 := List.mem_of_find?_eq_some hf
      have q2 : key y = k := by have := List.find?_some hf; simpa using this
      rw [hA y (List.mem_reverse.1 q1) x h1 (q2.trans h2.symm)]
noncomputable def news (A B : List Rd) : List Rd := open Classical in B.filter fun r => decide (r ∉ A)
theorem news_cons_old {A B : List Rd} {x : Rd} (h : x ∈ A) : news A (x :: B) = news A B := by
  classical
  unfold news
  rw [List.filter_cons, if_neg (by simpa using h)]
theorem news_cons_new {A B : List Rd} {x : Rd} (h : x ∉ A) : news A (x :: B) = x :: news A B := by
  classical
  unfold news
  rw [List.filter_cons, if_pos (by simpa using h)]
theorem mem_news {A B : List Rd} {x : Rd} : x ∈ news A B ↔ x ∈ B ∧ x ∉ A := by
  classical
  unfold news
  rw [List.mem_filter]; simp
theorem news_len (A B : List Rd) : (news A B).length ≤ B.length := List.length_filter_le _ _
theorem head_eq (A B : List Rd) (hk : Keyed (A ++ B)) (hA : A.length ≤ 500) (hB : B.length ≤ 500) :
    Mg.mergeH big A B = some (.inl (A ++ news A B)) := by
  have hKA : Keyed A := fun x hx y hy => hk x (List.mem_append_left _ hx) y (List.mem_append_left _ hy)
  rw [Mg.mergeH_g, Mg.f15_3 _ _ _ _ _ _ (by rw [maxLen_val]; omega)]
  refine (forE_foldl setR _ A []).trans ?_
  rw [clone29 A (by omega), bindS, Mg.f15_1 _ _ _ _ _ (by rw [maxLen_val]; omega)]
  have hm : ∀ k x, pget kTy rideTy (A.foldl setR []) k = some x ↔ x ∈ A ∧ key x = k := fun k x => fold_some hKA k x
  revert hm
  generalize A.foldl setR [] = m
  intro hm
  have loop : ∀ (l out : List Rd), (∀ x, x ∈ l → x ∈ B) → out.length + l.length ≤ 1000 →
      forE (fun el (out : List Rd) K =>
        (bif Option.isSome (pget kTy rideTy m (el.1, el.2.1)) then (
          bif (!(((Option.getD (pget kTy rideTy m (el.1, el.2.1)) (0, 0, 0, 0, 0, 0, 0)).1 == el.1) && ((((Option.getD (pget kTy rideTy m (el.1, el.2.1)) (0, 0, 0, 0, 0, 0, 0)).2).1 == el.2.1) && (((((Option.getD (pget kTy rideTy m (el.1, el.2.1)) (0, 0, 0, 0, 0, 0, 0)).2).2).1 == el.2.2.1) && ((((((Option.getD (pget kTy rideTy m (el.1, el.2.1)) (0, 0, 0, 0, 0, 0, 0)).2).2).2).1 == el.2.2.2.1) && (((((((Option.getD (pget kTy rideTy m (el.1, el.2.1)) (0, 0, 0, 0, 0, 0, 0)).2).2).2).2).1 == el.2.2.2.2.1) && ((((((((Option.getD (pget kTy rideTy m (el.1, el.2.1)) (0, 0, 0, 0, 0, 0, 0)).2).2).2).2).2).1 == el.2.2.2.2.2.1) && (((((((Option.getD (pget kTy rideTy m (el.1, el.2.1)) (0, 0, 0, 0, 0, 0, 0)).2).2).2).2).2).2 == el.2.2.2.2.2.2)))))))) then some (.inr (([] : List Rd), 15))
          else bif (!Option.isSome (pget kTy rideTy m (el.1, el.2.1))) then (
            bif (Nat.ble ((List.length out + List.length [el]) * 56) appendLimit && Nat.ble (List.length out + List.length [el]) 9223372036854775807) then K (out ++ [el])
            else none)
          else K out)
        else bif (!Option.isSome (pget kTy rideTy m (el.1, el.2.1))) then (
          bif (Nat.ble ((List.length out + List.length [el]) * 56) appendLimit && Nat.ble (List.length out + List.length [el]) 9223372036854775807) then K (out ++ [el])
          else none)
        else K out : Option (List Rd ⊕ (List Rd × Int))))
        (fun (out : List Rd) => (bif decide ((List.length out : Int) > 2000) then some (.inr (([] : List Rd), 9)) else some (.inl out) : Option (List Rd ⊕ (List Rd × Int)))) l out = some (.inl (out ++ news A l)) := by
    intro l
    induction l with
    | nil =>
      intro out _ hl
      show (bif decide ((List.length out : Int) > 2000) then some (.inr (([] : List Rd), 9)) else some (.inl out) : Option (List Rd ⊕ (List Rd × Int))) = _
      rw [decide_eq_false (by simp at hl; omega), condF, show news A [] = [] from rfl, List.append_nil]
    | cons x l ih =>
      intro out hx hl
      simp only [List.length_cons] at hl
      rw [forE]
      have hxB := hx x (List.mem_cons_self ..)
      have hrest : ∀ y, y ∈ l → y ∈ B := fun y hy => hx y (List.mem_cons_of_mem _ hy)
      by_cases hxA : x ∈ A
      · have hg : pget kTy rideTy m (x.1, x.2.1) = some x := (hm _ _).2 ⟨hxA, rfl⟩
        rw [hg]
        simp only [Option.isSome_some, Option.getD_some, beq_self_eq_true, Bool.and_self, Bool.not_true, cond_true, cond_false]
        rw [ih out hrest (by omega), news_cons_old hxA]
      · have hg : pget kTy rideTy m (x.1, x.2.1) = none := by
          cases h : pget kTy rideTy m (x.1, x.2.1) with
          | none => rfl
          | some y =>
            obtain ⟨q1, q2⟩ := (hm _ _).1 h
            exact absurd (hk y (List.mem_append_left _ q1) x (List.mem_append_right _ hxB) q2 ▸ q1) hxA
        rw [hg]
        simp only [Option.isSome_none, Bool.not_false, cond_true, cond_false]
        rw [limOk (by decide) (by simp only [List.length_singleton]; omega), condT, ih (out ++ [x]) hrest (by simp; omega), news_cons_new hxA]
        simp
  exact loop B A (fun _ h => h) (by omega)
def lt (x y : Rd) : Prop := x.1 < y.1 ∨ x.1 = y.1 ∧ x.2.1 < y.2.1
def Asc (l : List Rd) : Prop := l.Pairwise lt
theorem lt_asymm {x y : Rd} (h : lt x y) : ¬ lt y x := by unfold lt at *; omega
theorem key_eq {x y : Rd} : key x = key y ↔ x.1 = y.1 ∧ x.2.1 = y.2.1 := by unfold key; simp
theorem lt_total {x y : Rd} (h : key x ≠ key y) : lt x y ∨ lt y x := by
  rw [Ne, key_eq] at h
  unfold lt; omega
theorem sorted_asc {l : List Rd} (hk : Keyed l) (hn : l.Nodup) : Asc (sortD (α := rideTy.den) Mg.cfR l) := by
  obtain ⟨h1, h2⟩ := sortD_perm (α := rideTy.den) Mg.cfR_swo l
  have hn' := h1.nodup_iff.2 hn
  revert h1 h2 hn'
  generalize hs : sortD (α := rideTy.den) Mg.cfR l = s
  intro h1 h2 hn'
  unfold Asc
  rw [List.pairwise_iff_getElem]
  intro i j hi hj hij
  have hlen := h1.length_eq
  have := h2 i j (Nat.zero_le _) hij (by omega)
  have e1 : s.toArray[j]! = s[j] := by simp [hj]
  have e2 : s.toArray[i]! = s[i] := by simp [hi]
  rw [e1, e2, Mg.cfR_lt] at this
  have this : ¬ lt s[j] s[i] := fun h => (of_decide_eq_false this) h
  rcases lt_total (x := s[i]) (y := s[j]) (fun e => by
    have := hk s[i] (h1.mem_iff.1 (List.getElem_mem hi)) s[j] (h1.mem_iff.1 (List.getElem_mem hj)) e
    have := (List.getElem_inj hn').1 this
    omega) with h | h
  · exact h
  · exact absurd h this
theorem asc_ext : ∀ {l m : List Rd}, Asc l → Asc m → (∀ x, x ∈ l ↔ x ∈ m) → l = m
  | [], [], _, _, _ => rfl
  | [], y :: m, _, _, h => by have := (h y).2 (List.mem_cons_self ..); cases this
  | x :: l, [], _, _, h => by have := (h x).1 (List.mem_cons_self ..); cases this
  | x :: l, y :: m, hl, hm, h => by
    unfold Asc at hl hm
    rw [List.pairwise_cons] at hl hm
    have irr : ∀ z : Rd, ¬ lt z z := fun z hz => lt_asymm hz hz
    have exy : x = y := by
      have h1 := (h x).1 (List.mem_cons_self ..)
      have h2 := (h y).2 (List.mem_cons_self ..)
      rcases List.mem_cons.1 h1 with h1 | h1
      · exact h1
      · rcases List.mem_cons.1 h2 with h2 | h2
        · exact h2.symm
        · exact absurd (hl.1 y h2) (lt_asymm (hm.1 x h1))
    subst exy
    rw [asc_ext (l := l) (m := m) hl.2 hm.2 fun z => ?_]
    constructor
    · intro hz
      rcases List.mem_cons.1 ((h z).1 (List.mem_cons_of_mem _ hz)) with e | e
      · subst e; exact absurd (hl.1 z hz) (irr z)
      · exact e
    · intro hz
      rcases List.mem_cons.1 ((h z).2 (List.mem_cons_of_mem _ hz)) with e | e
      · subst e; exact absurd (hm.1 z hz) (irr z)
      · exact e
theorem asc_nodup {l : List Rd} (h : Asc l) : l.Nodup := by
  refine List.Pairwise.imp (fun {a b} hab e => ?_) h
  subst e; exact lt_asymm hab hab
theorem merge_eq (A B : List Rd) (hk : Keyed (A ++ B)) (hA : A.length ≤ 500) (hB : B.length ≤ 500) (hnA : A.Nodup) (hnB : B.Nodup) :
    ∃ out, D15 A B = some (out, 0) ∧ Asc out ∧ (∀ r, r ∈ out ↔ r ∈ A ∨ r ∈ B) ∧ out.length ≤ A.length + B.length := by
  have hlen := news_len A B
  refine ⟨sortD (α := rideTy.den) Mg.cfR (A ++ news A B), ?_, ?_, fun r => ?_, ?_⟩
  · show Mg.mergeD (A, B) = _
    unfold Mg.mergeD
    rw [show Mg.mergeH big (A, B).1 (A, B).2 = _ from head_eq A B hk hA hB, bindS]
    show (bif Nat.ble (A ++ news A B).length 4611686018427387903 then some (sortD (α := rideTy.den) Mg.cfR (A ++ news A B), (0 : Int)) else none) = _
    rw [Nat.ble_eq_true_of_le (by rw [List.length_append]; omega), cond_true]
  · refine sorted_asc (fun x hx y hy => ?_) ?_
    · refine hk x ?_ y ?_
      · rcases List.mem_append.1 hx with h | h
        · exact List.mem_append_left _ h
        · exact List.mem_append_right _ (mem_news.1 h).1
      · rcases List.mem_append.1 hy with h | h
        · exact List.mem_append_left _ h
        · exact List.mem_append_right _ (mem_news.1 h).1
    · rw [List.nodup_append]
      classical
      refine ⟨hnA, hnB.filter _, fun a ha b hb e => ?_⟩
      subst e
      exact (mem_news.1 hb).2 ha
  · rw [(sortD_perm (α := rideTy.den) Mg.cfR_swo _).1.mem_iff, List.mem_append, mem_news]
    constructor
    · rintro (h | h)
      · exact .inl h
      · exact .inr h.1
    · rintro (h | h)
      · exact .inl h
      · by_cases hA : r ∈ A
        · exact .inl hA
        · exact .inr ⟨h, hA⟩
  · rw [(sortD_perm (α := rideTy.den) Mg.cfR_swo _).1.length_eq, List.length_append]; omega
end Go.Proofs.Ytbapfiaglcllnaa.D.Ms
end

section
open Go Go.GD Go.Proofs
namespace Go.Proofs.Ytbapfiaglcllnaa.D.Rl
set_option maxRecDepth 10000
open Up Ul Jn Ms
def IsR (a b : Nat) (r : Rd) : Prop := (∃ j, j < a ∧ r = ride 4 j) ∨ (∃ j, j < b ∧ r = ride 9 j)
theorem ride_inj {g g' : Int} {j j' : Nat} (h : key (ride g j) = key (ride g' j')) : g = g' ∧ j = j' := by
  have := key_eq.1 h
  have h1 : g = g' := this.1
  have h2 : ((j + 1 : Nat) : Int) = ((j' + 1 : Nat) : Int) := this.2
  exact ⟨h1, by omega⟩
theorem keyed_of {a b : Nat} {l : List Rd} (h : ∀ x, x ∈ l → IsR a b x) : Keyed l := by
  intro x hx y hy e
  have key1 : ∀ x, x ∈ l → ∃ g j, x = ride g j := fun x hx => (h x hx).elim (fun ⟨j, _, e⟩ => ⟨4, j, e⟩) (fun ⟨j, _, e⟩ => ⟨9, j, e⟩)
  obtain ⟨g, j, rfl⟩ := key1 x hx
  obtain ⟨g', j', rfl⟩ := key1 y hy
  obtain ⟨rfl, rfl⟩ := ride_inj e
  rfl
theorem isR_cases {a b : Nat} (ha : a ≤ 30) (hb : b ≤ 30) {r : Rd} (h : IsR a b r) : ∃ (g : Int) (j : Nat), j < 30 ∧ (g = 4 ∨ g = 9) ∧ r = ride g j := by
  rcases h with ⟨j, hj, e⟩ | ⟨j, hj, e⟩
  · exact ⟨4, j, by omega, .inl rfl, e⟩
  · exact ⟨9, j, by omega, .inr rfl, e⟩
theorem in37 (r : Rd) (h : (1 ≤ r.1 ∧ r.1 ≤ 9999) ∧ (1 ≤ r.2.2.1 ∧ r.2.2.1 ≤ 9999) ∧ (1 ≤ r.2.2.2.2.1 ∧ r.2.2.2.2.1 ≤ 9999) ∧ (1 ≤ r.2.2.2.2.2.1 ∧ r.2.2.2.2.2.1 ≤ 9999) ∧ (1 ≤ r.2.1 ∧ r.2.1 ≤ 1000000) ∧ (1 ≤ r.2.2.2.1 ∧ r.2.2.2.1 ≤ 1000000) ∧ (0 ≤ r.2.2.2.2.2.2 ∧ r.2.2.2.2.2.2 ≤ 20000000)) :
    D37 r = some true ∧ D38 r = some true := by
  obtain ⟨⟨a1, a2⟩, ⟨b1, b2⟩, ⟨c1, c2⟩, ⟨d1, d2⟩, ⟨e1, e2⟩, ⟨f1, f2⟩, g1, g2⟩ := h
  constructor
  · rw [e37, e74, decide_eq_true (show r.1 ≥ 1 from a1), decide_eq_true a2, cond_true, bindS, Bool.not_true, cond_false, e74, decide_eq_true (show r.2.2.1 ≥ 1 from b1), decide_eq_true b2, cond_true, bindS, Bool.not_true, cond_false,
      e74, decide_eq_true (show r.2.2.2.2.1 ≥ 1 from c1), decide_eq_true c2, cond_true, bindS, Bool.not_true, cond_false, e74, decide_eq_true (show r.2.2.2.2.2.1 ≥ 1 from d1), decide_eq_true d2, cond_true, bindS, Bool.not_true, cond_false,
      decide_eq_false (show ¬ r.2.1 < 1 by omega), cond_false, decide_eq_false (show ¬ r.2.1 > 1000000 by omega), cond_false, decide_eq_false (show ¬ r.2.2.2.1 < 1 by omega), cond_false, decide_eq_false (show ¬ r.2.2.2.1 > 1000000 by omega), cond_false,
      decide_eq_true (show r.2.2.2.2.2.2 ≥ 0 from g1), decide_eq_true g2, cond_true]
  · rw [e38, decide_eq_true (show r.1 ≥ 1 from a1), decide_eq_true a2, decide_eq_true (show r.2.2.1 ≥ 1 from b1), decide_eq_true b2, decide_eq_true (show r.2.2.2.2.1 ≥ 1 from c1), decide_eq_true c2, decide_eq_true (show r.2.2.2.2.2.1 ≥ 1 from d1), decide_eq_true d2,
      decide_eq_true (show r.2.1 ≥ 1 from e1), decide_eq_true e2, decide_eq_true (show r.2.2.2.1 ≥ 1 from f1), decide_eq_true f2, decide_eq_true (show r.2.2.2.2.2.2 ≥ 0 from g1), decide_eq_true g2]
    rfl
theorem in_ride {g : Int} {j : Nat} (hg : g = 4 ∨ g = 9) (hj : j < 30) : D37 (ride g j) = some true ∧ D38 (ride g j) = some true := by
  have hm := Nat.mod_lt (j + 1) (show 0 < 3 by decide)
  have hg1 : 1 ≤ g ∧ g ≤ 9999 := by omega
  refine in37 _ ⟨hg1, ?_, ?_, hg1, ?_, ?_, ?_⟩
  · show 1 ≤ ((1 + (j + 1) % 3 : Nat) : Int) ∧ ((1 + (j + 1) % 3 : Nat) : Int) ≤ 9999
    omega
  · show (1 : Int) ≤ 1 ∧ (1 : Int) ≤ 9999
    omega
  · show 1 ≤ ((j + 1 : Nat) : Int) ∧ ((j + 1 : Nat) : Int) ≤ 1000000
    omega
  · show 1 ≤ ((j + 1 : Nat) : Int) ∧ ((j + 1 : Nat) : Int) ≤ 1000000
    omega
  · show 0 ≤ ((10 * (j + 1) : Nat) : Int) ∧ ((10 * (j + 1) : Nat) : Int) ≤ 20000000
    omega
theorem range37 {g : Int} {j : Nat} (hg : g = 4 ∨ g = 9) (hj : j < 30) : D37 (ride g j) = some true := (in_ride hg hj).1
theorem range38 {g : Int} {j : Nat} (hg : g = 4 ∨ g = 9) (hj : j < 30) : D38 (ride g j) = some true := (in_ride hg hj).2
theorem add_eq {a b : Nat} (ha : a ≤ 30) (hb : b ≤ 30) (store : List Rd) (r : Rd) (hs : Asc store) (hI : ∀ x, x ∈ store → IsR a b x) (hr : IsR a b r) (hl : store.length ≤ 400) :
    ∃ out e, D12 store r = some (out, e, 0) ∧ Asc out ∧ (∀ x, x ∈ out ↔ x ∈ store ∨ x = r) ∧ out.length ≤ store.length + 1 := by
  obtain ⟨g, j, hj, hg, er⟩ := isR_cases ha hb hr
  obtain ⟨out, h1, h2, h3, h4⟩ := merge_eq store [r] (keyed_of (a := a) (b := b) fun x hx => by
    rcases List.mem_append.1 hx with h | h
    · exact hI x h
    · rw [List.mem_singleton.1 h]; exact hr) (by omega) (by simp) (asc_nodup hs) (by simp)
  refine ⟨out, decide ((List.length out : Int) > (List.length store : Int)), ?_, h2, fun x => by rw [h3 x, List.mem_singleton], by simpa using h4⟩
  rw [e12, er, range37 hg hj, ← er, bindS, Bool.not_true, cond_false, h1, bindS]
  rfl
theorem right_eq {a b : Nat} (ha : a ≤ 30) (hb : b ≤ 30) (l : List Rd) (hs : Asc l) (hI : ∀ x, x ∈ l → IsR a b x) (hl : l.length ≤ 400) : D13 l = some 0 := by
  rw [e13, decide_eq_false (by omega), cond_false, f13_1 _ (by rw [maxLen_val]; omega)]
  refine forI_rule (fun _ _ => True) (fun o => o = some 0) l (fun pre x post e s _ K hK => ?_) (fun s _ => rfl) trivial
  have hx : x ∈ l := by rw [e]; simp
  obtain ⟨g, j, hj, hg, er⟩ := isR_cases ha hb (hI x hx)
  have h38 : D38 x = some true := by rw [er]; exact range38 hg hj
  simp only [h38, bindS, Bool.not_true, cond_false]
  cases hp : pre.length with
  | zero => exact hK () trivial
  | succ k =>
    have hlen : l.length = k + 1 + post.length + 1 := by rw [e, List.length_append, hp, List.length_cons]; omega
    have hk : k < l.length := by omega
    rw [decide_eq_true (show (((k + 1 : Nat)) : Int) > 0 by omega), cond_true, wrap_i64 (by omega) (by omega), show ((k + 1 : Nat) : Int) - 1 = (k : Int) by omega, idx_get hk, bindS]
    have hkx : lt l[k] x := by
      unfold Asc at hs
      rw [List.pairwise_iff_getElem] at hs
      have h1 : k + 1 < l.length := by omega
      have := hs k (k + 1) hk h1 (by omega)
      have e2 : l[k + 1] = x := by
        have : l[k + 1]? = some x := by rw [e, List.getElem?_append_right (by omega), hp]; simp
        rw [List.getElem?_eq_getElem h1] at this
        injection this
      rw [e2] at this
      exact this
    have h39 : D39 l[k] x = some true := by
      rw [e39]
      rcases hkx with h | ⟨h, h'⟩
      · rw [decide_eq_true h]; rfl
      · by_cases h2 : l[k].1 < x.1
        · rw [decide_eq_true h2]; rfl
        · rw [decide_eq_false h2, cond_false, show (l[k].1 == x.1) = true by simpa using h, cond_true, decide_eq_true h']
    rw [h39, bindS, Bool.not_true, cond_false]
    exact hK () trivial
theorem same_refl (a : List Rd) (h : a.length ≤ 100000) : D9 a a = some true := by
  rw [e9, bne_self_eq_false, condF, f9_1 a a (by rw [maxLen_val]; omega)]
  refine forI_rule (fun _ _ => True) (fun r => r = some true) a (fun pre x post e s _ K hK => ?_) (fun _ _ => rfl) trivial
  have hk : pre.length < a.length := by rw [e]; simp
  have hx : a[pre.length] = x := by simp [e]
  rw [idx_get hk, hx]
  simp only [bindS, beq_self_eq_true, Bool.and_self, Bool.not_true, condF]
  exact hK () trivial
def upF (g : Int) (n : Int) (el : Rd) : Int := bif el.1 == g then bif el.2.1 == IntKind.i64.wrap (n + 1) then IntKind.i64.wrap (n + 1) else n else n
theorem upto_fold (g : Int) (hg : g = 4 ∨ g = 9) : ∀ (l : List Rd) (m : Nat), m + l.length ≤ 1000000 → Asc l → (∀ x, x ∈ l → x.1 = g → ∃ j, m ≤ j ∧ x = ride g j) →
    ∃ G : Nat, l.foldl (upF g) (m : Int) = (G : Int) ∧ m ≤ G ∧ (∀ j, m ≤ j → j < G → ride g j ∈ l) ∧ ride g G ∉ l
  | [], m, _, _, _ => ⟨m, rfl, Nat.le_refl _, fun j h1 h2 => absurd h2 (by omega), fun h => by cases h⟩
  | x :: l, m, hm, hs, hI => by
    unfold Asc at hs
    rw [List.pairwise_cons] at hs
    obtain ⟨hx, hs⟩ := hs
    simp only [List.length_cons] at hm
    rw [List.foldl_cons]
    by_cases hxg : x.1 = g
    · obtain ⟨j0, hj0, ex⟩ := hI x (List.mem_cons_self ..) hxg
      have hlater : ∀ y, y ∈ l → y.1 = g → ∃ j, j0 + 1 ≤ j ∧ y = ride g j := fun y hy hyg => by
        obtain ⟨j, hj, ey⟩ := hI y (List.mem_cons_of_mem _ hy) hyg
        refine ⟨j, ?_, ey⟩
        have := hx y hy
        rw [ex, ey] at this
        rcases this with h | ⟨_, h⟩
        · have h : g < g := h
          omega
        · have h : ((j0 + 1 : Nat) : Int) < ((j + 1 : Nat) : Int) := h
          omega
      by_cases hjm : j0 = m
      · have e1 : upF g (m : Int) x = ((m + 1 : Nat) : Int) := by
          have h1 : (x.1 == g) = true := by simpa using hxg
          have h2 : x.2.1 = ((j0 + 1 : Nat) : Int) := by rw [ex]; rfl
          have h3 : IntKind.i64.wrap ((m : Int) + 1) = ((m + 1 : Nat) : Int) := by rw [wrap_i64 (by omega) (by omega)]; omega
          rw [upF, h1, cond_true, h3, h2, hjm, beq_self_eq_true, cond_true]
        rw [e1]
        obtain ⟨G, q1, q2, q3, q4⟩ := upto_fold g hg l (m + 1) (by omega) hs (fun y hy hyg => by
          obtain ⟨j, h1, h2⟩ := hlater y hy hyg
          exact ⟨j, by omega, h2⟩)
        refine ⟨G, q1, by omega, fun j h1 h2 => ?_, fun h => ?_⟩
        · rcases Nat.eq_or_lt_of_le h1 with e | e
          · rw [← e, ← hjm, ← ex]; exact List.mem_cons_self ..
          · exact List.mem_cons_of_mem _ (q3 j e h2)
        · rcases List.mem_cons.1 h with h | h
          · have := (ride_inj (show key (ride g G) = key (ride g j0) by rw [h, ex])).2
            omega
          · exact q4 h
      · have e1 : upF g (m : Int) x = (m : Int) := by
          have h1 : (x.1 == g) = true := by simpa using hxg
          have h2 : x.2.1 = ((j0 + 1 : Nat) : Int) := by rw [ex]; rfl
          have h3 : IntKind.i64.wrap ((m : Int) + 1) = ((m + 1 : Nat) : Int) := by rw [wrap_i64 (by omega) (by omega)]; omega
          have h4 : (((j0 + 1 : Nat) : Int) == ((m + 1 : Nat) : Int)) = false := by
            rw [beq_eq_false_iff_ne]; omega
          rw [upF, h1, cond_true, h3, h2, h4, cond_false]
        rw [e1]
        obtain ⟨G, q1, q2, q3, q4⟩ := upto_fold g hg l m (by omega) hs (fun y hy hyg => by
          obtain ⟨j, h1, h2⟩ := hlater y hy hyg
          exact ⟨j, by omega, h2⟩)
        have hGm : G = m := by
          rcases Nat.eq_or_lt_of_le q2 with e | e
          · exact e.symm
          · have := q3 m (Nat.le_refl _) e
            obtain ⟨j, h1, h2⟩ := hlater _ this rfl
            have := (ride_inj (congrArg key h2)).2
            omega
        subst hGm
        refine ⟨G, q1, Nat.le_refl _, fun j h1 h2 => absurd h2 (by omega), fun h => ?_⟩
        rcases List.mem_cons.1 h with h | h
        · have := (ride_inj (show key (ride g G) = key (ride g j0) by rw [h, ex])).2
          omega
        · exact q4 h
    · have e1 : upF g (m : Int) x = (m : Int) := by
        have h1 : (x.1 == g) = false := by simpa using hxg
        rw [upF, h1, cond_false]
      rw [e1]
      obtain ⟨G, q1, q2, q3, q4⟩ := upto_fold g hg l m (by omega) hs (fun y hy hyg => hI y (List.mem_cons_of_mem _ hy) hyg)
      refine ⟨G, q1, q2, fun j h1 h2 => List.mem_cons_of_mem _ (q3 j h1 h2), fun h => ?_⟩
      rcases List.mem_cons.1 h with h | h
      · exact hxg (by rw [← h]; rfl)
      · exact q4 h
theorem upto_eq (g : Int) (hg : g = 4 ∨ g = 9) (l : List Rd) (hl : l.length ≤ 400) (hs : Asc l) (hI : ∀ x, x ∈ l → x.1 = g → ∃ j, x = ride g j) {G : Nat} (h1 : ∀ j, j < G → ride g j ∈ l) (h2 : ride g G ∉ l) : D14 l g = some (G : Int) := by
  rw [e14, f14_1 _ _ _ (by rw [maxLen_val]; omega)]
  have e : ∀ (l : List Rd) (n : Int), forE (fun el (n : Int) K => (bif (el.1 == g) then (bif (el.2.1 == IntKind.i64.wrap (n + 1)) then K (IntKind.i64.wrap (n + 1)) else K n) else K n : Option (Int))) (fun (n : Int) => (some n : Option (Int))) l n = some (l.foldl (upF g) n) := by
    intro l
    induction l with
    | nil => intro n; rfl
    | cons x l ih =>
      intro n
      rw [forE, List.foldl_cons, upF]
      cases (x.1 == g) with
      | false => exact ih n
      | true =>
        rw [cond_true, cond_true]
        cases (x.2.1 == IntKind.i64.wrap (n + 1)) with
        | false => exact ih n
        | true => exact ih _
  rw [e]
  obtain ⟨G', q1, _, q3, q4⟩ := upto_fold g hg l 0 (by omega) hs (fun x hx hxg => by obtain ⟨j, e⟩ := hI x hx hxg; exact ⟨j, Nat.zero_le _, e⟩)
  have q1 : l.foldl (upF g) 0 = (G' : Int) := q1
  rw [q1]
  have : G' = G := by
    rcases Nat.lt_trichotomy G' G with h | h | h
    · exact absurd (h1 G' h) q4
    · exact h
    · exact absurd (q3 G (Nat.zero_le _) h) h2
  rw [this]
end Go.Proofs.Ytbapfiaglcllnaa.D.Rl
end

section
set_option linter.unusedVariables false
open Go Go.GD Go.Proofs
namespace Go.Proofs.Ytbapfiaglcllnaa.D.Rl
set_option maxRecDepth 10000
open Up Ul Jn Ms
abbrev LR := List ((Int) × ((Int) × ((Int) × ((Int) × ((Int) × ((Int) × (Int)))))))
abbrev St3 := ((Int) × ((Int) × (LR × LR))) × ((Int) × ((Int) × (LR × LR))) × LR × LR
noncomputable def bod3 (a1 b1 : Int) (first_ second : LR) : Int → St3 → (St3 → Option Bool) → Option Bool :=
  fun  el ((i, k_, store, seen) : ((Int) × ((Int) × (LR × LR))) × ((Int) × ((Int) × (LR × LR))) × LR × LR) K =>
    (bif (IntKind.i64.wrap (a1 + b1) == 0) then (
      bif decide ((List.length i.2.2.1 : Int) > a1) then some false
      else bif decide ((List.length k_.2.2.1 : Int) > b1) then some false
      else (D13 store).bind fun r8 =>
      bif (r8 != 0) then some false
      else bif (decide (0 ≤ (0 : Int)) && (decide ((0 : Int) ≤ (List.length i.2.2.1 : Int)) && decide (((List.length i.2.2.1 : Int) : Int) ≤ (List.length first_ : Int)))) then (
        (D9 i.2.2.1 (List.drop (Int.toNat 0) (List.take (Int.toNat (List.length i.2.2.1 : Int)) first_))).bind fun r9 =>
        bif (!r9) then some false
        else bif (decide (0 ≤ (0 : Int)) && (decide ((0 : Int) ≤ (List.length k_.2.2.1 : Int)) && decide (((List.length k_.2.2.1 : Int) : Int) ≤ (List.length second : Int)))) then (
          (D9 k_.2.2.1 (List.drop (Int.toNat 0) (List.take (Int.toNat (List.length k_.2.2.1 : Int)) second))).bind fun r10 =>
          bif (!r10) then some false
          else (D14 store 4).bind fun r11 =>
          bif (r11 != (List.length i.2.2.1 : Int)) then some false
          else (D14 store 9).bind fun r12 =>
          bif (r12 != (List.length k_.2.2.1 : Int)) then some false
          else lp3_3 big first_ second store seen 0)
        else none)
      else none)
    else bif (IntKind.i64.wrap (a1 + b1) == 0) then none
    else bif decide (Int.tmod el (IntKind.i64.wrap (a1 + b1)) < 0) then (
      bif decide (IntKind.i64.wrap ((IntKind.i64.wrap ((Int.tmod el (IntKind.i64.wrap (a1 + b1))) + a1)) + b1) < a1) then (
        (idx first_ (IntKind.i64.wrap ((IntKind.i64.wrap ((Int.tmod el (IntKind.i64.wrap (a1 + b1))) + a1)) + b1))).bind fun e1 =>
        (D11 i e1).bind fun r8 =>
        (D12 store e1).bind fun r9 =>
        bif (r9.2.2 != 0) then some false
        else bif (Nat.ble ((List.length seen + List.length [e1]) * 56) appendLimit && Nat.ble (List.length seen + List.length [e1]) 9223372036854775807) then K (r8.1, k_, r9.1, seen ++ [e1])
        else none)
      else (idx second (IntKind.i64.wrap ((IntKind.i64.wrap ((IntKind.i64.wrap ((Int.tmod el (IntKind.i64.wrap (a1 + b1))) + a1)) + b1)) - a1))).bind fun e1 =>
      (D11 k_ e1).bind fun r8 =>
      (D12 store e1).bind fun r9 =>
      bif (r9.2.2 != 0) then some false
      else bif (Nat.ble ((List.length seen + List.length [e1]) * 56) appendLimit && Nat.ble (List.length seen + List.length [e1]) 9223372036854775807) then K (i, r8.1, r9.1, seen ++ [e1])
      else none)
    else bif decide (Int.tmod el (IntKind.i64.wrap (a1 + b1)) < a1) then (
      (idx first_ (Int.tmod el (IntKind.i64.wrap (a1 + b1)))).bind fun e1 =>
      (D11 i e1).bind fun r8 =>
      (D12 store e1).bind fun r9 =>
      bif (r9.2.2 != 0) then some false
      else bif (Nat.ble ((List.length seen + List.length [e1]) * 56) appendLimit && Nat.ble (List.length seen + List.length [e1]) 9223372036854775807) then K (r8.1, k_, r9.1, seen ++ [e1])
      else none)
    else (idx second (IntKind.i64.wrap ((Int.tmod el (IntKind.i64.wrap (a1 + b1))) - a1))).bind fun e1 =>
    (D11 k_ e1).bind fun r8 =>
    (D12 store e1).bind fun r9 =>
    bif (r9.2.2 != 0) then some false
    else bif (Nat.ble ((List.length seen + List.length [e1]) * 56) appendLimit && Nat.ble (List.length seen + List.length [e1]) 9223372036854775807) then K (i, r8.1, r9.1, seen ++ [e1])
    else none : Option (Bool))
noncomputable def fin3 (a1 b1 : Int) (first_ second : LR) : St3 → Option Bool :=
  fun ((i, k_, store, seen) : ((Int) × ((Int) × (LR × LR))) × ((Int) × ((Int) × (LR × LR))) × LR × LR) =>
    (bif decide ((List.length i.2.2.1 : Int) > a1) then some false
    else bif decide ((List.length k_.2.2.1 : Int) > b1) then some false
    else (D13 store).bind fun r8 =>
    bif (r8 != 0) then some false
    else bif (decide (0 ≤ (0 : Int)) && (decide ((0 : Int) ≤ (List.length i.2.2.1 : Int)) && decide (((List.length i.2.2.1 : Int) : Int) ≤ (List.length first_ : Int)))) then (
      (D9 i.2.2.1 (List.drop (Int.toNat 0) (List.take (Int.toNat (List.length i.2.2.1 : Int)) first_))).bind fun r9 =>
      bif (!r9) then some false
      else bif (decide (0 ≤ (0 : Int)) && (decide ((0 : Int) ≤ (List.length k_.2.2.1 : Int)) && decide (((List.length k_.2.2.1 : Int) : Int) ≤ (List.length second : Int)))) then (
        (D9 k_.2.2.1 (List.drop (Int.toNat 0) (List.take (Int.toNat (List.length k_.2.2.1 : Int)) second))).bind fun r10 =>
        bif (!r10) then some false
        else (D14 store 4).bind fun r11 =>
        bif (r11 != (List.length i.2.2.1 : Int)) then some false
        else (D14 store 9).bind fun r12 =>
        bif (r12 != (List.length k_.2.2.1 : Int)) then some false
        else lp3_6 big first_ second store seen 0)
      else none)
    else none : Option (Bool))
theorem lp7_eq (a1 b1 : Int) (arrivals1 : List Int) (first_ second : LR) (i k_ : (Int) × ((Int) × (LR × LR))) (store seen : LR) (hl : (arrivals1).length ≤ maxLen) :
    lp3_7 big a1 b1 arrivals1 first_ second i k_ store seen 0 = forE (bod3 a1 b1 first_ second) (fin3 a1 b1 first_ second) arrivals1 (i, k_, store, seen) := f3_7 a1 b1 arrivals1 first_ second i k_ store seen hl
theorem lp15_eq (a1 b1 : Int) (arrivals1 : List Int) (first_ second : LR) (i k_ : (Int) × ((Int) × (LR × LR))) (store seen : LR) :
    lp3_15 big a1 b1 arrivals1 first_ second i k_ store seen 0 = lp3_7 big a1 b1 arrivals1 first_ second i k_ store seen 0 := by kernel_rfl
theorem lp6_eq (first_ second store seen : LR) : lp3_6 big first_ second store seen 0 = lp3_3 big first_ second store seen 0 := by kernel_rfl
theorem consec_mk (g : Int) (n : Nat) : consec (mk g n) g 1 := fun k hk => by
  have h : k < n := by rw [mk_len] at hk; exact hk
  have := mk_get g n k h
  rw [List.getElem?_eq_getElem hk] at this
  injection this with this
  rw [this]
  refine ⟨rfl, ?_⟩
  show ((k + 1 : Nat) : Int) = 1 + (k : Int)
  omega
theorem at_mk {g : Int} {n j : Nat} {e : Rd} (h : (mk g n)[j]? = some e) : j < n ∧ e = ride g j := by
  have hj : j < n := by
    have := (List.getElem?_eq_some_iff.1 h).1
    rw [mk_len] at this; exact this
  rw [mk_get g n j hj] at h
  injection h with h
  exact ⟨hj, h.symm⟩
theorem mem_mk {g : Int} {n : Nat} {x : Rd} : x ∈ mk g n ↔ ∃ j, j < n ∧ x = ride g j := by
  unfold mk
  rw [List.mem_map]
  constructor
  · rintro ⟨j, hj, e⟩; exact ⟨j, List.mem_range.1 hj, e.symm⟩
  · rintro ⟨j, hj, e⟩; exact ⟨j, List.mem_range.2 hj, e.symm⟩
theorem asc_mk (g : Int) (n : Nat) : Asc (mk g n) := by
  unfold Asc
  rw [List.pairwise_iff_getElem]
  intro i j hi hj hij
  have h1 := (consec_mk g n) i hi
  have h2 := (consec_mk g n) j hj
  refine .inr ⟨h1.1.trans h2.1.symm, ?_⟩
  rw [h1.2, h2.2]; omega
theorem asc_both (a b : Nat) : Asc (mk 4 a ++ mk 9 b) := by
  unfold Asc
  rw [List.pairwise_append]
  refine ⟨asc_mk 4 a, asc_mk 9 b, fun x hx y hy => ?_⟩
  obtain ⟨j, _, rfl⟩ := mem_mk.1 hx
  obtain ⟨j', _, rfl⟩ := mem_mk.1 hy
  exact .inl (by show (4 : Int) < 9; decide)
theorem isR_both {a b : Nat} {x : Rd} : x ∈ mk 4 a ++ mk 9 b ↔ IsR a b x := by
  rw [List.mem_append, mem_mk, mem_mk]; rfl
def IB (g : Int) (n m : Nat) (seen : List Rd) (i : Inb) (G : Nat) : Prop :=
  ∃ E, i = inb g (mk g n) G E ∧ G ≤ n ∧ later (mk g n) G E ∧ asc E ∧ E.length ≤ m ∧ ∀ j, Has (mk g n) G E j ↔ j < n ∧ ride g j ∈ seen
structure Inv (a b m : Nat) (i k : Inb) (store seen : List Rd) : Prop where
  i4 : ∃ G, IB 4 a m seen i G
  i9 : ∃ G, IB 9 b m seen k G
  asc : Asc store
  mem : ∀ x, x ∈ store ↔ x ∈ seen
  isr : ∀ x, x ∈ seen → IsR a b x
  len : store.length ≤ m
  cnt : seen.length = m
theorem ib_same {g : Int} {n m : Nat} {seen : List Rd} {i : Inb} {G : Nat} (h : IB g n m seen i G) {r : Rd} (hr : ∀ j, ride g j ≠ r) : IB g n (m + 1) (seen ++ [r]) i G := by
  obtain ⟨E, h1, h2, h3, h4, h5, h6⟩ := h
  refine ⟨E, h1, h2, h3, h4, by omega, fun j => (h6 j).trans ?_⟩
  rw [List.mem_append, List.mem_singleton]
  constructor
  · rintro ⟨q1, q2⟩; exact ⟨q1, .inl q2⟩
  · rintro ⟨q1, q2 | q2⟩
    · exact ⟨q1, q2⟩
    · exact absurd q2 (hr j)
theorem ib_recv {g : Int} {n m : Nat} (hn : n ≤ 30) (hm : m ≤ 200) {seen : List Rd} {i : Inb} {G : Nat} (h : IB g n m seen i G) {j : Nat} (hj : j < n) :
    D11 i (ride g j) = some (recv i (ride g j), (recv i (ride g j)).2.1 - 1) ∧ ∃ G', IB g n (m + 1) (seen ++ [ride g j]) (recv i (ride g j)) G' := by
  obtain ⟨E, rfl, h2, h3, h4, h5, h6⟩ := h
  constructor
  · refine recv11 _ _ ⟨?_, ?_, ?_⟩
    · show ((mk g n).take G).length + E.length ≤ 40000
      rw [List.length_take, mk_len]; omega
    · show -1000000 ≤ (G : Int) + 1
      omega
    · show (G : Int) + 1 + (E.length : Int) ≤ 1900000
      omega
  · obtain ⟨G', E', q1, q2, q3, q4, q5, q6⟩ := recv_has g (mk g n) (consec_mk g n) G E (by rw [mk_len]; exact h2) h3 h4 (mk_get g n j hj)
    refine ⟨G', E', q1, by rw [mk_len] at q2; exact q2, q3, q4, by omega, fun l => (q6 l).trans ?_⟩
    rw [h6 l, List.mem_append, List.mem_singleton]
    constructor
    · rintro (⟨c1, c2⟩ | c)
      · exact ⟨c1, .inl c2⟩
      · subst c; exact ⟨hj, .inr rfl⟩
    · rintro ⟨c1, c2 | c2⟩
      · exact .inl ⟨c1, c2⟩
      · exact .inr (ride_inj (congrArg key c2)).2
theorem there_loop (F : LR × LR × LR × LR × Int → Option Bool) (first second store seen0 : LR) (j : Nat) (hj : j < store.length) : ∀ (l : List Rd) (t : Bool), (t = true ∨ store[j] ∈ l) → F (first, second, store, seen0, IntKind.i64.wrap ((j : Int) + 1)) = some true →
    forE (fun el (there : Bool) K =>
      (bif there then K true
      else (idx store (j : Int)).bind fun e1 =>
      K ((el.1 == e1.1) && ((el.2.1 == e1.2.1) && ((el.2.2.1 == e1.2.2.1) && ((el.2.2.2.1 == e1.2.2.2.1) && ((el.2.2.2.2.1 == e1.2.2.2.2.1) && ((el.2.2.2.2.2.1 == e1.2.2.2.2.2.1) && (el.2.2.2.2.2.2 == e1.2.2.2.2.2.2))))))) : Option (Bool)))
      (fun (there : Bool) => (bif (!there) then some false else F (first, second, store, seen0, IntKind.i64.wrap ((j : Int) + 1)) : Option (Bool))) l t = some true
  | [], t, h, hF => by
    rcases h with rfl | h
    · exact hF
    · cases h
  | x :: l, t, h, hF => by
    rw [forE]
    cases t with
    | true =>
      rw [cond_true]
      exact there_loop F first second store seen0 j hj l true (.inl rfl) hF
    | false =>
      rw [cond_false]
      refine Eq.trans (congrArg (fun o => Option.bind o _) (idx_get hj)) ?_
      show forE _ _ l (rdEq x store[j]) = some true
      refine there_loop F first second store seen0 j hj l _ ?_ hF
      rcases h with h | h
      · cases h
      · rcases List.mem_cons.1 h with h | h
        · exact .inl (rdEq_iff.2 h.symm)
        · exact .inr h
theorem last_ok {a b : Nat} (ha : a ≤ 30) (hb : b ≤ 30) (store seen : List Rd) (hs : Asc store) (hm : ∀ x, x ∈ store → x ∈ seen) (hI : ∀ x, x ∈ seen → IsR a b x) (hl : store.length ≤ 200) (hl2 : seen.length ≤ 200) :
    lp3_3 big (mk 4 a) (mk 9 b) store seen 0 = some true := by
  unfold lp3_3
  refine iter_eq (fun s : LR × LR × LR × LR × Int => ∃ j : Nat, j ≤ store.length ∧ s = (mk 4 a, mk 9 b, store, seen, (j : Int))) (fun s => store.length - s.2.2.2.2.toNat) (fun _ => true) (fun F s hI' hF => ?_) big (mk 4 a, mk 9 b, store, seen, 0) ⟨0, Nat.zero_le _, rfl⟩
    (by show store.length - 0 < big; unfold big; omega)
  obtain ⟨j, hj, rfl⟩ := hI'
  rcases Nat.lt_or_ge j store.length with h | h
  · simp only [decide_eq_true (show (j : Int) < (store.length : Int) by omega), cond_true]
    rw [f3_1 _ _ _ _ _ _ _ (by rw [maxLen_val]; omega)]
    refine there_loop F (mk 4 a) (mk 9 b) store seen j h seen false (.inr (hm _ (List.getElem_mem h))) ?_
    rw [wrap_i64 (by omega) (by omega)]
    refine hF _ ⟨j + 1, by omega, rfl⟩ ?_
    show store.length - ((j : Int) + 1).toNat < store.length - (j : Int).toNat
    omega
  · simp only [decide_eq_false (show ¬ (j : Int) < (store.length : Int) by omega), cond_false]
    have l1 := mk_len 4 a
    have l2 := mk_len 9 b
    rw [limOk (by decide) (by rw [l1]; simp; omega), limOk (by decide) (by rw [List.length_append, l1, l2]; simp; omega), cond_true, cond_true]
    rw [List.nil_append]
    have hall : ∀ x, x ∈ store ++ (mk 4 a ++ mk 9 b) → IsR a b x := fun x hx => by
      rcases List.mem_append.1 hx with h | h
      · exact hI x (hm x h)
      · exact isR_both.1 h
    obtain ⟨out, h1, h2, h3, h4⟩ := merge_eq store (mk 4 a ++ mk 9 b) (keyed_of hall) (by omega) (by rw [List.length_append, l1, l2]; omega) (asc_nodup hs) (asc_nodup (asc_both a b))
    have e : out = mk 4 a ++ mk 9 b := asc_ext h2 (asc_both a b) fun x => by
      rw [h3 x]
      constructor
      · rintro (h | h)
        · exact isR_both.2 (hI x (hm x h))
        · exact h
      · exact .inr
    rw [h1, bindS, e]
    simp only [beq_self_eq_true, cond_true]
    rw [same_refl _ (by rw [List.length_append, l1, l2]; omega), bindS]
theorem fin_ok {a b m : Nat} (ha : a ≤ 30) (hb : b ≤ 30) (hm : m ≤ 200) {i k : Inb} {store seen : List Rd} (h : Inv a b m i k store seen) : fin3 (a : Int) (b : Int) (mk 4 a) (mk 9 b) (i, k, store, seen) = some true := by
  obtain ⟨G, E, rfl, g2, g3, g4, g5, g6⟩ := h.i4
  obtain ⟨H, E', rfl, k2, k3, k4, k5, k6⟩ := h.i9
  have hlen := h.len
  have hcnt := h.cnt
  have isr : ∀ x, x ∈ store → IsR a b x := fun x hx => h.isr x ((h.mem x).1 hx)
  have t4 : (mk 4 a).take G = mk 4 G := mk_take 4 g2
  have t9 : (mk 9 b).take H = mk 9 H := mk_take 9 k2
  have u4 : D14 store 4 = some (G : Int) := by
    refine upto_eq 4 (.inl rfl) store (by omega) h.asc (fun x hx hx4 => ?_) (fun j hj => (h.mem _).2 ((g6 j).1 (.inl hj)).2) (fun hG => ?_)
    · rcases isr x hx with ⟨j, _, e⟩ | ⟨j, _, e⟩
      · exact ⟨j, e⟩
      · rw [e] at hx4; exact absurd (show (9 : Int) = 4 from hx4) (by decide)
    · refine has_first (consec_mk 4 a) g3 ((g6 G).2 ⟨?_, (h.mem _).1 hG⟩)
      rcases isr _ hG with ⟨j, hj, e⟩ | ⟨j, hj, e⟩
      · have := (ride_inj (congrArg key e)).2; omega
      · exact absurd (ride_inj (congrArg key e)).1 (by decide)
  have u9 : D14 store 9 = some (H : Int) := by
    refine upto_eq 9 (.inr rfl) store (by omega) h.asc (fun x hx hx9 => ?_) (fun j hj => (h.mem _).2 ((k6 j).1 (.inl hj)).2) (fun hH => ?_)
    · rcases isr x hx with ⟨j, _, e⟩ | ⟨j, _, e⟩
      · rw [e] at hx9; exact absurd (show (4 : Int) = 9 from hx9) (by decide)
      · exact ⟨j, e⟩
    · refine has_first (consec_mk 9 b) k3 ((k6 H).2 ⟨?_, (h.mem _).1 hH⟩)
      rcases isr _ hH with ⟨j, hj, e⟩ | ⟨j, hj, e⟩
      · exact absurd (ride_inj (congrArg key e)).1 (by decide)
      · have := (ride_inj (congrArg key e)).2; omega
  unfold fin3
  show (bif decide ((List.length ((mk 4 a).take G) : Int) > a) then some false
    else bif decide ((List.length ((mk 9 b).take H) : Int) > b) then some false
    else (D13 store).bind fun r8 =>
    bif (r8 != 0) then some false
    else bif (decide (0 ≤ (0 : Int)) && (decide ((0 : Int) ≤ (List.length ((mk 4 a).take G) : Int)) && decide (((List.length ((mk 4 a).take G) : Int) : Int) ≤ (List.length (mk 4 a) : Int)))) then (
      (D9 ((mk 4 a).take G) (List.drop (Int.toNat 0) (List.take (Int.toNat (List.length ((mk 4 a).take G) : Int)) (mk 4 a)))).bind fun r9 =>
      bif (!r9) then some false
      else bif (decide (0 ≤ (0 : Int)) && (decide ((0 : Int) ≤ (List.length ((mk 9 b).take H) : Int)) && decide (((List.length ((mk 9 b).take H) : Int) : Int) ≤ (List.length (mk 9 b) : Int)))) then (
        (D9 ((mk 9 b).take H) (List.drop (Int.toNat 0) (List.take (Int.toNat (List.length ((mk 9 b).take H) : Int)) (mk 9 b)))).bind fun r10 =>
        bif (!r10) then some false
        else (D14 store 4).bind fun r11 =>
        bif (r11 != (List.length ((mk 4 a).take G) : Int)) then some false
        else (D14 store 9).bind fun r12 =>
        bif (r12 != (List.length ((mk 9 b).take H) : Int)) then some false
        else lp3_6 big (mk 4 a) (mk 9 b) store seen 0)
      else none)
    else none : Option Bool) = some true
  rw [t4, t9, mk_len, mk_len, mk_len, mk_len, Int.toNat_natCast, Int.toNat_natCast, t4, t9, show Int.toNat 0 = 0 from rfl, List.drop_zero, List.drop_zero]
  rw [decide_eq_false (show ¬ (G : Int) > (a : Int) by omega), decide_eq_false (show ¬ (H : Int) > (b : Int) by omega), cond_false, cond_false, right_eq ha hb store h.asc isr (by omega), bindS, bne_self_eq_false, cond_false]
  have c1 : (decide (0 ≤ (0 : Int)) && (decide ((0 : Int) ≤ (G : Int)) && decide ((G : Int) ≤ (a : Int)))) = true := by simp only [Bool.and_eq_true, decide_eq_true_eq]; omega
  have c2 : (decide (0 ≤ (0 : Int)) && (decide ((0 : Int) ≤ (H : Int)) && decide ((H : Int) ≤ (b : Int)))) = true := by simp only [Bool.and_eq_true, decide_eq_true_eq]; omega
  rw [c1, c2, cond_true, cond_true, same_refl _ (by rw [mk_len]; omega), same_refl _ (by rw [mk_len]; omega), bindS, bindS, Bool.not_true, cond_false, cond_false, u4, bindS, bne_self_eq_false, cond_false, u9, bindS, bne_self_eq_false, cond_false, lp6_eq]
  exact last_ok ha hb store seen h.asc (fun x hx => (h.mem x).1 hx) h.isr (by omega) (by omega)
theorem arrive4 {a b m : Nat} (ha : a ≤ 30) (hb : b ≤ 30) (hm : m < 120) {i k : Inb} {store seen : List Rd} (h : Inv a b m i k store seen) {K : St3 → Option Bool}
    (hK : ∀ i k store seen, Inv a b (m + 1) i k store seen → K (i, k, store, seen) = some true) {j : Nat} (hj : j < a) :
    ((idx (mk 4 a) (j : Int)).bind fun e1 =>
      (D11 i e1).bind fun r8 =>
      (D12 store e1).bind fun r9 =>
      bif (r9.2.2 != 0) then some false
      else bif (Nat.ble ((List.length seen + List.length [e1]) * 56) appendLimit && Nat.ble (List.length seen + List.length [e1]) 9223372036854775807) then K (r8.1, k, r9.1, seen ++ [e1])
      else none) = some true := by
  have hjl : j < (mk 4 a).length := by rw [mk_len]; exact hj
  obtain ⟨G, hG⟩ := h.i4
  obtain ⟨H, hH⟩ := h.i9
  have hlen := h.len
  have hcnt := h.cnt
  have hir : IsR a b (ride 4 j) := .inl ⟨j, hj, rfl⟩
  have isr : ∀ x, x ∈ store → IsR a b x := fun x hx => h.isr x ((h.mem x).1 hx)
  obtain ⟨q1, G', hG'⟩ := ib_recv ha (by omega) hG hj
  obtain ⟨out, ex, p1, p2, p3, p4⟩ := add_eq ha hb store (ride 4 j) h.asc isr hir (by omega)
  rw [idx_get hjl, (at_mk (List.getElem?_eq_getElem hjl)).2, bindS, q1, bindS, p1, bindS]
  simp only [bne_self_eq_false, cond_false]
  rw [limOk (by decide) (by simp; omega), cond_true]
  refine hK _ _ _ _ ⟨⟨G', hG'⟩, ⟨H, ib_same hH fun l e => absurd (ride_inj (congrArg key e)).1 (by decide)⟩, p2, fun x => ?_, fun x hx => ?_, by omega, by simp [hcnt]⟩
  · rw [p3 x, h.mem x, List.mem_append, List.mem_singleton]
  · rcases List.mem_append.1 hx with hx | hx
    · exact h.isr x hx
    · rw [List.mem_singleton.1 hx]; exact hir
theorem arrive9 {a b m : Nat} (ha : a ≤ 30) (hb : b ≤ 30) (hm : m < 120) {i k : Inb} {store seen : List Rd} (h : Inv a b m i k store seen) {K : St3 → Option Bool}
    (hK : ∀ i k store seen, Inv a b (m + 1) i k store seen → K (i, k, store, seen) = some true) {j : Nat} (hj : j < b) :
    ((idx (mk 9 b) (j : Int)).bind fun e1 =>
      (D11 k e1).bind fun r8 =>
      (D12 store e1).bind fun r9 =>
      bif (r9.2.2 != 0) then some false
      else bif (Nat.ble ((List.length seen + List.length [e1]) * 56) appendLimit && Nat.ble (List.length seen + List.length [e1]) 9223372036854775807) then K (i, r8.1, r9.1, seen ++ [e1])
      else none) = some true := by
  have hjl : j < (mk 9 b).length := by rw [mk_len]; exact hj
  obtain ⟨G, hG⟩ := h.i4
  obtain ⟨H, hH⟩ := h.i9
  have hlen := h.len
  have hcnt := h.cnt
  have hir : IsR a b (ride 9 j) := .inr ⟨j, hj, rfl⟩
  have isr : ∀ x, x ∈ store → IsR a b x := fun x hx => h.isr x ((h.mem x).1 hx)
  obtain ⟨q1, H', hH'⟩ := ib_recv hb (by omega) hH hj
  obtain ⟨out, ex, p1, p2, p3, p4⟩ := add_eq ha hb store (ride 9 j) h.asc isr hir (by omega)
  rw [idx_get hjl, (at_mk (List.getElem?_eq_getElem hjl)).2, bindS, q1, bindS, p1, bindS]
  simp only [bne_self_eq_false, cond_false]
  rw [limOk (by decide) (by simp; omega), cond_true]
  refine hK _ _ _ _ ⟨⟨G, ib_same hG fun l e => absurd (ride_inj (congrArg key e)).1 (by decide)⟩, ⟨H', hH'⟩, p2, fun x => ?_, fun x hx => ?_, by omega, by simp [hcnt]⟩
  · rw [p3 x, h.mem x, List.mem_append, List.mem_singleton]
  · rcases List.mem_append.1 hx with hx | hx
    · exact h.isr x hx
    · rw [List.mem_singleton.1 hx]; exact hir
theorem tmod_bound (x m : Int) (hm : 0 < m) : -m < Int.tmod x m ∧ Int.tmod x m < m := by
  have h1 := Int.natAbs_tmod x m
  have h2 := Nat.mod_lt x.natAbs (show 0 < m.natAbs by omega)
  omega
theorem step_ok {a b m : Nat} (ha : a ≤ 30) (hb : b ≤ 30) (hm : m < 120) {i k : Inb} {store seen : List Rd} (h : Inv a b m i k store seen) {K : St3 → Option Bool}
    (hK : ∀ i k store seen, Inv a b (m + 1) i k store seen → K (i, k, store, seen) = some true) (el : Int) : bod3 (a : Int) (b : Int) (mk 4 a) (mk 9 b) el (i, k, store, seen) K = some true := by
  have w : IntKind.i64.wrap ((a : Int) + (b : Int)) = (a : Int) + (b : Int) := wrap_i64 (by omega) (by omega)
  unfold bod3
  by_cases hab : a + b = 0
  · have c0 : (IntKind.i64.wrap ((a : Int) + (b : Int)) == 0) = true := by rw [w]; simp; omega
    have hf := fin_ok ha hb (by omega) h
    unfold fin3 at hf
    simp only [lp6_eq] at hf
    simp only [c0, cond_true]
    exact hf
  · have c0 : (IntKind.i64.wrap ((a : Int) + (b : Int)) == 0) = false := by rw [w, beq_eq_false_iff_ne]; omega
    simp only [c0, cond_false]
    rw [w]
    obtain ⟨t1, t2⟩ := tmod_bound el ((a : Int) + (b : Int)) (by omega)
    generalize Int.tmod el ((a : Int) + (b : Int)) = x at *
    by_cases hx : x < 0
    · rw [decide_eq_true hx, cond_true]
      have w1 : IntKind.i64.wrap (x + (a : Int)) = x + a := wrap_i64 (by omega) (by omega)
      have w2 : IntKind.i64.wrap (x + (a : Int) + (b : Int)) = x + a + b := wrap_i64 (by omega) (by omega)
      rw [w1, w2]
      by_cases hxa : x + a + b < a
      · rw [decide_eq_true hxa, cond_true]
        have e : x + a + b = ((x + a + b).toNat : Int) := by omega
        rw [e]
        exact arrive4 ha hb hm h hK (by omega)
      · have w3 : IntKind.i64.wrap (x + (a : Int) + (b : Int) - (a : Int)) = x + b := by rw [wrap_i64 (by omega) (by omega)]; omega
        rw [decide_eq_false hxa, cond_false, w3]
        have e : x + b = ((x + b).toNat : Int) := by omega
        rw [e]
        exact arrive9 ha hb hm h hK (by omega)
    · rw [decide_eq_false hx, cond_false]
      by_cases hxa : x < a
      · rw [decide_eq_true hxa, cond_true]
        have e : x = (x.toNat : Int) := by omega
        rw [e]
        exact arrive4 ha hb hm h hK (by omega)
      · have w3 : IntKind.i64.wrap (x - (a : Int)) = x - a := wrap_i64 (by omega) (by omega)
        rw [decide_eq_false hxa, cond_false, w3]
        have e : x - a = ((x - a).toNat : Int) := by omega
        rw [e]
        exact arrive9 ha hb hm h hK (by omega)
theorem loop_ok {a b : Nat} (ha : a ≤ 30) (hb : b ≤ 30) (arrivals : List Int) (hl : arrivals.length ≤ 120) :
    lp3_7 big (a : Int) (b : Int) arrivals (mk 4 a) (mk 9 b) (4, 1, [], []) (9, 1, [], []) [] [] 0 = some true := by
  rw [lp7_eq _ _ _ _ _ _ _ _ _ (by rw [maxLen_val]; omega)]
  refine forE_rule (fun pre (s : St3) => Inv a b pre.length s.1 s.2.1 s.2.2.1 s.2.2.2) (fun o => o = some true) arrivals (fun pre x post e s hs K hK => ?_) (fun s hs => ?_) ?_
  · obtain ⟨i, k, store, seen⟩ := s
    refine step_ok ha hb ?_ hs (fun i k store seen hi => hK (i, k, store, seen) ?_) x
    · have := congrArg List.length e
      rw [List.length_append, List.length_cons] at this
      omega
    · rw [List.length_append, List.length_singleton]; exact hi
  · obtain ⟨i, k, store, seen⟩ := s
    exact fin_ok ha hb (by omega) hs
  · have none_has : ∀ (g : Int) (n j : Nat), Has (mk g n) 0 [] j ↔ j < n ∧ ride g j ∈ ([] : List Rd) := fun g n j => by
      unfold Has
      constructor
      · rintro (h | ⟨e, he, _⟩)
        · omega
        · cases he
      · rintro ⟨_, h⟩; cases h
    exact ⟨⟨0, [], rfl, Nat.zero_le _, (fun e he => by cases he), List.Pairwise.nil, Nat.zero_le _, none_has 4 a⟩, ⟨0, [], rfl, Nat.zero_le _, (fun e he => by cases he), List.Pairwise.nil, Nat.zero_le _, none_has 9 b⟩, List.Pairwise.nil,
      fun x => Iff.rfl, (fun x hx => by cases hx), Nat.zero_le _, rfl⟩
set_option maxRecDepth 10000000 in
theorem alive5 : D5 = some true := by kernel_rfl
theorem law3g (a b : Int) (arrivals : List Int) (cut : Int) : D3 a b arrivals cut = some true := by
  rw [e3, alive5, bindS, Bool.not_true, cond_false]
  by_cases c1 : a < 0
  · rw [decide_eq_true c1]; rfl
  rw [decide_eq_false c1, cond_false]
  by_cases c2 : b < 0
  · rw [decide_eq_true c2]; rfl
  rw [decide_eq_false c2, cond_false]
  by_cases c3 : a > 30
  · rw [decide_eq_true c3]; rfl
  rw [decide_eq_false c3, cond_false]
  by_cases c4 : b > 30
  · rw [decide_eq_true c4]; rfl
  rw [decide_eq_false c4, cond_false]
  by_cases c5 : (List.length arrivals : Int) > 120
  · rw [decide_eq_true c5]; rfl
  rw [decide_eq_false c5, cond_false]
  obtain ⟨n, rfl⟩ : ∃ n : Nat, a = (n : Int) := ⟨a.toNat, by omega⟩
  obtain ⟨l, rfl⟩ : ∃ l : Nat, b = (l : Int) := ⟨b.toNat, by omega⟩
  have hn : n ≤ 30 := by omega
  have hl : l ≤ 30 := by omega
  rw [(made_all n (by omega)).1, bindS, (made_all l (by omega)).2, bindS, write_eq n hn, bindS]
  simp only [bne_self_eq_false, beq_self_eq_true, cond_false]
  by_cases c6 : cut < 0
  · rw [decide_eq_true c6, cond_true]
  rw [decide_eq_false c6, cond_false]
  by_cases c7 : cut > ((log n).length : Int)
  · rw [decide_eq_true c7, cond_true]
  rw [decide_eq_false c7, cond_false]
  obtain ⟨c, rfl⟩ : ∃ c : Nat, cut = (c : Int) := ⟨cut.toNat, by omega⟩
  have hc : c ≤ (log n).length := by omega
  have g1 : (decide (0 ≤ (0 : Int)) && (decide ((0 : Int) ≤ (c : Int)) && decide ((c : Int) ≤ ((log n).length : Int)))) = true := by simp only [Bool.and_eq_true, decide_eq_true_eq]; omega
  rw [g1, cond_true, show Int.toNat 0 = 0 from rfl, List.drop_zero, Int.toNat_natCast]
  obtain ⟨K, k1, k2, k3, k4⟩ := read_eq n hn c hc
  rw [k4, bindS]
  simp only [mk_len]
  have g2 : (decide (0 ≤ (0 : Int)) && (decide ((0 : Int) ≤ (K : Int)) && decide ((K : Int) ≤ (n : Int)))) = true := by simp only [Bool.and_eq_true, decide_eq_true_eq]; omega
  rw [decide_eq_false (show ¬ ((log K).length : Int) > (c : Int) by omega), cond_false, decide_eq_false (show ¬ (K : Int) > (n : Int) by omega), cond_false, g2, cond_true, List.drop_zero, Int.toNat_natCast, mk_take 4 k1, same_refl _ (by rw [mk_len]; omega), bindS, Bool.not_true, cond_false, e10, e10, bindS, bindS]
  have fin : lp3_7 big (n : Int) (l : Int) arrivals (mk 4 n) (mk 9 l) (4, 1, [], []) (9, 1, [], []) [] [] 0 = some true := loop_ok hn hl arrivals (by omega)
  by_cases c8 : c = (log n).length
  · rw [show ((c : Int) == ((log n).length : Int)) = true by rw [c8]; exact beq_self_eq_true _, cond_true, show ((K : Int) != (n : Int)) = false by rw [k3 c8]; simp, cond_false]
    exact fin
  · rw [show ((c : Int) == ((log n).length : Int)) = false by rw [beq_eq_false_iff_ne]; omega, cond_false]
    exact (lp15_eq _ _ _ _ _ _ _ _ _).trans fin
end Go.Proofs.Ytbapfiaglcllnaa.D.Rl
namespace Go.Proofs.Ytbapfiaglcllnaa.D
theorem law3 (x : (pk ps3).den) (_ : Valid (pk ps3) x) : d3 x = some true := Rl.law3g x.1 x.2.1 x.2.2.1 x.2.2.2
end Go.Proofs.Ytbapfiaglcllnaa.D
end
