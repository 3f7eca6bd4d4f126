import Derived.Test.YtbapfiaglcllnaaGD25
namespace Go.GD
open Go
def forE {α σ ρ : Type} (body : α → σ → (σ → Option ρ) → Option ρ) (fin : σ → Option ρ) : List α → σ → Option ρ
  | [], s => fin s
  | x :: xs, s => body x s (forE body fin xs)
def forI {α σ ρ : Type} (body : Nat → α → σ → (σ → Option ρ) → Option ρ) (fin : σ → Option ρ) : Nat → List α → σ → Option ρ
  | _, [], s => fin s
  | k, x :: xs, s => body k x s (forI body fin (k + 1) xs)
def forN {σ ρ : Type} (body : Nat → σ → (σ → Option ρ) → Option ρ) (fin : σ → Option ρ) : Nat → Nat → σ → Option ρ
  | _, 0, s => fin s
  | k, m + 1, s => body k s (forN body fin (k + 1) m)
theorem iter_forI {S ρ σ α : Type} {step : (S → Option ρ) → S → Option ρ} (xs : List α) (enc : Nat → σ → S) (body : Nat → α → σ → (σ → Option ρ) → Option ρ) (fin : σ → Option ρ)
    (hb : ∀ (F : S → Option ρ) (k : Nat) (h : k < xs.length) (s : σ), step F (enc k s) = body k xs[k] s (fun s' => F (enc (k + 1) s')))
    (hf : ∀ (F : S → Option ρ) (s : σ), step F (enc xs.length s) = fin s) {n : Nat} (hn : xs.length < n) (s : σ) : iter step n (enc 0 s) = forI body fin 0 xs s := by
  have key : ∀ (m : Nat) (ys : List α) (k n : Nat) (s : σ), ys.length = m → xs.drop k = ys → k + ys.length = xs.length → m < n → iter step n (enc k s) = forI body fin k ys s := by
    intro m
    induction m with
    | zero =>
      intro ys k n s hm hd hl hn
      cases ys with
      | cons => simp at hm
      | nil =>
        cases n with
        | zero => omega
        | succ n =>
          have : k = xs.length := by simpa using hl
          subst this
          exact hf _ s
    | succ m ih =>
      intro ys k n s hm hd hl hn
      cases ys with
      | nil => simp at hm
      | cons y ys =>
        cases n with
        | zero => omega
        | succ n =>
          have hk : k < xs.length := by simp at hl; omega
          have hy : xs[k] = y := by
            rw [List.drop_eq_getElem_cons hk] at hd
            exact (List.cons.inj hd).1
          have hd' : xs.drop (k + 1) = ys := by
            rw [List.drop_eq_getElem_cons hk] at hd
            exact (List.cons.inj hd).2
          show step (iter step n) (enc k s) = body k y s (forI body fin (k + 1) ys)
          rw [hb (iter step n) k hk s, hy]
          congr 1
          funext s'
          exact ih ys (k + 1) n s' (by simpa using hm) hd' (by simp at hl; omega) (by omega)
  exact key xs.length xs 0 n s rfl rfl (by simp) hn
theorem iter_forI_from {S ρ σ α : Type} {step : (S → Option ρ) → S → Option ρ} (xs : List α) (enc : Nat → σ → S) (body : Nat → α → σ → (σ → Option ρ) → Option ρ) (fin : σ → Option ρ)
    (hb : ∀ (F : S → Option ρ) (k : Nat) (h : k < xs.length) (s : σ), step F (enc k s) = body k xs[k] s (fun s' => F (enc (k + 1) s')))
    (hf : ∀ (F : S → Option ρ) (s : σ), step F (enc xs.length s) = fin s) {k : Nat} (hk : k ≤ xs.length) {n : Nat} (hn : xs.length < n) (s : σ) : iter step n (enc k s) = forI body fin k (xs.drop k) s := by
  have := iter_forI (step := step) (xs.drop k) (fun j s => enc (k + j) s) (fun j x s K => body (k + j) x s K) fin (fun F j hj s => by
    rw [List.length_drop] at hj
    have := hb F (k + j) (by omega) s
    rw [this]
    simp [Nat.add_assoc]) (fun F s => by
    rw [List.length_drop, show k + (xs.length - k) = xs.length by omega]; exact hf F s) (n := n) (by rw [List.length_drop]; omega) s
  refine this.trans ?_
  clear this
  generalize xs.drop k = ys
  suffices h : ∀ (ys : List α) (j : Nat) (s : σ), forI (fun j x s K => body (k + j) x s K) fin j ys s = forI body fin (k + j) ys s from h ys 0 s
  intro ys
  induction ys with
  | nil => intro j s; rfl
  | cons y ys ih =>
    intro j s
    show body (k + j) y s _ = body (k + j) y s _
    congr 1
    funext s'
    exact ih (j + 1) s'
theorem forI_forE {α σ ρ : Type} (body : α → σ → (σ → Option ρ) → Option ρ) (fin : σ → Option ρ) : ∀ (xs : List α) (k : Nat) (s : σ), forI (fun _ => body) fin k xs s = forE body fin xs s
  | [], _, _ => rfl
  | x :: xs, k, s => by
    show body x s _ = body x s _
    congr 1
    funext s'
    exact forI_forE body fin xs (k + 1) s'
theorem iter_forE {S ρ σ α : Type} {step : (S → Option ρ) → S → Option ρ} (xs : List α) (enc : Nat → σ → S) (body : α → σ → (σ → Option ρ) → Option ρ) (fin : σ → Option ρ)
    (hb : ∀ (F : S → Option ρ) (k : Nat) (h : k < xs.length) (s : σ), step F (enc k s) = body xs[k] s (fun s' => F (enc (k + 1) s')))
    (hf : ∀ (F : S → Option ρ) (s : σ), step F (enc xs.length s) = fin s) {n : Nat} (hn : xs.length < n) (s : σ) : iter step n (enc 0 s) = forE body fin xs s :=
  (iter_forI xs enc (fun _ => body) fin hb hf hn s).trans (forI_forE body fin xs 0 s)
theorem iter_nat {S ρ σ : Type} {step : (S → Option ρ) → S → Option ρ} (m : Nat) (enc : Nat → σ → S) (I : Nat → σ → Prop) (f : Nat → σ → ρ)
    (hb : ∀ (F : S → Option ρ) (k : Nat) (_ : k < m) (s : σ), I k s → (∀ s', I (k + 1) s' → F (enc (k + 1) s') = some (f (k + 1) s')) → step F (enc k s) = some (f k s))
    (hf : ∀ (F : S → Option ρ) (s : σ), I m s → step F (enc m s) = some (f m s)) {n : Nat} (hn : m < n) (s : σ) (h0 : I 0 s) : iter step n (enc 0 s) = some (f 0 s) := by
  have key : ∀ (j k n : Nat) (s : σ), k + j = m → j < n → I k s → iter step n (enc k s) = some (f k s) := by
    intro j
    induction j with
    | zero =>
      intro k n s hk hn hI
      cases n with
      | zero => omega
      | succ n =>
        obtain rfl : k = m := by omega
        exact hf _ s hI
    | succ j ih =>
      intro k n s hk hn hI
      cases n with
      | zero => omega
      | succ n => exact hb (iter step n) k (by omega) s hI fun s' hs' => ih (k + 1) n s' (by omega) (by omega) hs'
  exact key m 0 n s (by omega) hn h0
theorem iter_natR {S ρ σ : Type} {step : (S → Option ρ) → S → Option ρ} (m : Nat) (enc : Nat → σ → S) (I : Nat → σ → Prop) (Q : Nat → σ → ρ → Prop)
    (hb : ∀ (F : S → Option ρ) (k : Nat) (_ : k < m) (s : σ), I k s → (∀ s', I (k + 1) s' → ∃ r, F (enc (k + 1) s') = some r ∧ Q (k + 1) s' r) → ∃ r, step F (enc k s) = some r ∧ Q k s r)
    (hf : ∀ (F : S → Option ρ) (s : σ), I m s → ∃ r, step F (enc m s) = some r ∧ Q m s r) {n : Nat} (hn : m < n) (s : σ) (h0 : I 0 s) : ∃ r, iter step n (enc 0 s) = some r ∧ Q 0 s r := by
  have key : ∀ (j k n : Nat) (s : σ), k + j = m → j < n → I k s → ∃ r, iter step n (enc k s) = some r ∧ Q k s r := by
    intro j
    induction j with
    | zero =>
      intro k n s hk hn hI
      cases n with
      | zero => omega
      | succ n =>
        obtain rfl : k = m := by omega
        exact hf _ s hI
    | succ j ih =>
      intro k n s hk hn hI
      cases n with
      | zero => omega
      | succ n => exact hb (iter step n) k (by omega) s hI fun s' hs' => ih (k + 1) n s' (by omega) (by omega) hs'
  exact key m 0 n s (by omega) hn h0
theorem bindS {α β : Type} (a : α) (f : α → Option β) : (some a).bind f = f a := by rw [Option.bind_some]
theorem condT {α : Type} (a b : α) : (bif true then a else b) = a := by rw [cond_true]
theorem condF {α : Type} (a b : α) : (bif false then a else b) = b := by rw [cond_false]
theorem dec_lt {k n : Nat} (h : k < n) : decide ((k : Int) < (n : Int)) = true := decide_eq_true (by omega)
theorem dec_end (n : Nat) : decide ((n : Int) < (n : Int)) = false := decide_eq_false (by omega)
theorem wrap_succ {k n : Nat} (h : k < n) (hn : n ≤ maxLen) : IntKind.i64.wrap ((k : Int) + 1) = ((k + 1 : Nat) : Int) := by
  rw [show maxLen = 9223372036854775807 from rfl] at hn
  rw [wrap_i64 (by omega) (by omega)]; rfl
theorem wrap_pred {k : Nat} (h : 0 < k) (hn : k ≤ maxLen) : IntKind.i64.wrap ((k : Int) - 1) = ((k - 1 : Nat) : Int) := by
  rw [show maxLen = 9223372036854775807 from rfl] at hn
  rw [wrap_i64 (by omega) (by omega)]; omega
theorem len_lt_big {n : Nat} (h : n ≤ maxLen) : n < 18446744073709551616 := by
  rw [show maxLen = 9223372036854775807 from rfl] at h; omega
theorem grows {n m b : Nat} (h : (n + m) * b ≤ appendLimit) (hb : 0 < b) : (Nat.ble ((n + m) * b) appendLimit && Nat.ble (n + m) 9223372036854775807) = true := by
  simp only [Bool.and_eq_true, Nat.ble_eq]
  refine ⟨h, ?_⟩
  have : n + m ≤ (n + m) * b := Nat.le_mul_of_pos_right _ hb
  unfold appendLimit at h
  omega
end Go.GD
