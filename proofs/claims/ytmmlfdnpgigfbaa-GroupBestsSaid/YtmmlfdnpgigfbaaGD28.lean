import Derived.Test.YtmmlfdnpgigfbaaGD27
namespace Go.GD
open Go

/-! ### readings that come to an end -/

def Tot {ρ : Type} (o : Option ρ) : Prop := ∃ r, o = some r

theorem tot_some {ρ : Type} (r : ρ) : Tot (some r) := ⟨r, rfl⟩
theorem tot_bif {ρ : Type} {c : Bool} {a b : Option ρ} (ha : c = true → Tot a) (hb : c = false → Tot b) : Tot (bif c then a else b) := by
  cases c with
  | true => exact ha rfl
  | false => exact hb rfl
theorem tot_bind {α ρ : Type} {o : Option α} {f : α → Option ρ} (ho : Tot o) (hf : ∀ x, o = some x → Tot (f x)) : Tot (o.bind f) := by
  obtain ⟨x, hx⟩ := ho
  rw [hx]
  exact hf x hx
theorem tot_idx {α : Type} {xs : List α} {i : Int} (h0 : 0 ≤ i) (h : i < xs.length) : Tot (idx xs i) := by
  obtain ⟨k, rfl⟩ := Int.eq_ofNat_of_zero_le h0
  exact ⟨xs[k]'(by omega), idx_get (by omega)⟩
theorem tot_forI {α σ ρ : Type} {body : Nat → α → σ → (σ → Option ρ) → Option ρ} {fin : σ → Option ρ} (hf : ∀ s, Tot (fin s)) : ∀ (xs : List α) (k : Nat),
    (∀ i (h : i < xs.length) s K, (∀ s, Tot (K s)) → Tot (body (k + i) xs[i] s K)) → ∀ s, Tot (forI body fin k xs s)
  | [], _, _, s => hf s
  | x :: xs, k, hb, s => hb 0 (by simp) s _ (tot_forI hf xs (k + 1) fun i h s K hK => by
      have := hb (i + 1) (by simpa using h) s K hK
      rw [show k + (i + 1) = k + 1 + i by omega] at this
      simpa using this)
theorem tot_forE {α σ ρ : Type} {body : α → σ → (σ → Option ρ) → Option ρ} {fin : σ → Option ρ} (hf : ∀ s, Tot (fin s)) : ∀ (xs : List α),
    (∀ x, x ∈ xs → ∀ s K, (∀ s, Tot (K s)) → Tot (body x s K)) → ∀ s, Tot (forE body fin xs s)
  | [], _, s => hf s
  | x :: xs, hb, s => hb x (List.mem_cons_self ..) s _ (tot_forE hf xs fun y hy => hb y (List.mem_cons_of_mem _ hy))
theorem tot_forN {σ ρ : Type} {body : Nat → σ → (σ → Option ρ) → Option ρ} {fin : σ → Option ρ} (hf : ∀ s, Tot (fin s)) : ∀ (m k : Nat),
    (∀ i, i < m → ∀ s K, (∀ s, Tot (K s)) → Tot (body (k + i) s K)) → ∀ s, Tot (forN body fin k m s)
  | 0, _, _, s => hf s
  | m + 1, k, hb, s => hb 0 (by omega) s _ (tot_forN hf m (k + 1) fun i h s K hK => by
      have := hb (i + 1) (by omega) s K hK
      rwa [show k + (i + 1) = k + 1 + i by omega] at this)

/-- a loop whose state is known from the elements that were met -/
theorem forE_inv {α σ ρ : Type} {body : α → σ → (σ → Option ρ) → Option ρ} {fin : σ → Option ρ} (st : List α → σ) (Q : Option ρ → Prop) (xs : List α)
    (hb : ∀ pre x post, xs = pre ++ x :: post → ∀ K, Q (K (st (pre ++ [x]))) → Q (body x (st pre) K)) (hf : Q (fin (st xs))) {s : σ} (h0 : s = st []) : Q (forE body fin xs s) := by
  subst h0
  suffices h : ∀ (ys pre : List α), xs = pre ++ ys → Q (forE body fin ys (st pre)) from h xs [] rfl
  intro ys
  induction ys with
  | nil => intro pre e; rw [List.append_nil] at e; subst e; exact hf
  | cons y ys ih => intro pre e; exact hb pre y ys e _ (ih (pre ++ [y]) (by rw [e]; simp))

theorem forI_inv {α σ ρ : Type} {body : Nat → α → σ → (σ → Option ρ) → Option ρ} {fin : σ → Option ρ} (st : List α → σ) (Q : Option ρ → Prop) (xs : List α)
    (hb : ∀ pre x post, xs = pre ++ x :: post → ∀ K, Q (K (st (pre ++ [x]))) → Q (body pre.length x (st pre) K)) (hf : Q (fin (st xs))) {s : σ} (h0 : s = st []) : Q (forI body fin 0 xs s) := by
  subst h0
  suffices h : ∀ (ys pre : List α), xs = pre ++ ys → Q (forI body fin pre.length ys (st pre)) from h xs [] rfl
  intro ys
  induction ys with
  | nil => intro pre e; rw [List.append_nil] at e; subst e; exact hf
  | cons y ys ih =>
    intro pre e
    refine hb pre y ys e _ ?_
    have := ih (pre ++ [y]) (by rw [e]; simp)
    rwa [List.length_append, List.length_singleton] at this

theorem forN_inv {σ ρ : Type} {body : Nat → σ → (σ → Option ρ) → Option ρ} {fin : σ → Option ρ} (st : Nat → σ) (Q : Option ρ → Prop) (m : Nat)
    (hb : ∀ k, k < m → ∀ K, Q (K (st (k + 1))) → Q (body k (st k) K)) (hf : Q (fin (st m))) {s : σ} (h0 : s = st 0) : Q (forN body fin 0 m s) := by
  subst h0
  suffices h : ∀ (j k : Nat), k + j = m → Q (forN body fin k j (st k)) from h m 0 (by omega)
  intro j
  induction j with
  | zero => intro k e; obtain rfl : k = m := by omega
            exact hf
  | succ j ih => intro k e; exact hb k (by omega) _ (ih (k + 1) (by omega))
end Go.GD
