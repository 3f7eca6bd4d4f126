import Derived.Test.YtbapfiaglcllnaaXH24all
section
namespace Go.Proofs.Ytbapfiaglcllnaa.D
open Go Go.GD Go.Proofs
structure Hp (B : List Nat) (H : Nat) (w0 : World) (o : Option Nat) (vals : Nat → List Value) (w : World) : Prop where
  lo : ∀ b, b ∈ B → w0.heap.size ≤ b ∧ b < H
  sz : H ≤ w.heap.size
  old : Later w0 w
  wH : w0.heap.size ≤ H
  at_ : ∀ b, b ∈ B → ∃ e, w.heap[b]? = some (.cells (vals b).toArray e (0, 0))
  hn : ∀ b, o = some b → H ≤ b ∧ b < w.heap.size
section
variable {B : List Nat} {H : Nat} {w0 w w1 : World} {o o' : Option Nat} {vals : Nat → List Value}
end
section
variable {B : List Nat} {H : Nat} {w0 w w1 : World} {o o' : Option Nat} {vals : Nat → List Value} {Ok : Nat → Prop}
end
end Go.Proofs.Ytbapfiaglcllnaa.D
end
