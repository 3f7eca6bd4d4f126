import Derived.Test.YtbapfiaglcllnaaXT24a
import Derived.Test.YtbapfiaglcllnaaGDG
section
namespace Go.Proofs.Ytbapfiaglcllnaa.D
open Go Go.GD Go.Proofs
end Go.Proofs.Ytbapfiaglcllnaa.D
end

section
namespace Go.Proofs.Ytbapfiaglcllnaa.D
open Go Go.GD Go.Proofs
structure Cq where
  w0 : World
  Ok : Nat → Prop
  bF : Nat
  bL : Nat
  bN : Nat
  bB : Nat
  bA : Nat
  bP : Nat
  bO : Nat
  bE : Nat
  full : Int
  va : Value
  vp : Value
  vo : Value
  H : Nat
  ages : List Int
  prices : List Int
  offers : List Of
structure Cq.OK (C : Cq) : Prop where
  lo : ∀ b, b ∈ C.boxes → C.w0.heap.size ≤ b ∧ b < C.H
  nd : C.boxes.Nodup
  ages : RepC Try.prog (.sl (.int .i64)) C.w0 C.Ok [C.va] C.ages
  prices : RepC Try.prog (.sl (.int .i64)) C.w0 C.Ok [C.vp] C.prices
  offers : RepC Try.prog (.sl ofTy) C.w0 C.Ok [C.vo] C.offers
structure Stt (C : Cq) (o : Option Nat) (s : S3) (w : World) : Prop where
  sz : C.H ≤ w.heap.size
  old : Later C.w0 w
  f : ∃ e, w.heap[C.bF]? = some (.cells #[.int .i64 C.full] e (0, 0))
  l : ∃ e, w.heap[C.bL]? = some (.cells #[.int .i64 s.2.2] e (0, 0))
  n : ∃ e a cap, w.heap[C.bN]? = some (.cells #[.slice a s.1.length cap] e (0, 0)) ∧ HoldS 2 w (fun b => o = some b) (RepC Try.prog bdTy w (C.Sh o)) a s.1.length cap s.1
  b : ∃ e a len cap, w.heap[C.bB]? = some (.cells #[.slice a len cap] e (0, 0)) ∧ ShareS 2 w (C.Sh o) (RepC Try.prog bdTy w (C.Sh o)) a len cap s.2.1
  a : ∃ e, w.heap[C.bA]? = some (.cells #[C.va] e (0, 0))
  p : ∃ e, w.heap[C.bP]? = some (.cells #[C.vp] e (0, 0))
  q : ∃ e, w.heap[C.bO]? = some (.cells #[C.vo] e (0, 0))
  e : ∃ e, w.heap[C.bE]? = some (.cells #[.func (.func 57) #[] C.caps] e (0, 0))
  hn : ∀ b, o = some b → C.H ≤ b ∧ b < w.heap.size
section
variable {C : Cq} {o : Option Nat} {s : S3} {w w' : World}
end
end Go.Proofs.Ytbapfiaglcllnaa.D
end

section
namespace Go.Proofs.Ytbapfiaglcllnaa.D
open Go Go.GD Go.Proofs
section
variable {C : Cq} {o : Option Nat} {s : S3} {w : World}
end
end Go.Proofs.Ytbapfiaglcllnaa.D
end

section
namespace Go.Proofs.Ytbapfiaglcllnaa.D
open Go Go.GD Go.Proofs
end Go.Proofs.Ytbapfiaglcllnaa.D
end

section
namespace Go.Proofs.Ytbapfiaglcllnaa.D
open Go Go.GD Go.Proofs
structure FC (C : Cq) (cov cost : Int) (f : Nat → Value) : Prop where
  t0 : f 0 = .int .i64 cov
  t1 : f 1 = .int .i64 cost
  t2 : f 2 = ptr C.bF
  t3 : f 3 = ptr C.bL
  t4 : f 4 = ptr C.bN
  t5 : f 5 = ptr C.bB
  t6 : f 6 = ptr C.bA
  t7 : f 7 = ptr C.bP
  t8 : f 8 = ptr C.bO
  t9 : f 9 = ptr C.bE
section
variable {C : Cq} {o : Option Nat} {s : S3} {w : World} {cov cost : Int} {f : Nat → Value} {Q : Exit → Act → World → Prop}
end
end Go.Proofs.Ytbapfiaglcllnaa.D
end

section
namespace Go.Proofs.Ytbapfiaglcllnaa.D
set_option maxRecDepth 10000
open Go Go.GD Go.Proofs
structure FR (C : Cq) (cov cost first others set : Int) (f : Nat → Value) : Prop where
  fc : FC C cov cost f
  t13 : f 13 = .int .i64 first
  t14 : f 14 = .int .i64 others
  t15 : f 15 = .int .i64 set
section
variable {C : Cq} {o : Option Nat} {s : S3} {w : World} {cov cost first others set : Int} {f : Nat → Value} {Q : Exit → Act → World → Prop}
end
end Go.Proofs.Ytbapfiaglcllnaa.D
end
