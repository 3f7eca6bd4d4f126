import Derived.Test.YtbapfiaglcllnaaGDC
import Derived.Shelf.SlBodiesN
import Derived.Shelf.RegionOpenPlain
import Derived.WalkKit
import Derived.Deep.LoopGhost
import Derived.Deep.RegionLaw
import Derived.Lib.Walk
import Derived.Sort.WalkB12
import Derived.Lib.SliceRun
namespace Go.GD
open Go Go.Proofs Go.Shelf Go.RowKit Go.Lib Go.Sort
theorem run_clear_at {P : Program} (t e ty : TypeId) (z : Value) (size : Nat) (ht : P.underlying t = some (.slice e)) {w : World} (hv : (zeroValue e).run P w = .ok z w) (hz : z.cells.size = size) (h1 : ∀ v, v ∈ z.cells.toList → v.oneCell' = true)
    (b o n c : Nat) (hn : 0 < n) (hs : 0 < size) {vs : List Value} {et : TypeId} (hb : w.heap[b]? = some (.cells vs.toArray et (0, 0))) (hfit : o + n * size ≤ vs.length) :
    (Builtin.clear_ #[t] ty #[.slice (some ⟨b, o, none⟩) n c]).run P w = .ok (.tuple #[]) (w.setRow b (splice vs o (Builtin.zeroCells z.cells n).toList).toArray) := by
  have hlen : (Builtin.zeroCells z.cells n).toList.length = n * size := by rw [Array.length_toList, size_zeroCells, hz]
  have hone : ∀ v ∈ (Builtin.zeroCells z.cells n).toList, v.oneCell' = true := by
    intro v hv
    simp only [Builtin.zeroCells, Array.toList_map, List.mem_map] at hv
    obtain ⟨i, _, rfl⟩ := hv
    have hi : i % z.cells.size < z.cells.size := Nat.mod_lt _ (by omega)
    rw [getElem!_pos z.cells _ hi]
    exact h1 _ (by simp)
  have hst := run_storeCells_at P b o et (Builtin.zeroCells z.cells n).toList 0 vs.toArray w hb (by simp only [Nat.add_zero, hlen]; simpa using hfit) hone
  simp only [Nat.add_zero] at hst
  have e : (splice vs o (Builtin.zeroCells z.cells n).toList).toArray = (vs.toArray.toList.take o ++ (Builtin.zeroCells z.cells n).toList ++ vs.toArray.toList.drop (o + (Builtin.zeroCells z.cells n).toList.length)).toArray := by simp [splice]
  rw [e]
  obtain ⟨m, rfl⟩ : ∃ m, n = m + 1 := ⟨n - 1, by omega⟩
  simp [Builtin.clear_, run_underlying ht, hv]
  simp at hst
  simp [hst]
@[reducible] def delD (t : Ty) (x : List t.den × Int × Int) : Option (List t.den) :=
  if 0 ≤ x.2.1 ∧ x.2.1 ≤ x.2.2 ∧ x.2.2 ≤ x.1.length then some (x.1.take x.2.1.toNat ++ x.1.drop x.2.2.toNat) else none
open Classical in
def delRen (f T El : Nat) : Ren := ⟨fun _ => f, fun n => if n = 22 then T else if n = 23 then El else n, fun n => n⟩
end Go.GD
