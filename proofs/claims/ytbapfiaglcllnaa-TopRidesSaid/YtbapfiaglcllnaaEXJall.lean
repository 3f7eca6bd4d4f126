import Derived.Test.YtbapfiaglcllnaaXJaa
import Derived.Test.YtbapfiaglcllnaaEXT31
section
open Go Go.GD Go.Proofs
namespace Go.Proofs.Ytbapfiaglcllnaa.D
noncomputable def D26 (a0 : (Int) × ((Int) × ((Int) × ((Int) × ((Int) × ((Int) × (Int))))))) : Option (Bool) := d26 a0
noncomputable def D99 (a0 : List (Int)) : Option (List (Int)) := d99 a0
theorem e99 (s : List (Int)) : D99 s = (bif (Nat.ble ((List.length ([] : List (Int)) + List.length s) * 1) appendLimit && Nat.ble (List.length ([] : List (Int)) + List.length s) 9223372036854775807) then some (([] : List (Int)) ++ s) else none) := rfl
noncomputable def D68 (a0 : Int) (a1 : List (Int)) : Option (Int) := d68 (a0, a1)
noncomputable def D101 (a0 : List (Int)) : Option (Int) := d101 a0
noncomputable def D27 (a0 : List (Int)) (a1 : (Int) × ((Int) × ((Int) × ((Int) × ((Int) × ((Int) × (Int))))))) (a2 : Int) : Option ((List (Int)) × (Int)) := d27 (a0, a1, a2)
noncomputable def D7 (a0 : List ((Int) × ((Int) × ((Int) × ((Int) × ((Int) × ((Int) × (Int)))))))) : Option ((List (Int)) × (Int)) := d7 a0
noncomputable def lp7_1 (fuel : Nat)  (b₀ : List (Int)) (link₀ : Int) (v₀ : List ((Int) × ((Int) × ((Int) × ((Int) × ((Int) × ((Int) × (Int)))))))) (v1₀ : Int) (v2₀ : Int) : Option ((List (Int)) × (Int)) :=
  iter (fun F ((b, link, v, v1, v2) : (List (Int)) × Int × (List ((Int) × ((Int) × ((Int) × ((Int) × ((Int) × ((Int) × (Int)))))))) × Int × Int) =>
    bif decide (v2 < v1) then (
      (idx v v2).bind fun e =>
      (D26 e).bind fun r =>
      bif (!r) then some (([] : List (Int)), 2)
      else (D27 b e link).bind fun r1 =>
      F (r1.1, r1.2, v, v1, IntKind.i64.wrap (v2 + 1)))
    else some (b, 0)) fuel (b₀, link₀, v₀, v1₀, v2₀)
theorem f7_1  (b : List (Int)) (link : Int) (v : List ((Int) × ((Int) × ((Int) × ((Int) × ((Int) × ((Int) × (Int)))))))) (hl : (v).length ≤ maxLen) : lp7_1 big b link v (List.length v : Int) 0 =
  forE (fun  el ((b, link) : (List (Int)) × Int) K =>
    ((D26 el).bind fun r =>
    bif (!r) then some (([] : List (Int)), 2)
    else (D27 b el link).bind fun r1 =>
    K (r1.1, r1.2) : Option ((List (Int)) × (Int))))
    (fun ((b, _) : (List (Int)) × Int) =>
    (some (b, 0) : Option ((List (Int)) × (Int)))) v (b, link) := by
  refine iter_forE v (fun ix ((b, link) : (List (Int)) × Int) => (b, link, v, (List.length v : Int), (ix : Int))) _ _ ?_ ?_ (len_lt_big hl) (b, link)
  · rintro F k h ⟨b, link⟩
    simp only [dec_lt h, condT, idx_get h, bindS, wrap_succ h hl]
  · rintro F ⟨b, link⟩
    simp only [dec_end, condF]
theorem g7 (fuel : Nat) (l : List ((Int) × ((Int) × ((Int) × ((Int) × ((Int) × ((Int) × (Int)))))))) : (fnK tab env7 8 ann7 fuel Try.f7 [] ps7 rs7 true l : Option ((List (Int)) × (Int))) = (
  lp7_1 fuel ([] : List (Int)) 0 l (List.length l : Int) 0 : Option ((List (Int)) × (Int))) := by kernel_rfl
theorem e7 (l : List ((Int) × ((Int) × ((Int) × ((Int) × ((Int) × ((Int) × (Int)))))))) : D7 l = (
  lp7_1 big ([] : List (Int)) 0 l (List.length l : Int) 0 : Option ((List (Int)) × (Int))) := g7 big l
noncomputable def D103 (a0 : List (Int)) : Option ((Int) × ((Int) × (Int))) := d103 a0
noncomputable def lp103_1 (fuel : Nat)  (b1₀ : List (Int)) (n₀ : Int) (v₀ : Int) : Option ((Int) × ((Int) × (Int))) :=
  iter (fun F ((b1, n, v) : (List (Int)) × Int × Int) =>
    bif decide (v < 9) then (
      bif decide (v ≥ (List.length b1 : Int)) then some (0, 0, 5)
      else (idx b1 v).bind fun e =>
      bif decide (IntKind.i64.wrap ((7 : Int) * v) < 0) then none
      else (idx b1 v).bind fun e1 =>
      bif decide (e1 ≥ 128) then F (b1, IntKind.i64.wrap (((BitVec.ofInt 64 n ||| BitVec.ofInt 64 (IntKind.i64.wrap ((IntKind.i64.wrap (IntKind.u8.wrap (((BitVec.ofInt 8 e &&& BitVec.ofInt 8 127).toNat : Int)))) * 2 ^ (Nat.min (Int.toNat (IntKind.i64.wrap ((7 : Int) * v))) 64)))).toNat : Int)), IntKind.i64.wrap (v + 1))
      else (idx b1 v).bind fun e2 =>
      bif (e2 == 0) then (
        bif decide (v > 0) then some (0, 0, 3)
        else some (IntKind.i64.wrap (((BitVec.ofInt 64 n ||| BitVec.ofInt 64 (IntKind.i64.wrap ((IntKind.i64.wrap (IntKind.u8.wrap (((BitVec.ofInt 8 e &&& BitVec.ofInt 8 127).toNat : Int)))) * 2 ^ (Nat.min (Int.toNat (IntKind.i64.wrap ((7 : Int) * v))) 64)))).toNat : Int)), IntKind.i64.wrap (v + 1), 0))
      else some (IntKind.i64.wrap (((BitVec.ofInt 64 n ||| BitVec.ofInt 64 (IntKind.i64.wrap ((IntKind.i64.wrap (IntKind.u8.wrap (((BitVec.ofInt 8 e &&& BitVec.ofInt 8 127).toNat : Int)))) * 2 ^ (Nat.min (Int.toNat (IntKind.i64.wrap ((7 : Int) * v))) 64)))).toNat : Int)), IntKind.i64.wrap (v + 1), 0))
    else some (0, 0, 4)) fuel (b1₀, n₀, v₀)
theorem g103 (fuel : Nat) (b : List (Int)) : (fnK tab env103 7 ann103 fuel Try.f103 [] ps103 rs103 true b : Option ((Int) × ((Int) × (Int)))) = (
  lp103_1 fuel b 0 0 : Option ((Int) × ((Int) × (Int)))) := by kernel_rfl
theorem e103 (b : List (Int)) : D103 b = (
  lp103_1 big b 0 0 : Option ((Int) × ((Int) × (Int)))) := g103 big b
noncomputable def D102 (a0 : List (Int)) : Option ((List (Int)) × ((Int) × (Int))) := d102 a0
noncomputable def lp102_1 (fuel : Nat)  (b1₀ : List (Int)) (size₀ : Int) (end_₀ : Int) (s₀ : Int) (v₀ : List (Int)) (v1₀ : Int) (v2₀ : Int) : Option ((List (Int)) × ((Int) × (Int))) :=
  iter (fun F ((b1, size, end_, s, v, v1, v2) : (List (Int)) × Int × Int × Int × (List (Int)) × Int × Int) =>
    bif decide (v2 < v1) then (
      (idx v v2).bind fun e =>
      bif decide ((8 : Int) < 0) then none
      else F (b1, size, end_, IntKind.u32.wrap (((BitVec.ofInt 32 (IntKind.u32.wrap (s * 2 ^ (Nat.min (Int.toNat 8) 32))) ||| BitVec.ofInt 32 (IntKind.u32.wrap e)).toNat : Int)), v, v1, IntKind.i64.wrap (v2 + 1)))
    else bif (decide (0 ≤ (size : Int)) && (decide ((size : Int) ≤ end_) && decide ((end_ : Int) ≤ (List.length b1 : Int)))) then (
      (D101 (List.drop (Int.toNat size) (List.take (Int.toNat end_) b1))).bind fun r1 =>
      bif (s != r1) then some (([] : List (Int)), 0, 6)
      else bif (decide (0 ≤ (size : Int)) && (decide ((size : Int) ≤ end_) && decide ((end_ : Int) ≤ (List.length b1 : Int)))) then (
        (D99 (List.drop (Int.toNat size) (List.take (Int.toNat end_) b1))).bind fun r2 =>
        some (r2, IntKind.i64.wrap (end_ + 4), 0))
      else none)
    else none) fuel (b1₀, size₀, end_₀, s₀, v₀, v1₀, v2₀)
theorem f102_1  (b1 : List (Int)) (size : Int) (end_ : Int) (s : Int) (v : List (Int)) (hl : (v).length ≤ maxLen) : lp102_1 big b1 size end_ s v (List.length v : Int) 0 =
  forE (fun  el (s : Int) K =>
    (bif decide ((8 : Int) < 0) then none
    else K (IntKind.u32.wrap (((BitVec.ofInt 32 (IntKind.u32.wrap (s * 2 ^ (Nat.min (Int.toNat 8) 32))) ||| BitVec.ofInt 32 (IntKind.u32.wrap el)).toNat : Int))) : Option ((List (Int)) × ((Int) × (Int)))))
    (fun (s : Int) =>
    (bif (decide (0 ≤ (size : Int)) && (decide ((size : Int) ≤ end_) && decide ((end_ : Int) ≤ (List.length b1 : Int)))) then (
      (D101 (List.drop (Int.toNat size) (List.take (Int.toNat end_) b1))).bind fun r1 =>
      bif (s != r1) then some (([] : List (Int)), 0, 6)
      else bif (decide (0 ≤ (size : Int)) && (decide ((size : Int) ≤ end_) && decide ((end_ : Int) ≤ (List.length b1 : Int)))) then (
        (D99 (List.drop (Int.toNat size) (List.take (Int.toNat end_) b1))).bind fun r2 =>
        some (r2, IntKind.i64.wrap (end_ + 4), 0))
      else none)
    else none : Option ((List (Int)) × ((Int) × (Int))))) v s := by
  refine iter_forE v (fun ix (s : Int) => (b1, size, end_, s, v, (List.length v : Int), (ix : Int))) _ _ ?_ ?_ (len_lt_big hl) s
  · rintro F k h s
    simp only [dec_lt h, condT, idx_get h, bindS, wrap_succ h hl]
  · rintro F s
    simp only [dec_end, condF]
theorem g102 (fuel : Nat) (b : List (Int)) : (fnK tab env102 12 ann102 fuel Try.f102 [] ps102 rs102 true b : Option ((List (Int)) × ((Int) × (Int)))) = (
  (D103 b).bind fun r =>
  bif (r.2.2 != 0) then some (([] : List (Int)), 0, r.2.2)
  else bif decide (r.1 > 65536) then some (([] : List (Int)), 0, 4)
  else bif decide ((List.length b : Int) < IntKind.i64.wrap ((IntKind.i64.wrap (r.2.1 + r.1)) + 4)) then some (([] : List (Int)), 0, 5)
  else bif (decide (0 ≤ (IntKind.i64.wrap (r.2.1 + r.1) : Int)) && (decide ((IntKind.i64.wrap (r.2.1 + r.1) : Int) ≤ IntKind.i64.wrap ((IntKind.i64.wrap (r.2.1 + r.1)) + 4)) && decide ((IntKind.i64.wrap ((IntKind.i64.wrap (r.2.1 + r.1)) + 4) : Int) ≤ (List.length b : Int)))) then lp102_1 fuel b r.2.1 (IntKind.i64.wrap (r.2.1 + r.1)) 0 (List.drop (Int.toNat (IntKind.i64.wrap (r.2.1 + r.1))) (List.take (Int.toNat (IntKind.i64.wrap ((IntKind.i64.wrap (r.2.1 + r.1)) + 4))) b)) (List.length (List.drop (Int.toNat (IntKind.i64.wrap (r.2.1 + r.1))) (List.take (Int.toNat (IntKind.i64.wrap ((IntKind.i64.wrap (r.2.1 + r.1)) + 4))) b)) : Int) 0
  else none : Option ((List (Int)) × ((Int) × (Int)))) := by kernel_rfl
theorem e102 (b : List (Int)) : D102 b = (
  (D103 b).bind fun r =>
  bif (r.2.2 != 0) then some (([] : List (Int)), 0, r.2.2)
  else bif decide (r.1 > 65536) then some (([] : List (Int)), 0, 4)
  else bif decide ((List.length b : Int) < IntKind.i64.wrap ((IntKind.i64.wrap (r.2.1 + r.1)) + 4)) then some (([] : List (Int)), 0, 5)
  else bif (decide (0 ≤ (IntKind.i64.wrap (r.2.1 + r.1) : Int)) && (decide ((IntKind.i64.wrap (r.2.1 + r.1) : Int) ≤ IntKind.i64.wrap ((IntKind.i64.wrap (r.2.1 + r.1)) + 4)) && decide ((IntKind.i64.wrap ((IntKind.i64.wrap (r.2.1 + r.1)) + 4) : Int) ≤ (List.length b : Int)))) then lp102_1 big b r.2.1 (IntKind.i64.wrap (r.2.1 + r.1)) 0 (List.drop (Int.toNat (IntKind.i64.wrap (r.2.1 + r.1))) (List.take (Int.toNat (IntKind.i64.wrap ((IntKind.i64.wrap (r.2.1 + r.1)) + 4))) b)) (List.length (List.drop (Int.toNat (IntKind.i64.wrap (r.2.1 + r.1))) (List.take (Int.toNat (IntKind.i64.wrap ((IntKind.i64.wrap (r.2.1 + r.1)) + 4))) b)) : Int) 0
  else none : Option ((List (Int)) × ((Int) × (Int)))) := g102 big b
end Go.Proofs.Ytbapfiaglcllnaa.D
end

section
open Go Go.GD Go.Proofs
namespace Go.Proofs.Ytbapfiaglcllnaa.D
noncomputable def D71 (a0 : List (Int)) (a1 : Int) : Option ((((Int) × ((Int) × ((Int) × ((Int) × ((Int) × ((Int) × (Int))))))) × ((Int) × (Int))) ⊕ Nat) := d71 (a0, a1)
noncomputable def lp71_1 (fuel : Nat)  (link2₀ : Int) (v2₀ : (Int) × ((Int) × ((Int) × ((Int) × ((Int) × ((Int) × (Int))))))) (body1₀ : List (Int)) (size1₀ : Int) (f1₀ : (Int) × ((Int) × ((Int) × ((Int) × ((Int) × ((Int) × (Int))))))) (at_1₀ : Int) (stored₀ : Int) (v3₀ : List (Int)) (v4₀ : Int) (v5₀ : Int) : Option ((((Int) × ((Int) × ((Int) × ((Int) × ((Int) × ((Int) × (Int))))))) × ((Int) × (Int))) ⊕ Nat) :=
  iter (fun F1 ((link2, v2, body1, size1, f1, at_1, stored, v3, v4, v5) : Int × ((Int) × ((Int) × ((Int) × ((Int) × ((Int) × ((Int) × (Int))))))) × (List (Int)) × Int × ((Int) × ((Int) × ((Int) × ((Int) × ((Int) × ((Int) × (Int))))))) × Int × Int × (List (Int)) × Int × Int) =>
    bif decide (v5 < v4) then (
      (idx v3 v5).bind fun e =>
      bif decide ((8 : Int) < 0) then none
      else F1 (link2, v2, body1, size1, f1, at_1, IntKind.u64.wrap (((BitVec.ofInt 64 (IntKind.u64.wrap (stored * 2 ^ (Nat.min (Int.toNat 8) 64))) ||| BitVec.ofInt 64 (IntKind.u64.wrap e)).toNat : Int)), v3, v4, IntKind.i64.wrap (v5 + 1)))
    else bif (decide (0 ≤ (0 : Int)) && (decide ((0 : Int) ≤ at_1) && decide ((at_1 : Int) ≤ (List.length body1 : Int)))) then (
      (D68 link2 (List.drop (Int.toNat 0) (List.take (Int.toNat at_1) body1))).bind fun r1 =>
      bif (stored != r1) then some (.inr 135)
      else some (.inl ((f1.1, f1.2.1, f1.2.2.1, f1.2.2.2.1, f1.2.2.2.2.1, f1.2.2.2.2.2.1, f1.2.2.2.2.2.2), r1, size1)))
    else none) fuel (link2₀, v2₀, body1₀, size1₀, f1₀, at_1₀, stored₀, v3₀, v4₀, v5₀)
noncomputable def lp71_3 (fuel : Nat)  (link1₀ : Int) (v₀ : (Int) × ((Int) × ((Int) × ((Int) × ((Int) × ((Int) × (Int))))))) (body₀ : List (Int)) (size₀ : Int) (f₀ : (Int) × ((Int) × ((Int) × ((Int) × ((Int) × ((Int) × (Int))))))) (at_₀ : Int) (v1₀ : Int) : Option ((((Int) × ((Int) × ((Int) × ((Int) × ((Int) × ((Int) × (Int))))))) × ((Int) × (Int))) ⊕ Nat) :=
  iter (fun F ((link1, v, body, size, f, at_, v1) : Int × ((Int) × ((Int) × ((Int) × ((Int) × ((Int) × ((Int) × (Int))))))) × (List (Int)) × Int × ((Int) × ((Int) × ((Int) × ((Int) × ((Int) × ((Int) × (Int))))))) × Int × Int) =>
    bif decide (v1 < 7) then (
      bif (decide (0 ≤ (at_ : Int)) && (decide ((at_ : Int) ≤ (List.length body : Int)) && decide (((List.length body : Int) : Int) ≤ (List.length body : Int)))) then (
        (D103 (List.drop (Int.toNat at_) (List.take (Int.toNat (List.length body : Int)) body))).bind fun r1 =>
        bif (r1.2.2 != 0) then some (.inr 135)
        else bif decide (r1.1 > 20000000) then some (.inr 135)
        else bif decide (v1 = 6) then F (link1, v, body, size, (f.1, f.2.1, f.2.2.1, f.2.2.2.1, f.2.2.2.2.1, f.2.2.2.2.2.1, r1.1), IntKind.i64.wrap (at_ + r1.2.1), IntKind.i64.wrap (v1 + 1))
        else bif decide (v1 = 5) then F (link1, v, body, size, (f.1, f.2.1, f.2.2.1, f.2.2.2.1, f.2.2.2.2.1, r1.1, f.2.2.2.2.2.2), IntKind.i64.wrap (at_ + r1.2.1), IntKind.i64.wrap (v1 + 1))
        else bif decide (v1 = 4) then F (link1, v, body, size, (f.1, f.2.1, f.2.2.1, f.2.2.2.1, r1.1, f.2.2.2.2.2), IntKind.i64.wrap (at_ + r1.2.1), IntKind.i64.wrap (v1 + 1))
        else bif decide (v1 = 3) then F (link1, v, body, size, (f.1, f.2.1, f.2.2.1, r1.1, f.2.2.2.2), IntKind.i64.wrap (at_ + r1.2.1), IntKind.i64.wrap (v1 + 1))
        else bif decide (v1 = 2) then F (link1, v, body, size, (f.1, f.2.1, r1.1, f.2.2.2), IntKind.i64.wrap (at_ + r1.2.1), IntKind.i64.wrap (v1 + 1))
        else bif decide (v1 = 1) then F (link1, v, body, size, (f.1, r1.1, f.2.2), IntKind.i64.wrap (at_ + r1.2.1), IntKind.i64.wrap (v1 + 1))
        else bif decide (v1 = 0) then F (link1, v, body, size, (r1.1, f.2), IntKind.i64.wrap (at_ + r1.2.1), IntKind.i64.wrap (v1 + 1))
        else none)
      else none)
    else bif (IntKind.i64.wrap ((List.length body : Int) - at_) != 8) then some (.inr 135)
    else bif (decide (0 ≤ (at_ : Int)) && (decide ((at_ : Int) ≤ (List.length body : Int)) && decide (((List.length body : Int) : Int) ≤ (List.length body : Int)))) then lp71_1 fuel link1 v body size f at_ 0 (List.drop (Int.toNat at_) (List.take (Int.toNat (List.length body : Int)) body)) (List.length (List.drop (Int.toNat at_) (List.take (Int.toNat (List.length body : Int)) body)) : Int) 0
    else none) fuel (link1₀, v₀, body₀, size₀, f₀, at_₀, v1₀)
theorem g71 (fuel : Nat) (b : List (Int)) (link : Int) : (fnPK tab env71 20 ann71 fuel Try.f71 ps71 rs71 true (b, link) : Option ((((Int) × ((Int) × ((Int) × ((Int) × ((Int) × ((Int) × (Int))))))) × ((Int) × (Int))) ⊕ Nat)) = (
  (D102 b).bind fun r =>
  bif (r.2.2 != 0) then some (.inr 135)
  else lp71_3 fuel link (0, 0, 0, 0, 0, 0, 0) r.1 r.2.1 (0, 0, 0, 0, 0, 0, 0) 0 0 : Option ((((Int) × ((Int) × ((Int) × ((Int) × ((Int) × ((Int) × (Int))))))) × ((Int) × (Int))) ⊕ Nat)) := by kernel_rfl
theorem e71 (b : List (Int)) (link : Int) : D71 b link = (
  (D102 b).bind fun r =>
  bif (r.2.2 != 0) then some (.inr 135)
  else lp71_3 big link (0, 0, 0, 0, 0, 0, 0) r.1 r.2.1 (0, 0, 0, 0, 0, 0, 0) 0 0 : Option ((((Int) × ((Int) × ((Int) × ((Int) × ((Int) × ((Int) × (Int))))))) × ((Int) × (Int))) ⊕ Nat)) := g71 big b link
end Go.Proofs.Ytbapfiaglcllnaa.D
end
