import Derived.Test.YtbapfiaglcllnaaEXN3a
import Derived.Test.YtbapfiaglcllnaaXSall
import Derived.Test.YtbapfiaglcllnaaXVall
namespace Go.Proofs.Ytbapfiaglcllnaa.D.Nt
set_option maxRecDepth 10000
open Go Go.GD Go.Proofs
noncomputable def ops18 (n : Nat) : Array Oper := ((Try.f18.body).bind (regOf n)).getD #[]
noncomputable abbrev N (n : Nat) : Code := .region n (ops18 n) false
def blkOf : Code → Code
  | .seq (.block n c) _ => .block n c
  | .seq _ b => blkOf b
  | c => c
noncomputable def blk18 : Code := (Try.f18.body.map blkOf).getD .skip
theorem sn21 : shg (ops18 21).toList = [(.move (.tmp 5), some 72, none), (.call { callee := .value (.func 49), args := #[(.tmp 72), (.func 50)], argTypes := #[51, 113] }, some 73, none)] := by kernel_rfl
theorem sn22 : shg (ops18 22).toList = [(.move (.tmp 5), some 74, none), (.assign (.tmp 74), some 2, none)] := by kernel_rfl
theorem body18 : Try.f18.body = some (.seq (N 0) (.seq (N 1) (.seq (N 2) (.seq (N 3) (.seq (N 4) (.seq (N 5) (.seq blk18 (.seq (N 21) (.seq (N 22) .ret))))))))) := by kernel_rfl
theorem res18 : Try.f18.results.toList = [.tmp 2] := by kernel_rfl
theorem size18 : Try.f18.ntmps = 75 := by kernel_rfl
theorem k18 : Callable Try.prog 18 := ⟨Try.f18, Try.func18, by kernel_rfl, by kernel_rfl⟩
def cmpI (x y : Int) : Int := if x < y then -1 else if x > y then 1 else 0
def cfT (a b : Tr) : Int := if cmpI a.1 b.1 ≠ 0 then cmpI a.1 b.1 else cmpI a.2.1 b.2.1
theorem cfT_lt (a b : Tr) : ltOf cfT a b = decide (a.1 < b.1 ∨ a.1 = b.1 ∧ a.2.1 < b.2.1) := by
  unfold ltOf cfT cmpI
  rw [decide_eq_decide]
  repeat' split
  all_goals omega
theorem cfT_swo : Go.Sort.SWO (ltOf cfT) where
  irrefl x := by rw [cfT_lt]; simp
  trans x y z h1 h2 := by rw [cfT_lt, decide_eq_true_eq] at *; omega
  ntrans x y z h1 h2 := by rw [cfT_lt, decide_eq_false_iff_not] at *; omega
theorem D52_eq (x y : Int) : D52 x y = some (cmpI x y) := by
  rw [e52, e94, e94]
  have h1 : (x != x) = false := by simp
  have h2 : (y != y) = false := by simp
  rw [h1, h2]
  unfold cmpI
  by_cases h : x < y
  · simp [h]
  · by_cases h' : x > y
    · simp [h, h']
    · simp [h, h']
theorem D51_eq (x y : Int) : D51 [x, y] = some (if x ≠ 0 then x else y) := by
  rw [e51]
  show lp51_1 big 0 [x, y] (List.length [x, y] : Int) 0 = _
  rw [f51_1 0 [x, y] (by unfold maxLen; simp)]
  simp only [forE]
  by_cases h : x = 0
  · subst h
    by_cases h2 : y = 0
    · subst h2; simp
    · have h3 : (y != 0) = true := by simpa using h2
      simp [h3]
  · have h3 : (x != 0) = true := by simpa using h
    simp [h3, h]
theorem D50_eq (a b : Tr) : d50 (a, b) = some (cfT a b) := by
  show D50 a b = _
  rw [e50, D52_eq, D52_eq]
  simp only [Option.bind_some]
  rw [D51_eq]
  simp only [Option.bind_some]
  rfl
instance : Inhabited trTy.den := ⟨((0, 0, 0) : Tr)⟩
noncomputable def netD (l : List Rd) : Option (List Tr) := (D18 l).bind fun xs => bif Nat.ble xs.length 4611686018427387903 then some (sortD (α := trTy.den) cfT xs) else none
noncomputable def hd18 : Code := .seq (N 0) (.seq (N 1) (.seq (N 2) (.seq (N 3) (.seq (N 4) (.seq (N 5) blk18)))))
noncomputable abbrev E18 : Env := { tab, fn := env18, nv := 11, res := [5] }
def end18 (e : Ex) (σ : St) : Option (List Tr) := match e with
  | .normal => bif Nat.beq σ.length 75 then readRes [.tmp 5] true [.sl trTy] σ some else none
  | _ => none
noncomputable def netH (fuel : Nat) (l : List Rd) : Option (List Tr) := codeC E18 ann18 fuel hd18 end18 (initArgs [] [.sl shTy] l ++ List.replicate 74 topSlot)
theorem netH_g (fuel : Nat) (l : List Rd) : netH fuel l = ((D46 l).bind fun r =>
  (D47 r).bind fun r1 =>
  lp18_5 fuel r r1.1 r1.2 ([] : List ((Int) × ((Int) × (Int)))) ([] : List ((Int) × (Int))) (IntKind.i64.wrap ((List.length r1.1 : Int) - 1)) : Option (List ((Int) × ((Int) × (Int))))) := by kernel_rfl
theorem netH_eq (l : List Rd) : netH big l = D18 l := (netH_g big l).trans (e18 l).symm
end Go.Proofs.Ytbapfiaglcllnaa.D.Nt
