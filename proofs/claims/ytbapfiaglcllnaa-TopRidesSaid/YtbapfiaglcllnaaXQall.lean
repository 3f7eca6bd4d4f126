import Derived.Test.YtbapfiaglcllnaaEXR8
import Derived.Test.YtbapfiaglcllnaaXPaa
section
open Go Go.GD Go.Proofs
namespace Go.Proofs.Ytbapfiaglcllnaa.D.Jn
open Up Ul
def ride (g : Int) (j : Nat) : Rd := (g, ((j + 1 : Nat) : Int), ((1 + (j + 1) % 3 : Nat) : Int), ((j + 1 : Nat) : Int), 1, g, ((10 * (j + 1) : Nat) : Int))
def mk (g : Int) (n : Nat) : List Rd := (List.range n).map (ride g)
structure Fr where
  n : Nat
  body : List Int
  s4 : List Int
  s : Int
def Fr.bytes (f : Fr) : List Int := (f.n : Int) :: (f.body ++ f.s4)
def sumF (s el : Int) : Int := IntKind.u32.wrap (((BitVec.ofInt 32 (IntKind.u32.wrap (s * 2 ^ (Nat.min (Int.toNat 8) 32))) ||| BitVec.ofInt 32 (IntKind.u32.wrap el)).toNat : Int))
def lks : List Int := [0, 2680031730019224641, 5791761002629891010, 9836144973378524403, 14307089732113902644, 9884156976578557203, 6590369427134041188, 2606539781352751271, 11475627864576297535, 2720114061477580318, 1169435742377572457, 15270893567013568839, 13801187272574304875, 4845655439132035392, 6747278114250671469, 2427897115342202101, 643580287776146868, 14222981807705966056, 17112453706830264338, 4024917267435200718, 7413595856243085902, 16593835778494180818, 846496346786343450, 4273933490459979032, 6922076056994015985, 3244613851256368508, 13419982080222709959, 2362609563347136359, 9199328741138448531, 11366489029704238405, 6835441797861905501]
def lk (k : Nat) : Int := lks.getD k 0
def frs : List Fr := [⟨15, [4, 1, 2, 1, 1, 4, 10, 37, 49, 98, 168, 182, 146, 76, 65], [226, 17, 152, 54], 3792803894⟩,
  ⟨15, [4, 2, 3, 2, 1, 4, 20, 80, 96, 119, 242, 33, 183, 3, 194], [151, 238, 105, 187], 2548984251⟩,
  ⟨15, [4, 3, 1, 3, 1, 4, 30, 136, 129, 1, 189, 57, 120, 148, 243], [239, 246, 180, 199], 4025922759⟩,
  ⟨15, [4, 4, 2, 4, 1, 4, 40, 198, 140, 254, 79, 36, 73, 172, 52], [14, 226, 87, 31], 249714463⟩,
  ⟨15, [4, 5, 3, 5, 1, 4, 50, 137, 43, 148, 102, 213, 41, 245, 19], [92, 137, 226, 189], 1552540349⟩,
  ⟨15, [4, 6, 1, 6, 1, 4, 60, 91, 117, 178, 19, 162, 235, 76, 100], [116, 18, 67, 26], 1947353882⟩,
  ⟨15, [4, 7, 2, 7, 1, 4, 70, 36, 44, 74, 31, 0, 116, 128, 167], [40, 121, 39, 22], 679028502⟩,
  ⟨15, [4, 8, 3, 8, 1, 4, 80, 159, 65, 158, 190, 10, 165, 10, 63], [0, 118, 12, 52], 7736372⟩,
  ⟨15, [4, 9, 1, 9, 1, 4, 90, 37, 191, 201, 83, 190, 234, 142, 30], [197, 209, 150, 131], 3318847107⟩,
  ⟨15, [4, 10, 2, 10, 1, 4, 100, 16, 58, 171, 156, 156, 15, 120, 105], [228, 149, 98, 80], 3834995280⟩,
  ⟨15, [4, 11, 3, 11, 1, 4, 110, 211, 237, 28, 202, 96, 164, 65, 71], [88, 92, 6, 89], 1482425945⟩,
  ⟨15, [4, 12, 1, 12, 1, 4, 120, 191, 135, 170, 179, 220, 111, 2, 107], [90, 113, 193, 80], 1517404496⟩,
  ⟨16, [4, 13, 2, 13, 1, 4, 130, 1, 67, 63, 57, 242, 209, 103, 137, 64], [7, 105, 145, 57], 124358969⟩,
  ⟨16, [4, 14, 3, 14, 1, 4, 140, 1, 93, 163, 37, 178, 64, 173, 197, 109], [96, 227, 183, 1], 1625536257⟩,
  ⟨16, [4, 15, 1, 15, 1, 4, 150, 1, 33, 177, 159, 144, 23, 42, 228, 245], [34, 46, 63, 255], 573456383⟩,
  ⟨16, [4, 16, 2, 16, 1, 4, 160, 1, 8, 238, 116, 220, 165, 87, 69, 180], [74, 206, 45, 227], 1255026147⟩,
  ⟨16, [4, 17, 3, 17, 1, 4, 170, 1, 197, 98, 46, 152, 247, 40, 69, 232], [223, 192, 196, 96], 3753952352⟩,
  ⟨16, [4, 18, 1, 18, 1, 4, 180, 1, 237, 123, 165, 251, 14, 239, 56, 18], [31, 66, 105, 20], 524445972⟩,
  ⟨16, [4, 19, 2, 19, 1, 4, 190, 1, 55, 219, 96, 238, 7, 207, 160, 206], [198, 244, 202, 93], 3337931357⟩,
  ⟨16, [4, 20, 3, 20, 1, 4, 200, 1, 102, 226, 98, 38, 255, 173, 82, 78], [131, 129, 161, 140], 2206310796⟩,
  ⟨16, [4, 21, 1, 21, 1, 4, 210, 1, 230, 73, 37, 184, 254, 80, 45, 210], [150, 201, 166, 251], 2529797883⟩,
  ⟨16, [4, 22, 2, 22, 1, 4, 220, 1, 11, 191, 91, 241, 69, 221, 170, 26], [7, 198, 110, 71], 130444871⟩,
  ⟨16, [4, 23, 3, 23, 1, 4, 230, 1, 59, 80, 15, 221, 132, 131, 45, 24], [114, 143, 37, 191], 1921983935⟩,
  ⟨16, [4, 24, 1, 24, 1, 4, 240, 1, 96, 16, 39, 127, 197, 93, 106, 241], [215, 34, 123, 152], 3609361304⟩,
  ⟨16, [4, 25, 2, 25, 1, 4, 250, 1, 45, 7, 47, 27, 101, 114, 173, 124], [223, 244, 214, 71], 3757364807⟩,
  ⟨16, [4, 26, 3, 26, 1, 4, 132, 2, 186, 61, 90, 153, 143, 200, 72, 199], [73, 219, 170, 72], 1239132744⟩,
  ⟨16, [4, 27, 1, 27, 1, 4, 142, 2, 32, 201, 172, 225, 86, 63, 47, 103], [26, 162, 49, 167], 446837159⟩,
  ⟨16, [4, 28, 2, 28, 1, 4, 152, 2, 127, 170, 148, 191, 251, 153, 64, 147], [86, 92, 37, 39], 1448879399⟩,
  ⟨16, [4, 29, 3, 29, 1, 4, 162, 2, 157, 189, 225, 140, 222, 229, 69, 69], [192, 252, 242, 61], 3237802557⟩,
  ⟨16, [4, 30, 1, 30, 1, 4, 172, 2, 94, 220, 94, 25, 116, 106, 148, 93], [130, 53, 16, 204], 2184515788⟩]
def log (k : Nat) : List Int := ((frs.take k).map Fr.bytes).flatten
structure Good (k : Nat) (f : Fr) : Prop where
  at_ : frs[k]? = some f
  n_ : f.n = 15 ∨ f.n = 16
  len : f.body.length = f.n
  four : f.s4.length = 4
  sum : D101 f.body = some f.s
  fold : f.s4.foldl sumF 0 = f.s
  range : D26 (ride 4 k) = some true
  wr : D27 (log k) (ride 4 k) (lk k) = some (log (k + 1), lk (k + 1))
  rd : lp71_3 big (lk k) (0, 0, 0, 0, 0, 0, 0) f.body ((f.n : Int) + 5) (0, 0, 0, 0, 0, 0, 0) 0 0 = some (.inl (ride 4 k, lk (k + 1), (f.n : Int) + 5))
end Go.Proofs.Ytbapfiaglcllnaa.D.Jn
end

section
open Go Go.GD Go.Proofs
namespace Go.Proofs.Ytbapfiaglcllnaa.D.Jn
set_option maxRecDepth 10000000
theorem good0 : Good 0 ⟨15, [4, 1, 2, 1, 1, 4, 10, 37, 49, 98, 168, 182, 146, 76, 65], [226, 17, 152, 54], 3792803894⟩ where
  at_ := rfl
  n_ := by decide
  len := rfl
  four := rfl
  sum := by kernel_rfl
  fold := by kernel_rfl
  range := by kernel_rfl
  wr := by kernel_rfl
  rd := by kernel_rfl
theorem good1 : Good 1 ⟨15, [4, 2, 3, 2, 1, 4, 20, 80, 96, 119, 242, 33, 183, 3, 194], [151, 238, 105, 187], 2548984251⟩ where
  at_ := rfl
  n_ := by decide
  len := rfl
  four := rfl
  sum := by kernel_rfl
  fold := by kernel_rfl
  range := by kernel_rfl
  wr := by kernel_rfl
  rd := by kernel_rfl
theorem good2 : Good 2 ⟨15, [4, 3, 1, 3, 1, 4, 30, 136, 129, 1, 189, 57, 120, 148, 243], [239, 246, 180, 199], 4025922759⟩ where
  at_ := rfl
  n_ := by decide
  len := rfl
  four := rfl
  sum := by kernel_rfl
  fold := by kernel_rfl
  range := by kernel_rfl
  wr := by kernel_rfl
  rd := by kernel_rfl
theorem good3 : Good 3 ⟨15, [4, 4, 2, 4, 1, 4, 40, 198, 140, 254, 79, 36, 73, 172, 52], [14, 226, 87, 31], 249714463⟩ where
  at_ := rfl
  n_ := by decide
  len := rfl
  four := rfl
  sum := by kernel_rfl
  fold := by kernel_rfl
  range := by kernel_rfl
  wr := by kernel_rfl
  rd := by kernel_rfl
theorem good4 : Good 4 ⟨15, [4, 5, 3, 5, 1, 4, 50, 137, 43, 148, 102, 213, 41, 245, 19], [92, 137, 226, 189], 1552540349⟩ where
  at_ := rfl
  n_ := by decide
  len := rfl
  four := rfl
  sum := by kernel_rfl
  fold := by kernel_rfl
  range := by kernel_rfl
  wr := by kernel_rfl
  rd := by kernel_rfl
theorem good5 : Good 5 ⟨15, [4, 6, 1, 6, 1, 4, 60, 91, 117, 178, 19, 162, 235, 76, 100], [116, 18, 67, 26], 1947353882⟩ where
  at_ := rfl
  n_ := by decide
  len := rfl
  four := rfl
  sum := by kernel_rfl
  fold := by kernel_rfl
  range := by kernel_rfl
  wr := by kernel_rfl
  rd := by kernel_rfl
theorem good6 : Good 6 ⟨15, [4, 7, 2, 7, 1, 4, 70, 36, 44, 74, 31, 0, 116, 128, 167], [40, 121, 39, 22], 679028502⟩ where
  at_ := rfl
  n_ := by decide
  len := rfl
  four := rfl
  sum := by kernel_rfl
  fold := by kernel_rfl
  range := by kernel_rfl
  wr := by kernel_rfl
  rd := by kernel_rfl
theorem good7 : Good 7 ⟨15, [4, 8, 3, 8, 1, 4, 80, 159, 65, 158, 190, 10, 165, 10, 63], [0, 118, 12, 52], 7736372⟩ where
  at_ := rfl
  n_ := by decide
  len := rfl
  four := rfl
  sum := by kernel_rfl
  fold := by kernel_rfl
  range := by kernel_rfl
  wr := by kernel_rfl
  rd := by kernel_rfl
end Go.Proofs.Ytbapfiaglcllnaa.D.Jn
end

section
open Go Go.GD Go.Proofs
namespace Go.Proofs.Ytbapfiaglcllnaa.D.Jn
set_option maxRecDepth 10000000
theorem good8 : Good 8 ⟨15, [4, 9, 1, 9, 1, 4, 90, 37, 191, 201, 83, 190, 234, 142, 30], [197, 209, 150, 131], 3318847107⟩ where
  at_ := rfl
  n_ := by decide
  len := rfl
  four := rfl
  sum := by kernel_rfl
  fold := by kernel_rfl
  range := by kernel_rfl
  wr := by kernel_rfl
  rd := by kernel_rfl
theorem good9 : Good 9 ⟨15, [4, 10, 2, 10, 1, 4, 100, 16, 58, 171, 156, 156, 15, 120, 105], [228, 149, 98, 80], 3834995280⟩ where
  at_ := rfl
  n_ := by decide
  len := rfl
  four := rfl
  sum := by kernel_rfl
  fold := by kernel_rfl
  range := by kernel_rfl
  wr := by kernel_rfl
  rd := by kernel_rfl
theorem good10 : Good 10 ⟨15, [4, 11, 3, 11, 1, 4, 110, 211, 237, 28, 202, 96, 164, 65, 71], [88, 92, 6, 89], 1482425945⟩ where
  at_ := rfl
  n_ := by decide
  len := rfl
  four := rfl
  sum := by kernel_rfl
  fold := by kernel_rfl
  range := by kernel_rfl
  wr := by kernel_rfl
  rd := by kernel_rfl
theorem good11 : Good 11 ⟨15, [4, 12, 1, 12, 1, 4, 120, 191, 135, 170, 179, 220, 111, 2, 107], [90, 113, 193, 80], 1517404496⟩ where
  at_ := rfl
  n_ := by decide
  len := rfl
  four := rfl
  sum := by kernel_rfl
  fold := by kernel_rfl
  range := by kernel_rfl
  wr := by kernel_rfl
  rd := by kernel_rfl
theorem good12 : Good 12 ⟨16, [4, 13, 2, 13, 1, 4, 130, 1, 67, 63, 57, 242, 209, 103, 137, 64], [7, 105, 145, 57], 124358969⟩ where
  at_ := rfl
  n_ := by decide
  len := rfl
  four := rfl
  sum := by kernel_rfl
  fold := by kernel_rfl
  range := by kernel_rfl
  wr := by kernel_rfl
  rd := by kernel_rfl
theorem good13 : Good 13 ⟨16, [4, 14, 3, 14, 1, 4, 140, 1, 93, 163, 37, 178, 64, 173, 197, 109], [96, 227, 183, 1], 1625536257⟩ where
  at_ := rfl
  n_ := by decide
  len := rfl
  four := rfl
  sum := by kernel_rfl
  fold := by kernel_rfl
  range := by kernel_rfl
  wr := by kernel_rfl
  rd := by kernel_rfl
theorem good14 : Good 14 ⟨16, [4, 15, 1, 15, 1, 4, 150, 1, 33, 177, 159, 144, 23, 42, 228, 245], [34, 46, 63, 255], 573456383⟩ where
  at_ := rfl
  n_ := by decide
  len := rfl
  four := rfl
  sum := by kernel_rfl
  fold := by kernel_rfl
  range := by kernel_rfl
  wr := by kernel_rfl
  rd := by kernel_rfl
theorem good15 : Good 15 ⟨16, [4, 16, 2, 16, 1, 4, 160, 1, 8, 238, 116, 220, 165, 87, 69, 180], [74, 206, 45, 227], 1255026147⟩ where
  at_ := rfl
  n_ := by decide
  len := rfl
  four := rfl
  sum := by kernel_rfl
  fold := by kernel_rfl
  range := by kernel_rfl
  wr := by kernel_rfl
  rd := by kernel_rfl
end Go.Proofs.Ytbapfiaglcllnaa.D.Jn
end

section
open Go Go.GD Go.Proofs
namespace Go.Proofs.Ytbapfiaglcllnaa.D.Jn
set_option maxRecDepth 10000000
theorem good16 : Good 16 ⟨16, [4, 17, 3, 17, 1, 4, 170, 1, 197, 98, 46, 152, 247, 40, 69, 232], [223, 192, 196, 96], 3753952352⟩ where
  at_ := rfl
  n_ := by decide
  len := rfl
  four := rfl
  sum := by kernel_rfl
  fold := by kernel_rfl
  range := by kernel_rfl
  wr := by kernel_rfl
  rd := by kernel_rfl
theorem good17 : Good 17 ⟨16, [4, 18, 1, 18, 1, 4, 180, 1, 237, 123, 165, 251, 14, 239, 56, 18], [31, 66, 105, 20], 524445972⟩ where
  at_ := rfl
  n_ := by decide
  len := rfl
  four := rfl
  sum := by kernel_rfl
  fold := by kernel_rfl
  range := by kernel_rfl
  wr := by kernel_rfl
  rd := by kernel_rfl
theorem good18 : Good 18 ⟨16, [4, 19, 2, 19, 1, 4, 190, 1, 55, 219, 96, 238, 7, 207, 160, 206], [198, 244, 202, 93], 3337931357⟩ where
  at_ := rfl
  n_ := by decide
  len := rfl
  four := rfl
  sum := by kernel_rfl
  fold := by kernel_rfl
  range := by kernel_rfl
  wr := by kernel_rfl
  rd := by kernel_rfl
theorem good19 : Good 19 ⟨16, [4, 20, 3, 20, 1, 4, 200, 1, 102, 226, 98, 38, 255, 173, 82, 78], [131, 129, 161, 140], 2206310796⟩ where
  at_ := rfl
  n_ := by decide
  len := rfl
  four := rfl
  sum := by kernel_rfl
  fold := by kernel_rfl
  range := by kernel_rfl
  wr := by kernel_rfl
  rd := by kernel_rfl
theorem good20 : Good 20 ⟨16, [4, 21, 1, 21, 1, 4, 210, 1, 230, 73, 37, 184, 254, 80, 45, 210], [150, 201, 166, 251], 2529797883⟩ where
  at_ := rfl
  n_ := by decide
  len := rfl
  four := rfl
  sum := by kernel_rfl
  fold := by kernel_rfl
  range := by kernel_rfl
  wr := by kernel_rfl
  rd := by kernel_rfl
theorem good21 : Good 21 ⟨16, [4, 22, 2, 22, 1, 4, 220, 1, 11, 191, 91, 241, 69, 221, 170, 26], [7, 198, 110, 71], 130444871⟩ where
  at_ := rfl
  n_ := by decide
  len := rfl
  four := rfl
  sum := by kernel_rfl
  fold := by kernel_rfl
  range := by kernel_rfl
  wr := by kernel_rfl
  rd := by kernel_rfl
theorem good22 : Good 22 ⟨16, [4, 23, 3, 23, 1, 4, 230, 1, 59, 80, 15, 221, 132, 131, 45, 24], [114, 143, 37, 191], 1921983935⟩ where
  at_ := rfl
  n_ := by decide
  len := rfl
  four := rfl
  sum := by kernel_rfl
  fold := by kernel_rfl
  range := by kernel_rfl
  wr := by kernel_rfl
  rd := by kernel_rfl
end Go.Proofs.Ytbapfiaglcllnaa.D.Jn
end

section
open Go Go.GD Go.Proofs
namespace Go.Proofs.Ytbapfiaglcllnaa.D.Jn
set_option maxRecDepth 10000000
theorem good23 : Good 23 ⟨16, [4, 24, 1, 24, 1, 4, 240, 1, 96, 16, 39, 127, 197, 93, 106, 241], [215, 34, 123, 152], 3609361304⟩ where
  at_ := rfl
  n_ := by decide
  len := rfl
  four := rfl
  sum := by kernel_rfl
  fold := by kernel_rfl
  range := by kernel_rfl
  wr := by kernel_rfl
  rd := by kernel_rfl
theorem good24 : Good 24 ⟨16, [4, 25, 2, 25, 1, 4, 250, 1, 45, 7, 47, 27, 101, 114, 173, 124], [223, 244, 214, 71], 3757364807⟩ where
  at_ := rfl
  n_ := by decide
  len := rfl
  four := rfl
  sum := by kernel_rfl
  fold := by kernel_rfl
  range := by kernel_rfl
  wr := by kernel_rfl
  rd := by kernel_rfl
theorem good25 : Good 25 ⟨16, [4, 26, 3, 26, 1, 4, 132, 2, 186, 61, 90, 153, 143, 200, 72, 199], [73, 219, 170, 72], 1239132744⟩ where
  at_ := rfl
  n_ := by decide
  len := rfl
  four := rfl
  sum := by kernel_rfl
  fold := by kernel_rfl
  range := by kernel_rfl
  wr := by kernel_rfl
  rd := by kernel_rfl
theorem good26 : Good 26 ⟨16, [4, 27, 1, 27, 1, 4, 142, 2, 32, 201, 172, 225, 86, 63, 47, 103], [26, 162, 49, 167], 446837159⟩ where
  at_ := rfl
  n_ := by decide
  len := rfl
  four := rfl
  sum := by kernel_rfl
  fold := by kernel_rfl
  range := by kernel_rfl
  wr := by kernel_rfl
  rd := by kernel_rfl
theorem good27 : Good 27 ⟨16, [4, 28, 2, 28, 1, 4, 152, 2, 127, 170, 148, 191, 251, 153, 64, 147], [86, 92, 37, 39], 1448879399⟩ where
  at_ := rfl
  n_ := by decide
  len := rfl
  four := rfl
  sum := by kernel_rfl
  fold := by kernel_rfl
  range := by kernel_rfl
  wr := by kernel_rfl
  rd := by kernel_rfl
theorem good28 : Good 28 ⟨16, [4, 29, 3, 29, 1, 4, 162, 2, 157, 189, 225, 140, 222, 229, 69, 69], [192, 252, 242, 61], 3237802557⟩ where
  at_ := rfl
  n_ := by decide
  len := rfl
  four := rfl
  sum := by kernel_rfl
  fold := by kernel_rfl
  range := by kernel_rfl
  wr := by kernel_rfl
  rd := by kernel_rfl
theorem good29 : Good 29 ⟨16, [4, 30, 1, 30, 1, 4, 172, 2, 94, 220, 94, 25, 116, 106, 148, 93], [130, 53, 16, 204], 2184515788⟩ where
  at_ := rfl
  n_ := by decide
  len := rfl
  four := rfl
  sum := by kernel_rfl
  fold := by kernel_rfl
  range := by kernel_rfl
  wr := by kernel_rfl
  rd := by kernel_rfl
end Go.Proofs.Ytbapfiaglcllnaa.D.Jn
end
