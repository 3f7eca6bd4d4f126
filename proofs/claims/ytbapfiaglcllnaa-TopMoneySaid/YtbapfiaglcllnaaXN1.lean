import Derived.Test.YtbapfiaglcllnaaXAall
import Derived.Test.YtbapfiaglcllnaaGDE
namespace Go.Proofs.Ytbapfiaglcllnaa.D.Nt
set_option maxRecDepth 10000
open Go Go.GD Go.Proofs
noncomputable def ops54 (n : Nat) : Array Oper := ((Try.f54.body).bind (regOf n)).getD #[]
noncomputable abbrev R (n : Nat) : Code := .region n (ops54 n) false
theorem sh0 : shg (ops54 0).toList = [(.move (.tmp 0), some 6, none), (.nilCheck (.tmp 6), some 7, none), (.fieldAddr 115 (.tmp 7) 0, some 8, none), (.load 3 (.tmp 8), some 9, none), (.move (.tmp 2), some 10, none), (.move (.tmp 1), some 11, none), (.binOp .shr 3 (.tmp 11) (.const (.int .u64 20)) 142, some 12, none), (.binOp .mul 3 (.tmp 10) (.tmp 12) 3, some 13, none), (.binOp .add 3 (.tmp 9) (.tmp 13) 3, some 14, none), (.nilCheck (.tmp 6), some 15, none), (.fieldAddr 115 (.tmp 15) 0, some 16, none), (.store 3 (.tmp 16) (.tmp 14), none, none)] := by kernel_rfl
theorem sh1 : shg (ops54 1).toList = [(.move (.tmp 0), some 17, none), (.nilCheck (.tmp 17), some 18, none), (.fieldAddr 115 (.tmp 18) 1, some 19, none), (.load 3 (.tmp 19), some 20, none), (.move (.tmp 2), some 21, none), (.move (.tmp 1), some 22, none), (.binOp .and 3 (.tmp 22) (.const (.int .i64 1048575)) 3, some 23, none), (.binOp .mul 3 (.tmp 21) (.tmp 23) 3, some 24, none), (.binOp .add 3 (.tmp 20) (.tmp 24) 3, some 25, none), (.nilCheck (.tmp 17), some 26, none), (.fieldAddr 115 (.tmp 26) 1, some 27, none), (.store 3 (.tmp 27) (.tmp 25), none, none)] := by kernel_rfl
theorem body54 : Try.f54.body = some (.seq (R 0) (R 1)) := by kernel_rfl
theorem size54 : Try.f54.ntmps = 28 := by kernel_rfl
theorem res54 : Try.f54.results.toList = [] := by kernel_rfl
theorem k54 : Callable Try.prog 54 := ⟨Try.f54, Try.func54, by kernel_rfl, by kernel_rfl⟩
theorem g_fld (S k off T s : Nat) (hf : (Try.prog.underlying S).map (fun d => match d with | .struct fs => (fs[k]?).map (fun f => (f.offset, f.type)) | _ => none) = some (some (off, T)))
    (hT : (findTE tab T).map (·.ty.size) = some s) (hs0 : s ≠ 0) (w : World) (b o : Nat) : (Instr.fieldAt S (.pointer (some ⟨b, o, none⟩)) k).run Try.prog w = .ok (.pointer (some ⟨b, o + off, none⟩)) w := by
  obtain ⟨e, he, hes⟩ := te_of hT
  have hsz := (tabOK.find he).sizeOf w
  rw [hes] at hsz
  cases hu : Try.prog.underlying S with
  | none => rw [hu] at hf; cases hf
  | some d =>
    rw [hu] at hf
    cases d with
    | struct fs =>
      simp only [Option.map_some, Option.some.injEq] at hf
      cases hfk : fs[k]? with
      | none => rw [hfk] at hf; cases hf
      | some f =>
        rw [hfk] at hf
        simp only [Option.map_some, Option.some.injEq, Prod.mk.injEq] at hf
        have hsz' : (sizeOf f.type).run Try.prog w = .ok s w := by rw [hf.2]; exact hsz
        simp [Instr.fieldAt, underlying, hu, hfk, Instr.sureAddr, fieldPlace, hsz', addr_add, hf.1, hs0]
    | _ => simp at hf
theorem fl0 (w : World) (b o : Nat) : (Instr.fieldAt 115 (.pointer (some ⟨b, o, none⟩)) 0).run Try.prog w = .ok (.pointer (some ⟨b, o + 0, none⟩)) w := g_fld 115 0 0 3 1 (by kernel_rfl) (by kernel_rfl) (by decide) w b o
theorem fl1 (w : World) (b o : Nat) : (Instr.fieldAt 115 (.pointer (some ⟨b, o, none⟩)) 1).run Try.prog w = .ok (.pointer (some ⟨b, o + 1, none⟩)) w := g_fld 115 1 1 3 1 (by kernel_rfl) (by kernel_rfl) (by decide) w b o
theorem t3 : (findTE tab 3).map (·.ty.size) = some 1 := by kernel_rfl
def lowOf (n : Int) : Int := IntKind.i64.wrap (BitVec.ofInt 64 n &&& BitVec.ofInt 64 1048575).toNat
def addD (x : Int × Int) (y : Int × Int) : Option ((Int × Int) × Unit) :=
  some ((IntKind.i64.wrap (x.1 + IntKind.i64.wrap (y.2 * y.1.fdiv (2 ^ 20))), IntKind.i64.wrap (x.2 + IntKind.i64.wrap (y.2 * lowOf y.1))), ())
abbrev sumTy : Ty := .pair (.int .i64) (.int .i64)
def sgAdd : BxSig := { t := sumTy, bm := [.shr, .shr], ps := [.int .i64, .int .i64], rs := [], φ := addD, ax := true }
theorem splice2 (cs0 : List Value) (off : Nat) (a b : Value) (h : off + 2 ≤ cs0.length) : splice (splice cs0 off [a]) (off + 1) [b] = splice cs0 off [a, b] := by
  apply List.ext_getElem?
  intro i
  have h1 : off + [a].length ≤ cs0.length := by simp; omega
  have h2 : (off + 1) + [b].length ≤ (splice cs0 off [a]).length := by rw [splice_length _ _ _ h1]; simp; omega
  have h3 : off + [a, b].length ≤ cs0.length := by simpa using h
  rw [getElem?_splice _ _ _ _ h2, getElem?_splice _ _ _ _ h1, getElem?_splice _ _ _ _ h3]
  simp only [List.length_cons, List.length_nil]
  by_cases e0 : i < off
  · rw [if_pos (by omega), if_pos (by omega), if_pos (by omega)]
  · by_cases e1 : i = off
    · subst e1
      rw [if_pos (by omega), if_neg (by omega), if_pos (by omega), if_neg (by omega), if_pos (by omega)]
      simp
    · by_cases e2 : i = off + 1
      · subst e2
        rw [if_neg (by omega), if_pos (by omega), if_neg (by omega), if_pos (by omega)]
        simp
      · rw [if_neg (by omega), if_neg (by omega), if_neg (by omega), if_neg (by omega), if_neg (by omega), if_neg (by omega)]
set_option maxHeartbeats 1000000 in
theorem add_does : AxDoes Try.prog 54 sgAdd := by
  intro w b off et cs0 cs av x y r hh hcs hfit hx hy hr
  have hfit : off + 2 ≤ cs0.length := hfit
  obtain ⟨c1, c2, rfl, h1, h2⟩ := hx
  have h1 : c1 = [.int .i64 x.1] := h1
  have h2 : c2 = [.int .i64 x.2] := h2
  subst h1 h2
  obtain ⟨d1, d2, rfl, h1, h2⟩ := hy
  have h1 : d1 = [.int .i64 y.1] := h1
  have h2 : d2 = [.int .i64 y.2] := h2
  subst h1 h2
  have hr : addD x y = some r := hr
  injection hr with hr
  subst hr
  have g0 : cs0[off]? = some (.int .i64 x.1) := by
    have := congrArg (fun l => l[0]?) hcs
    simpa [sumTy, sgAdd, Ty.size, List.getElem?_take, List.getElem?_drop] using this
  have g1 : cs0[off + 1]? = some (.int .i64 x.2) := by
    have := congrArg (fun l => l[1]?) hcs
    simpa [sumTy, sgAdd, Ty.size, List.getElem?_take, List.getElem?_drop] using this
  show Calls Try.prog 54 #[.pointer (some ⟨b, off, none⟩), .int .i64 y.1, .int .i64 y.2] w _
  refine calls_of_wp Try.func54 body54 ?_
  have hsz : (#[Value.pointer (some ⟨b, off, none⟩), .int .i64 y.1, .int .i64 y.2] ++ Array.replicate (Try.f54.ntmps - #[Value.pointer (some ⟨b, off, none⟩), .int .i64 y.1, .int .i64 y.2].size) undef).size = 28 := by
    rw [Array.size_append, Array.size_replicate, size54]; rfl
  rw [Fr.of (N := 28) (a := { tmps := #[Value.pointer (some ⟨b, off, none⟩), .int .i64 y.1, .int .i64 y.2] ++ Array.replicate (Try.f54.ntmps - #[Value.pointer (some ⟨b, off, none⟩), .int .i64 y.1, .int .i64 y.2].size) undef, defers := [] }) hsz]
  simp only []
  generalize hf : (fun s => (#[Value.pointer (some ⟨b, off, none⟩), .int .i64 y.1, .int .i64 y.2] ++ Array.replicate (Try.f54.ntmps - #[Value.pointer (some ⟨b, off, none⟩), .int .i64 y.1, .int .i64 y.2].size) undef).getD s undef) = f
  have f0 : f 0 = .pointer (some ⟨b, off, none⟩) := by rw [← hf]; simp
  have f1 : f 1 = .int .i64 y.1 := by rw [← hf]; simp
  have f2 : f 2 = .int .i64 y.2 := by rw [← hf]; simp
  clear hf hsz
  have nck : ∀ {N : Nat} {f : Nat → Value} {x : Operand} {d : Nat} {l : List (Op × Option Nat × Option (Nat × Bool))} {ops : Array Oper} {Q : Exit → Act → World → Prop} {w : World} {a : Addr}, d < N → (Fr N f []).eval x = .pointer (some a) → wpSh Try.prog ops Q l (Fr N (put_ f d (.pointer (some a))) []) w → wpSh Try.prog ops Q ((.nilCheck x, some d, none) :: l) (Fr N f []) w :=
    fun hd hx k => sh_val hd (fun o ho => by simp [execOp, ho, hx]) k
  refine wp_seq (reg_sh sh0 ?_)
  refine sh_move (v := .pointer (some ⟨b, off, none⟩)) (by decide) (by simp [Fr.tmp, f0]) ?_
  refine nck (a := ⟨b, off, none⟩) (by decide) (by simp [Fr.tmp, put_]) ?_
  refine sh_val (v := .pointer (some ⟨b, off + 0, none⟩)) (w' := w) (by decide) (fun p hp => by
    simp only [execOp, hp]
    rw [Fr.tmp (by decide), fr_same]
    simp [fl0]) ?_
  refine sh_load (v := .int .i64 x.1) (by decide) s3 (by rw [Fr.tmp (by decide)]; exact fr_same _ _ _) ((cell_of_block hh).trans g0) ?_
  refine sh_move (v := .int .i64 y.2) (by decide) (by simp [Fr.tmp, put_, f2]) ?_
  refine sh_move (v := .int .i64 y.1) (by decide) (by simp [Fr.tmp, put_, f1]) ?_
  refine sh_val (v := .int .i64 (y.1.fdiv (2 ^ 20))) (w' := w) (by decide) (fun p hp => by
    simp [execOp, hp, Fr.tmp, Fr.const, put_, run_guard, binOp, Op.shift, IntKind.bits]) ?_
  refine sh_bin (k := .i64) (a := y.2) (b := y.1.fdiv (2 ^ 20)) (v := .int .i64 (IntKind.i64.wrap (y.2 * y.1.fdiv (2 ^ 20)))) (by decide) (by simp [Fr.tmp, put_]) (by simp [Fr.tmp, put_]) (by simp [binOp, Op.intArith]) ?_
  refine sh_add (k := .i64) (a := x.1) (b := IntKind.i64.wrap (y.2 * y.1.fdiv (2 ^ 20))) (by decide) (by simp [Fr.tmp, put_]) (by simp [Fr.tmp, put_]) ?_
  refine nck (a := ⟨b, off, none⟩) (by decide) (by simp [Fr.tmp, put_]) ?_
  refine sh_val (v := .pointer (some ⟨b, off + 0, none⟩)) (w' := w) (by decide) (fun p hp => by
    simp only [execOp, hp]
    rw [Fr.tmp (by decide), fr_same]
    simp [fl0]) ?_
  generalize hv1 : IntKind.i64.wrap (x.1 + IntKind.i64.wrap (y.2 * y.1.fdiv (2 ^ 20))) = v1
  have st1 := g_storeA (P := Try.prog) (tab := tab) tabOK t3 (b := b) (off := off) (cs0 := cs0) (cs := [.int .i64 v1]) (et := et) (v := .int .i64 v1) rfl rfl (fun v hv => by rw [List.mem_singleton.1 hv]; rfl) hh (by simp; omega)
  refine sh_skip (w' := w.setRow b (splice cs0 off [.int .i64 v1]).toArray) (fun p hp => by
    simp only [execOp, hp]
    rw [Fr.tmp (by decide), Fr.tmp (by decide)]
    simp only [put_]
    simp [st1]) ?_
  have hh1 := setRow_heap w b _ (splice cs0 off [.int .i64 v1]).toArray et (0, 0) hh
  have g1' : (splice cs0 off [.int .i64 v1])[off + 1]? = some (.int .i64 x.2) := by
    rw [getElem?_splice _ _ _ _ (by simp; omega), if_neg (by omega), if_neg (by simp)]; exact g1
  refine (reg_sh sh1 ?_)
  generalize hW : w.setRow b (splice cs0 off [.int .i64 v1]).toArray = W at hh1
  refine sh_move (v := .pointer (some ⟨b, off, none⟩)) (by decide) (by simp [Fr.tmp, put_, f0]) ?_
  refine nck (a := ⟨b, off, none⟩) (by decide) (by simp [Fr.tmp, put_]) ?_
  refine sh_val (v := .pointer (some ⟨b, off + 1, none⟩)) (w' := W) (by decide) (fun p hp => by
    simp only [execOp, hp]
    rw [Fr.tmp (by decide), fr_same]
    simp [fl1]) ?_
  refine sh_load (v := .int .i64 x.2) (by decide) s3 (by rw [Fr.tmp (by decide)]; exact fr_same _ _ _) ((cell_of_block hh1).trans g1') ?_
  refine sh_move (v := .int .i64 y.2) (by decide) (by simp [Fr.tmp, put_, f2]) ?_
  refine sh_move (v := .int .i64 y.1) (by decide) (by simp [Fr.tmp, put_, f1]) ?_
  refine sh_bin (k := .i64) (a := y.1) (b := 1048575) (v := .int .i64 (lowOf y.1)) (by decide) (by simp [Fr.tmp, put_]) rfl (by simp [binOp, Op.intBits]; rfl) ?_
  refine sh_bin (k := .i64) (a := y.2) (b := lowOf y.1) (v := .int .i64 (IntKind.i64.wrap (y.2 * lowOf y.1))) (by decide) (by simp [Fr.tmp, put_]) (by simp [Fr.tmp, put_]) (by simp [binOp, Op.intArith]) ?_
  refine sh_add (k := .i64) (a := x.2) (b := IntKind.i64.wrap (y.2 * lowOf y.1)) (by decide) (by simp [Fr.tmp, put_]) (by simp [Fr.tmp, put_]) ?_
  refine nck (a := ⟨b, off, none⟩) (by decide) (by simp [Fr.tmp, put_]) ?_
  refine sh_val (v := .pointer (some ⟨b, off + 1, none⟩)) (w' := W) (by decide) (fun p hp => by
    simp only [execOp, hp]
    rw [Fr.tmp (by decide), fr_same]
    simp [fl1]) ?_
  generalize hv2 : IntKind.i64.wrap (x.2 + IntKind.i64.wrap (y.2 * lowOf y.1)) = v2
  have st2 := g_storeA (P := Try.prog) (tab := tab) tabOK t3 (b := b) (off := off + 1) (cs0 := splice cs0 off [.int .i64 v1]) (cs := [.int .i64 v2]) (et := et) (v := .int .i64 v2) rfl rfl (fun v hv => by rw [List.mem_singleton.1 hv]; rfl) hh1 (by rw [splice_length _ _ _ (by simp; omega)]; simp; omega)
  refine sh_skip (w' := W.setRow b (splice (splice cs0 off [.int .i64 v1]) (off + 1) [.int .i64 v2]).toArray) (fun p hp => by
    simp only [execOp, hp]
    rw [Fr.tmp (by decide), Fr.tmp (by decide)]
    simp only [put_]
    simp [st2]) ?_
  refine ⟨rfl, .tuple #[], (run_results (vs := []) (by rw [res54]; rfl)).trans rfl, [], [.int .i64 v1, .int .i64 v2], rfl, rfl, ⟨[_], [_], rfl, ?_, ?_⟩, rfl, ?_⟩
  · show [Value.int .i64 v1] = [Value.int .i64 _]
    rw [← hv1]
  · show [Value.int .i64 v2] = [Value.int .i64 _]
    rw [← hv2]
  · rw [splice2 _ _ _ _ hfit, ← hW, setRow_setRow]
end Go.Proofs.Ytbapfiaglcllnaa.D.Nt
