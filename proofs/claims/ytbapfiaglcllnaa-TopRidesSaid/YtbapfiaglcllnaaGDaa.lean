import GoSem.Core.Code
import GoSem.Core.View
import Derived.KernelRfl
import Derived.Calls
import Derived.Laws.World
import Derived.Laws.Sem
import Derived.Laws.Cells
import Derived.Laws.Rows
import Derived.Laws.StructEq
section
namespace Go.GD
noncomputable section
inductive Ty where
  | unit | int (k : IntKind) | bool | str
  | pair (a b : Ty) | sl (t : Ty) | ptr (t : Ty) | fn (a b : Ty)
  deriving DecidableEq, Repr, Inhabited
@[reducible] def Ty.den : Ty → Type
  | .unit => Unit
  | .int _ => Int
  | .bool => Bool
  | .str => List UInt8
  | .pair a b => a.den × b.den
  | .sl t => List t.den
  | .ptr t => t.den
  | .fn a b => a.den → Option b.den
def kindBeq : IntKind → IntKind → Bool
  | .i8, .i8 | .i16, .i16 | .i32, .i32 | .i64, .i64 | .u8, .u8 | .u16, .u16 | .u32, .u32 | .u64, .u64 => true
  | _, _ => false
def Ty.beq : Ty → Ty → Bool
  | .unit, .unit => true
  | .int k, .int k' => kindBeq k k'
  | .bool, .bool => true
  | .str, .str => true
  | .pair a b, .pair a' b' => a.beq a' && b.beq b'
  | .sl a, .sl a' => a.beq a'
  | .ptr a, .ptr a' => a.beq a'
  | .fn a b, .fn a' b' => a.beq a' && b.beq b'
  | _, _ => false
theorem kindBeq_eq {a b : IntKind} (h : kindBeq a b = true) : a = b := by
  cases a <;> cases b <;> first | rfl | simp [kindBeq] at h
theorem Ty.eq_of_beq : {a b : Ty} → a.beq b = true → a = b
  | .unit, b, h => by cases b <;> simp_all [Ty.beq]
  | .int k, b, h => by cases b <;> simp_all [Ty.beq]; exact kindBeq_eq h
  | .bool, b, h => by cases b <;> simp_all [Ty.beq]
  | .str, b, h => by cases b <;> simp_all [Ty.beq]
  | .pair x y, b, h => by
    cases b <;> simp [Ty.beq] at h
    rw [Ty.eq_of_beq h.1, Ty.eq_of_beq h.2]
  | .sl x, b, h => by
    cases b <;> simp [Ty.beq] at h
    rw [Ty.eq_of_beq h]
  | .ptr x, b, h => by
    cases b <;> simp [Ty.beq] at h
    rw [Ty.eq_of_beq h]
  | .fn x y, b, h => by
    cases b <;> simp [Ty.beq] at h
    rw [Ty.eq_of_beq h.1, Ty.eq_of_beq h.2]
def Ty.size : Ty → Nat
  | .unit => 0
  | .pair a b => a.size + b.size
  | _ => 1
def Ty.isAgg : Ty → Bool
  | .unit | .pair .. => true
  | _ => false
def Ty.zero : (t : Ty) → Option t.den
  | .unit => some ()
  | .int _ => some (0 : Int)
  | .bool => some false
  | .str => some ([] : List UInt8)
  | .pair a b => match a.zero, b.zero with
    | some x, some y => some (x, y)
    | _, _ => none
  | .sl _ => some []
  | .ptr _ => none
  | .fn _ _ => none
def castD {a b : Ty} (h : a.beq b = true) (x : a.den) : b.den := (Ty.eq_of_beq h) ▸ x
def castO (a b : Ty) (x : a.den) : Option b.den :=
  if h : a.beq b = true then some (castD h x) else none
inductive Mk where
  | shr | own | ref (s c g : Nat) | sub (s c g : Nat) | bor (l : List (Nat × Nat × List Nat)) | nil | nn | dead
  deriving Repr, Inhabited
def ownMarks : Ty → List Mk
  | .unit => []
  | .pair a b => ownMarks a ++ ownMarks b
  | .sl _ => [.own]
  | _ => [.shr]
def nilMarks : Ty → List Mk
  | .unit => []
  | .pair a b => nilMarks a ++ nilMarks b
  | .sl _ => [.nil]
  | _ => [.shr]
def shrMarks : Ty → List Mk
  | .unit => []
  | .pair a b => shrMarks a ++ shrMarks b
  | _ => [.shr]
structure TV where
  t : Ty
  x : t.den
  ms : List Mk
inductive A where
  | top
  | val (v : TV)
  | tup (vs : List TV)
  | box (v : TV)
  | bptr (s off id : Nat)
  | eptr (s c g : Nat) (i : Nat) (t : Ty) (x : t.den) (off : Nat)
  | cptr (t : Ty) (x : t.den) (bor : Option (Nat × Nat × Nat))
  | mp (t : Ty) (ks : List (Int × t.den))
  | mref (s id : Nat)
  deriving Inhabited
structure Slot where
  a : A
  id : Nat
  gen : Nat
  deriving Inhabited
abbrev St := List Slot
def getAt : (t : Ty) → t.den → (off : Nat) → (b : Ty) → Option b.den
  | .pair l r, x, off, b =>
    if h : (Nat.beq off 0 && (Ty.pair l r).beq b) = true then some (castD (Bool.and_eq_true_iff.1 h).2 x)
    else if Nat.blt off l.size then getAt l x.1 off b else getAt r x.2 (off - l.size) b
  | t, x, off, b => if h : (Nat.beq off 0 && t.beq b) = true then some (castD (Bool.and_eq_true_iff.1 h).2 x) else none
def setAt : (t : Ty) → t.den → (off : Nat) → (b : Ty) → b.den → Option t.den
  | .pair l r, x, off, b, y =>
    if h : (Nat.beq off 0 && b.beq (Ty.pair l r)) = true then some (castD (Bool.and_eq_true_iff.1 h).2 y)
    else if Nat.blt off l.size then (setAt l x.1 off b y).map fun z => (z, x.2) else (setAt r x.2 (off - l.size) b y).map fun z => (x.1, z)
  | t, _, off, b, y => if h : (Nat.beq off 0 && b.beq t) = true then some (castD (Bool.and_eq_true_iff.1 h).2 y) else none
inductive Prog : Type 1 where
  | fin
  | fail
  | get (s : Nat) (k : Slot → Prog)
  | put (s : Nat) (v : Slot) (k : Prog)
  | br (b : Bool) (p q : Prog)
  | brs (s : Nat) (p q u : Prog)
  | both (p q : Prog)
  | bind {α : Type} (o : Option α) (k : α → Prog)
def listSet : List Slot → Nat → Slot → List Slot
  | [], _, _ => []
  | _ :: l, 0, v => v :: l
  | a :: l, n + 1, v => a :: listSet l n v
def listGet : List Slot → Nat → Slot
  | [], _ => ⟨.top, 0, 0⟩
  | a :: _, 0 => a
  | _ :: l, n + 1 => listGet l n
def bothO {ρ : Type} (a b : Option ρ) : Option ρ := open Classical in if a = b then a else none
def Prog.run {ρ : Type} : Prog → St → (St → Option ρ) → Option ρ
  | .fin, σ, k => k σ
  | .fail, _, _ => none
  | .get s p, σ, k => (p (listGet σ s)).run σ k
  | .put s v p, σ, k => p.run (listSet σ s v) k
  | .br b p q, σ, k => cond b (p.run σ k) (q.run σ k)
  | .brs s p q u, σ, k => match listGet σ s with
    | ⟨.val ⟨.bool, b, ms⟩, i, g⟩ => cond b (p.run (listSet σ s ⟨.val ⟨.bool, true, ms⟩, i, g⟩) k) (q.run (listSet σ s ⟨.val ⟨.bool, false, ms⟩, i, g⟩) k)
    | ⟨.tup [], _, _⟩ => u.run σ k
    | _ => none
  | .both p q, σ, k => bothO (p.run σ k) (q.run σ k)
  | .bind o p, σ, k => o.bind fun x => (p x).run σ k
structure TE where
  id : Nat
  ty : Ty
  flds : List (Nat × Nat) := []
  elem : Nat := 0
  arr : Bool := false
  bytes : Nat := 0
  eqs : Bool := false
  mps : List (Nat × Nat × Nat) := []
def findMp : List (Nat × Nat × Nat) → Nat → Option (Nat × Nat)
  | [], _ => none
  | (T, K, V) :: l, n => if Nat.beq T n then some (K, V) else findMp l n
def findMap : List TE → Nat → Option (Nat × Nat)
  | [], _ => none
  | e :: l, n => match findMp e.mps n with
    | some x => some x
    | none => findMap l n
def Ty.atom : Ty → Bool
  | .int _ | .bool => true
  | _ => false
@[reducible] def mapTy (t : Ty) : Ty := .sl (.pair (.int .i64) t)
def mget {α : Type} : List (Int × α) → Int → Option α
  | [], _ => none
  | p :: l, k => cond (k == p.1) (some p.2) (mget l k)
def mset {α : Type} : List (Int × α) → Int → α → List (Int × α)
  | [], k, v => [(k, v)]
  | p :: l, k, v => cond (k == p.1) ((k, v) :: l) (p :: mset l k v)
def findTE : List TE → Nat → Option TE
  | [], _ => none
  | e :: l, n => if Nat.beq e.id n then some e else findTE l n
@[reducible] def pk : List Ty → Ty
  | [] => .unit
  | [t] => t
  | t :: ts => .pair t (pk ts)
structure Sig where
  ps : List Ty
  rs : List Ty
  own : Bool
  eat : Bool := false
  φ : (pk ps).den → Option (pk rs).den
structure BxSig where
  t : Ty
  bm : List Mk
  ps : List Ty
  rs : List Ty
  φ : t.den → (pk ps).den → Option (t.den × (pk rs).den)
  ax : Bool := false
structure Env where
  tab : List TE
  fn : Nat → Option Sig
  nv : Nat
  res : List Nat
  bx : Nat → Option BxSig := fun _ => none
  pins : List Nat := []
def memNat : List Nat → Nat → Bool
  | [], _ => false
  | a :: l, n => Nat.beq a n || memNat l n
def Env.pinned (E : Env) : Option Nat → Bool
  | none => false
  | some d => memNat E.pins d
def Env.steals (E : Env) (dst src : Nat) : Bool := Nat.ble E.nv src || memNat E.res dst
def markBeq : Mk → Mk → Bool
  | .shr, .shr | .own, .own | .dead, .dead => true
  | .ref a b c, .ref a' b' c' | .sub a b c, .sub a' b' c' => Nat.beq a a' && (Nat.beq b b' && Nat.beq c c')
  | _, _ => false
def marksBeq : List Mk → List Mk → Bool
  | [], [] => true
  | a :: l, b :: m => markBeq a b && marksBeq l m
  | _, _ => false
def markAt : List Mk → Nat → Mk
  | [], _ => .dead
  | m :: _, 0 => m
  | _ :: l, n + 1 => markAt l n
def setMarkL : List Mk → Nat → Mk → List Mk
  | [], _, _ => []
  | _ :: l, 0, v => v :: l
  | a :: l, n + 1, v => a :: setMarkL l n v
def markTup : List TV → Nat → Mk
  | [], _ => .dead
  | v :: l, n => if Nat.blt n v.ms.length then markAt v.ms n else markTup l (n - v.ms.length)
def setMarkTup : List TV → Nat → Mk → List TV
  | [], _, _ => []
  | v :: l, n, m => if Nat.blt n v.ms.length then { v with ms := setMarkL v.ms n m } :: l else v :: setMarkTup l (n - v.ms.length) m
def A.mark : A → Nat → Mk
  | .val v, c | .box v, c => markAt v.ms c
  | .tup vs, c => markTup vs c
  | _, _ => .dead
def A.setMark : A → Nat → Mk → A
  | .val v, c, m => .val { v with ms := setMarkL v.ms c m }
  | .box v, c, m => .box { v with ms := setMarkL v.ms c m }
  | .tup vs, c, m => .tup (setMarkTup vs c m)
  | a, _, _ => a
def Mk.isOwn : Mk → Bool
  | .own => true
  | _ => false
def refMark (s g c : Nat) : Mk → Mk
  | .own => .ref s c g
  | m => m
def refMarks (s g : Nat) : Nat → List Mk → List Mk
  | _, [] => []
  | c, m :: l => refMark s g c m :: refMarks s g (c + 1) l
def A.isBox : A → Bool
  | .box _ => true
  | _ => false
def A.owns (a : A) : List Nat → Bool
  | [] => true
  | c :: l => (a.mark c).isOwn && a.owns l
def useBor : List (Nat × Nat × List Nat) → Prog → Prog
  | [], p => p
  | (s, g, cs) :: l, p => .get s fun sl => match Nat.beq sl.gen g && (sl.a.isBox && sl.a.owns cs) with
    | true => useBor l p
    | false => .fail
def useMarks : List Mk → Prog → Prog
  | [], p => p
  | .shr :: l, p | .nil :: l, p | .nn :: l, p => useMarks l p
  | .own :: _, _ => .fail
  | .dead :: _, _ => .fail
  | .ref s c g :: l, p | .sub s c g :: l, p =>
    .get s fun sl => match Nat.beq sl.gen g && (sl.a.mark c).isOwn with
      | true => useMarks l p
      | false => .fail
  | .bor q :: l, p => useBor q (useMarks l p)
def takeMarks (steal : Nat → Bool) (kn : Bool) : List Mk → (List Mk → Prog) → Prog
  | [], k => k []
  | .shr :: l, k => takeMarks steal kn l fun r => k (.shr :: r)
  | .nn :: l, k => takeMarks steal kn l fun r => k (.shr :: r)
  | .nil :: l, k => takeMarks steal kn l fun r => k (cond kn .nil .own :: r)
  | .own :: _, _ => .fail
  | .dead :: _, _ => .fail
  | .bor _ :: _, _ => .fail
  | .ref s c g :: l, k | .sub s c g :: l, k =>
    .get s fun sl => match Nat.beq sl.gen g && (sl.a.mark c).isOwn with
      | true => match steal s with
        | true => .put s { sl with a := sl.a.setMark c .dead } (takeMarks steal kn l fun r => k (.own :: r))
        | false => .put s { sl with a := sl.a.setMark c .shr } (takeMarks steal kn l fun r => k (.shr :: r))
      | false => .fail
def putA (dst : Option Nat) (a : A) (p : Prog) : Prog :=
  match dst with
  | none => p
  | some d => .get d fun old => .put d ⟨a, old.id + 1, old.gen + 1⟩ p
def constD : Ty → Value → Option TV
  | .int k, .int k' n => if kindBeq k k' then some ⟨.int k, n, [.shr]⟩ else none
  | .bool, .bool b => some ⟨.bool, b, [.shr]⟩
  | .str, .string s => some ⟨.str, s.data.toList, [.shr]⟩
  | .sl t, .slice none 0 0 => some ⟨.sl t, [], [.nil]⟩
  | _, _ => none
section ops
variable (E : Env)
def Env.ty (E : Env) (T : Nat) : Option Ty := (findTE E.tab T).map (·.ty)
def refTup (s g : Nat) : Nat → List TV → List TV
  | _, [] => []
  | c, v :: l => { v with ms := refMarks s g c v.ms } :: refTup s g (c + v.ms.length) l
def rdA (T : Nat) (o : Operand) (k : A → Prog) : Prog :=
  match o with
  | .tmp s => .get s fun sl => match sl.a with
    | .val v => k (.val { v with ms := refMarks s sl.gen 0 v.ms })
    | .tup vs => k (.tup (refTup s sl.gen 0 vs))
    | .box _ => k (.bptr s 0 sl.id)
    | .mp _ _ => k (.mref s sl.id)
    | .top => .fail
    | a => k a
  | .const v => match E.ty T with
    | some t => match constD t v with
      | some d => k (.val d)
      | none => .fail
    | none => .fail
  | _ => .fail
def rdV (T : Nat) (o : Operand) (k : TV → Prog) : Prog :=
  rdA E T o fun a => match a with
    | .val v => useMarks v.ms (k v)
    | _ => .fail
def rdInt (o : Operand) (k : IntKind → Int → Prog) : Prog :=
  match o with
  | .tmp s => .get s fun sl => match sl.a with
    | .val ⟨.int kd, x, _⟩ => k kd x
    | _ => .fail
  | .const (.int kd n) => k kd n
  | _ => .fail
def rdBool (o : Operand) (k : Bool → Prog) : Prog :=
  match o with
  | .tmp s => .get s fun sl => match sl.a with
    | .val ⟨.bool, x, _⟩ => k x
    | _ => .fail
  | .const (.bool n) => k n
  | _ => .fail
def rdSl (o : Operand) (k : (t : Ty) → List t.den → Mk → Prog) : Prog :=
  match o with
  | .tmp s => .get s fun sl => match sl.a with
    | .val ⟨.sl t, xs, [m]⟩ => useMarks [refMark s sl.gen 0 m] (k t xs (refMark s sl.gen 0 m))
    | _ => .fail
  | _ => .fail
def rdS (t0 : Ty) (o : Operand) (k : List t0.den → Mk → Prog) : Prog :=
  rdSl o fun t xs m => match castO (.sl t) (.sl t0) xs with
    | some ys => k ys m
    | none => .fail
def out (o : Oper) (v : TV) : Prog := putA o.dst (.val v) .fin
def idx {α : Type} (xs : List α) (i : Int) : Option α := cond (decide (0 ≤ i)) xs[i.toNat]? none
def eqTy : (t : Ty) → t.den → t.den → Option Bool
  | .unit, _, _ => some true
  | .int _, x, y => some (x == y)
  | .bool, x, y => some (x == y)
  | .str, x, y => some (x == y)
  | .pair a b, x, y => match eqTy a x.1 y.1, eqTy b x.2 y.2 with
    | some p, some q => some (p && q)
    | _, _ => none
  | _, _, _ => none
def eqB (t : Ty) (x y : t.den) : Bool := (eqTy t x y).getD false
def pget (kt vt : Ty) : List (Int × (kt.den × vt.den)) → kt.den → Option vt.den
  | [], _ => none
  | p :: l, k => cond (eqB kt k p.2.1) (some p.2.2) (pget kt vt l k)
def pset (kt vt : Ty) : List (Int × (kt.den × vt.den)) → kt.den → vt.den → List (Int × (kt.den × vt.den))
  | [], k, v => [(0, (k, v))]
  | p :: l, k, v => cond (eqB kt k p.2.1) ((0, (k, v)) :: l) (p :: pset kt vt l k v)
def intOp (op : BinOp) (k : IntKind) (x y : Int) (f : TV → Prog) : Prog :=
  match op with
  | .add => f ⟨.int k, k.wrap (x + y), [.shr]⟩
  | .sub => f ⟨.int k, k.wrap (x - y), [.shr]⟩
  | .mul => f ⟨.int k, k.wrap (x * y), [.shr]⟩
  | .quo => .br (y == 0) .fail (f ⟨.int k, k.wrap (x.tdiv y), [.shr]⟩)
  | .rem => .br (y == 0) .fail (f ⟨.int k, x.tmod y, [.shr]⟩)
  | .and => f ⟨.int k, k.wrap (BitVec.ofInt k.bits x &&& BitVec.ofInt k.bits y).toNat, [.shr]⟩
  | .or => f ⟨.int k, k.wrap (BitVec.ofInt k.bits x ||| BitVec.ofInt k.bits y).toNat, [.shr]⟩
  | .xor => f ⟨.int k, k.wrap (BitVec.ofInt k.bits x ^^^ BitVec.ofInt k.bits y).toNat, [.shr]⟩
  | .andNot => f ⟨.int k, k.wrap (BitVec.ofInt k.bits x &&& ~~~ BitVec.ofInt k.bits y).toNat, [.shr]⟩
  | .eql => f ⟨.bool, (x == y), [.shr]⟩
  | .neq => f ⟨.bool, (x != y), [.shr]⟩
  | .lss => f ⟨.bool, decide (x < y), [.shr]⟩
  | .leq => f ⟨.bool, decide (x ≤ y), [.shr]⟩
  | .gtr => f ⟨.bool, decide (x > y), [.shr]⟩
  | .geq => f ⟨.bool, decide (x ≥ y), [.shr]⟩
  | _ => .fail
def nilP (x : Operand) (k : Bool → Prog) : Prog :=
  rdSl x fun _ xs m => match m with
    | .nil => k true
    | .nn => k false
    | _ => .br xs.isEmpty (.both (k true) (k false)) (k false)
def isNilC : Operand → Bool
  | .const (.slice none 0 0) => true
  | _ => false
def binP (op : BinOp) (T : Nat) (x y : Operand) (f : TV → Prog) : Prog :=
  match E.ty T with
  | some (.int _) =>
    rdInt x fun k a => rdInt y fun k' b =>
      match op with
      | .shl => .br (decide (b < 0)) .fail (f ⟨.int k, k.wrap (a * 2 ^ (min b.toNat k.bits)), [.shr]⟩)
      | .shr => .br (decide (b < 0)) .fail (f ⟨.int k, a.fdiv (2 ^ (min b.toNat k.bits)), [.shr]⟩)
      | op => if kindBeq k k' then intOp op k a b f else .fail
  | some (.sl _) => match isNilC y, op with
    | true, .eql => nilP x fun b => f ⟨.bool, b, [.shr]⟩
    | true, .neq => nilP x fun b => f ⟨.bool, !b, [.shr]⟩
    | _, _ => .fail
  | some t => match (findTE E.tab T).map (·.eqs) with
    | some true =>
      rdV E T x fun v => rdV E T y fun w =>
        match castO v.t t v.x, castO w.t t w.x with
        | some a, some b => match eqTy t a b with
          | some r => match op with
            | .eql => f ⟨.bool, r, [.shr]⟩
            | .neq => f ⟨.bool, !r, [.shr]⟩
            | _ => .fail
          | none => .fail
        | _, _ => .fail
    | _ => .fail
  | none => .fail
def rdP (o : Operand) (k : A → Prog) : Prog :=
  match o with
  | .tmp s => .get s fun sl => match sl.a with
    | .box _ => k (.bptr s 0 sl.id)
    | .bptr s off id => k (.bptr s off id)
    | .eptr s c g i t x off => k (.eptr s c g i t x off)
    | .cptr t x b => k (.cptr t x b)
    | _ => .fail
  | _ => .fail
def rdMap (o : Operand) (k : Nat → Nat → Prog) : Prog :=
  match o with
  | .tmp s => .get s fun sl => match sl.a with
    | .mp _ _ => k s sl.id
    | .mref s' id => k s' id
    | _ => .fail
  | _ => .fail
def mapP (t : Ty) (s id : Nat) (k : Slot → List (Int × t.den) → Prog) : Prog :=
  .get s fun sl => match Nat.beq sl.id id with
  | true => match sl.a with
    | .mp t' ks => match castO (mapTy t') (mapTy t) ks with
      | some ks => k sl ks
      | none => .fail
    | _ => .fail
  | false => .fail
def loadP (t : Ty) (a : A) (k : TV → Prog) : Prog :=
  match a with
  | .bptr s off id => .get s fun sl => match Nat.beq sl.id id with
    | true => match sl.a with
      | .box v => match getAt v.t v.x off t with
        | some y => k ⟨t, y, refMarks s sl.gen off ((v.ms.drop off).take t.size)⟩
        | none => .fail
      | _ => .fail
    | false => .fail
  | .eptr s c g _ te x off => useMarks [.ref s c g] (match getAt te x off t with
    | some y => k ⟨t, y, shrMarks t⟩
    | none => .fail)
  | .cptr te x bor => useMarks (match bor with | none => [] | some (s, c, g) => [.sub s c g]) (match getAt te x 0 t with
    | some y => k ⟨t, y, shrMarks t⟩
    | none => .fail)
  | _ => .fail
def setMarks : List Mk → Nat → List Mk → List Mk
  | ms, _, [] => ms
  | ms, i, m :: l => setMarks (setMarkL ms i m) (i + 1) l
def A.tv : A → Option TV
  | .val v | .box v => some v
  | _ => none
def A.setX : A → TV → A
  | .val _, v => .val v
  | .box _, v => .box v
  | a, _ => a
def storeP (t : Ty) (a : A) (v : TV) (p : Prog) : Prog :=
  match castO v.t t v.x with
  | none => .fail
  | some y => match a with
    | .bptr s off id => takeMarks (fun src => E.steals s src) false v.ms fun ms =>
      .get s fun sl => match Nat.beq sl.id id with
      | true => match sl.a with
        | .box b => match setAt b.t b.x off t y with
          | some z => .put s ⟨.box ⟨b.t, z, setMarks b.ms off ms⟩, sl.id, sl.gen + 1⟩ p
          | none => .fail
        | _ => .fail
      | false => .fail
    | .eptr s c g i te x off => takeMarks (fun _ => false) true v.ms fun _ =>
      useMarks [.ref s c g] (match setAt te x off t y with
        | some e => .get s fun sl => match sl.a.tv with
          | some w => match getAt w.t w.x c (.sl te) with
            | some xs => match setAt w.t w.x c (.sl te) (xs.set i e) with
              | some z => .put s ⟨sl.a.setX { w with x := z }, sl.id, sl.gen + 1⟩ p
              | none => .fail
            | none => .fail
          | none => .fail
        | none => .fail)
    | _ => .fail
def fieldP (S : Nat) (a : A) (f : Nat) (k : A → Prog) : Prog :=
  match (findTE E.tab S).bind (·.flds[f]?) with
  | some (o, T) => match E.ty T with
    | some t => if Nat.beq t.size 0 then .fail else match a with
      | .bptr s off id => .get s fun sl => match Nat.beq sl.id id && sl.a.isBox with
        | true => k (.bptr s (off + o) id)
        | false => .fail
      | .eptr s c g i te x off => useMarks [.ref s c g] (k (.eptr s c g i te x (off + o)))
      | .cptr te x bor => useMarks (match bor with | none => [] | some (s, c, g) => [.sub s c g]) (match getAt te x o t with
        | some y => k (.cptr t y bor)
        | none => .fail)
      | _ => .fail
    | none => .fail
  | none => .fail
def selP : Nat → Int → (Nat → Prog) → Prog
  | 0, _, _ => .fail
  | m + 1, n, f => .br (decide (n = (m : Int))) (f m) (selP m n f)
def partsP (flds : List (Nat × Nat)) : List (Nat × Operand) → TV → (TV → Prog) → Prog
  | [], z, k => k z
  | (i, o) :: l, z, k => match flds[i]? with
    | some (off, T) => rdV E T o fun v => match E.ty T with
      | some t => match castO v.t t v.x with
        | some y => match setAt z.t z.x off t y with
          | some x' => partsP flds l ⟨z.t, x', setMarks z.ms off v.ms⟩ k
          | none => .fail
        | none => .fail
      | none => .fail
    | none => .fail
def rowsP (T : Nat) (t : Ty) : Nat → List (Nat × Operand) → (List t.den → Prog) → Prog
  | _, [], k => k []
  | i, (j, o) :: l, k => if Nat.beq i j then
      rdV E T o fun v => match castO v.t t v.x with
        | some y => takeMarks (fun _ => false) true v.ms fun _ => rowsP T t (i + 1) l fun r => k (y :: r)
        | none => .fail
    else .fail
def Ty.scalar : Ty → Bool
  | .unit | .int _ | .bool | .str => true
  | .pair a b => a.scalar && b.scalar
  | _ => false
structure FnV where
  a : Ty
  b : Ty
  G : a.den → Option b.den
def fnV : Sig → Option FnV
  | ⟨[a], [b], _, false, φ⟩ => if b.scalar then some ⟨a, b, φ⟩ else none
  | _ => none
def argP (T : Nat) (o : Operand) (k : TV → Prog) : Prog :=
  match o with
  | .func f => match E.fn f with
    | some sg => match fnV sg with
      | some F => k ⟨.fn F.a F.b, F.G, [.shr]⟩
      | none => .fail
    | none => .fail
  | o => rdV E T o k
def argsP : List Nat → List Operand → (ts : List Ty) → ((pk ts).den → List Mk → Prog) → Prog
  | [], [], [], k => k () []
  | [T], [o], [t], k => argP E T o fun v => match castO v.t t v.x with
    | some y => k y v.ms
    | none => .fail
  | T :: Ts, o :: os, t :: t' :: ts, k => argP E T o fun v => match castO v.t t v.x with
    | some y => argsP Ts os (t' :: ts) fun r ms => k (y, r) (v.ms ++ ms)
    | none => .fail
  | _, _, _, _ => .fail
def resTVs (own : Bool) : (ts : List Ty) → (pk ts).den → List TV
  | [], _ => []
  | [t], x => [⟨t, x, cond own (ownMarks t) (shrMarks t)⟩]
  | t :: t' :: ts, x => ⟨t, x.1, cond own (ownMarks t) (shrMarks t)⟩ :: resTVs own (t' :: ts) x.2
def resA (own : Bool) (ts : List Ty) (x : (pk ts).den) : A :=
  match resTVs own ts x with
  | [v] => .val v
  | vs => .tup vs
def Ty.flat : Ty → Bool
  | .unit | .int _ | .bool | .str => true
  | .pair a b => a.flat && b.flat
  | .sl t => t.scalar
  | _ => false
def allFlat : List Ty → Bool
  | [] => true
  | t :: l => t.flat && allFlat l
def appendLimit : Nat := 140737488355328
def appendP (o : Oper) (T : Nat) (x y : Operand) : Prog :=
  match findTE E.tab T with
  | some e => match findTE E.tab e.elem with
    | some el => match e.ty.beq (.sl el.ty), el.ty.zero with
      | true, some _ => rdV E T x fun v => match castO v.t (.sl el.ty) v.x with
        | some xs => rdS el.ty y fun ys _ => .br (Nat.ble ((xs.length + ys.length) * el.bytes) appendLimit && Nat.ble (xs.length + ys.length) 9223372036854775807)
            (takeMarks (fun _ => true) false v.ms fun ms' => match ms' with
              | [.own] => out o ⟨.sl el.ty, xs ++ ys, [.own]⟩
              | _ => .fail)
            .fail
        | none => .fail
      | _, _ => .fail
    | none => .fail
  | none => .fail
def copyL {α : Type} (xs ys : List α) : List α := ys.take xs.length ++ xs.drop ys.length
def copyP (o : Oper) (T : Nat) (x y : Operand) : Prog :=
  match findTE E.tab T with
  | some e => match findTE E.tab e.elem with
    | some el => if e.ty.beq (.sl el.ty) && el.ty.scalar then
        rdS el.ty y fun ys _ => rdS el.ty x fun _ m => match m with
          | .ref s c _ => .get s fun sl => match sl.a.tv with
            | some w => match getAt w.t w.x c (.sl el.ty) with
              | some xs => match setAt w.t w.x c (.sl el.ty) (copyL xs ys) with
                | some z => .put s ⟨sl.a.setX { w with x := z }, sl.id, sl.gen + 1⟩ (out o ⟨.int .i64, ((Nat.min ys.length xs.length : Nat) : Int), [.shr]⟩)
                | none => .fail
              | none => .fail
            | none => .fail
          | _ => .fail
      else .fail
    | none => .fail
  | none => .fail
def consP : (a : Ty) → (ts : List Ty) → a.den → (pk ts).den → (pk (a :: ts)).den
  | _, [], y, _ => y
  | _, _ :: _, y, c => (y, c)
structure FnOf where
  a : Ty
  ts : List Ty
  b : Ty
  G : (pk ts).den → a.den → Option b.den
def fnOf : (ps rs : List Ty) → ((pk ps).den → Option (pk rs).den) → Option FnOf
  | a :: ts, [b], φ => some ⟨a, ts, b, fun c y => φ (consP a ts y c)⟩
  | _, _, _ => none
def capOk : List Mk → Bool
  | [] => true
  | .own :: l | .shr :: l | .nn :: l | .nil :: l => capOk l
  | _ => false
def ownCells : Nat → List Mk → List Nat
  | _, [] => []
  | i, .own :: l => i :: ownCells (i + 1) l
  | i, _ :: l => ownCells (i + 1) l
def capP (s : Nat) (t : Ty) (k : t.den → Nat × Nat × List Nat → Prog) : Prog :=
  .get s fun sl => match sl.a with
    | .box v => match castO v.t t v.x with
      | some x => if capOk v.ms then k x (s, sl.gen, ownCells 0 v.ms) else .fail
      | none => .fail
    | _ => .fail
def capsP : List Operand → (ts : List Ty) → ((pk ts).den → List (Nat × Nat × List Nat) → Prog) → Prog
  | [], [], k => k () []
  | [.tmp s], [.ptr t], k => capP s t fun x q => k x [q]
  | .tmp s :: os, .ptr t :: t' :: ts, k => capP s t fun x q => capsP os (t' :: ts) fun r l => k (x, r) (q :: l)
  | _, _, _ => .fail
def isFn : Ty → Bool
  | .fn _ _ => true
  | _ => false
def optInt (o : Option Operand) (d : Int) (k : Int → Prog) : Prog :=
  match o with
  | none => k d
  | some x => rdInt x fun _ n => k n
def eatHead : List Ty → Bool
  | .sl _ :: _ => true
  | _ => false
def callP (o : Oper) (sg : Sig) (x : (pk sg.ps).den) (ms : List Mk) : Prog :=
  if sg.eat then match eatHead sg.ps && (sg.own && o.dst.isSome), ms with
    | true, m :: l => takeMarks (fun _ => true) false [m] fun r => match r with
      | [.own] => useMarks l (if allFlat sg.rs then .bind (sg.φ x) fun r => putA o.dst (resA true sg.rs r) .fin
          else takeMarks (fun _ => false) true l fun _ => .bind (sg.φ x) fun r => putA o.dst (resA true sg.rs r) .fin)
      | _ => .fail
    | _, _ => .fail
  else if sg.own && allFlat sg.rs then .bind (sg.φ x) fun r => putA o.dst (resA true sg.rs r) .fin
  else takeMarks (fun _ => false) true ms fun _ => .bind (sg.φ x) fun r => putA o.dst (resA sg.own sg.rs r) .fin
def boxP (b : BxSig) (x : Operand) (k : Nat → Slot → b.t.den → Prog) : Prog :=
  rdP x fun a => match a with
    | .bptr s 0 id => .get s fun sl => match Nat.beq sl.id id with
      | true => match sl.a with
        | .box v => if marksBeq v.ms b.bm then match castO v.t b.t v.x with
          | some x => k s sl x
          | none => .fail
          else .fail
        | _ => .fail
      | false => .fail
    | _ => .fail
def axCallP (o : Oper) (b : BxSig) (x : Operand) (y : (pk b.ps).den) : Prog :=
  rdP x fun a => match a with
    | .bptr s off id => .get s fun sl => match Nat.beq sl.id id with
      | true => match sl.a with
        | .box v => match getAt v.t v.x off b.t with
          | some u => .bind (b.φ u y) fun r => match setAt v.t v.x off b.t r.1 with
            | some z => .put s ⟨.box ⟨v.t, z, setMarks v.ms off (shrMarks b.t)⟩, sl.id, sl.gen + 1⟩ (putA o.dst (resA false b.rs r.2) .fin)
            | none => .fail
          | none => .fail
        | _ => .fail
      | false => .fail
    | _ => .fail
def boxCallP (o : Oper) (b : BxSig) : List Nat → List Operand → Prog
  | _ :: Ts, x :: os => if b.ax then argsP E Ts os b.ps fun y _ => axCallP o b x y else argsP E Ts os b.ps fun y ms => takeMarks (fun _ => false) true ms fun _ =>
      boxP b x fun s sl u => .bind (b.φ u y) fun r => .put s ⟨.box ⟨b.t, r.1, b.bm⟩, sl.id, sl.gen + 1⟩ (putA o.dst (resA false b.rs r.2) .fin)
  | _, _ => .fail
def keyTy (K : Nat) (t : Ty) : Option Ty := match findTE E.tab K with
  | some e => if e.ty.isAgg && (e.ty.scalar && (e.eqs && t.scalar)) then some e.ty else none
  | none => none
def isI64 : Option Ty → Bool
  | some (.int k) => kindBeq k .i64
  | _ => false
def hintP : Option Operand → Prog → Prog
  | none, p => p
  | some x, p => rdInt x fun _ _ => p
def lookOut (o : Oper) (ok : Bool) (t : Ty) (r : Option t.den) (z : t.den) : Prog :=
  cond ok (putA o.dst (.tup [⟨t, r.getD z, shrMarks t⟩, ⟨.bool, r.isSome, [.shr]⟩]) .fin) (out o ⟨t, r.getD z, shrMarks t⟩)
def opP (o : Oper) : Prog :=
  match o.op with
  | .move x => rdA E o.type x fun a => putA o.dst a .fin
  | .assign x => rdA E o.type x fun a => match a with
    | .val v => if isFn v.t then putA o.dst (.val v) .fin else takeMarks (fun src => E.steals (o.dst.getD 0) src) false v.ms fun ms => putA o.dst (.val { v with ms }) .fin
    | .mref s id => putA o.dst (.mref s id) .fin
    | .bptr s off id => putA o.dst (.bptr s off id) .fin
    | _ => .fail
  | .pick c a b => rdBool c fun t => .br t (rdA E o.type a fun a => putA o.dst a .fin) (rdA E o.type b fun a => putA o.dst a .fin)
  | .alloc T => if E.pinned o.dst then .fail else match E.ty T with
    | some t => match t.zero with
      | some z => putA o.dst (.box ⟨t, z, ownMarks t⟩) .fin
      | none => .fail
    | none => .fail
  | .box T x => if E.pinned o.dst then .fail else match E.ty T with
    | some t => rdV E T x fun v => match castO v.t t v.x with
      | some y => takeMarks (fun src => Nat.ble E.nv src) false v.ms fun ms => putA o.dst (.box ⟨t, y, ms⟩) .fin
      | none => .fail
    | none => .fail
  | .build T ps => match findTE E.tab T with
    | some e => match e.ty.zero with
      | some z => if e.ty.isAgg then partsP E e.flds ps.toList ⟨e.ty, z, nilMarks e.ty⟩ fun v => out o v else .fail
      | none => .fail
    | none => .fail
  | .buildSlice T n ps => match findTE E.tab T with
    | some e => match findTE E.tab e.elem with
      | some el => match e.ty.beq (.sl el.ty), el.ty.zero with
        | true, some _ => if Nat.beq n ps.toList.length && Nat.ble (n * el.ty.size) 16777216 then rowsP E e.elem el.ty 0 ps.toList fun r => out o ⟨.sl el.ty, r, [.own]⟩ else .fail
        | _, _ => .fail
      | none => .fail
    | none => .fail
  | .load T x => match E.ty T with
    | some t => rdP x fun a => loadP t a fun v => out o v
    | none => .fail
  | .store T x y => match E.ty T with
    | some t => rdV E T y fun v => rdP x fun a => storeP E t a v (putA o.dst .top .fin)
    | none => .fail
  | .binOp op T x y _ => binP E op T x y fun v => out o v
  | .unOp op _ x => match op with
    | .not => rdBool x fun b => out o ⟨.bool, !b, [.shr]⟩
    | .neg => rdInt x fun k n => out o ⟨.int k, k.wrap (0 - n), [.shr]⟩
    | .xor => rdInt x fun k n => out o ⟨.int k, k.wrap (BitVec.ofInt k.bits (cond k.signed (-1) k.max) ^^^ BitVec.ofInt k.bits n).toNat, [.shr]⟩
    | _ => .fail
  | .convert s d x => match E.ty s, E.ty d with
    | some (.int _), some (.int k) => rdInt x fun _ n => out o ⟨.int k, k.wrap n, [.shr]⟩
    | some (.sl (.int .u8)), some .str => rdS (.int .u8) x fun xs _ => out o ⟨.str, xs.map fun (n : Int) => UInt8.ofNat n.toNat, [.shr]⟩
    | some .str, some (.sl (.int .u8)) => rdV E s x fun v => match castO v.t .str v.x with
      | some l => out o ⟨.sl (.int .u8), l.map fun (b : UInt8) => (b.toNat : Int), [.shr]⟩
      | none => .fail
    | some (.sl (.int .u8)), some (.sl (.int .u8)) => rdV E s x fun v => match castO v.t (.sl (.int .u8)) v.x with
      | some xs => .br (Nat.beq s d && Nat.blt 0 xs.length) (takeMarks (fun _ => true) false v.ms fun ms => match ms with
        | [.own] => putA o.dst (.val ⟨.sl (.int .u8), xs, [.shr]⟩) .fin
        | _ => .fail) .fail
      | none => .fail
    | _, _ => .fail
  | .makeSlice T l c => match findTE E.tab T with
    | some e => match findTE E.tab e.elem with
      | some el => match e.ty.beq (.sl el.ty), el.ty.zero with
        | true, some z => rdInt l fun _ n => rdInt c fun _ m =>
          .br (decide (0 ≤ n) && (decide (n ≤ m) && (decide (el.bytes * m ≤ (appendLimit : Int)) && decide (m ≤ 9223372036854775807))))
            (out o ⟨.sl el.ty, List.replicate n.toNat z, [.own]⟩) .fail
        | _, _ => .fail
      | none => .fail
    | none => .fail
  | .slice T x lo hi none => match E.ty T with
    | some (.sl t) => rdS t x fun xs m =>
      optInt lo 0 fun l => optInt hi xs.length fun h =>
        .br (decide (0 ≤ l) && (decide (l ≤ h) && decide (h ≤ (xs.length : Int))))
          (match m with
            | .shr | .nn => out o ⟨.sl t, (xs.take h.toNat).drop l.toNat, [.shr]⟩
            | .ref s c g | .sub s c g => out o ⟨.sl t, (xs.take h.toNat).drop l.toNat, [.sub s c g]⟩
            | _ => .fail) .fail
    | _ => .fail
  | .makeFunc (.func f) fst caps => match fst.toList, E.fn f with
    | [], some sg => if sg.eat then .fail else match fnOf sg.ps sg.rs sg.φ with
      | some F => if F.b.scalar then capsP caps.toList F.ts fun cx q => putA o.dst (.val ⟨.fn F.a F.b, F.G cx, [.bor q]⟩) .fin else .fail
      | none => .fail
    | _, _ => .fail
  | .makeMap T rs => match findMap E.tab T with
    | some (K, V) => match E.ty V with
      | some t => hintP rs (match keyTy E K t with
        | some kt => putA o.dst (.mp (.pair kt t) []) .fin
        | none => if t.atom && isI64 (E.ty K) then putA o.dst (.mp t []) .fin else .fail)
      | none => .fail
    | none => .fail
  | .lookup T x i ok => match findMap E.tab T with
    | some (K, V) => match E.ty V with
      | some t => match t.zero with
        | some z => match keyTy E K t with
          | some kt => rdV E K i fun v => match castO v.t kt v.x with
            | some k => rdMap x fun s id => mapP (.pair kt t) s id fun _ ks => lookOut o ok t (pget kt t ks k) z
            | none => .fail
          | none => if t.atom && isI64 (E.ty K) then rdMap x fun s id => rdInt i fun kd n => if kindBeq kd .i64 then mapP t s id fun _ ks => lookOut o ok t (mget ks n) z else .fail else .fail
        | none => .fail
      | none => .fail
    | none => .fail
  | .mapUpdate T x i y => match findMap E.tab T with
    | some (K, V) => match E.ty V with
      | some t => rdV E V y fun v => match castO v.t t v.x with
        | some u => match keyTy E K t with
          | some kt => rdV E K i fun v => match castO v.t kt v.x with
            | some k => rdMap x fun s id => mapP (.pair kt t) s id fun sl ks => .put s ⟨.mp (.pair kt t) (pset kt t ks k u), sl.id, sl.gen + 1⟩ (putA o.dst .top .fin)
            | none => .fail
          | none => if t.atom && isI64 (E.ty K) then rdMap x fun s id => rdInt i fun kd n => if kindBeq kd .i64 then mapP t s id fun sl ks => .put s ⟨.mp t (mset ks n u), sl.id, sl.gen + 1⟩ (putA o.dst .top .fin) else .fail
            else .fail
        | none => .fail
      | none => .fail
    | none => .fail
  | .fieldAddr S x f => match findTE E.tab S with
    | some e => if e.ty.isAgg && !e.arr then rdP x fun a => fieldP E S a f fun a => putA o.dst a .fin else .fail
    | none => .fail
  | .indexAddr T x i => match findTE E.tab T with
    | some e => if e.arr then if e.ty.isAgg then rdInt i fun _ n => selP e.flds.length n fun k => rdP x fun a => fieldP E T a k fun a => putA o.dst a .fin else .fail
      else match findTE E.tab e.elem with
        | some el => if e.ty.beq (.sl el.ty) then rdS el.ty x fun xs m => rdInt i fun _ n =>
            .bind (idx xs n) fun e => match m with
              | .shr | .nn => putA o.dst (.cptr el.ty e none) .fin
              | .ref s c g => putA o.dst (.eptr s c g n.toNat el.ty e 0) .fin
              | .sub s c g => putA o.dst (.cptr el.ty e (some (s, c, g))) .fin
              | _ => .fail
          else .fail
        | none => .fail
    | none => .fail
  | .index T x i => match findTE E.tab T with
    | some e => if e.arr && (e.ty.isAgg && e.ty.scalar) then rdV E T x fun v => rdInt i fun _ n => selP e.flds.length n fun k => match e.flds[k]? with
        | some (off, T') => match E.ty T' with
          | some t => match getAt v.t v.x off t with
            | some y => if e.ty.beq v.t && !Nat.beq t.size 0 then out o ⟨t, y, shrMarks t⟩ else .fail
            | none => .fail
          | none => .fail
        | none => .fail
      else .fail
    | none => .fail
  | .field S x f => match findTE E.tab S with
    | some e => if e.ty.isAgg && !e.arr then match e.flds[f]? with
      | some (off, T') => match E.ty T' with
        | some t => rdV E S x fun v => match getAt v.t v.x off t with
          | some y => if e.ty.beq v.t && !Nat.beq t.size 0 then out o ⟨t, y, (v.ms.drop off).take t.size⟩ else .fail
          | none => .fail
        | none => .fail
      | none => .fail
      else .fail
    | none => .fail
  | .nilCheck x => rdP x fun a => match a with
    | .bptr s off id => .get s fun sl => match Nat.beq sl.id id && sl.a.isBox with
      | true => putA o.dst (.bptr s off id) .fin
      | false => .fail
    | _ => .fail
  | .extract x i => rdA E 0 x fun a => match a with
    | .tup vs => match vs[i]? with
      | some v => out o v
      | none => .fail
    | _ => .fail
  | .call c => match c.callee with
    | .value (.func f) => match E.fn f with
      | some sg => argsP E c.argTypes.toList c.args.toList sg.ps fun x ms => callP o sg x ms
      | none => match E.bx f with
        | some b => boxCallP E o b c.argTypes.toList c.args.toList
        | none => .fail
    | .value (.tmp s) => .get s fun sl => match sl.a with
      | .val ⟨.fn a b, G, [m]⟩ => if b.scalar then useMarks [refMark s sl.gen 0 m] (argsP E c.argTypes.toList c.args.toList [a] fun x _ => .bind (G x) fun y => putA o.dst (.val ⟨b, y, shrMarks b⟩) .fin) else .fail
      | _ => .fail
    | .builtin .len => match c.args.toList, c.argTypes.toList with
      | [x], [T] => match E.ty T with
        | some (.sl _) => rdSl x fun _ xs _ => out o ⟨.int .i64, (xs.length : Int), [.shr]⟩
        | _ => .fail
      | _, _ => .fail
    | .builtin .append => match c.args.toList, c.argTypes.toList with
      | [x, y], [T, T'] => if Nat.beq T T' then appendP E o T x y else .fail
      | _, _ => .fail
    | .builtin .copy => match c.args.toList, c.argTypes.toList with
      | [x, y], [T, T'] => if Nat.beq T T' then copyP E o T x y else .fail
      | _, _ => .fail
    | .builtin .min => match c.args.toList with
      | [x, y] => rdInt x fun k a => rdInt y fun _ b => out o ⟨.int k, cond (decide (b < a)) b a, [.shr]⟩
      | _ => .fail
    | .builtin .max => match c.args.toList with
      | [x, y] => rdInt x fun k a => rdInt y fun _ b => out o ⟨.int k, cond (decide (b > a)) b a, [.shr]⟩
      | _ => .fail
    | _ => .fail
  | _ => .fail
end ops
inductive Ex where
  | normal | exit (id : Nat) | ret
  | pan (T : Nat)
def guardP (ops : List Oper) (o : Oper) (p : Prog) : Prog :=
  match o.guard with
  | none => p
  | some (j, want) => match (ops[j]?).bind (·.dst) with
    | some s => .brs s (cond want p (putA o.dst (.tup []) .fin)) (cond want (putA o.dst (.tup []) .fin) p) (putA o.dst (.tup []) .fin)
    | none => .fail
def iter {S ρ : Type} (step : (S → Option ρ) → S → Option ρ) : Nat → S → Option ρ
  | 0, _ => none
  | n + 1, s => step (iter step n) s
inductive Sh where
  | top
  | val (t : Ty) (ms : List Mk)
  | box (t : Ty) (ms : List Mk)
  | bptr (s off : Nat)
  | cptr (t : Ty)
  | mp (t : Ty)
  | mref (s : Nat)
  deriving Inhabited
def normMark (σ : St) (ks frz : List Nat) (i : Nat) : Mk → Mk
  | .own => cond (memNat frz i) .shr .own
  | .ref s c g => let sl := listGet σ s; cond (Nat.beq sl.gen g && (sl.a.mark c).isOwn) (cond (memNat ks s && !memNat frz s) (.ref s c 0) .shr) .dead
  | .sub s c g => let sl := listGet σ s; cond (Nat.beq sl.gen g && (sl.a.mark c).isOwn) (cond (memNat ks s && !memNat frz s) (.sub s c 0) .shr) .dead
  | .bor _ => .dead
  | m => m
def shOf (σ : St) (ks frz : List Nat) (i : Nat) : Slot → Sh
  | ⟨.val v, _, _⟩ => .val v.t (v.ms.map (normMark σ ks frz i))
  | ⟨.box v, _, _⟩ => .box v.t (v.ms.map (normMark σ ks frz i))
  | ⟨.bptr s off id, _, _⟩ => cond (Nat.beq (listGet σ s).id id && memNat ks s) (.bptr s off) .top
  | ⟨.cptr t _ none, _, _⟩ => .cptr t
  | ⟨.mp t _, _, _⟩ => .mp t
  | ⟨.mref s id, _, _⟩ => cond (Nat.beq (listGet σ s).id id && memNat ks s) (.mref s) .top
  | _ => .top
def shapes (σ : St) (ks frz : List Nat) : Nat → List Slot → List Sh
  | _, [] => []
  | i, s :: l => (if memNat ks i then shOf σ ks frz i s else .top) :: shapes σ ks frz (i + 1) l
def shTys : List Sh → List Ty
  | [] => []
  | .val t _ :: l | .box t _ :: l | .cptr t :: l => t :: shTys l
  | .mp t :: l => mapTy t :: shTys l
  | _ :: l => shTys l
structure DV where
  t : Ty
  x : t.den
def dataAt (σ : St) (ks frz : List Nat) : Nat → List Sh → List Slot → Option (List DV)
  | _, [], [] => some []
  | i, .top :: hs, _ :: l => dataAt σ ks frz (i + 1) hs l
  | i, .val _ ms :: hs, ⟨.val v, _, _⟩ :: l => if marksBeq (v.ms.map (normMark σ ks frz i)) ms then
      match dataAt σ ks frz (i + 1) hs l with
      | some r => some (⟨v.t, v.x⟩ :: r)
      | none => none
    else none
  | i, .box _ ms :: hs, ⟨.box v, _, _⟩ :: l => if marksBeq (v.ms.map (normMark σ ks frz i)) ms then
      match dataAt σ ks frz (i + 1) hs l with
      | some r => some (⟨v.t, v.x⟩ :: r)
      | none => none
    else none
  | i, .bptr s off :: hs, ⟨.bptr s' off' id, _, _⟩ :: l =>
    if Nat.beq s s' && (Nat.beq off off' && Nat.beq (listGet σ s').id id) then dataAt σ ks frz (i + 1) hs l else none
  | i, .cptr _ :: hs, ⟨.cptr t x none, _, _⟩ :: l => match dataAt σ ks frz (i + 1) hs l with
      | some r => some (⟨t, x⟩ :: r)
      | none => none
  | i, .mp t :: hs, ⟨.mp t' x, _, _⟩ :: l => if t'.beq t then match dataAt σ ks frz (i + 1) hs l with
      | some r => some (⟨mapTy t', x⟩ :: r)
      | none => none
    else none
  | i, .mref s :: hs, ⟨.mref s' id, _, _⟩ :: l =>
    if Nat.beq s s' && Nat.beq (listGet σ s').id id then dataAt σ ks frz (i + 1) hs l else none
  | _, _, _ => none
def packL : (ts : List Ty) → List DV → Option (pk ts).den
  | [], [] => some ()
  | [t], [d] => castO d.t t d.x
  | t :: t' :: ts, d :: l => match castO d.t t d.x, packL (t' :: ts) l with
    | some x, some r => some (x, r)
    | _, _ => none
  | _, _ => none
def unpackL : (ts : List Ty) → (pk ts).den → List DV
  | [], _ => []
  | [t], x => [⟨t, x⟩]
  | t :: t' :: ts, x => ⟨t, x.1⟩ :: unpackL (t' :: ts) x.2
def inject : List Sh → List DV → List Slot
  | [], _ => []
  | .val _ ms :: hs, d :: l => ⟨.val ⟨d.t, d.x, ms⟩, 0, 0⟩ :: inject hs l
  | .box _ ms :: hs, d :: l => ⟨.box ⟨d.t, d.x, ms⟩, 0, 0⟩ :: inject hs l
  | .cptr _ :: hs, d :: l => ⟨.cptr d.t d.x none, 0, 0⟩ :: inject hs l
  | .bptr s off :: hs, l => ⟨.bptr s off 0, 0, 0⟩ :: inject hs l
  | .mp t :: hs, d :: l => ⟨match castO d.t (mapTy t) d.x with | some x => .mp t x | none => .top, 0, 0⟩ :: inject hs l
  | .mref s :: hs, l => ⟨.mref s 0, 0, 0⟩ :: inject hs l
  | _ :: hs, l => ⟨.top, 0, 0⟩ :: inject hs l
structure LoopAnn where
  id : Nat
  live : List Nat
  frz : List Nat := []
def findAnn : List LoopAnn → Nat → LoopAnn
  | [], n => ⟨n, [], []⟩
  | a :: l, n => if Nat.beq a.id n then a else findAnn l n
def firstRegion : Code → Option Nat
  | .region id _ _ => some id
  | .seq a b => match firstRegion a with
    | some n => some n
    | none => firstRegion b
  | .block _ c | .loop c | .scope c => firstRegion c
  | .cond _ a b => match firstRegion a with
    | some n => some n
    | none => firstRegion b
  | _ => none
def freezeP : List Nat → Prog
  | [] => .fin
  | s :: l => .get s fun sl => match sl.a.tv with
    | some v => takeMarks (fun _ => false) true (refMarks s sl.gen 0 v.ms) fun _ => freezeP l
    | none => freezeP l
section code
variable (E : Env) {ρ : Type} (ann : List LoopAnn) (fuel : Nat)
def _root_.Go.GD.Prog.runF : Prog → St → List Nat → List Nat → (St → List Nat → List Nat → Option ρ) → Option ρ
  | .fin, σ, R, W, k => k σ R W
  | .fail, _, _, _, _ => none
  | .get s p, σ, R, W, k => (p (listGet σ s)).runF σ (s :: R) W k
  | .put s v p, σ, R, W, k => p.runF (listSet σ s v) R (s :: W) k
  | .br b p q, σ, R, W, k => cond b (p.runF σ R W k) (q.runF σ R W k)
  | .brs s p q u, σ, R, W, k => match listGet σ s with
    | ⟨.val ⟨.bool, b, ms⟩, i, g⟩ => cond b (p.runF (listSet σ s ⟨.val ⟨.bool, true, ms⟩, i, g⟩) (s :: R) W k) (q.runF (listSet σ s ⟨.val ⟨.bool, false, ms⟩, i, g⟩) (s :: R) W k)
    | ⟨.tup [], _, _⟩ => u.runF σ (s :: R) W k
    | _ => none
  | .both _ _, _, _, _, _ => none
  | .bind o p, σ, R, W, k => o.bind fun x => (p x).runF σ R W k
def insN (i : Nat) (l : List Nat) : List Nat := cond (memNat l i) l (i :: l)
def uniN : List Nat → List Nat → List Nat
  | [], l => l
  | a :: m, l => insN a (uniN m l)
def ancOf (anc : List (List Nat)) : List Edge → List Nat
  | [] => []
  | e :: l => match e.ground with
    | .textOnly _ | .gcOnly _ => ancOf anc l
    | _ => insN e.on (uniN (anc.getD e.on []) (ancOf anc l))
def disj : List Nat → List Nat → Bool
  | [], _ => true
  | a :: l, m => !memNat m a && disj l m
def apartAll (before : List Nat) (R W : List Nat) : Nat → List (List Nat × List Nat) → Bool
  | _, [] => true
  | i, (R', W') :: l => (memNat before i || (disj W R' && (disj W W' && disj W' R))) && apartAll before R W (i + 1) l
def edgesOk (j : Nat) : List Edge → Bool
  | [] => true
  | e :: l => match e.ground with
    | .textOnly _ | .gcOnly _ => edgesOk j l
    | _ => Nat.blt e.on j && edgesOk j l
def drawC (ops : List Oper) : List Oper → Nat → List (List Nat) → List (List Nat × List Nat) → St → (St → Option ρ) → Option ρ
  | [], _, _, _, σ, k => k σ
  | o :: l, j, anc, fps, σ, k => (guardP ops o (opP E o)).runF σ [] [] fun σ' R W =>
    let mine := ancOf anc o.after.toList
    if edgesOk j o.after.toList && apartAll mine R W 0 fps then drawC ops l (j + 1) (anc ++ [mine]) (fps ++ [(R, W)]) σ' k else none
def regC (ops : List Oper) : List Oper → St → (St → Option ρ) → Option ρ
  | [], σ, k => k σ
  | o :: l, σ, k => (guardP ops o (opP E o)).run σ fun σ' => regC ops l σ' k
def nextK (sh : List Sh) (ks frz : List Nat) (F : (pk (shTys sh)).den → Option ρ) (k : Ex → St → Option ρ) : Ex → St → Option ρ
  | .normal, σ => match dataAt σ ks frz 0 sh σ with
    | some l => match packL (shTys sh) l with
      | some s => F s
      | none => none
    | none => none
  | e, σ => k e σ
def loopC (f : (Ex → St → Option ρ) → St → Option ρ) (a : LoopAnn) (k : Ex → St → Option ρ) (σ : St) : Option ρ :=
  let sh := shapes σ a.live a.frz 0 σ
  match dataAt σ a.live a.frz 0 sh σ with
  | some l => match packL (shTys sh) l with
    | some s => iter (fun F s => f (nextK sh a.live a.frz F k) (inject sh (unpackL (shTys sh) s))) fuel s
    | none => none
  | none => none
def panOps (tab : List TE) : List Oper → Option (Nat × Nat × Nat)
  | [o0, o1, o2] => match o0.guard, o0.op, o0.dst, o1.guard, o1.op, o1.dst, o2.guard, o2.op with
    | none, .build T ps, some d0, none, .makeInterface T' (.tmp s0), some d1, none, .panic (.tmp s1) =>
      match findTE tab T with
      | some e => if (Nat.beq T T' && Nat.beq s0 d0) && ((Nat.beq s1 d1 && Nat.beq ps.size 0) && ((e.ty.beq .unit && !e.arr) && !Nat.beq d0 d1)) then some (T, d0, d1) else none
      | none => none
    | _, _, _, _, _, _, _, _ => none
  | _ => none
def panP (d0 d1 : Nat) : Prog := putA (some d0) .top (putA (some d1) .top .fin)
def codeC : Code → (Ex → St → Option ρ) → St → Option ρ
  | .skip, k, σ => k .normal σ
  | .region _ ops false, k, σ => match panOps E.tab ops.toList with
    | some (T, d0, d1) => cond (Nat.blt d0 σ.length && Nat.blt d1 σ.length) ((panP d0 d1).run σ fun σ' => k (.pan T) σ') none
    | none => regC E ops.toList ops.toList σ fun σ' => k .normal σ'
  | .region id ops true, k, σ => (freezeP (findAnn ann (id + 1000000)).frz).run σ fun σ => drawC E ops.toList ops.toList 0 [] [] σ fun σ' => k .normal σ'
  | .seq a b, k, σ => codeC a (fun e σ' => match e with
    | .normal => codeC b k σ'
    | e => k e σ') σ
  | .cond c a b, k, σ => match c with
    | .tmp s => match (listGet σ s).a with
      | .val ⟨.bool, t, _⟩ => cond t (codeC a k σ) (codeC b k σ)
      | _ => none
    | _ => none
  | .block id c, k, σ => codeC c (fun e σ' => match e with
    | .exit i => if Nat.beq i id then k .normal σ' else k (.exit i) σ'
    | e => k e σ') σ
  | .loop c, k, σ => loopC fuel (codeC c) (findAnn ann ((firstRegion c).getD 0)) k σ
  | .exit id, k, σ => k (.exit id) σ
  | .ret, k, σ => k .ret σ
  | _, _, _ => none
end code
def initSlot : (t : Ty) → t.den → List Mk → Slot
  | .ptr t, x, _ => ⟨.cptr t x none, 0, 0⟩
  | t, x, ms => ⟨.val ⟨t, x, ms⟩, 0, 0⟩
def headM : List (List Mk) → (t : Ty) → List Mk
  | [], t => shrMarks t
  | m :: _, _ => m
def initArgs : List (List Mk) → (ts : List Ty) → (pk ts).den → List Slot
  | _, [], _ => []
  | pm, [t], x => [initSlot t x (headM pm t)]
  | pm, t :: t' :: ts, x => initSlot t x.1 (headM pm t) :: initArgs pm.tail (t' :: ts) x.2
def resMarks (own : Bool) (t : Ty) (ms : List Mk) : Bool :=
  cond own (marksBeq ms (ownMarks t)) (ms.all fun m => markBeq m .shr || markBeq m .own)
def resTV : ResultVar → St → Option TV
  | .tmp s, σ => match (listGet σ s).a with
    | .val v => some v
    | _ => none
  | .cell s _, σ => match (listGet σ s).a with
    | .box v => some v
    | _ => none
def readRes {ρ : Type} : List ResultVar → (own : Bool) → (ts : List Ty) → St → ((pk ts).den → Option ρ) → Option ρ
  | [], _, [], _, k => k ()
  | [r], own, [t], σ, k => match resTV r σ with
    | some v => if resMarks own v.t v.ms then match castO v.t t v.x with
        | some y => k y
        | none => none
      else none
    | none => none
  | r :: r' :: rs, own, t :: t' :: ts, σ, k => match resTV r σ with
    | some v => if resMarks own v.t v.ms then match castO v.t t v.x with
        | some y => readRes (r' :: rs) own (t' :: ts) σ fun z => k (y, z)
        | none => none
      else none
    | none => none
  | _, _, _, _, _ => none
def resSlots (l : List ResultVar) : List Nat := l.map fun
  | .tmp s => s
  | .cell s _ => s
def topSlot : Slot := ⟨.top, 0, 0⟩
def fnX (tab : List TE) (fn : Nat → Option Sig) (bx : Nat → Option BxSig) (nv : Nat) (ann : List LoopAnn) (fuel : Nat) (f : Func) (pm : List (List Mk)) (ps rs : List Ty) (own : Bool) (x : (pk ps).den) : Option (pk rs).den :=
  match f.body with
  | none => none
  | some c =>
    codeC { tab, fn, nv, res := resSlots f.results.toList, bx } ann fuel c (fun e σ => match e with
      | .normal | .ret => readRes f.results.toList own rs σ some
      | _ => none) (initArgs pm ps x ++ List.replicate (f.ntmps - ps.length) topSlot)
def fnD (tab : List TE) (fn : Nat → Option Sig) (nv : Nat) (ann : List LoopAnn) (fuel : Nat) (f : Func) (pm : List (List Mk)) (ps rs : List Ty) (own : Bool) (x : (pk ps).den) : Option (pk rs).den :=
  fnX tab fn (fun _ => none) nv ann fuel f pm ps rs own x
def readBox {ρ : Type} (l : List ResultVar) (t : Ty) (bm : List Mk) (rs : List Ty) (σ : St) (k : t.den → (pk rs).den → Option ρ) : Option ρ :=
  match (listGet σ 0).a with
  | .box v => if marksBeq v.ms bm then match castO v.t t v.x with
    | some x => readRes l false rs σ (k x)
    | none => none
    else none
  | _ => none
def fnB (tab : List TE) (fn : Nat → Option Sig) (bx : Nat → Option BxSig) (nv : Nat) (ann : List LoopAnn) (fuel : Nat) (f : Func) (t : Ty) (bm : List Mk) (ps rs : List Ty) (x : t.den) (y : (pk ps).den) : Option (t.den × (pk rs).den) :=
  match f.body with
  | none => none
  | some c =>
    codeC { tab, fn, nv, res := resSlots f.results.toList, bx, pins := [0] } ann fuel c (fun e σ => match e with
      | .normal | .ret => readBox f.results.toList t bm rs σ fun x z => some (x, z)
      | _ => none) (⟨.box ⟨t, x, bm⟩, 0, 0⟩ :: (initArgs [] ps y ++ List.replicate (f.ntmps - (ps.length + 1)) topSlot))
end
end Go.GD
end

section
namespace Go.GD
open Go
theorem castO_some {a b : Ty} {x : a.den} {y : b.den} (h : castO a b x = some y) : ∃ e : a = b, y = e ▸ x := by
  unfold castO at h
  split at h
  · rename_i hb
    injection h with h
    exact ⟨Ty.eq_of_beq hb, h.symm⟩
  · cases h
theorem Ty.beq_refl : (t : Ty) → t.beq t = true
  | .unit => rfl
  | .int k => by cases k <;> rfl
  | .bool => rfl
  | .str => rfl
  | .pair a b => by simp [Ty.beq, a.beq_refl, b.beq_refl]
  | .sl a => by simp [Ty.beq, a.beq_refl]
  | .ptr a => by simp [Ty.beq, a.beq_refl]
  | .fn a b => by simp [Ty.beq, a.beq_refl, b.beq_refl]
theorem castO_refl {a : Ty} (x : a.den) : castO a a x = some x := by
  unfold castO castD
  rw [dif_pos a.beq_refl]
def SameIO (w w' : World) : Prop := w'.os = w.os ∧ w'.tape = w.tape ∧ w'.output = w.output ∧ w.drawn ≤ w'.drawn
def Callable (P : Program) (f : Nat) : Prop := ∃ fn, P.funcs[f]? = some fn ∧ fn.body.isNone = false ∧ (fn.name == "runtime.NumGoroutine") = false
def mkV (t : Ty) (cs : List Value) : Value := if t.isAgg then .agg cs.toArray else cs.headD undef
def Mono (w : World) (Ok : Nat → Prop) (w' : World) (Ok' : Nat → Prop) : Prop :=
  w.heap.size ≤ w'.heap.size ∧ ∀ b, b < w.heap.size → Ok b → w'.heap[b]? = w.heap[b]? ∧ Ok' b
theorem Mono.refl (w : World) (Ok : Nat → Prop) : Mono w Ok w Ok := ⟨Nat.le_refl _, fun _ _ h => ⟨rfl, h⟩⟩
theorem Mono.trans {w w1 w2 : World} {A B C : Nat → Prop} (h : Mono w A w1 B) (h' : Mono w1 B w2 C) : Mono w A w2 C :=
  ⟨Nat.le_trans h.1 h'.1, fun b hb ha => by
    have h1 := h.2 b hb ha
    have h2 := h'.2 b (Nat.lt_of_lt_of_le hb h.1) h1.2
    exact ⟨h2.1.trans h1.1, h2.2⟩⟩
def Rows {α : Type} (size : Nat) (w : World) (R : List Value → α → Prop) (ad : Addr) (xs : List α) : Prop :=
  ∀ i (h : i < xs.length), ∃ cs : List Value, cs.length = size ∧ (∀ j, j < size → w.cell? ⟨ad.block, ad.off + i * size + j, none⟩ = cs[j]?) ∧ R cs xs[i]
def ShareS {α : Type} (size : Nat) (w : World) (B : Nat → Prop) (R : List Value → α → Prop) (a : Option Addr) (len cap : Nat) (xs : List α) : Prop :=
  xs.length = len ∧ len ≤ cap ∧ (len = 0 ∨ ∃ ad : Addr, a = some ad ∧ ad.spot = none ∧ ad.block < w.heap.size ∧ B ad.block ∧ Rows size w R ad xs)
def MemAt {α : Type} (size : Nat) (w : World) (B : Nat → Prop) (R : List Value → α → Prop) (ad : Addr) (x : α) : Prop :=
  ad.block < w.heap.size ∧ B ad.block ∧ ∃ cs : List Value, cs.length = size ∧ (∀ j, j < size → w.cell? ⟨ad.block, ad.off + j, none⟩ = cs[j]?) ∧ R cs x
def RepC (P : Program) : (t : Ty) → World → (Nat → Prop) → List Value → t.den → Prop
  | .unit, _, _, cs, _ => cs = []
  | .int k, _, _, cs, n => cs = [.int k n]
  | .bool, _, _, cs, b => cs = [.bool b]
  | .str, _, _, cs, l => cs = [.string ⟨⟨l⟩⟩]
  | .pair a b, w, Ok, cs, x => ∃ c1 c2, cs = c1 ++ c2 ∧ RepC P a w Ok c1 x.1 ∧ RepC P b w Ok c2 x.2
  | .sl t, w, Ok, cs, xs => ∃ a len cap, cs = [.slice a len cap] ∧ ShareS t.size w Ok (RepC P t w Ok) a len cap xs
  | .ptr t, w, Ok, cs, x => ∃ ad : Addr, cs = [.pointer (some ad)] ∧ ad.spot = none ∧ MemAt t.size w Ok (RepC P t w Ok) ad x
  | .fn a b, w, Ok, cs, g => ∃ f first caps, cs = [.func (.func f) first caps] ∧ Callable P f ∧
      ∀ w', w.heap.size ≤ w'.heap.size → (∀ c, c < w.heap.size → Ok c → w'.heap[c]? = w.heap[c]?) →
        ∀ vs x y, RepC P a w' (fun _ => True) vs x → g x = some y →
          Calls P f (first ++ #[mkV a vs] ++ caps) w' fun e w'' => ∃ us, e = .returned (mkV b us) ∧ RepC P b w'' (fun _ => True) us y ∧
            w'.heap.size ≤ w''.heap.size ∧ (∀ c, c < w'.heap.size → w''.heap[c]? = w'.heap[c]?) ∧ SameIO w' w''
theorem cell_congr {w w' : World} {b o : Nat} (h : w'.heap[b]? = w.heap[b]?) : w'.cell? ⟨b, o, none⟩ = w.cell? ⟨b, o, none⟩ := by
  simp [World.cell?, h]
theorem Rows.mono {α : Type} {size : Nat} {w w' : World} {R R' : List Value → α → Prop} {ad : Addr} {xs : List α}
    (hs : w'.heap[ad.block]? = w.heap[ad.block]?) (hR : ∀ cs x, R cs x → R' cs x) (h : Rows size w R ad xs) : Rows size w' R' ad xs := by
  intro i hi
  obtain ⟨cs, hl, hc, hr⟩ := h i hi
  exact ⟨cs, hl, fun j hj => by rw [cell_congr hs]; exact hc j hj, hR _ _ hr⟩
theorem ShareS.mono {α : Type} {size : Nat} {w w' : World} {B B' : Nat → Prop} {R R' : List Value → α → Prop} {a : Option Addr} {len cap : Nat} {xs : List α}
    (hm : Mono w B w' B') (hR : ∀ cs x, R cs x → R' cs x) (h : ShareS size w B R a len cap xs) : ShareS size w' B' R' a len cap xs := by
  obtain ⟨h1, h2, h3⟩ := h
  refine ⟨h1, h2, h3.imp id ?_⟩
  rintro ⟨ad, e, sp, hl, hb, hr⟩
  have := hm.2 _ hl hb
  exact ⟨ad, e, sp, Nat.lt_of_lt_of_le hl hm.1, this.2, hr.mono this.1 hR⟩
theorem MemAt.mono {α : Type} {size : Nat} {w w' : World} {B B' : Nat → Prop} {R R' : List Value → α → Prop} {ad : Addr} {x : α}
    (hm : Mono w B w' B') (hR : ∀ cs x, R cs x → R' cs x) (h : MemAt size w B R ad x) : MemAt size w' B' R' ad x := by
  obtain ⟨hl, hb, cs, h1, h2, h3⟩ := h
  have := hm.2 _ hl hb
  exact ⟨Nat.lt_of_lt_of_le hl hm.1, this.2, cs, h1, fun j hj => by rw [cell_congr this.1]; exact h2 j hj, hR _ _ h3⟩
theorem RepC.mono {P : Program} : (t : Ty) → ∀ {w w' : World} {Ok Ok' : Nat → Prop} {cs : List Value} {x : t.den}, Mono w Ok w' Ok' → RepC P t w Ok cs x → RepC P t w' Ok' cs x
  | .unit, _, _, _, _, _, _, _, h => h
  | .int _, _, _, _, _, _, _, _, h => h
  | .bool, _, _, _, _, _, _, _, h => h
  | .str, _, _, _, _, _, _, _, h => h
  | .pair a b, _, _, _, _, _, _, m, h => by
    obtain ⟨c1, c2, e, h1, h2⟩ := h
    exact ⟨c1, c2, e, RepC.mono a m h1, RepC.mono b m h2⟩
  | .sl t, _, _, _, _, _, _, m, h => by
    obtain ⟨a, len, cap, e, h1⟩ := h
    exact ⟨a, len, cap, e, h1.mono m fun cs x => RepC.mono t m⟩
  | .ptr t, w, w', _, _, _, _, m, h => by
    obtain ⟨ad, e, sp, h1⟩ := h
    exact ⟨ad, e, sp, h1.mono m fun cs x => RepC.mono t m⟩
  | .fn a b, _, _, _, _, _, _, m, h => by
    obtain ⟨f, first, caps, e, hcl, h1⟩ := h
    refine ⟨f, first, caps, e, hcl, fun w'' hs hc => h1 w'' (Nat.le_trans m.1 hs) fun c hcl hok => ?_⟩
    have := m.2 c hcl hok
    exact (hc c (Nat.lt_of_lt_of_le hcl m.1) this.2).trans this.1
theorem RepC.length {P : Program} : (t : Ty) → ∀ {w : World} {Ok : Nat → Prop} {cs : List Value} {x : t.den}, RepC P t w Ok cs x → cs.length = t.size
  | .unit, _, _, _, _, h => by rw [show _ = _ from h]; rfl
  | .int _, _, _, _, _, h => by rw [show _ = _ from h]; rfl
  | .bool, _, _, _, _, h => by rw [show _ = _ from h]; rfl
  | .str, _, _, _, _, h => by rw [show _ = _ from h]; rfl
  | .pair a b, _, _, _, _, h => by
    obtain ⟨c1, c2, e, h1, h2⟩ := h
    rw [e, List.length_append, RepC.length a h1, RepC.length b h2]; rfl
  | .sl _, _, _, _, _, h => by obtain ⟨_, _, _, e, _⟩ := h; rw [e]; rfl
  | .ptr _, _, _, _, _, h => by obtain ⟨_, e, _⟩ := h; rw [e]; rfl
  | .fn _ _, _, _, _, _, h => by obtain ⟨_, _, _, e, _⟩ := h; rw [e]; rfl
theorem RepC.scalar {P : Program} : (t : Ty) → t.scalar = true → ∀ {w w' : World} {Ok Ok' : Nat → Prop} {cs : List Value} {x : t.den}, RepC P t w Ok cs x → RepC P t w' Ok' cs x
  | .unit, _, _, _, _, _, _, _, h => h
  | .int _, _, _, _, _, _, _, _, h => h
  | .bool, _, _, _, _, _, _, _, h => h
  | .str, _, _, _, _, _, _, _, h => h
  | .pair a b, hs, _, _, _, _, _, _, h => by
    simp [Ty.scalar] at hs
    obtain ⟨c1, c2, e, h1, h2⟩ := h
    exact ⟨c1, c2, e, RepC.scalar a hs.1 h1, RepC.scalar b hs.2 h2⟩
  | .sl _, hs, _, _, _, _, _, _, _ => by simp [Ty.scalar] at hs
  | .ptr _, hs, _, _, _, _, _, _, _ => by simp [Ty.scalar] at hs
  | .fn _ _, hs, _, _, _, _, _, _, _ => by simp [Ty.scalar] at hs
inductive Claim where
  | skip
  | nilc
  | share (nn : Bool)
  | hold (B : Nat → Prop) (V : Value → Prop)
def HoldS {α : Type} (size : Nat) (w : World) (B : Nat → Prop) (R : List Value → α → Prop) (a : Option Addr) (len cap : Nat) (xs : List α) : Prop :=
  xs.length = len ∧ len ≤ cap ∧ (cap = 0 ∨ ∃ ad : Addr, a = some ad ∧ ad.spot = none ∧ B ad.block ∧
    (∃ vs e, w.heap[ad.block]? = some (.cells vs e (0, 0)) ∧ ad.off + cap * size ≤ vs.size) ∧ Rows size w R ad xs)
def Claim.says {α : Type} (size : Nat) (w : World) (Sh : Nat → Prop) (R : List Value → α → Prop) (a : Option Addr) (len cap : Nat) (xs : List α) : Claim → Prop
  | .skip => True
  | .nilc => a = none ∧ len = 0 ∧ cap = 0 ∧ xs = []
  | .share nn => ShareS size w Sh R a len cap xs ∧ (nn = true → a ≠ none)
  | .hold B V => HoldS size w B R a len cap xs ∧ V (.slice a len cap)
def Claim.blocks : Claim → Nat → Prop
  | .hold B _, b => B b
  | _, _ => False
def RepX (P : Program) (w : World) (Sh : Nat → Prop) (cl : Nat → Mk → Claim) : (t : Ty) → Nat → List Value → t.den → List Mk → Prop
  | .pair a b, c, cs, x, ms => ∃ c1 c2 m1 m2, cs = c1 ++ c2 ∧ ms = m1 ++ m2 ∧ RepX P w Sh cl a c c1 x.1 m1 ∧ RepX P w Sh cl b (c + a.size) c2 x.2 m2
  | .unit, _, cs, _, ms => cs = [] ∧ ms = []
  | .sl t, c, cs, xs, ms => ∃ a len cap m, cs = [.slice a len cap] ∧ ms = [m] ∧ (cl c m).says t.size w Sh (RepC P t w Sh) a len cap xs
  | .fn a b, c, cs, g, ms => ∃ v m, cs = [v] ∧ ms = [m] ∧ (v.cells = #[v] ∧ v.oneCell' = true) ∧ (cl c m ≠ .skip → RepC P (.fn a b) w (fun k => Sh k ∨ (cl c m).blocks k) cs g)
  | .int k, _, cs, x, ms => ∃ m, ms = [m] ∧ RepC P (.int k) w Sh cs x
  | .bool, _, cs, x, ms => ∃ m, ms = [m] ∧ RepC P .bool w Sh cs x
  | .str, _, cs, x, ms => ∃ m, ms = [m] ∧ RepC P .str w Sh cs x
  | .ptr t, _, cs, x, ms => ∃ m, ms = [m] ∧ RepC P (.ptr t) w Sh cs x
theorem RepX.length {P : Program} {w : World} {Sh : Nat → Prop} {cl : Nat → Mk → Claim} : (t : Ty) → ∀ {c : Nat} {cs : List Value} {x : t.den} {ms : List Mk},
    RepX P w Sh cl t c cs x ms → cs.length = t.size ∧ ms.length = t.size
  | .unit, _, _, _, _, h => by rw [h.1, h.2]; exact ⟨rfl, rfl⟩
  | .int _, _, _, _, _, h => by obtain ⟨m, e, h⟩ := h; rw [e]; exact ⟨RepC.length _ h, rfl⟩
  | .bool, _, _, _, _, h => by obtain ⟨m, e, h⟩ := h; rw [e]; exact ⟨RepC.length _ h, rfl⟩
  | .str, _, _, _, _, h => by obtain ⟨m, e, h⟩ := h; rw [e]; exact ⟨RepC.length _ h, rfl⟩
  | .ptr _, _, _, _, _, h => by obtain ⟨m, e, h⟩ := h; rw [e]; exact ⟨RepC.length _ h, rfl⟩
  | .pair a b, _, _, _, _, h => by
    obtain ⟨c1, c2, m1, m2, e, e', h1, h2⟩ := h
    have := RepX.length a h1
    have := RepX.length b h2
    rw [e, e', List.length_append, List.length_append]
    simp only [Ty.size]
    omega
  | .sl _, _, _, _, _, h => by obtain ⟨_, _, _, _, e, e', _⟩ := h; rw [e, e']; exact ⟨rfl, rfl⟩
  | .fn _ _, _, _, _, _, h => by obtain ⟨_, _, e, e', _, _⟩ := h; rw [e, e']; exact ⟨rfl, rfl⟩
inductive CLe (w : World) (w' : World) (Sh' : Nat → Prop) : Claim → Claim → Prop where
  | skip (c : Claim) : CLe w w' Sh' c .skip
  | nil : CLe w w' Sh' .nilc .nilc
  | nil_hold (B : Nat → Prop) (V : Value → Prop) (h : V (.slice none 0 0)) : CLe w w' Sh' .nilc (.hold B V)
  | nil_share : CLe w w' Sh' .nilc (.share false)
  | share (n : Bool) : CLe w w' Sh' (.share n) (.share n)
  | share_weak (n : Bool) : CLe w w' Sh' (.share n) (.share false)
  | hold (B B' : Nat → Prop) (V V' : Value → Prop) (h : Mono w B w' B') (hv : ∀ v, V v → V' v) : CLe w w' Sh' (.hold B V) (.hold B' V')
  | hold_share (B : Nat → Prop) (V : Value → Prop) (h : Mono w B w' Sh') : CLe w w' Sh' (.hold B V) (.share false)
theorem HoldS.share {α : Type} {size : Nat} {w w' : World} {B B' : Nat → Prop} {R R' : List Value → α → Prop} {a : Option Addr} {len cap : Nat} {xs : List α}
    (hm : Mono w B w' B') (hR : ∀ cs x, R cs x → R' cs x) (h : HoldS size w B R a len cap xs) : ShareS size w' B' R' a len cap xs := by
  obtain ⟨h1, h2, h3⟩ := h
  refine ⟨h1, h2, ?_⟩
  rcases h3 with h3 | ⟨ad, e, sp, hb, ⟨vs, et, hh, hc⟩, hr⟩
  · left; omega
  · right
    have hl : ad.block < w.heap.size := by
      rcases Nat.lt_or_ge ad.block w.heap.size with h | h
      · exact h
      · rw [Array.getElem?_eq_none h] at hh; cases hh
    have := hm.2 _ hl hb
    exact ⟨ad, e, sp, Nat.lt_of_lt_of_le hl hm.1, this.2, hr.mono this.1 hR⟩
theorem HoldS.mono {α : Type} {size : Nat} {w w' : World} {B B' : Nat → Prop} {R R' : List Value → α → Prop} {a : Option Addr} {len cap : Nat} {xs : List α}
    (hm : Mono w B w' B') (hR : ∀ cs x, R cs x → R' cs x) (h : HoldS size w B R a len cap xs) : HoldS size w' B' R' a len cap xs := by
  obtain ⟨h1, h2, h3⟩ := h
  refine ⟨h1, h2, h3.imp id ?_⟩
  rintro ⟨ad, e, sp, hb, ⟨vs, et, hh, hc⟩, hr⟩
  have hl : ad.block < w.heap.size := by
    rcases Nat.lt_or_ge ad.block w.heap.size with h | h
    · exact h
    · rw [Array.getElem?_eq_none h] at hh; cases hh
  have := hm.2 _ hl hb
  exact ⟨ad, e, sp, this.2, ⟨vs, et, this.1.trans hh, hc⟩, hr.mono this.1 hR⟩
theorem CLe.says {α : Type} {size : Nat} {w w' : World} {Sh Sh' : Nat → Prop} {R R' : List Value → α → Prop} {a : Option Addr} {len cap : Nat} {xs : List α} {c c' : Claim}
    (h : CLe w w' Sh' c c') (hm : Mono w Sh w' Sh') (hR : ∀ cs x, R cs x → R' cs x) (hc : c.says size w Sh R a len cap xs) : c'.says size w' Sh' R' a len cap xs := by
  cases h with
  | skip => trivial
  | nil => exact hc
  | nil_hold B V hv =>
    obtain ⟨rfl, rfl, rfl, rfl⟩ := hc
    exact ⟨⟨rfl, Nat.le_refl _, .inl rfl⟩, hv⟩
  | nil_share =>
    obtain ⟨rfl, rfl, rfl, rfl⟩ := hc
    exact ⟨⟨rfl, Nat.le_refl _, .inl rfl⟩, by simp⟩
  | share n => exact ⟨hc.1.mono hm hR, hc.2⟩
  | share_weak n => exact ⟨hc.1.mono hm hR, by simp⟩
  | hold B B' V V' hb hv => exact ⟨hc.1.mono hb hR, hv _ hc.2⟩
  | hold_share B V hb => exact ⟨hc.1.share hb hR, by simp⟩
theorem CLe.notSkip {w w' : World} {Sh' : Nat → Prop} {c c' : Claim} (h : CLe w w' Sh' c c') (hn : c' ≠ .skip) : c ≠ .skip := by
  cases h <;> simp_all
theorem CLe.blocks {w w' : World} {Sh Sh' : Nat → Prop} {c c' : Claim} (h : CLe w w' Sh' c c') (hn : c' ≠ .skip) (hm : Mono w Sh w' Sh') :
    Mono w (fun k => Sh k ∨ c.blocks k) w' (fun k => Sh' k ∨ c'.blocks k) := by
  refine ⟨hm.1, fun b hb hk => ?_⟩
  rcases hk with hk | hk
  · have := hm.2 b hb hk; exact ⟨this.1, .inl this.2⟩
  · cases h with
    | skip => exact absurd rfl hn
    | hold B B' V V' h hv => have := h.2 b hb hk; exact ⟨this.1, .inr this.2⟩
    | hold_share B V h => have := h.2 b hb hk; exact ⟨this.1, .inl this.2⟩
    | _ => exact hk.elim
theorem markAt_append_left : (l m : List Mk) → (i : Nat) → i < l.length → markAt (l ++ m) i = markAt l i
  | [], _, _, h => by simp at h
  | _ :: _, _, 0, _ => rfl
  | _ :: l, m, i + 1, h => markAt_append_left l m i (by simpa using h)
theorem markAt_append_right : (l m : List Mk) → (i : Nat) → markAt (l ++ m) (l.length + i) = markAt m i
  | [], _, i => by simp
  | a :: l, m, i => by
    have : (a :: l).length + i = (l.length + i) + 1 := by simp; omega
    rw [this]
    exact markAt_append_right l m i
theorem RepX.trans {P : Program} {w w' : World} {Sh Sh' : Nat → Prop} {cl cl' : Nat → Mk → Claim} (hm : Mono w Sh w' Sh') :
    (t : Ty) → ∀ {c c' : Nat} {cs : List Value} {x : t.den} {ms ms' : List Mk}, RepX P w Sh cl t c cs x ms → ms'.length = ms.length →
    (∀ i, i < t.size → CLe w w' Sh' (cl (c + i) (markAt ms i)) (cl' (c' + i) (markAt ms' i))) → RepX P w' Sh' cl' t c' cs x ms'
  | .unit, _, _, _, _, _, _, h, hl, _ => ⟨h.1, by rw [h.2] at hl; simpa using hl⟩
  | .int _, _, _, _, _, ms, ms', h, hl, _ => by
    obtain ⟨m, e, h⟩ := h
    subst e
    match ms', hl with
    | [m'], _ => exact ⟨m', rfl, RepC.mono _ hm h⟩
  | .bool, _, _, _, _, ms, ms', h, hl, _ => by
    obtain ⟨m, e, h⟩ := h
    subst e
    match ms', hl with
    | [m'], _ => exact ⟨m', rfl, RepC.mono _ hm h⟩
  | .str, _, _, _, _, ms, ms', h, hl, _ => by
    obtain ⟨m, e, h⟩ := h
    subst e
    match ms', hl with
    | [m'], _ => exact ⟨m', rfl, RepC.mono _ hm h⟩
  | .ptr _, _, _, _, _, ms, ms', h, hl, _ => by
    obtain ⟨m, e, h⟩ := h
    subst e
    match ms', hl with
    | [m'], _ => exact ⟨m', rfl, RepC.mono _ hm h⟩
  | .sl t, c, c', _, _, ms, ms', h, hl, hc => by
    obtain ⟨a, len, cap, m, e, e', h⟩ := h
    subst e'
    match ms', hl with
    | [m'], _ =>
      have := hc 0 (by simp [Ty.size])
      exact ⟨a, len, cap, m', e, rfl, CLe.says this hm (fun _ _ => RepC.mono t hm) h⟩
  | .fn a b, c, c', _, _, ms, ms', h, hl, hc => by
    obtain ⟨v, m, e, e', hv, h⟩ := h
    subst e'
    match ms', hl with
    | [m'], _ =>
      have := hc 0 (by simp [Ty.size])
      exact ⟨v, m', e, rfl, hv, fun hn => RepC.mono (.fn a b) (this.blocks hn hm) (h (this.notSkip hn))⟩
  | .pair a b, c, c', cs, x, ms, ms', h, hl, hc => by
    obtain ⟨c1, c2, m1, m2, e, e', h1, h2⟩ := h
    subst e'
    have l1 := RepX.length a h1
    have l2 := RepX.length b h2
    rw [List.length_append] at hl
    have htd : ms' = ms'.take a.size ++ ms'.drop a.size := (List.take_append_drop _ _).symm
    have hlt : (ms'.take a.size).length = a.size := by rw [List.length_take]; omega
    refine ⟨c1, c2, ms'.take a.size, ms'.drop a.size, e, htd, RepX.trans hm a h1 (by omega) fun i hi => ?_, RepX.trans hm b h2 (by rw [List.length_drop]; omega) fun i hi => ?_⟩
    · have := hc i (by simp only [Ty.size]; omega)
      rw [htd, markAt_append_left _ _ _ (by omega), markAt_append_left _ _ _ (by omega)] at this
      exact this
    · have := hc (a.size + i) (by simp only [Ty.size]; omega)
      rw [htd] at this
      have e1 : a.size + i = m1.length + i := by omega
      have e2 : a.size + i = (ms'.take a.size).length + i := by omega
      rw [show markAt (m1 ++ m2) (a.size + i) = markAt m2 i by rw [e1]; exact markAt_append_right _ _ _,
        show markAt (ms'.take a.size ++ ms'.drop a.size) (a.size + i) = markAt (ms'.drop a.size) i by
          conv => lhs; rw [e2]
          exact markAt_append_right _ _ _, ← Nat.add_assoc, ← Nat.add_assoc] at this
      exact this
theorem markBeq_eq {a b : Mk} (h : markBeq a b = true) : a = b := by
  cases a <;> cases b <;> simp [markBeq] at h <;> simp [h]
theorem marksBeq_eq : {a b : List Mk} → marksBeq a b = true → a = b
  | [], [], _ => rfl
  | [], _ :: _, h => by simp [marksBeq] at h
  | _ :: _, [], h => by simp [marksBeq] at h
  | a :: l, b :: m, h => by
    simp only [marksBeq, Bool.and_eq_true] at h
    rw [markBeq_eq h.1, marksBeq_eq h.2]
end Go.GD
end

section
namespace Go.GD
open Go
variable {P : Program}
theorem getAt_base {t : Ty} {x : t.den} {off : Nat} {b : Ty} {y : b.den} (ht : ∀ l r, t ≠ .pair l r) (h : getAt t x off b = some y) : off = 0 ∧ ∃ e : t = b, y = e ▸ x := by
  cases t <;> first
    | exact absurd rfl (ht _ _)
    | (unfold getAt at h
       split at h
       · rename_i hb
         injection h with h
         have hb' := Bool.and_eq_true_iff.1 hb
         exact ⟨Nat.eq_of_beq_eq_true hb'.1, Ty.eq_of_beq hb'.2, h.symm⟩
       · cases h)
theorem getAt_pair {l r : Ty} {x : (Ty.pair l r).den} {off : Nat} {b : Ty} {y : b.den} (h : getAt (.pair l r) x off b = some y) :
    (off = 0 ∧ ∃ e : Ty.pair l r = b, y = e ▸ x) ∨ (off < l.size ∧ getAt l x.1 off b = some y) ∨ (l.size ≤ off ∧ getAt r x.2 (off - l.size) b = some y) := by
  unfold getAt at h
  split at h
  · rename_i hb
    injection h with h
    have hb' := Bool.and_eq_true_iff.1 hb
    exact .inl ⟨Nat.eq_of_beq_eq_true hb'.1, Ty.eq_of_beq hb'.2, h.symm⟩
  · split at h
    · rename_i hlt
      exact .inr (.inl ⟨by simpa [Nat.blt_eq] using hlt, h⟩)
    · rename_i hlt
      exact .inr (.inr ⟨by simpa [Nat.blt_eq] using hlt, h⟩)
theorem getAt_repX {w : World} {Sh : Nat → Prop} {cl : Nat → Mk → Claim} : (t : Ty) → ∀ {c : Nat} {cs : List Value} {x : t.den} {ms : List Mk} {off : Nat} {b : Ty} {y : b.den},
    RepX P w Sh cl t c cs x ms → getAt t x off b = some y → off + b.size ≤ t.size ∧ RepX P w Sh cl b (c + off) ((cs.drop off).take b.size) y ((ms.drop off).take b.size) := by
  intro t
  induction t with
  | pair l r ihl ihr =>
    intro c cs x ms off b y h hg
    have hlen := RepX.length _ h
    rcases getAt_pair hg with ⟨rfl, e, he⟩ | ⟨hlt, hg⟩ | ⟨hle, hg⟩
    · subst e; subst he
      refine ⟨by simp, ?_⟩
      rw [List.drop_zero, List.drop_zero, List.take_of_length_le (by omega), List.take_of_length_le (by omega)]
      exact h
    · obtain ⟨c1, c2, m1, m2, rfl, rfl, h1, h2⟩ := h
      have l1 := RepX.length _ h1
      obtain ⟨hs, hr⟩ := ihl h1 hg
      refine ⟨by simp only [Ty.size]; omega, ?_⟩
      rw [List.drop_append_of_le_length (by omega), List.drop_append_of_le_length (by omega), List.take_append_of_le_length (by rw [List.length_drop]; omega),
        List.take_append_of_le_length (by rw [List.length_drop]; omega)]
      exact hr
    · obtain ⟨c1, c2, m1, m2, rfl, rfl, h1, h2⟩ := h
      have l1 := RepX.length _ h1
      obtain ⟨hs, hr⟩ := ihr h2 hg
      refine ⟨by simp only [Ty.size]; omega, ?_⟩
      rw [show (c1 ++ c2).drop off = c2.drop (off - l.size) by rw [List.drop_append, List.drop_eq_nil_of_le (by omega), List.nil_append, l1.1],
        show (m1 ++ m2).drop off = m2.drop (off - l.size) by rw [List.drop_append, List.drop_eq_nil_of_le (by omega), List.nil_append, l1.2]]
      have : c + l.size + (off - l.size) = c + off := by omega
      rwa [this] at hr
  | _ =>
    intro c cs x ms off b y h hg
    have hlen := RepX.length _ h
    obtain ⟨rfl, e, he⟩ := getAt_base (by intro l r hh; cases hh) hg
    subst e; subst he
    refine ⟨by simp, ?_⟩
    rw [List.drop_zero, List.drop_zero, List.take_of_length_le (by omega), List.take_of_length_le (by omega)]
    exact h
def splice {α : Type} (cs : List α) (off : Nat) (ys : List α) : List α := cs.take off ++ ys ++ cs.drop (off + ys.length)
theorem splice_all {α : Type} (cs ys : List α) (h : cs.length = ys.length) : splice cs 0 ys = ys := by
  unfold splice
  rw [List.take_zero, List.nil_append, List.drop_eq_nil_of_le (by omega), List.append_nil]
theorem splice_left {α : Type} (c1 c2 ys : List α) (off : Nat) (h : off + ys.length ≤ c1.length) : splice (c1 ++ c2) off ys = splice c1 off ys ++ c2 := by
  unfold splice
  rw [List.take_append_of_le_length (by omega), List.drop_append_of_le_length (by omega)]
  simp
theorem splice_right {α : Type} (c1 c2 ys : List α) (off : Nat) (h : c1.length ≤ off) : splice (c1 ++ c2) off ys = c1 ++ splice c2 (off - c1.length) ys := by
  unfold splice
  rw [List.take_append, List.take_of_length_le h, List.drop_append, List.drop_eq_nil_of_le (by omega), List.nil_append]
  rw [show off + ys.length - c1.length = off - c1.length + ys.length by omega]
  simp
theorem splice_length {α : Type} (cs ys : List α) (off : Nat) (h : off + ys.length ≤ cs.length) : (splice cs off ys).length = cs.length := by
  unfold splice
  simp only [List.length_append, List.length_take, List.length_drop]
  omega
theorem setMarkL_splice : (ms : List Mk) → (i : Nat) → (m : Mk) → i < ms.length → setMarkL ms i m = splice ms i [m]
  | [], _, _, h => by simp at h
  | a :: l, 0, m, _ => by simp [setMarkL, splice]
  | a :: l, i + 1, m, h => by
    have := setMarkL_splice l i m (by simpa using h)
    rw [setMarkL, this]
    simp only [splice, List.length_singleton]
    simp
theorem setMarks_splice : (ns : List Mk) → (ms : List Mk) → (i : Nat) → i + ns.length ≤ ms.length → setMarks ms i ns = splice ms i ns
  | [], ms, i, _ => by simp [setMarks, splice]
  | n :: ns, ms, i, h => by
    simp only [List.length_cons] at h
    rw [setMarks, setMarkL_splice _ _ _ (by omega), setMarks_splice ns _ _ (by rw [splice_length _ _ _ (by simp; omega)]; omega)]
    simp only [splice, List.length_nil, List.length_cons, Nat.zero_add]
    have h1 : (ms.take i).length = i := by rw [List.length_take]; omega
    rw [List.append_assoc (ms.take i), List.take_append, h1, List.take_of_length_le (by omega), show i + 1 - i = 1 by omega]
    simp only [List.singleton_append, List.take_succ_cons, List.take_zero]
    rw [show i + 1 + ns.length = (ms.take i).length + (1 + ns.length) by omega, List.drop_length_add_append]
    rw [show 1 + ns.length = ns.length + 1 by omega, List.drop_succ_cons, List.drop_drop, show i + 1 + ns.length = i + (ns.length + 1) by omega]
    simp
theorem setAt_base {t : Ty} {x : t.den} {off : Nat} {b : Ty} {y : b.den} {z : t.den} (ht : ∀ l r, t ≠ .pair l r) (h : setAt t x off b y = some z) : off = 0 ∧ ∃ e : b = t, z = e ▸ y := by
  cases t <;> first
    | exact absurd rfl (ht _ _)
    | (unfold setAt at h
       split at h
       · rename_i hb
         injection h with h
         have hb' := Bool.and_eq_true_iff.1 hb
         exact ⟨Nat.eq_of_beq_eq_true hb'.1, Ty.eq_of_beq hb'.2, h.symm⟩
       · cases h)
theorem setAt_pair {l r : Ty} {x : (Ty.pair l r).den} {off : Nat} {b : Ty} {y : b.den} {z : (Ty.pair l r).den} (h : setAt (.pair l r) x off b y = some z) :
    (off = 0 ∧ ∃ e : b = Ty.pair l r, z = e ▸ y) ∨ (off < l.size ∧ ∃ u, setAt l x.1 off b y = some u ∧ z = (u, x.2)) ∨
      (l.size ≤ off ∧ ∃ u, setAt r x.2 (off - l.size) b y = some u ∧ z = (x.1, u)) := by
  unfold setAt at h
  split at h
  · rename_i hb
    injection h with h
    have hb' := Bool.and_eq_true_iff.1 hb
    exact .inl ⟨Nat.eq_of_beq_eq_true hb'.1, Ty.eq_of_beq hb'.2, h.symm⟩
  · split at h
    · rename_i hlt
      obtain ⟨u, hu, hz⟩ := Option.map_eq_some_iff.1 h
      exact .inr (.inl ⟨by simpa [Nat.blt_eq] using hlt, u, hu, hz.symm⟩)
    · rename_i hlt
      obtain ⟨u, hu, hz⟩ := Option.map_eq_some_iff.1 h
      exact .inr (.inr ⟨by simpa [Nat.blt_eq] using hlt, u, hu, hz.symm⟩)
theorem setAt_repX {w : World} {Sh : Nat → Prop} {cl : Nat → Mk → Claim} : (t : Ty) → ∀ {c : Nat} {cs : List Value} {x : t.den} {ms : List Mk} {off : Nat} {b : Ty} {y : b.den} {z : t.den} {ys : List Value} {ns : List Mk},
    RepX P w Sh cl t c cs x ms → RepX P w Sh cl b (c + off) ys y ns → setAt t x off b y = some z →
    off + b.size ≤ t.size ∧ RepX P w Sh cl t c (splice cs off ys) z (splice ms off ns) := by
  intro t
  induction t with
  | pair l r ihl ihr =>
    intro c cs x ms off b y z ys ns h hy hg
    have hlen := RepX.length _ h
    have hyl := RepX.length _ hy
    rcases setAt_pair hg with ⟨rfl, e, he⟩ | ⟨hlt, u, hg, hz⟩ | ⟨hle, u, hg, hz⟩
    · subst e; subst he
      rw [splice_all _ _ (by omega), splice_all _ _ (by omega)]
      exact ⟨by simp, hy⟩
    · obtain ⟨c1, c2, m1, m2, rfl, rfl, h1, h2⟩ := h
      have l1 := RepX.length _ h1
      obtain ⟨hs, hr⟩ := ihl h1 hy hg
      subst hz
      refine ⟨by simp only [Ty.size]; omega, ?_⟩
      rw [splice_left _ _ _ _ (by omega), splice_left _ _ _ _ (by omega)]
      exact ⟨_, _, _, _, rfl, rfl, hr, h2⟩
    · obtain ⟨c1, c2, m1, m2, rfl, rfl, h1, h2⟩ := h
      have l1 := RepX.length _ h1
      have hy' : RepX P w Sh cl b (c + l.size + (off - l.size)) ys y ns := by rwa [show c + l.size + (off - l.size) = c + off by omega]
      obtain ⟨hs, hr⟩ := ihr h2 hy' hg
      subst hz
      refine ⟨by simp only [Ty.size]; omega, ?_⟩
      rw [splice_right _ _ _ _ (by omega), splice_right _ _ _ _ (by omega), l1.1, l1.2]
      exact ⟨_, _, _, _, rfl, rfl, h1, hr⟩
  | _ =>
    intro c cs x ms off b y z ys ns h hy hg
    have hlen := RepX.length _ h
    have hyl := RepX.length _ hy
    obtain ⟨rfl, e, he⟩ := setAt_base (by intro l r hh; cases hh) hg
    subst e; subst he
    rw [splice_all _ _ (by omega), splice_all _ _ (by omega)]
    exact ⟨by simp, hy⟩
theorem shrMarks_length : (t : Ty) → (shrMarks t).length = t.size
  | .unit => rfl
  | .pair a b => by simp [shrMarks, Ty.size, shrMarks_length a, shrMarks_length b]
  | .int _ | .bool | .str | .sl _ | .ptr _ | .fn _ _ => rfl
theorem ownMarks_length : (t : Ty) → (ownMarks t).length = t.size
  | .unit => rfl
  | .pair a b => by simp [ownMarks, Ty.size, ownMarks_length a, ownMarks_length b]
  | .int _ | .bool | .str | .sl _ | .ptr _ | .fn _ _ => rfl
def shareAll : Nat → Mk → Claim := fun _ _ => .share false
theorem repX_of_repC {w : World} {Sh : Nat → Prop} : (t : Ty) → ∀ {c : Nat} {cs : List Value} {x : t.den} {ms : List Mk}, RepC P t w Sh cs x → ms.length = t.size → RepX P w Sh shareAll t c cs x ms
  | .unit, _, _, _, ms, h, hl => ⟨h, List.eq_nil_of_length_eq_zero hl⟩
  | .int _, _, _, _, [m], h, _ => ⟨m, rfl, h⟩
  | .bool, _, _, _, [m], h, _ => ⟨m, rfl, h⟩
  | .str, _, _, _, [m], h, _ => ⟨m, rfl, h⟩
  | .ptr _, _, _, _, [m], h, _ => ⟨m, rfl, h⟩
  | .sl _, _, _, _, [m], h, _ => by
    obtain ⟨a, len, cap, e, h⟩ := h
    exact ⟨a, len, cap, m, e, rfl, h, by simp⟩
  | .fn a b, _, _, _, [m], h, _ => by
    obtain ⟨f, first, caps, e, h⟩ := h
    subst e
    exact ⟨_, m, rfl, rfl, ⟨rfl, rfl⟩, fun _ => RepC.mono (.fn a b) ⟨Nat.le_refl _, fun b _ hb => ⟨rfl, .inl hb⟩⟩ ⟨f, first, caps, rfl, h⟩⟩
  | .pair a b, _, _, _, ms, h, hl => by
    obtain ⟨c1, c2, e, h1, h2⟩ := h
    simp only [Ty.size] at hl
    exact ⟨c1, c2, ms.take a.size, ms.drop a.size, e, (List.take_append_drop _ _).symm, repX_of_repC a h1 (by rw [List.length_take]; omega), repX_of_repC b h2 (by rw [List.length_drop]; omega)⟩
theorem repC_of_repX {w : World} {Sh : Nat → Prop} : (t : Ty) → ∀ {c : Nat} {cs : List Value} {x : t.den} {ms : List Mk}, RepX P w Sh shareAll t c cs x ms → RepC P t w Sh cs x
  | .unit, _, _, _, _, h => by obtain ⟨h1, _⟩ := h; exact h1
  | .int _, _, _, _, _, h => by obtain ⟨_, _, h1⟩ := h; exact h1
  | .bool, _, _, _, _, h => by obtain ⟨_, _, h1⟩ := h; exact h1
  | .str, _, _, _, _, h => by obtain ⟨_, _, h1⟩ := h; exact h1
  | .ptr _, _, _, _, _, h => by obtain ⟨_, _, h1⟩ := h; exact h1
  | .sl _, _, _, _, _, h => by
    obtain ⟨a, len, cap, m, e, _, h, _⟩ := h
    exact ⟨a, len, cap, e, h⟩
  | .fn a b, _, _, _, _, h => by
    obtain ⟨v, m, e, _, _, h⟩ := h
    exact RepC.mono (.fn a b) ⟨Nat.le_refl _, fun b _ hb => ⟨rfl, hb.resolve_right (by simp [shareAll, Claim.blocks])⟩⟩ (h (by simp [shareAll]))
  | .pair a b, _, _, _, _, h => by
    obtain ⟨c1, c2, m1, m2, e, _, h1, h2⟩ := h
    exact ⟨c1, c2, e, repC_of_repX a h1, repC_of_repX b h2⟩
theorem getAt_repC {w : World} {Sh : Nat → Prop} {t : Ty} {cs : List Value} {x : t.den} {off : Nat} {b : Ty} {y : b.den}
    (h : RepC P t w Sh cs x) (hg : getAt t x off b = some y) : off + b.size ≤ t.size ∧ RepC P b w Sh ((cs.drop off).take b.size) y := by
  have := getAt_repX t (repX_of_repC (c := 0) (ms := shrMarks t) t h (shrMarks_length t)) hg
  exact ⟨this.1, repC_of_repX b this.2⟩
theorem setAt_repC {w : World} {Sh : Nat → Prop} {t : Ty} {cs : List Value} {x : t.den} {off : Nat} {b : Ty} {y : b.den} {z : t.den} {ys : List Value}
    (h : RepC P t w Sh cs x) (hy : RepC P b w Sh ys y) (hg : setAt t x off b y = some z) : off + b.size ≤ t.size ∧ RepC P t w Sh (splice cs off ys) z := by
  have := setAt_repX t (repX_of_repC (c := 0) (ms := shrMarks t) t h (shrMarks_length t)) (repX_of_repC (c := 0 + off) (ms := shrMarks b) b hy (shrMarks_length b)) hg
  exact ⟨this.1, repC_of_repX t this.2⟩
theorem mkV_cells {t : Ty} {cs : List Value} {w : World} {Sh : Nat → Prop} {cl : Nat → Mk → Claim} {c : Nat} {x : t.den} {ms : List Mk} (h : RepX P w Sh cl t c cs x ms) : (mkV t cs).cells = cs.toArray := by
  unfold mkV
  cases t with
  | unit => rfl
  | pair a b => rfl
  | int k => obtain ⟨m, _, h⟩ := h; rw [show cs = _ from h]; rfl
  | bool => obtain ⟨m, _, h⟩ := h; rw [show cs = _ from h]; rfl
  | str => obtain ⟨m, _, h⟩ := h; rw [show cs = _ from h]; rfl
  | sl t => obtain ⟨_, _, _, _, e, _⟩ := h; rw [e]; rfl
  | ptr t => obtain ⟨m, _, _, e, _⟩ := h; rw [e]; rfl
  | fn a b =>
    obtain ⟨v, m, e, _, hv, _⟩ := h
    rw [e]; exact hv.1
end Go.GD
end

section
namespace Go.GD
open Go
theorem listSet_length : (σ : List Slot) → (s : Nat) → (v : Slot) → (listSet σ s v).length = σ.length
  | [], _, _ => rfl
  | _ :: _, 0, _ => rfl
  | _ :: l, s + 1, v => by simp [listSet, listSet_length l s v]
theorem listGet_set_same : (σ : List Slot) → (s : Nat) → (v : Slot) → s < σ.length → listGet (listSet σ s v) s = v
  | [], _, _, h => by simp at h
  | _ :: _, 0, _, _ => rfl
  | _ :: l, s + 1, v, h => listGet_set_same l s v (by simpa using h)
theorem listGet_set_other : (σ : List Slot) → (s t : Nat) → (v : Slot) → t ≠ s → listGet (listSet σ s v) t = listGet σ t
  | [], _, _, _, _ => rfl
  | _ :: _, 0, 0, _, h => absurd rfl h
  | _ :: _, 0, _ + 1, _, _ => rfl
  | _ :: _, _ + 1, 0, _, _ => rfl
  | _ :: l, s + 1, t + 1, v, h => listGet_set_other l s t v (by omega)
theorem listSet_out : (σ : List Slot) → (s : Nat) → (v : Slot) → σ.length ≤ s → listSet σ s v = σ
  | [], _, _, _ => rfl
  | _ :: _, 0, _, h => by simp at h
  | _ :: l, s + 1, v, h => by rw [listSet, listSet_out l s v (by simpa using h)]
theorem listGet_out : (σ : List Slot) → (s : Nat) → σ.length ≤ s → listGet σ s = ⟨.top, 0, 0⟩
  | [], _, _ => rfl
  | _ :: _, 0, h => by simp at h
  | _ :: l, s + 1, h => listGet_out l s (by simpa using h)
def validB (σ : St) (s c g : Nat) : Bool := Nat.beq (listGet σ s).gen g && ((listGet σ s).a.mark c).isOwn
def borOk1 (σ : St) (s g : Nat) (cs : List Nat) : Bool := Nat.beq (listGet σ s).gen g && ((listGet σ s).a.isBox && (listGet σ s).a.owns cs)
def borOk (σ : St) : List (Nat × Nat × List Nat) → Bool
  | [] => true
  | (s, g, cs) :: l => borOk1 σ s g cs && borOk σ l
abbrev Own := Nat → Option (Nat × Option Nat)
def borBlocks (g : Own) (q : List (Nat × Nat × List Nat)) (b : Nat) : Prop :=
  ∃ s gn cs, (s, gn, cs) ∈ q ∧ (g b = some (s, none) ∨ ∃ c, c ∈ cs ∧ g b = some (s, some c))
def clm (σ : St) (g : Own) (pv : Nat → Nat → Option Value) (s : Nat) : Nat → Mk → Claim
  | c, .own => .hold (fun b => g b = some (s, some c)) (fun _ => True)
  | _, .shr => .share false
  | _, .nn => .share true
  | _, .nil => .nilc
  | _, .dead => .skip
  | _, .ref s' c' g' => cond (validB σ s' c' g') (.hold (fun b => g b = some (s', some c')) (fun v => pv s' c' = some v)) .skip
  | _, .sub s' c' g' => cond (validB σ s' c' g') (.hold (fun b => g b = some (s', some c')) (fun _ => True)) .skip
  | _, .bor q => cond (borOk σ q) (.hold (borBlocks g q) (fun _ => True)) .skip
def tupCells : Value → List Value
  | .tuple vs => vs.toList.flatMap fun v => v.cells.toList
  | _ => []
def placeV (σ : St) (tm : Array Value) (w : World) (s c : Nat) : Option Value :=
  match (listGet σ s).a with
  | .val _ => (tm.getD s undef).cells.toList[c]?
  | .tup _ => (tupCells (tm.getD s undef))[c]?
  | .box _ => match tm.getD s undef with
    | .pointer (some ad) => w.cell? ⟨ad.block, ad.off + c, none⟩
    | _ => none
  | _ => none
def bndM (σ : St) : Mk → Prop
  | .ref s _ g | .sub s _ g => g ≤ (listGet σ s).gen
  | .bor q => ∀ s g cs, (s, g, cs) ∈ q → g ≤ (listGet σ s).gen
  | _ => True
def bndA (σ : St) : A → Prop
  | .val v | .box v => ∀ m, m ∈ v.ms → bndM σ m
  | .tup vs => ∀ v, v ∈ vs → ∀ m, m ∈ v.ms → bndM σ m
  | .bptr s _ id => id ≤ (listGet σ s).id
  | .eptr s _ g _ _ _ _ => g ≤ (listGet σ s).gen
  | .cptr _ _ (some (s, _, g)) => g ≤ (listGet σ s).gen
  | .mref s id => id ≤ (listGet σ s).id
  | _ => True
theorem SameIO.refl (w : World) : SameIO w w := ⟨rfl, rfl, rfl, Nat.le_refl _⟩
theorem SameIO.trans {a b c : World} (h : SameIO a b) (h' : SameIO b c) : SameIO a c := ⟨h'.1.trans h.1, h'.2.1.trans h.2.1, h'.2.2.1.trans h.2.2.1, Nat.le_trans h.2.2.2 h'.2.2.2⟩
structure Ctx where
  P : Program
  base : Nat
  Ok0 : Nat → Prop
  G : Nat → Prop
  h0 : Array Obj
  w0 : World
  pin : Nat → Option Value := fun _ => none
def Shd (C : Ctx) (g : Own) : Nat → Prop := fun b => (C.base ≤ b ∨ C.Ok0 b ∨ C.G b) ∧ g b = none
section
variable (C : Ctx) (g : Own) (σ : St) (tm : Array Value) (w : World)
abbrev cl (s : Nat) : Nat → Mk → Claim := clm σ g (placeV σ tm w) s
def ValRep (s c : Nat) (v : Value) (tv : TV) : Prop := ∃ cs, v = mkV tv.t cs ∧ RepX C.P w (Shd C g) (cl g σ tm w s) tv.t c cs tv.x tv.ms
def TupRep (s : Nat) : Nat → List Value → List TV → Prop
  | _, [], [] => True
  | c, v :: vs, tv :: l => ValRep C g σ tm w s c v tv ∧ TupRep s (c + tv.ms.length) vs l
  | _, _, _ => False
def atomV : (t : Ty) → t.den → Value
  | .int k, n => .int k n
  | .bool, b => .bool b
  | _, _ => undef
def flatC : (t : Ty) → t.den → List Value
  | .int k, n => [.int k n]
  | .bool, b => [.bool b]
  | .str, l => [.string ⟨⟨l⟩⟩]
  | .pair a b, x => flatC a x.1 ++ flatC b x.2
  | _, _ => []
def entV : (t : Ty) → Int × t.den → Value × Value
  | .pair kt vt, p => (mkV kt (flatC kt p.2.1), mkV vt (flatC vt p.2.2))
  | t, p => (Value.int .i64 p.1, atomV t p.2)
def MapRep {t : Ty} (es : List MapEntry) (ks : List (Int × t.den)) : Prop := es.map (fun e => (e.key, e.val)) = ks.map (entV t)
def SlotRep (s : Nat) (v : Value) : A → Prop
  | .top => True
  | .val tv => ValRep C g σ tm w s 0 v tv
  | .tup vs => ∃ vals : List Value, v = .tuple vals.toArray ∧ TupRep C g σ tm w s 0 vals vs
  | .box tv => ∃ b e, ∃ cs : List Value, v = .pointer (some ⟨b, 0, none⟩) ∧ g b = some (s, none) ∧ w.heap[b]? = some (.cells cs.toArray e (0, 0)) ∧
      RepX C.P w (Shd C g) (cl g σ tm w s) tv.t 0 cs tv.x tv.ms
  | .bptr s' off id => (listGet σ s').id = id → ∀ b, tm.getD s' undef = .pointer (some ⟨b, 0, none⟩) → v = .pointer (some ⟨b, off, none⟩)
  | .eptr s' c' g' i t x off => validB σ s' c' g' = true → ∃ ad : Addr, ∃ len cap, placeV σ tm w s' c' = some (.slice (some ad) len cap) ∧ ad.spot = none ∧ i < len ∧
      v = .pointer (some ⟨ad.block, ad.off + i * t.size + off, none⟩) ∧
      MemAt t.size w (fun b => g b = some (s', some c')) (RepC C.P t w (Shd C g)) ⟨ad.block, ad.off + i * t.size, none⟩ x
  | .cptr t x none => ∃ ad : Addr, v = .pointer (some ad) ∧ ad.spot = none ∧ MemAt t.size w (Shd C g) (RepC C.P t w (Shd C g)) ad x
  | .cptr t x (some (s', c', g')) => validB σ s' c' g' = true → ∃ ad : Addr, v = .pointer (some ad) ∧ ad.spot = none ∧
      MemAt t.size w (fun b => g b = some (s', some c')) (RepC C.P t w (Shd C g)) ad x
  | .mp t ks => ∃ b clock, ∃ es : Array MapEntry, v = .map (some b) ∧ g b = some (s, none) ∧ w.heap[b]? = some (.map es clock) ∧ MapRep (t := t) es.toList ks
  | .mref s' id => (listGet σ s').id = id → v = tm.getD s' undef
structure SRep : Prop where
  len : tm.size = σ.length
  slots : ∀ s, s < σ.length → SlotRep C g σ tm w s (tm.getD s undef) (listGet σ s).a
  bnd : ∀ s, s < σ.length → bndA σ (listGet σ s).a
  gok : ∀ b, g b ≠ none → b < w.heap.size ∧ (C.base ≤ b ∨ C.G b)
  frame : ∀ b, b < C.base → ¬ C.G b → w.heap[b]? = C.h0[b]?
  size : C.base ≤ w.heap.size
  io : SameIO C.w0 w
  pin : ∀ s v, C.pin s = some v → (listGet σ s).a.isBox = true → tm.getD s undef = v
end
theorem heap_lt {w : World} {b : Nat} {o : Obj} (h : w.heap[b]? = some o) : b < w.heap.size := by
  rcases Nat.lt_or_ge b w.heap.size with h' | h'
  · exact h'
  · rw [Array.getElem?_eq_none h'] at h; cases h
structure Carry (C : Ctx) (g : Own) (σ : St) (tm : Array Value) (w : World) (g' : Own) (σ' : St) (tm' : Array Value) (w' : World) (s : Nat) : Prop where
  sh : Mono w (Shd C g) w' (Shd C g')
  own : ∀ c, ((listGet σ s).a.mark c).isOwn = true → Mono w (fun b => g b = some (s, some c)) w' (fun b => g' b = some (s, some c))
  box : Mono w (fun b => g b = some (s, none)) w' (fun b => g' b = some (s, none))
  ref : ∀ s' c' g0, validB σ' s' c' g0 = true → g0 ≤ (listGet σ s').gen → validB σ s' c' g0 = true ∧
    Mono w (fun b => g b = some (s', some c')) w' (fun b => g' b = some (s', some c')) ∧ placeV σ' tm' w' s' c' = placeV σ tm w s' c'
  bor : ∀ s' g0 cs, borOk1 σ' s' g0 cs = true → g0 ≤ (listGet σ s').gen → borOk1 σ s' g0 cs = true ∧
    Mono w (fun b => g b = some (s', none)) w' (fun b => g' b = some (s', none)) ∧
    ∀ c, c ∈ cs → Mono w (fun b => g b = some (s', some c)) w' (fun b => g' b = some (s', some c))
  id : ∀ s' id, (listGet σ' s').id = id → id ≤ (listGet σ s').id → (listGet σ s').id = id ∧ tm'.getD s' undef = tm.getD s' undef
theorem Carry.borOks {C : Ctx} {g : Own} {σ : St} {tm : Array Value} {w : World} {g' : Own} {σ' : St} {tm' : Array Value} {w' : World} {s : Nat}
    (h : Carry C g σ tm w g' σ' tm' w' s) : (q : List (Nat × Nat × List Nat)) → (∀ s g cs, (s, g, cs) ∈ q → g ≤ (listGet σ s).gen) → borOk σ' q = true → borOk σ q = true ∧ Mono w (borBlocks g q) w' (borBlocks g' q)
  | [], _, _ => ⟨rfl, h.sh.1, fun b _ hb => by obtain ⟨_, _, _, hm, _⟩ := hb; cases hm⟩
  | (s', g0, cs) :: l, hq, ho => by
    simp only [GD.borOk, Bool.and_eq_true] at ho
    obtain ⟨h1, h2⟩ := Carry.borOks h l (fun s g cs hm => hq s g cs (List.mem_cons_of_mem _ hm)) ho.2
    obtain ⟨h3, h4, h5⟩ := h.bor s' g0 cs ho.1 (hq s' g0 cs (List.mem_cons_self ..))
    refine ⟨by simp [GD.borOk, h3, h1], h.sh.1, fun b hb hk => ?_⟩
    obtain ⟨t, gn, ds, hm, hor⟩ := hk
    rcases List.mem_cons.1 hm with he | hm
    · injection he with e1 e2; injection e2 with e2 e3
      subst e1; subst e2; subst e3
      rcases hor with hor | ⟨c, hc, hor⟩
      · have := h4.2 b hb hor
        exact ⟨this.1, _, _, _, List.mem_cons_self .., .inl this.2⟩
      · have := (h5 c hc).2 b hb hor
        exact ⟨this.1, _, _, _, List.mem_cons_self .., .inr ⟨c, hc, this.2⟩⟩
    · have := h2.2 b hb ⟨t, gn, ds, hm, hor⟩
      obtain ⟨e, t', gn', ds', hm', hor'⟩ := this
      exact ⟨e, t', gn', ds', List.mem_cons_of_mem _ hm', hor'⟩
theorem Carry.cle {C : Ctx} {g : Own} {σ : St} {tm : Array Value} {w : World} {g' : Own} {σ' : St} {tm' : Array Value} {w' : World} {s : Nat}
    (h : Carry C g σ tm w g' σ' tm' w' s) (c : Nat) (m : Mk) (hb : bndM σ m) (ho : m = .own → ((listGet σ s).a.mark c).isOwn = true) :
    CLe w w' (Shd C g') (cl g σ tm w s c m) (cl g' σ' tm' w' s c m) := by
  cases m with
  | shr => exact .share _
  | nn => exact .share _
  | nil => exact .nil
  | dead => exact .skip _
  | own => exact .hold _ _ _ _ (h.own c (ho rfl)) (fun _ h => h)
  | ref s' c' g0 =>
    simp only [clm]
    cases hv : validB σ' s' c' g0 with
    | false => exact .skip _
    | true =>
      obtain ⟨h1, h2, h3⟩ := h.ref s' c' g0 hv hb
      rw [h1]
      exact .hold _ _ _ _ h2 (fun v hv => h3.trans hv)
  | sub s' c' g0 =>
    simp only [clm]
    cases hv : validB σ' s' c' g0 with
    | false => exact .skip _
    | true =>
      obtain ⟨h1, h2, h3⟩ := h.ref s' c' g0 hv hb
      rw [h1]
      exact .hold _ _ _ _ h2 (fun v hv => hv)
  | bor q =>
    simp only [clm]
    cases hv : borOk σ' q with
    | false => exact .skip _
    | true =>
      obtain ⟨h1, h2⟩ := h.borOks q hb hv
      rw [h1]
      exact .hold _ _ _ _ h2 (fun v hv => hv)
theorem mem_of_markAt : (ms : List Mk) → (i : Nat) → i < ms.length → markAt ms i ∈ ms
  | [], _, h => by simp at h
  | _ :: _, 0, _ => List.mem_cons_self ..
  | _ :: l, i + 1, h => List.mem_cons_of_mem _ (mem_of_markAt l i (by simpa using h))
theorem Carry.valRep {C : Ctx} {g : Own} {σ : St} {tm : Array Value} {w : World} {g' : Own} {σ' : St} {tm' : Array Value} {w' : World} {s : Nat}
    (h : Carry C g σ tm w g' σ' tm' w' s) {c : Nat} {cs : List Value} {tv : TV} (hb : ∀ m, m ∈ tv.ms → bndM σ m)
    (ho : ∀ i, markAt tv.ms i = .own → ((listGet σ s).a.mark (c + i)).isOwn = true)
    (hr : RepX C.P w (Shd C g) (cl g σ tm w s) tv.t c cs tv.x tv.ms) : RepX C.P w' (Shd C g') (cl g' σ' tm' w' s) tv.t c cs tv.x tv.ms := by
  have hl := RepX.length _ hr
  exact RepX.trans h.sh tv.t hr rfl fun i hi => h.cle (c + i) _ (hb _ (mem_of_markAt _ _ (by omega))) (fun e => ho i e)
theorem Carry.tupRep {C : Ctx} {g : Own} {σ : St} {tm : Array Value} {w : World} {g' : Own} {σ' : St} {tm' : Array Value} {w' : World} {s : Nat}
    (h : Carry C g σ tm w g' σ' tm' w' s) : (vs : List TV) → (c : Nat) → (vals : List Value) → (∀ v, v ∈ vs → ∀ m, m ∈ v.ms → bndM σ m) →
    (∀ i, (markTup vs i).isOwn = true → ((listGet σ s).a.mark (c + i)).isOwn = true) → TupRep C g σ tm w s c vals vs → TupRep C g' σ' tm' w' s c vals vs
  | [], _, [], _, _, _ => trivial
  | [], _, _ :: _, _, _, hr => hr
  | _ :: _, _, [], _, _, hr => hr
  | tv :: l, c, v :: vals, hb, ho, hr => by
    obtain ⟨⟨cs, e, h1⟩, h2⟩ := hr
    have hl := RepX.length _ h1
    refine ⟨⟨cs, e, h.valRep (hb tv (List.mem_cons_self ..)) (fun i hi => ?_) h1⟩, Carry.tupRep h l _ vals (fun v hv => hb v (List.mem_cons_of_mem _ hv)) (fun i hi => ?_) h2⟩
    · refine ho i ?_
      have hlt : i < tv.ms.length := by
        rcases Nat.lt_or_ge i tv.ms.length with h | h
        · exact h
        · have : markAt tv.ms i = .dead := by
            clear h1 h2 ho hb hl
            generalize tv.ms = ms at *
            induction ms generalizing i with
            | nil => rfl
            | cons a l ih =>
              cases i with
              | zero => simp at h
              | succ i => exact ih i hi (by simpa using h)
          rw [this] at hi; cases hi
      simp [markTup, hlt, Nat.blt_eq, hi, Mk.isOwn]
    · have := ho (tv.ms.length + i) (by
        have : ¬ tv.ms.length + i < tv.ms.length := by omega
        simp only [markTup, Nat.blt_eq, this, ↓reduceIte]
        rw [show tv.ms.length + i - tv.ms.length = i by omega]; exact hi)
      rwa [← Nat.add_assoc] at this
theorem Carry.slotRep' {C : Ctx} {g : Own} {σ : St} {tm : Array Value} {w : World} {g' : Own} {σ' : St} {tm' : Array Value} {w' : World} {s : Nat}
    (h : Carry C g σ tm w g' σ' tm' w' s) {v : Value} {a : A} (hown : ∀ i, (a.mark i).isOwn = true → ((listGet σ s).a.mark i).isOwn = true)
    (hb : bndA σ a) (hr : SlotRep C g σ tm w s v a) : SlotRep C g' σ' tm' w' s v a := by
  cases a with
  | top => trivial
  | val tv =>
    obtain ⟨cs, e, hr⟩ := hr
    exact ⟨cs, e, h.valRep hb (fun i hi => by rw [Nat.zero_add]; exact hown i (by simp [A.mark, hi, Mk.isOwn])) hr⟩
  | tup vs =>
    obtain ⟨vals, e, hr⟩ := hr
    exact ⟨vals, e, h.tupRep vs 0 vals hb (fun i hi => by rw [Nat.zero_add]; exact hown i (by simpa [A.mark] using hi)) hr⟩
  | box tv =>
    obtain ⟨b, e, cs, hv, hg, hh, hr⟩ := hr
    have := h.box.2 b (heap_lt hh) hg
    exact ⟨b, e, cs, hv, this.2, this.1.trans hh, h.valRep hb (fun i hi => by rw [Nat.zero_add]; exact hown i (by simp [A.mark, hi, Mk.isOwn])) hr⟩
  | bptr s' off id =>
    intro hid b ht
    have := h.id s' id hid hb
    exact hr this.1 b (this.2 ▸ ht)
  | eptr s' c' g0 i t x off =>
    intro hv
    obtain ⟨h1, h2, h3⟩ := h.ref s' c' g0 hv hb
    obtain ⟨ad, len, cap, hp, hsp, hi, hvv, hm⟩ := hr h1
    exact ⟨ad, len, cap, h3.trans hp, hsp, hi, hvv, hm.mono h2 fun _ _ => RepC.mono t h.sh⟩
  | mp t ks =>
    obtain ⟨b, clock, es, hv, hg, hh, hr⟩ := hr
    have := h.box.2 b (heap_lt hh) hg
    exact ⟨b, clock, es, hv, this.2, this.1.trans hh, hr⟩
  | mref s' id =>
    intro hid
    have := h.id s' id hid hb
    rw [this.2]; exact hr this.1
  | cptr t x bor =>
    cases bor with
    | none =>
      obtain ⟨ad, e, sp, hm⟩ := hr
      exact ⟨ad, e, sp, hm.mono h.sh fun _ _ => RepC.mono t h.sh⟩
    | some m =>
      obtain ⟨s', c', g0⟩ := m
      intro hv
      obtain ⟨h1, h2, h3⟩ := h.ref s' c' g0 hv hb
      obtain ⟨ad, e, sp, hm⟩ := hr h1
      exact ⟨ad, e, sp, hm.mono h2 fun _ _ => RepC.mono t h.sh⟩
theorem Carry.slotRep {C : Ctx} {g : Own} {σ : St} {tm : Array Value} {w : World} {g' : Own} {σ' : St} {tm' : Array Value} {w' : World} {s : Nat}
    (h : Carry C g σ tm w g' σ' tm' w' s) {v : Value} (hb : bndA σ (listGet σ s).a) (hr : SlotRep C g σ tm w s v (listGet σ s).a) :
    SlotRep C g' σ' tm' w' s v (listGet σ s).a := h.slotRep' (fun _ h => h) hb hr
end Go.GD
end

section
namespace Go.GD
open Go
theorem bndM_mono {σ σ' : St} (h : ∀ s, (listGet σ s).gen ≤ (listGet σ' s).gen) {m : Mk} (hb : bndM σ m) : bndM σ' m := by
  cases m with
  | ref s c g => exact Nat.le_trans hb (h s)
  | sub s c g => exact Nat.le_trans hb (h s)
  | bor q => exact fun s g cs hm => Nat.le_trans (hb s g cs hm) (h s)
  | _ => trivial
theorem bndA_mono {σ σ' : St} (h : ∀ s, (listGet σ s).gen ≤ (listGet σ' s).gen ∧ (listGet σ s).id ≤ (listGet σ' s).id) {a : A} (hb : bndA σ a) : bndA σ' a := by
  cases a with
  | val v => exact fun m hm => bndM_mono (fun s => (h s).1) (hb m hm)
  | box v => exact fun m hm => bndM_mono (fun s => (h s).1) (hb m hm)
  | tup vs => exact fun v hv m hm => bndM_mono (fun s => (h s).1) (hb v hv m hm)
  | bptr s off id => exact Nat.le_trans hb (h s).2
  | eptr s c g i t x off => exact Nat.le_trans hb (h s).1
  | cptr t x bor =>
    cases bor with
    | none => trivial
    | some m => obtain ⟨s, c, g⟩ := m; exact Nat.le_trans hb (h s).1
  | top => trivial
  | mp t ks => trivial
  | mref s id => exact Nat.le_trans hb (h s).2
theorem validB_lt {σ : St} {s c g : Nat} (h : validB σ s c g = true) : s < σ.length := by
  rcases Nat.lt_or_ge s σ.length with h' | h'
  · exact h'
  · rw [validB, listGet_out _ _ h'] at h
    simp [A.mark, Mk.isOwn] at h
theorem borOk1_lt {σ : St} {s g : Nat} {cs : List Nat} (h : borOk1 σ s g cs = true) : s < σ.length := by
  rcases Nat.lt_or_ge s σ.length with h' | h'
  · exact h'
  · rw [borOk1, listGet_out _ _ h'] at h
    simp [A.isBox] at h
theorem owns_mem {a : A} : (cs : List Nat) → a.owns cs = true → ∀ c, c ∈ cs → (a.mark c).isOwn = true
  | [], _, _, h => by cases h
  | c :: l, ho, c', h => by
    simp only [A.owns, Bool.and_eq_true] at ho
    rcases List.mem_cons.1 h with rfl | h
    · exact ho.1
    · exact owns_mem l ho.2 c' h
theorem tm_get_out {tm : Array Value} {s : Nat} (h : tm.size ≤ s) : tm.getD s undef = undef := by
  simp [Array.getD, Nat.not_lt.2 h]
structure Step (C : Ctx) (g : Own) (σ : St) (tm : Array Value) (w : World) (g' : Own) (tm' : Array Value) (w' : World) (d : Nat) (a' : A) (i' n' : Nat) : Prop where
  hs : w.heap.size ≤ w'.heap.size
  hH : ∀ b, b < w.heap.size → (∀ x, g b ≠ some (d, x)) → w'.heap[b]? = w.heap[b]?
  hn : ∀ b, b < w.heap.size → g b = none → g' b = none
  ho : ∀ b, b < w.heap.size → ∀ s c, s ≠ d → ((listGet σ s).a.mark c).isOwn = true → g b = some (s, some c) → g' b = some (s, some c)
  hbx : ∀ b, b < w.heap.size → ∀ s, s ≠ d → g b = some (s, none) → g' b = some (s, none)
  hok : ∀ b, g' b ≠ none → b < w'.heap.size ∧ (C.base ≤ b ∨ C.G b)
  htm : tm'.size = tm.size
  htm' : ∀ s, s ≠ d → tm'.getD s undef = tm.getD s undef
  hgen : (listGet σ d).gen < n'
  hid : (i' = (listGet σ d).id ∧ tm'.getD d undef = tm.getD d undef) ∨ (listGet σ d).id < i'
  io : SameIO w w'
  hpin : ∀ v, C.pin d = some v → a'.isBox = true → tm'.getD d undef = v
theorem Step.carry {C : Ctx} {g g' : Own} {σ : St} {tm tm' : Array Value} {w w' : World} {d : Nat} {a' : A} {i' n' : Nat} (h : SRep C g σ tm w)
    (st : Step C g σ tm w g' tm' w' d a' i' n') (s : Nat) (hsd : s ≠ d) : Carry C g σ tm w g' (listSet σ d ⟨a', i', n'⟩) tm' w' s := by
  obtain ⟨hs, hH, hn, ho, hbx, hok, htm, htm', hgen, hid, _⟩ := st
  have get_d : d < σ.length → listGet (listSet σ d ⟨a', i', n'⟩) d = ⟨a', i', n'⟩ := listGet_set_same _ _ _
  have get_o : ∀ s, s ≠ d → listGet (listSet σ d ⟨a', i', n'⟩) s = listGet σ s := fun s hs => listGet_set_other _ _ _ _ hs
  have hnotd : ∀ b s x, s ≠ d → g b = some (s, x) → ∀ y, g b ≠ some (d, y) := by
    intro b s x hsd hb y hy
    rw [hb] at hy
    injection hy with hy
    injection hy with hy _
    exact hsd hy
  have ref : ∀ s' c' g0, validB (listSet σ d ⟨a', i', n'⟩) s' c' g0 = true → g0 ≤ (listGet σ s').gen → s' ≠ d ∧ validB σ s' c' g0 = true := by
    intro s' c' g0 hv hg
    have hl := validB_lt hv
    rw [listSet_length] at hl
    by_cases hd : s' = d
    · subst hd
      rw [validB, get_d hl] at hv
      simp only [Bool.and_eq_true] at hv
      have : n' = g0 := Nat.eq_of_beq_eq_true hv.1
      omega
    · refine ⟨hd, ?_⟩
      rw [validB, get_o s' hd] at hv
      exact hv
  refine ⟨⟨hs, fun b hb hk => ?_⟩, fun c hc => ⟨hs, fun b hb hk => ?_⟩, ⟨hs, fun b hb hk => ?_⟩, fun s' c' g0 hv hg => ?_, fun s' g0 cs hv hg => ?_, fun s' id hi hle => ?_⟩
  · exact ⟨hH b hb (fun x hx => by rw [hk.2] at hx; cases hx), hk.1, hn b hb hk.2⟩
  · exact ⟨hH b hb (hnotd b s _ hsd hk), ho b hb s c hsd hc hk⟩
  · exact ⟨hH b hb (hnotd b s _ hsd hk), hbx b hb s hsd hk⟩
  · obtain ⟨hd, hv'⟩ := ref s' c' g0 hv hg
    have hl := validB_lt hv'
    have hown : ((listGet σ s').a.mark c').isOwn = true := by simp only [validB, Bool.and_eq_true] at hv'; exact hv'.2
    refine ⟨hv', ⟨hs, fun b hb hk => ⟨hH b hb (hnotd b s' _ hd hk), ho b hb s' c' hd hown hk⟩⟩, ?_⟩
    have hsl := h.slots s' hl
    unfold placeV
    rw [get_o s' hd, htm' s' hd]
    cases ha : (listGet σ s').a with
    | box tv =>
      rw [ha] at hsl
      obtain ⟨b, e, cs, hv2, hg2, hh, _⟩ := hsl
      rw [hv2]
      exact cell_congr (hH b (heap_lt hh) (hnotd b s' _ hd hg2))
    | _ => rfl
  · have hl := borOk1_lt hv
    rw [listSet_length] at hl
    by_cases hd : s' = d
    · subst hd
      rw [borOk1, get_d hl] at hv
      simp only [Bool.and_eq_true] at hv
      have : n' = g0 := Nat.eq_of_beq_eq_true hv.1
      omega
    · have hv' : borOk1 σ s' g0 cs = true := by rw [borOk1, get_o s' hd] at hv; exact hv
      have hown : ∀ c, c ∈ cs → ((listGet σ s').a.mark c).isOwn = true := by
        simp only [borOk1, Bool.and_eq_true] at hv'; exact owns_mem cs hv'.2.2
      exact ⟨hv', ⟨hs, fun b hb hk => ⟨hH b hb (hnotd b s' _ hd hk), hbx b hb s' hd hk⟩⟩,
        fun c hc => ⟨hs, fun b hb hk => ⟨hH b hb (hnotd b s' _ hd hk), ho b hb s' c hd (hown c hc) hk⟩⟩⟩
  · by_cases hd : s' = d
    · subst hd
      rcases Nat.lt_or_ge s' σ.length with hl | hl
      · rw [get_d hl] at hi
        simp only at hi
        rcases hid with hid | hid
        · exact ⟨hid.1.symm.trans hi, hid.2⟩
        · omega
      · rw [listSet_out _ _ _ hl] at hi
        exact ⟨hi, by rw [tm_get_out (by rw [htm, h.len]; exact hl), tm_get_out (by rw [h.len]; exact hl)]⟩
    · rw [get_o s' hd] at hi
      exact ⟨hi, htm' s' hd⟩
theorem Step.gens {C : Ctx} {g g' : Own} {σ : St} {tm tm' : Array Value} {w w' : World} {d : Nat} {a' : A} {i' n' : Nat}
    (st : Step C g σ tm w g' tm' w' d a' i' n') (s : Nat) :
    (listGet σ s).gen ≤ (listGet (listSet σ d ⟨a', i', n'⟩) s).gen ∧ (listGet σ s).id ≤ (listGet (listSet σ d ⟨a', i', n'⟩) s).id := by
  by_cases hsd : s = d
  · subst hsd
    rcases Nat.lt_or_ge s σ.length with hl | hl
    · rw [listGet_set_same _ _ _ hl]
      refine ⟨Nat.le_of_lt st.hgen, ?_⟩
      rcases st.hid with hid | hid
      · exact Nat.le_of_eq hid.1.symm
      · exact Nat.le_of_lt hid
    · rw [listSet_out _ _ _ hl]; exact ⟨Nat.le_refl _, Nat.le_refl _⟩
  · rw [listGet_set_other _ _ _ _ hsd]; exact ⟨Nat.le_refl _, Nat.le_refl _⟩
theorem SRep.replace {C : Ctx} {g g' : Own} {σ : St} {tm tm' : Array Value} {w w' : World} {d : Nat} {a' : A} {i' n' : Nat} (h : SRep C g σ tm w)
    (st : Step C g σ tm w g' tm' w' d a' i' n')
    (new : d < σ.length → SlotRep C g' (listSet σ d ⟨a', i', n'⟩) tm' w' d (tm'.getD d undef) a' ∧ bndA (listSet σ d ⟨a', i', n'⟩) a') :
    SRep C g' (listSet σ d ⟨a', i', n'⟩) tm' w' := by
  refine ⟨by rw [st.htm, h.len, listSet_length], fun s hl => ?_, fun s hl => ?_, st.hok, fun b hb hG => ?_, Nat.le_trans h.size st.hs, h.io.trans st.io, fun s v hv hbx => ?_⟩
  · rw [listSet_length] at hl
    by_cases hsd : s = d
    · subst hsd
      rw [listGet_set_same _ _ _ hl]
      exact (new hl).1
    · rw [listGet_set_other _ _ _ _ hsd, st.htm' s hsd]
      exact (st.carry h s hsd).slotRep (h.bnd s hl) (h.slots s hl)
  · rw [listSet_length] at hl
    by_cases hsd : s = d
    · subst hsd
      rw [listGet_set_same _ _ _ hl]
      exact (new hl).2
    · rw [listGet_set_other _ _ _ _ hsd]
      exact bndA_mono st.gens (h.bnd s hl)
  · rw [← h.frame b hb hG]
    refine st.hH b (Nat.lt_of_lt_of_le hb h.size) fun x hx => ?_
    have := (h.gok b (by rw [hx]; simp)).2
    rcases this with this | this
    · omega
    · exact hG this
  · by_cases hsd : s = d
    · subst hsd
      rcases Nat.lt_or_ge s σ.length with hl | hl
      · rw [listGet_set_same _ _ _ hl] at hbx; exact st.hpin v hv hbx
      · rw [listSet_out _ _ _ hl, listGet_out _ _ hl] at hbx; cases hbx
    · rw [listGet_set_other _ _ _ _ hsd] at hbx
      rw [st.htm' s hsd]
      exact h.pin s v hv hbx
theorem markAt_setMarkL : (ms : List Mk) → (c i : Nat) → (m : Mk) → c < ms.length → markAt (setMarkL ms c m) i = if i = c then m else markAt ms i
  | [], _, _, _, h => by simp at h
  | _ :: _, 0, 0, _, _ => by simp [setMarkL, markAt]
  | _ :: _, 0, i + 1, _, _ => by simp [setMarkL, markAt]
  | _ :: _, c + 1, 0, _, _ => by simp [setMarkL, markAt]
  | _ :: l, c + 1, i + 1, m, h => by
    have := markAt_setMarkL l c i m (by simpa using h)
    simp only [setMarkL, markAt, this]
    by_cases hi : i = c <;> simp [hi]
theorem setMarkL_length : (ms : List Mk) → (c : Nat) → (m : Mk) → (setMarkL ms c m).length = ms.length
  | [], _, _ => rfl
  | _ :: _, 0, _ => rfl
  | _ :: l, c + 1, m => by simp [setMarkL, setMarkL_length l c m]
theorem setMarkL_out : (ms : List Mk) → (c : Nat) → (m : Mk) → ms.length ≤ c → setMarkL ms c m = ms
  | [], _, _, _ => rfl
  | _ :: _, 0, _, h => by simp at h
  | _ :: l, c + 1, m, h => by rw [setMarkL, setMarkL_out l c m (by simpa using h)]
theorem isOwn_setMarkL {ms : List Mk} {c i : Nat} {m : Mk} (hm : m.isOwn = false) (h : (markAt (setMarkL ms c m) i).isOwn = true) :
    (markAt ms i).isOwn = true ∧ (i = c → False) := by
  rcases Nat.lt_or_ge c ms.length with hc | hc
  · rw [markAt_setMarkL _ _ _ _ hc] at h
    split at h
    · rw [hm] at h; cases h
    · rename_i hne; exact ⟨h, hne⟩
  · rw [setMarkL_out _ _ _ hc] at h
    refine ⟨h, fun e => ?_⟩
    subst e
    have : markAt ms i = .dead := by
      clear h
      induction ms generalizing i with
      | nil => rfl
      | cons a l ih =>
        cases i with
        | zero => simp at hc
        | succ i => exact ih (by simpa using hc)
    rw [this] at h; cases h
theorem isOwn_setMarkTup : (vs : List TV) → (c i : Nat) → (m : Mk) → m.isOwn = false → (markTup (setMarkTup vs c m) i).isOwn = true → (markTup vs i).isOwn = true ∧ i ≠ c
  | [], _, _, _, _, h => by cases h
  | v :: l, c, i, m, hm, h => by
    by_cases hc : c < v.ms.length
    · simp only [setMarkTup, Nat.blt_eq, hc, ↓reduceIte, markTup, setMarkL_length] at h
      by_cases hi : i < v.ms.length
      · simp only [hi, ↓reduceIte] at h
        have := isOwn_setMarkL hm h
        simp only [markTup, Nat.blt_eq, hi, ↓reduceIte]
        exact ⟨this.1, this.2⟩
      · simp only [hi, ↓reduceIte] at h
        simp only [markTup, Nat.blt_eq, hi, ↓reduceIte]
        exact ⟨h, by omega⟩
    · simp only [setMarkTup, Nat.blt_eq, hc, ↓reduceIte, markTup] at h
      by_cases hi : i < v.ms.length
      · simp only [hi, ↓reduceIte] at h
        simp only [markTup, Nat.blt_eq, hi, ↓reduceIte]
        exact ⟨h, by omega⟩
      · simp only [hi, ↓reduceIte] at h
        have := isOwn_setMarkTup l (c - v.ms.length) (i - v.ms.length) m hm h
        simp only [markTup, Nat.blt_eq, hi, ↓reduceIte]
        exact ⟨this.1, by omega⟩
theorem isOwn_setMark {a : A} {c i : Nat} {m : Mk} (hm : m.isOwn = false) (h : ((a.setMark c m).mark i).isOwn = true) : (a.mark i).isOwn = true ∧ i ≠ c := by
  cases a with
  | val v => exact isOwn_setMarkL hm h
  | box v => exact isOwn_setMarkL hm h
  | tup vs => exact isOwn_setMarkTup vs c i m hm h
  | _ => cases h
theorem isBox_setMark (a : A) (c : Nat) (m : Mk) : (a.setMark c m).isBox = a.isBox := by cases a <;> rfl
theorem owns_setMark {a : A} {c : Nat} {m : Mk} (hm : m.isOwn = false) : (cs : List Nat) → (a.setMark c m).owns cs = true → a.owns cs = true ∧ ∀ i, i ∈ cs → i ≠ c
  | [], _ => ⟨rfl, fun _ h => by cases h⟩
  | i :: l, h => by
    simp only [A.owns, Bool.and_eq_true] at h ⊢
    have h1 := isOwn_setMark hm h.1
    have h2 := owns_setMark hm l h.2
    refine ⟨⟨h1.1, h2.1⟩, fun j hj => ?_⟩
    rcases List.mem_cons.1 hj with rfl | hj
    · exact h1.2
    · exact h2.2 j hj
def struck (g : Own) (s c : Nat) (p : Option (Nat × Option Nat)) : Own := fun b => if g b = some (s, some c) then p else g b
theorem struck_other {g : Own} {s c : Nat} {p : Option (Nat × Option Nat)} {b : Nat} (h : g b ≠ some (s, some c)) : struck g s c p b = g b := by
  unfold struck; rw [if_neg h]
theorem struck_same {g : Own} {s c : Nat} {p : Option (Nat × Option Nat)} {b : Nat} (h : g b = some (s, some c)) : struck g s c p b = p := by
  unfold struck; rw [if_pos h]
theorem struck_none {g : Own} {s c : Nat} {p : Option (Nat × Option Nat)} {b : Nat} (h : g b = none) : struck g s c p b = none := by
  rw [struck_other (by rw [h]; simp)]; exact h
theorem struck_le {g : Own} {s c : Nat} {p : Option (Nat × Option Nat)} {b : Nat} (h : struck g s c p b ≠ none) : g b ≠ none := fun hb => h (struck_none hb)
structure Struck (C : Ctx) (g : Own) (σ : St) (tm : Array Value) (w : World) (s c : Nat) (m : Mk) (p : Option (Nat × Option Nat)) (σ' : St) : Prop where
  gens : ∀ t, (listGet σ' t).gen = (listGet σ t).gen ∧ (listGet σ' t).id = (listGet σ t).id
  place : ∀ t x, (t, x) ≠ (s, some c) → Mono w (fun b => g b = some (t, x)) w (fun b => struck g s c p b = some (t, x))
  sh : Mono w (Shd C g) w (Shd C (struck g s c p))
  pv : ∀ t i, placeV σ' tm w t i = placeV σ tm w t i
  ref : ∀ s' c' g0, validB σ' s' c' g0 = true → validB σ s' c' g0 = true ∧ (s', some c') ≠ (s, some c)
  bor : ∀ s' g0 cs, borOk1 σ' s' g0 cs = true → borOk1 σ s' g0 cs = true ∧ ∀ i, i ∈ cs → (s', some i) ≠ (s, some c)
  carry : ∀ t, t ≠ s → Carry C g σ tm w (struck g s c p) σ' tm w t
theorem struck_facts {C : Ctx} {g : Own} {σ : St} {tm : Array Value} {w : World} {s c : Nat} {m : Mk} {p : Option (Nat × Option Nat)} (hmo : m.isOwn = false)
    (hs : ((listGet σ s).a.mark c).isOwn = true) : Struck C g σ tm w s c m p (listSet σ s { listGet σ s with a := (listGet σ s).a.setMark c m }) := by
  have hl : s < σ.length := by
    rcases Nat.lt_or_ge s σ.length with h' | h'
    · exact h'
    · rw [listGet_out _ _ h'] at hs; cases hs
  have get_s : listGet (listSet σ s { listGet σ s with a := (listGet σ s).a.setMark c m }) s = { listGet σ s with a := (listGet σ s).a.setMark c m } := listGet_set_same _ _ _ hl
  have get_o : ∀ t, t ≠ s → listGet (listSet σ s { listGet σ s with a := (listGet σ s).a.setMark c m }) t = listGet σ t := fun t ht => listGet_set_other _ _ _ _ ht
  generalize hσ' : listSet σ s { listGet σ s with a := (listGet σ s).a.setMark c m } = σ' at *
  have gens : ∀ t, (listGet σ' t).gen = (listGet σ t).gen ∧ (listGet σ' t).id = (listGet σ t).id := by
    intro t
    by_cases ht : t = s
    · subst ht; rw [get_s]; exact ⟨rfl, rfl⟩
    · rw [get_o t ht]; exact ⟨rfl, rfl⟩
  have marks : ∀ t i, ((listGet σ' t).a.mark i).isOwn = true → ((listGet σ t).a.mark i).isOwn = true ∧ (t, some i) ≠ (s, some c) := by
    intro t i hi
    by_cases ht : t = s
    · subst ht; rw [get_s] at hi
      have := isOwn_setMark hmo hi
      exact ⟨this.1, fun e => this.2 (by injection e with _ e; injection e)⟩
    · rw [get_o t ht] at hi
      exact ⟨hi, fun e => ht (by injection e)⟩
  have mono_place : ∀ t x, (t, x) ≠ (s, some c) → Mono w (fun b => g b = some (t, x)) w (fun b => struck g s c p b = some (t, x)) := by
    intro t x hx
    refine ⟨Nat.le_refl _, fun b _ hb => ⟨rfl, ?_⟩⟩
    show struck g s c p b = _
    rw [struck_other (by rw [show g b = _ from hb]; intro e; injection e with e; exact hx e)]; exact hb
  have mono_sh : Mono w (Shd C g) w (Shd C (struck g s c p)) := ⟨Nat.le_refl _, fun b _ hb => ⟨rfl, hb.1, struck_none hb.2⟩⟩
  have pv : ∀ t i, placeV σ' tm w t i = placeV σ tm w t i := by
    intro t i
    unfold placeV
    by_cases ht : t = s
    · subst ht; rw [get_s]
      cases (listGet σ t).a <;> rfl
    · rw [get_o t ht]
  have href : ∀ s' c' g0, validB σ' s' c' g0 = true → validB σ s' c' g0 = true ∧ (s', some c') ≠ (s, some c) := by
    intro s' c' g0 hv
    simp only [validB, Bool.and_eq_true] at hv ⊢
    have := marks s' c' hv.2
    rw [(gens s').1] at hv
    exact ⟨⟨hv.1, this.1⟩, this.2⟩
  have hbor : ∀ s' g0 cs, borOk1 σ' s' g0 cs = true → borOk1 σ s' g0 cs = true ∧ ∀ i, i ∈ cs → (s', some i) ≠ (s, some c) := by
    intro s' g0 cs hv
    simp only [borOk1, Bool.and_eq_true] at hv ⊢
    rw [(gens s').1] at hv
    by_cases ht : s' = s
    · subst ht
      rw [get_s] at hv
      simp only [isBox_setMark] at hv
      have := owns_setMark hmo cs hv.2.2
      exact ⟨⟨hv.1, hv.2.1, this.1⟩, fun i hi e => this.2 i hi (by injection e with _ e; injection e)⟩
    · rw [get_o s' ht] at hv
      exact ⟨hv, fun i hi e => ht (by injection e)⟩
  refine ⟨gens, mono_place, mono_sh, pv, href, hbor, fun t ht => ?_⟩
  refine ⟨mono_sh, fun i hi => mono_place t _ (fun e => ht (by injection e)), mono_place t _ (fun e => by injection e with _ e; cases e), fun s' c' g0 hv _ => ?_, fun s' g0 cs hv _ => ?_, fun s' id hi _ => ?_⟩
  · have := href s' c' g0 hv
    exact ⟨this.1, mono_place _ _ this.2, pv _ _⟩
  · have := hbor s' g0 cs hv
    exact ⟨this.1, mono_place _ _ (fun e => by injection e with _ e; cases e), fun i hi => mono_place _ _ (this.2 i hi)⟩
  · rw [(gens s').2] at hi; exact ⟨hi, rfl⟩
theorem SRep.strike {C : Ctx} {g : Own} {σ : St} {tm : Array Value} {w : World} (h : SRep C g σ tm w) {s c : Nat} {m : Mk} {p : Option (Nat × Option Nat)}
    (hm : m = .dead ∨ (m = .shr ∧ p = none)) (hs : ((listGet σ s).a.mark c).isOwn = true) :
    SRep C (struck g s c p) (listSet σ s { listGet σ s with a := (listGet σ s).a.setMark c m }) tm w := by
  have hmo : m.isOwn = false := by rcases hm with rfl | ⟨rfl, _⟩ <;> rfl
  have hl : s < σ.length := by
    rcases Nat.lt_or_ge s σ.length with h' | h'
    · exact h'
    · rw [listGet_out _ _ h'] at hs; cases hs
  have get_s : listGet (listSet σ s { listGet σ s with a := (listGet σ s).a.setMark c m }) s = { listGet σ s with a := (listGet σ s).a.setMark c m } := listGet_set_same _ _ _ hl
  have get_o : ∀ t, t ≠ s → listGet (listSet σ s { listGet σ s with a := (listGet σ s).a.setMark c m }) t = listGet σ t := fun t ht => listGet_set_other _ _ _ _ ht
  obtain ⟨gens, mono_place, mono_sh, pv, href, hbor, carry⟩ := struck_facts (C := C) (g := g) (tm := tm) (w := w) (p := p) hmo hs
  generalize hσ' : listSet σ s { listGet σ s with a := (listGet σ s).a.setMark c m } = σ' at *
  have cle : ∀ i m', bndM σ m' → (m' = .own → i ≠ c ∧ True) → CLe w w (Shd C (struck g s c p)) (cl g σ tm w s i m') (cl (struck g s c p) σ' tm w s i m') := by
    intro i m' hb ho
    cases m' with
    | shr => exact .share _
    | nn => exact .share _
    | nil => exact .nil
    | dead => exact .skip _
    | own => exact .hold _ _ _ _ (mono_place s _ (fun e => (ho rfl).1 (by injection e with _ e; injection e))) (fun _ h => h)
    | ref s' c' g0 =>
      simp only [clm]
      cases hv : validB σ' s' c' g0 with
      | false => exact .skip _
      | true =>
        obtain ⟨h1, h2⟩ := href s' c' g0 hv
        rw [h1]
        exact .hold _ _ _ _ (mono_place _ _ h2) (fun v hv => (pv _ _).trans hv)
    | sub s' c' g0 =>
      simp only [clm]
      cases hv : validB σ' s' c' g0 with
      | false => exact .skip _
      | true =>
        obtain ⟨h1, h2⟩ := href s' c' g0 hv
        rw [h1]
        exact .hold _ _ _ _ (mono_place _ _ h2) (fun v hv => hv)
    | bor q =>
      simp only [clm]
      cases hv : borOk σ' q with
      | false => exact .skip _
      | true =>
        have : borOk σ q = true ∧ Mono w (borBlocks g q) w (borBlocks (struck g s c p) q) := by
          clear hb ho
          induction q with
          | nil => exact ⟨rfl, Nat.le_refl _, fun b _ hb => by obtain ⟨_, _, _, hm, _⟩ := hb; cases hm⟩
          | cons p0 l ih =>
            obtain ⟨s', g0, cs⟩ := p0
            simp only [borOk, Bool.and_eq_true] at hv
            obtain ⟨h1, h2⟩ := ih hv.2
            obtain ⟨h3, h4⟩ := hbor s' g0 cs hv.1
            refine ⟨by simp [borOk, h3, h1], Nat.le_refl _, fun b hb hk => ?_⟩
            obtain ⟨t, gn, ds, hm, hor⟩ := hk
            rcases List.mem_cons.1 hm with he | hm
            · injection he with e1 e2; injection e2 with e2 e3
              subst e1; subst e2; subst e3
              rcases hor with hor | ⟨i, hc, hor⟩
              · exact ⟨rfl, _, _, _, List.mem_cons_self .., .inl ((mono_place t none (fun e => by injection e with _ e; cases e)).2 b hb hor).2⟩
              · exact ⟨rfl, _, _, _, List.mem_cons_self .., .inr ⟨i, hc, ((mono_place t _ (h4 i hc)).2 b hb hor).2⟩⟩
            · obtain ⟨e, t', gn', ds', hm', hor'⟩ := h2.2 b hb ⟨t, gn, ds, hm, hor⟩
              exact ⟨e, t', gn', ds', List.mem_cons_of_mem _ hm', hor'⟩
        rw [this.1]
        exact .hold _ _ _ _ this.2 (fun v hv => hv)
  have cle_c : CLe w w (Shd C (struck g s c p)) (cl g σ tm w s c .own) (cl (struck g s c p) σ' tm w s c m) := by
    rcases hm with rfl | ⟨rfl, rfl⟩
    · exact .skip _
    · refine .hold_share _ _ ⟨Nat.le_refl _, fun b _ hb => ⟨rfl, ?_, ?_⟩⟩
      · have := (h.gok b (by rw [show g b = _ from hb]; simp)).2
        rcases this with this | this
        · exact .inl this
        · exact .inr (.inr this)
      · exact struck_same hb
  have valS : ∀ (c0 : Nat) (cs : List Value) (tv : TV), (∀ m, m ∈ tv.ms → bndM σ m) → RepX C.P w (Shd C g) (cl g σ tm w s) tv.t c0 cs tv.x tv.ms →
      (c < c0 ∨ c0 + tv.ms.length ≤ c → RepX C.P w (Shd C (struck g s c p)) (cl (struck g s c p) σ' tm w s) tv.t c0 cs tv.x tv.ms) ∧
      (∀ i, c = c0 + i → markAt tv.ms i = .own → RepX C.P w (Shd C (struck g s c p)) (cl (struck g s c p) σ' tm w s) tv.t c0 cs tv.x (setMarkL tv.ms i m)) := by
    intro c0 cs tv hb hr
    have hlen := RepX.length _ hr
    refine ⟨fun hc => ?_, fun i hi hown => ?_⟩
    · exact RepX.trans mono_sh tv.t hr rfl fun j hj => cle _ _ (hb _ (mem_of_markAt _ _ (by omega))) (fun _ => ⟨by omega, trivial⟩)
    · refine RepX.trans mono_sh tv.t hr (setMarkL_length _ _ _) fun j hj => ?_
      have hil : i < tv.ms.length := by
        rcases Nat.lt_or_ge i tv.ms.length with h' | h'
        · exact h'
        · exfalso
          have : markAt tv.ms i = .dead := by
            clear hown hi hr hb hlen hj
            generalize tv.ms = ms at *
            induction ms generalizing i with
            | nil => rfl
            | cons a l ih =>
              cases i with
              | zero => simp at h'
              | succ i => exact ih i (by simpa using h')
          rw [this] at hown; cases hown
      rw [markAt_setMarkL _ _ _ _ hil]
      by_cases hji : j = i
      · subst hji
        rw [if_pos rfl, hown, ← hi]
        exact cle_c
      · rw [if_neg hji]
        exact cle _ _ (hb _ (mem_of_markAt _ _ (by omega))) (fun _ => ⟨by omega, trivial⟩)
  have tupS : ∀ (vs : List TV) (c0 i : Nat) (vals : List Value), c = c0 + i → (∀ v, v ∈ vs → ∀ m, m ∈ v.ms → bndM σ m) → (markTup vs i).isOwn = true →
      TupRep C g σ tm w s c0 vals vs → TupRep C (struck g s c p) σ' tm w s c0 vals (setMarkTup vs i m) := by
    intro vs
    induction vs with
    | nil => intro c0 i vals _ _ ho _; cases ho
    | cons tv l ih =>
      intro c0 i vals hc hb ho hr
      cases vals with
      | nil => exact hr.elim
      | cons v vals =>
        obtain ⟨⟨cs, e, h1⟩, h2⟩ := hr
        have hv := valS c0 cs tv (hb tv (List.mem_cons_self ..)) h1
        by_cases hi : i < tv.ms.length
        · simp only [markTup, Nat.blt_eq, hi, ↓reduceIte] at ho
          have hown : markAt tv.ms i = .own := by
            generalize markAt tv.ms i = x at ho
            cases x <;> first | rfl | cases ho
          simp only [setMarkTup, Nat.blt_eq, hi, ↓reduceIte]
          refine ⟨⟨cs, e, hv.2 i hc hown⟩, ?_⟩
          simp only [setMarkL_length]
          have rest : ∀ (l : List TV) (c1 : Nat) (vals : List Value), c < c1 → (∀ v, v ∈ l → ∀ m, m ∈ v.ms → bndM σ m) → TupRep C g σ tm w s c1 vals l → TupRep C (struck g s c p) σ' tm w s c1 vals l := by
            intro l
            induction l with
            | nil => intro c1 vals _ _ hr; cases vals with
              | nil => trivial
              | cons _ _ => exact hr.elim
            | cons tv l ih =>
              intro c1 vals hlt hb hr
              cases vals with
              | nil => exact hr.elim
              | cons v vals =>
                obtain ⟨⟨cs, e, h1⟩, h2⟩ := hr
                exact ⟨⟨cs, e, (valS c1 cs tv (hb tv (List.mem_cons_self ..)) h1).1 (.inl hlt)⟩, ih _ _ (by omega) (fun v hv => hb v (List.mem_cons_of_mem _ hv)) h2⟩
          exact rest l _ vals (by omega) (fun v hv => hb v (List.mem_cons_of_mem _ hv)) h2
        · simp only [markTup, Nat.blt_eq, hi, ↓reduceIte] at ho
          simp only [setMarkTup, Nat.blt_eq, hi, ↓reduceIte]
          exact ⟨⟨cs, e, hv.1 (.inr (by omega))⟩, ih _ _ vals (by omega) (fun v hv => hb v (List.mem_cons_of_mem _ hv)) ho h2⟩
  have hpin : ∀ t v, C.pin t = some v → (listGet σ' t).a.isBox = true → tm.getD t undef = v := fun t v hv hb => by
    by_cases ht : t = s
    · subst ht
      rw [get_s] at hb
      simp only [isBox_setMark] at hb
      exact h.pin t v hv hb
    · rw [get_o t ht] at hb
      exact h.pin t v hv hb
  refine ⟨by rw [h.len, ← hσ', listSet_length], fun t ht => ?_, fun t ht => ?_, fun b hb => h.gok b (struck_le hb), h.frame, h.size, h.io, hpin⟩
  · rw [← hσ', listSet_length] at ht
    by_cases hts : t = s
    · subst hts
      rw [get_s]
      have hsl := h.slots t ht
      have hbl := h.bnd t ht
      cases ha : (listGet σ t).a with
      | val tv =>
        rw [ha] at hsl hbl hs
        obtain ⟨cs, e, hr⟩ := hsl
        have hown : markAt tv.ms c = .own := by
          change (markAt tv.ms c).isOwn = true at hs
          generalize markAt tv.ms c = x at hs
          cases x <;> first | rfl | cases hs
        exact ⟨cs, e, (valS 0 cs tv hbl hr).2 c (by omega) hown⟩
      | tup vs =>
        rw [ha] at hsl hbl hs
        obtain ⟨vals, e, hr⟩ := hsl
        exact ⟨vals, e, tupS vs 0 c vals (by omega) hbl hs hr⟩
      | box tv =>
        rw [ha] at hsl hbl hs
        obtain ⟨b, e, cs, hv, hg, hh, hr⟩ := hsl
        have hown : markAt tv.ms c = .own := by
          change (markAt tv.ms c).isOwn = true at hs
          generalize markAt tv.ms c = x at hs
          cases x <;> first | rfl | cases hs
        refine ⟨b, e, cs, hv, ?_, hh, (valS 0 cs tv hbl hr).2 c (by omega) hown⟩
        rw [struck_other (by rw [hg]; intro e; injection e with e; injection e with _ e; cases e)]; exact hg
      | _ => rw [ha] at hs; cases hs
    · rw [get_o t hts]
      exact (carry t hts).slotRep (h.bnd t ht) (h.slots t ht)
  · rw [← hσ', listSet_length] at ht
    have hbl := h.bnd t ht
    have mg : ∀ s, (listGet σ s).gen ≤ (listGet σ' s).gen ∧ (listGet σ s).id ≤ (listGet σ' s).id := fun s => ⟨Nat.le_of_eq (gens s).1.symm, Nat.le_of_eq (gens s).2.symm⟩
    by_cases hts : t = s
    · subst hts
      rw [get_s]
      have hmm : ∀ m', m' = m → bndM σ' m' := by rintro _ rfl; rcases hm with rfl | ⟨rfl, _⟩ <;> trivial
      have lem : ∀ (ms : List Mk) (c : Nat), (∀ m', m' ∈ ms → bndM σ m') → ∀ m', m' ∈ setMarkL ms c m → bndM σ' m' := by
        intro ms
        induction ms with
        | nil => intro c _ m' hm'; cases hm'
        | cons a l ih =>
          intro c hb m' hm'
          cases c with
          | zero =>
            rcases List.mem_cons.1 hm' with e | hm'
            · exact hmm _ e
            · exact bndM_mono (fun s => (mg s).1) (hb _ (List.mem_cons_of_mem _ hm'))
          | succ c =>
            rcases List.mem_cons.1 hm' with rfl | hm'
            · exact bndM_mono (fun s => (mg s).1) (hb _ (List.mem_cons_self ..))
            · exact ih c (fun m'' h'' => hb _ (List.mem_cons_of_mem _ h'')) m' hm'
      cases ha : (listGet σ t).a with
      | val tv => rw [ha] at hbl; exact lem tv.ms c hbl
      | box tv => rw [ha] at hbl; exact lem tv.ms c hbl
      | tup vs =>
        rw [ha] at hbl
        have lt : ∀ (vs : List TV) (c : Nat), (∀ v, v ∈ vs → ∀ m', m' ∈ v.ms → bndM σ m') → ∀ v, v ∈ setMarkTup vs c m → ∀ m', m' ∈ v.ms → bndM σ' m' := by
          intro vs
          induction vs with
          | nil => intro c _ v hv; cases hv
          | cons tv l ih =>
            intro c hb v hv m' hm'
            by_cases hc : c < tv.ms.length
            · simp only [setMarkTup, Nat.blt_eq, hc, ↓reduceIte] at hv
              rcases List.mem_cons.1 hv with rfl | hv
              · exact lem tv.ms c (hb tv (List.mem_cons_self ..)) m' hm'
              · exact bndM_mono (fun s => (mg s).1) (hb v (List.mem_cons_of_mem _ hv) m' hm')
            · simp only [setMarkTup, Nat.blt_eq, hc, ↓reduceIte] at hv
              rcases List.mem_cons.1 hv with rfl | hv
              · exact bndM_mono (fun s => (mg s).1) (hb _ (List.mem_cons_self ..) m' hm')
              · exact ih _ (fun v hv => hb v (List.mem_cons_of_mem _ hv)) v hv m' hm'
        exact lt vs c hbl
      | _ => rw [ha] at hs; cases hs
    · rw [get_o t hts]
      exact bndA_mono mg hbl
end Go.GD
end

section
namespace Go.GD
open Go
def NoOwn (ms : List Mk) : Prop := ∀ m, m ∈ ms → m ≠ .own
def okM (σ : St) : Mk → Prop
  | .own | .dead => False
  | .ref s c g | .sub s c g => validB σ s c g = true
  | .bor q => borOk σ q = true
  | _ => True
section
variable (C : Ctx) (g : Own) (σ : St) (tm : Array Value) (w : World)
def Val (v : Value) (tv : TV) : Prop :=
  ∃ cs, v = mkV tv.t cs ∧ RepX C.P w (Shd C g) (cl g σ tm w 0) tv.t 0 cs tv.x tv.ms ∧ NoOwn tv.ms ∧ ∀ m, m ∈ tv.ms → bndM σ m
def AV (v : Value) : A → Prop
  | .val tv => Val C g σ tm w v tv
  | .tup vs => ∃ vals : List Value, v = .tuple vals.toArray ∧ vals.length = vs.length ∧ ∀ (i : Nat) (u : Value) (tv : TV), vals[i]? = some u → vs[i]? = some tv → Val C g σ tm w u tv
  | .top => False
  | .box _ => False
  | .bptr s off id => SlotRep C g σ tm w 0 v (.bptr s off id) ∧ bndA σ (.bptr s off id)
  | .eptr s c gn i t x off => SlotRep C g σ tm w 0 v (.eptr s c gn i t x off) ∧ bndA σ (.eptr s c gn i t x off)
  | .cptr t x b => SlotRep C g σ tm w 0 v (.cptr t x b) ∧ bndA σ (.cptr t x b)
  | .mp _ _ => False
  | .mref s id => SlotRep C g σ tm w 0 v (.mref s id) ∧ bndA σ (.mref s id)
end
theorem refMarks_append (s gn : Nat) : (c : Nat) → (m1 m2 : List Mk) → refMarks s gn c (m1 ++ m2) = refMarks s gn c m1 ++ refMarks s gn (c + m1.length) m2
  | _, [], _ => by simp [refMarks]
  | c, a :: l, m2 => by simp [refMarks, refMarks_append s gn (c + 1) l m2, Nat.add_comm, Nat.add_left_comm]
theorem refMarks_noOwn (s gn : Nat) : (c : Nat) → (ms : List Mk) → NoOwn (refMarks s gn c ms)
  | _, [] => fun _ h => by cases h
  | c, a :: l => fun m h => by
    rcases List.mem_cons.1 h with rfl | h
    · cases a <;> simp [refMark]
    · exact refMarks_noOwn s gn (c + 1) l m h
theorem refMarks_bnd {σ : St} {s : Nat} : (c : Nat) → (ms : List Mk) → (∀ m, m ∈ ms → bndM σ m) → ∀ m, m ∈ refMarks s (listGet σ s).gen c ms → bndM σ m
  | _, [], _ => fun _ h => by cases h
  | c, a :: l, hb => fun m h => by
    rcases List.mem_cons.1 h with rfl | h
    · have := hb a (List.mem_cons_self ..)
      cases a with
      | own => exact Nat.le_refl _
      | _ => exact this
    · exact refMarks_bnd (c + 1) l (fun m hm => hb m (List.mem_cons_of_mem _ hm)) m h
theorem clm_noOwn {σ : St} {g : Own} {pv : Nat → Nat → Option Value} {m : Mk} (h : m ≠ .own) (s c s' c' : Nat) : clm σ g pv s c m = clm σ g pv s' c' m := by
  cases m <;> first | rfl | exact absurd rfl h
theorem RepX.place {C : Ctx} {g : Own} {σ : St} {tm : Array Value} {w : World} {t : Ty} {s c : Nat} (s' c' : Nat) {cs : List Value} {x : t.den} {ms : List Mk}
    (h : RepX C.P w (Shd C g) (cl g σ tm w s) t c cs x ms) (hn : NoOwn ms) : RepX C.P w (Shd C g) (cl g σ tm w s') t c' cs x ms := by
  have hl := RepX.length _ h
  refine RepX.trans (Mono.refl _ _) t h rfl fun i hi => ?_
  have hm := hn _ (mem_of_markAt ms i (by omega))
  show CLe w w _ (clm _ _ _ s (c + i) _) (clm _ _ _ s' (c' + i) _)
  rw [clm_noOwn hm s' (c' + i) s (c + i)]
  generalize clm σ g (placeV σ tm w) s (c + i) (markAt ms i) = k
  cases k with
  | skip => exact .skip _
  | nilc => exact .nil
  | share n => exact .share _
  | hold B V => exact .hold _ _ _ _ (Mono.refl _ _) (fun _ h => h)
theorem RepX.refs {C : Ctx} {g : Own} {σ : St} {tm : Array Value} {w : World} {s : Nat} : (t : Ty) → ∀ {c : Nat} {cs : List Value} {x : t.den} {ms : List Mk},
    RepX C.P w (Shd C g) (cl g σ tm w s) t c cs x ms → (∀ i, i < t.size → placeV σ tm w s (c + i) = cs[i]?) →
    (∀ i, markAt ms i = .own → ((listGet σ s).a.mark (c + i)).isOwn = true) →
    RepX C.P w (Shd C g) (cl g σ tm w s) t c cs x (refMarks s (listGet σ s).gen c ms)
  | .unit, _, _, _, _, h, _, _ => by obtain ⟨h1, h2⟩ := h; subst h2; exact ⟨h1, rfl⟩
  | .int _, _, _, _, _, h, _, _ => by obtain ⟨m, e, h⟩ := h; subst e; exact ⟨_, rfl, h⟩
  | .bool, _, _, _, _, h, _, _ => by obtain ⟨m, e, h⟩ := h; subst e; exact ⟨_, rfl, h⟩
  | .str, _, _, _, _, h, _, _ => by obtain ⟨m, e, h⟩ := h; subst e; exact ⟨_, rfl, h⟩
  | .ptr _, _, _, _, _, h, _, _ => by obtain ⟨m, e, h⟩ := h; subst e; exact ⟨_, rfl, h⟩
  | .sl t, c, _, _, _, h, hp, ho => by
    obtain ⟨a, len, cap, m, rfl, rfl, h⟩ := h
    refine ⟨a, len, cap, _, rfl, rfl, ?_⟩
    cases m with
    | own =>
      have hv : validB σ s c (listGet σ s).gen = true := by
        have := ho 0 rfl
        simp only [validB, Bool.and_eq_true]
        exact ⟨Nat.beq_refl _, by simpa using this⟩
      show ((cl g σ tm w s c (.ref s c (listGet σ s).gen))).says _ _ _ _ _ _ _ _
      simp only [clm, hv, cond]
      exact ⟨h.1, by have := hp 0 (by simp [Ty.size]); simpa using this⟩
    | _ => exact h
  | .fn a b, c, _, _, _, h, hp, ho => by
    obtain ⟨v, m, rfl, rfl, hv, h⟩ := h
    refine ⟨v, _, rfl, rfl, hv, ?_⟩
    cases m with
    | own =>
      have hv : validB σ s c (listGet σ s).gen = true := by
        have := ho 0 rfl
        simp only [validB, Bool.and_eq_true]
        exact ⟨Nat.beq_refl _, by simpa using this⟩
      show ((cl g σ tm w s c (.ref s c (listGet σ s).gen))) ≠ .skip → _
      intro _
      have := h (by simp [clm])
      refine RepC.mono (.fn a b) ⟨Nat.le_refl _, fun b _ hb => ⟨rfl, hb.imp id fun hb => ?_⟩⟩ this
      simp only [refMark, clm, hv, cond]
      exact hb
    | _ => exact h
  | .pair a b, c, _, _, _, h, hp, ho => by
    obtain ⟨c1, c2, m1, m2, rfl, rfl, h1, h2⟩ := h
    have l1 := RepX.length a h1
    have l2 := RepX.length b h2
    refine ⟨c1, c2, refMarks s _ c m1, refMarks s _ (c + a.size) m2, rfl, by rw [refMarks_append, l1.2], RepX.refs a h1 (fun i hi => ?_) (fun i hi => ?_), RepX.refs b h2 (fun i hi => ?_) (fun i hi => ?_)⟩
    · rw [hp i (by simp only [Ty.size]; omega), List.getElem?_append_left (by omega)]
    · refine ho i ?_
      rcases Nat.lt_or_ge i m1.length with hlt | hge
      · rw [markAt_append_left _ _ _ hlt]; exact hi
      · exfalso
        have : markAt m1 i = .dead := by
          clear h1 l1 ho hp
          induction m1 generalizing i with
          | nil => rfl
          | cons a l ih =>
            cases i with
            | zero => simp at hge
            | succ i => exact ih i hi (by simpa using hge)
        rw [this] at hi; cases hi
    · have := hp (a.size + i) (by simp only [Ty.size]; omega)
      rw [← Nat.add_assoc] at this
      rw [this, List.getElem?_append_right (by omega), l1.1, show a.size + i - a.size = i by omega]
    · have := ho (a.size + i) (by rw [← l1.2]; rw [markAt_append_right]; exact hi)
      rwa [← Nat.add_assoc] at this
theorem cells_of_repX {C : Ctx} {g : Own} {σ : St} {tm : Array Value} {w : World} {s c : Nat} {t : Ty} {cs : List Value} {x : t.den} {ms : List Mk}
    (h : RepX C.P w (Shd C g) (cl g σ tm w s) t c cs x ms) : (mkV t cs).cells.toList = cs := by rw [mkV_cells h]
theorem SRep.val {C : Ctx} {g : Own} {σ : St} {tm : Array Value} {w : World} (h : SRep C g σ tm w) {s : Nat} {tv : TV} (ha : (listGet σ s).a = .val tv) :
    Val C g σ tm w (tm.getD s undef) { tv with ms := refMarks s (listGet σ s).gen 0 tv.ms } := by
  have hl : s < σ.length := by
    rcases Nat.lt_or_ge s σ.length with h' | h'
    · exact h'
    · rw [listGet_out _ _ h'] at ha; cases ha
  have hr := h.slots s hl
  have hb := h.bnd s hl
  rw [ha] at hr hb
  obtain ⟨cs, e, hr⟩ := hr
  refine ⟨cs, e, RepX.place 0 0 (RepX.refs tv.t hr (fun i hi => ?_) (fun i hi => ?_)) (refMarks_noOwn _ _ _ _), refMarks_noOwn _ _ _ _, refMarks_bnd _ _ hb⟩
  · simp only [placeV, ha, e, Nat.zero_add]
    rw [cells_of_repX hr]
  · rw [ha, Nat.zero_add]; simp [A.mark, hi, Mk.isOwn]
theorem SRep.tup {C : Ctx} {g : Own} {σ : St} {tm : Array Value} {w : World} (h : SRep C g σ tm w) {s : Nat} {vs : List TV} (ha : (listGet σ s).a = .tup vs) :
    AV C g σ tm w (tm.getD s undef) (.tup (refTup s (listGet σ s).gen 0 vs)) := by
  have hl : s < σ.length := by
    rcases Nat.lt_or_ge s σ.length with h' | h'
    · exact h'
    · rw [listGet_out _ _ h'] at ha; cases ha
  have hr := h.slots s hl
  have hb := h.bnd s hl
  rw [ha] at hr hb
  obtain ⟨vals, e, hr⟩ := hr
  refine ⟨vals, e, ?_⟩
  have hcells : ∀ i, placeV σ tm w s i = (vals.flatMap fun v => v.cells.toList)[i]? := by
    intro i
    simp only [placeV, ha, e, tupCells]
  have hmk : ∀ i, (markTup vs i).isOwn = true → ((listGet σ s).a.mark i).isOwn = true := by
    intro i hi; rw [ha]; exact hi
  have key : ∀ (vs : List TV) (c : Nat) (vals : List Value), (∀ v, v ∈ vs → ∀ m, m ∈ v.ms → bndM σ m) →
      (∀ i v, (vals.flatMap fun v => v.cells.toList)[i]? = some v → placeV σ tm w s (c + i) = some v) →
      (∀ i, (markTup vs i).isOwn = true → ((listGet σ s).a.mark (c + i)).isOwn = true) → TupRep C g σ tm w s c vals vs →
      vals.length = (refTup s (listGet σ s).gen c vs).length ∧ ∀ (i : Nat) (u : Value) (tv : TV), vals[i]? = some u → (refTup s (listGet σ s).gen c vs)[i]? = some tv → Val C g σ tm w u tv := by
    intro vs
    induction vs with
    | nil =>
      intro c vals _ _ _ hr
      cases vals with
      | nil => exact ⟨rfl, fun i u tv h => by simp at h⟩
      | cons _ _ => exact hr.elim
    | cons tv l ih =>
      intro c vals hb hp ho hr
      cases vals with
      | nil => exact hr.elim
      | cons v vals =>
        obtain ⟨⟨cs, e, h1⟩, h2⟩ := hr
        have hlen := RepX.length _ h1
        have hcv : v.cells.toList = cs := by rw [e]; exact cells_of_repX h1
        have h0 : Val C g σ tm w v { tv with ms := refMarks s (listGet σ s).gen c tv.ms } := by
          refine ⟨cs, e, RepX.place 0 0 (RepX.refs tv.t h1 (fun i hi => ?_) (fun i hi => ?_)) (refMarks_noOwn _ _ _ _), refMarks_noOwn _ _ _ _, refMarks_bnd _ _ (hb tv (List.mem_cons_self ..))⟩
          · have hi' : i < cs.length := by omega
            rw [List.getElem?_eq_getElem hi']
            refine hp i _ ?_
            rw [List.flatMap_cons, hcv, List.getElem?_append_left hi', List.getElem?_eq_getElem hi']
          · refine ho i ?_
            have hlt : i < tv.ms.length := by
              rcases Nat.lt_or_ge i tv.ms.length with h | h
              · exact h
              · exfalso
                have : markAt tv.ms i = .dead := by
                  clear h1 h2 ho hb hp hlen
                  generalize tv.ms = ms at *
                  induction ms generalizing i with
                  | nil => rfl
                  | cons a l ih =>
                    cases i with
                    | zero => simp at h
                    | succ i => exact ih i hi (by simpa using h)
                rw [this] at hi; cases hi
            simp [markTup, hlt, Nat.blt_eq, hi, Mk.isOwn]
        obtain ⟨hl2, hv2⟩ := ih (c + tv.ms.length) vals (fun v hv => hb v (List.mem_cons_of_mem _ hv)) (fun i u hu => by
            have := hp (cs.length + i) u (by rw [List.flatMap_cons, hcv, List.getElem?_append_right (by omega), show cs.length + i - cs.length = i by omega]; exact hu)
            rw [show c + tv.ms.length + i = c + (cs.length + i) by omega]; exact this)
          (fun i hi => by
            have := ho (tv.ms.length + i) (by
              have : ¬ tv.ms.length + i < tv.ms.length := by omega
              simp only [markTup, Nat.blt_eq, this, ↓reduceIte]
              rw [show tv.ms.length + i - tv.ms.length = i by omega]; exact hi)
            rwa [← Nat.add_assoc] at this) h2
        refine ⟨by simp [refTup, hl2], fun i u tv' hu htv => ?_⟩
        cases i with
        | zero =>
          simp only [refTup, List.getElem?_cons_zero, Option.some.injEq] at hu htv
          subst hu; subst htv; exact h0
        | succ i =>
          simp only [refTup, List.getElem?_cons_succ] at hu htv
          exact hv2 i u tv' hu htv
  exact key vs 0 vals hb (fun i v hv => by rw [Nat.zero_add, hcells]; exact hv) (fun i hi => by rw [Nat.zero_add]; exact hmk i hi) hr
theorem SRep.lt {C : Ctx} {g : Own} {σ : St} {tm : Array Value} {w : World} (_ : SRep C g σ tm w) {s : Nat} (ha : (listGet σ s).a ≠ .top) : s < σ.length := by
  rcases Nat.lt_or_ge s σ.length with h' | h'
  · exact h'
  · rw [listGet_out _ _ h'] at ha; exact absurd rfl ha
theorem rdA_inv {C : Ctx} {g : Own} {σ : St} {tm : Array Value} {w : World} {E : Env} {T : Nat} {o : Operand} {k : A → Prog} {ρ : Type} {K : St → Option ρ} {r : ρ} {ds : List Deferred}
    (h : SRep C g σ tm w) (hr : (rdA E T o k).run σ K = some r) : ∃ a, AV C g σ tm w (Act.eval ⟨tm, ds⟩ o) a ∧ (k a).run σ K = some r := by
  cases o with
  | tmp s =>
    simp only [rdA, Prog.run] at hr
    cases ha : (listGet σ s).a with
    | top => rw [ha] at hr; simp [Prog.run] at hr
    | val tv =>
      rw [ha] at hr
      exact ⟨.val _, h.val ha, hr⟩
    | tup vs =>
      rw [ha] at hr
      exact ⟨.tup _, h.tup ha, hr⟩
    | box tv =>
      rw [ha] at hr
      have hl := h.lt (s := s) (by rw [ha]; intro e; cases e)
      exact ⟨.bptr s 0 (listGet σ s).id, ⟨fun _ b hb => hb, Nat.le_refl _⟩, hr⟩
    | mp t ks =>
      rw [ha] at hr
      exact ⟨.mref s (listGet σ s).id, ⟨fun _ => rfl, Nat.le_refl _⟩, hr⟩
    | mref s' id =>
      rw [ha] at hr
      have hl := h.lt (s := s) (by rw [ha]; intro e; cases e)
      have := h.slots s hl
      have hb := h.bnd s hl
      rw [ha] at this hb
      exact ⟨.mref s' id, ⟨this, hb⟩, hr⟩
    | bptr s' off id =>
      rw [ha] at hr
      have hl := h.lt (s := s) (by rw [ha]; intro e; cases e)
      have := h.slots s hl
      have hb := h.bnd s hl
      rw [ha] at this hb
      exact ⟨.bptr s' off id, ⟨this, hb⟩, hr⟩
    | eptr s' c gn i t x off =>
      rw [ha] at hr
      have hl := h.lt (s := s) (by rw [ha]; intro e; cases e)
      have := h.slots s hl
      have hb := h.bnd s hl
      rw [ha] at this hb
      exact ⟨.eptr s' c gn i t x off, ⟨this, hb⟩, hr⟩
    | cptr t x b =>
      rw [ha] at hr
      have hl := h.lt (s := s) (by rw [ha]; intro e; cases e)
      have := h.slots s hl
      have hb := h.bnd s hl
      rw [ha] at this hb
      refine ⟨.cptr t x b, ⟨?_, hb⟩, hr⟩
      cases b with
      | none => exact this
      | some m => obtain ⟨s', c', g'⟩ := m; exact this
  | const v =>
    simp only [rdA] at hr
    cases ht : E.ty T with
    | none => rw [ht] at hr; simp [Prog.run] at hr
    | some t =>
      rw [ht] at hr
      simp only at hr
      cases hd : constD t v with
      | none => rw [hd] at hr; simp [Prog.run] at hr
      | some d =>
        rw [hd] at hr
        refine ⟨.val d, ?_, hr⟩
        show Val C g σ tm w v d
        unfold constD at hd
        split at hd
        · split at hd
          · injection hd with hd; subst hd
            rename_i k k' n hk
            refine ⟨[.int k n], ?_, ⟨_, rfl, rfl⟩, fun m hm => by simp at hm; subst hm; simp, fun m hm => by simp at hm; subst hm; trivial⟩
            rw [kindBeq_eq hk]; rfl
          · cases hd
        · injection hd with hd; subst hd
          exact ⟨_, rfl, ⟨_, rfl, rfl⟩, fun m hm => by simp at hm; subst hm; simp, fun m hm => by simp at hm; subst hm; trivial⟩
        · injection hd with hd; subst hd
          rename_i s
          exact ⟨_, rfl, ⟨_, rfl, rfl⟩, fun m hm => by simp at hm; subst hm; simp, fun m hm => by simp at hm; subst hm; trivial⟩
        · injection hd with hd; subst hd
          exact ⟨_, rfl, ⟨none, 0, 0, _, rfl, rfl, rfl, rfl, rfl, rfl⟩, fun m hm => by simp at hm; subst hm; simp, fun m hm => by simp at hm; subst hm; trivial⟩
        · cases hd
  | global _ => simp [rdA, Prog.run] at hr
  | func _ => simp [rdA, Prog.run] at hr
theorem useBor_inv {σ : St} {p : Prog} {ρ : Type} {K : St → Option ρ} {r : ρ} : (q : List (Nat × Nat × List Nat)) → (useBor q p).run σ K = some r → borOk σ q = true ∧ p.run σ K = some r
  | [], h => ⟨rfl, h⟩
  | (s, gn, cs) :: l, h => by
    simp only [useBor, Prog.run] at h
    split at h
    · rename_i hb
      obtain ⟨h1, h2⟩ := useBor_inv l h
      exact ⟨by simp only [borOk, borOk1, hb, h1]; rfl, h2⟩
    · simp [Prog.run] at h
theorem useMarks_inv {σ : St} {p : Prog} {ρ : Type} {K : St → Option ρ} {r : ρ} : (ms : List Mk) → (useMarks ms p).run σ K = some r → (∀ m, m ∈ ms → okM σ m) ∧ p.run σ K = some r
  | [], h => ⟨(fun _ h => by cases h), h⟩
  | m :: l, h => by
    cases m with
    | shr | nil | nn =>
      obtain ⟨h1, h2⟩ := useMarks_inv l h
      exact ⟨List.forall_mem_cons.2 ⟨trivial, h1⟩, h2⟩
    | own | dead => simp [useMarks, Prog.run] at h
    | ref s c gn | sub s c gn =>
      simp only [useMarks, Prog.run] at h
      split at h
      · rename_i hb
        obtain ⟨h1, h2⟩ := useMarks_inv l h
        exact ⟨List.forall_mem_cons.2 ⟨hb, h1⟩, h2⟩
      · simp [Prog.run] at h
    | bor q =>
      simp only [useMarks] at h
      obtain ⟨hq, h⟩ := useBor_inv q h
      obtain ⟨h1, h2⟩ := useMarks_inv l h
      exact ⟨List.forall_mem_cons.2 ⟨hq, h1⟩, h2⟩
theorem rdV_inv {C : Ctx} {g : Own} {σ : St} {tm : Array Value} {w : World} {E : Env} {T : Nat} {o : Operand} {k : TV → Prog} {ρ : Type} {K : St → Option ρ} {r : ρ} {ds : List Deferred}
    (h : SRep C g σ tm w) (hr : (rdV E T o k).run σ K = some r) : ∃ tv, Val C g σ tm w (Act.eval ⟨tm, ds⟩ o) tv ∧ (∀ m, m ∈ tv.ms → okM σ m) ∧ (k tv).run σ K = some r := by
  obtain ⟨a, ha, hr⟩ := rdA_inv (ds := ds) h hr
  cases a with
  | val tv =>
    obtain ⟨h1, h2⟩ := useMarks_inv _ hr
    exact ⟨tv, ha, h1, h2⟩
  | _ => simp [Prog.run] at hr
theorem rdInt_inv {C : Ctx} {g : Own} {σ : St} {tm : Array Value} {w : World} {o : Operand} {k : IntKind → Int → Prog} {ρ : Type} {K : St → Option ρ} {r : ρ} {ds : List Deferred}
    (h : SRep C g σ tm w) (hr : (rdInt o k).run σ K = some r) : ∃ kd n, Act.eval ⟨tm, ds⟩ o = .int kd n ∧ (k kd n).run σ K = some r := by
  cases o with
  | tmp s =>
    simp only [rdInt, Prog.run] at hr
    split at hr
    · rename_i kd x ms ha
      obtain ⟨cs, e, hx, _⟩ := h.val ha
      refine ⟨kd, x, ?_, hr⟩
      obtain ⟨m, _, hx⟩ := hx
      show tm.getD s undef = _
      rw [e, show cs = _ from hx]; rfl
    · simp [Prog.run] at hr
  | const v =>
    cases v <;> first
      | (simp [rdInt, Prog.run] at hr; done)
      | exact ⟨_, _, rfl, hr⟩
  | global _ => simp [rdInt, Prog.run] at hr
  | func _ => simp [rdInt, Prog.run] at hr
theorem rdBool_inv {C : Ctx} {g : Own} {σ : St} {tm : Array Value} {w : World} {o : Operand} {k : Bool → Prog} {ρ : Type} {K : St → Option ρ} {r : ρ} {ds : List Deferred}
    (h : SRep C g σ tm w) (hr : (rdBool o k).run σ K = some r) : ∃ b, Act.eval ⟨tm, ds⟩ o = .bool b ∧ (k b).run σ K = some r := by
  cases o with
  | tmp s =>
    simp only [rdBool, Prog.run] at hr
    split at hr
    · rename_i x ms ha
      obtain ⟨cs, e, hx, _⟩ := h.val ha
      refine ⟨x, ?_, hr⟩
      obtain ⟨m, _, hx⟩ := hx
      show tm.getD s undef = _
      rw [e, show cs = _ from hx]; rfl
    · simp [Prog.run] at hr
  | const v =>
    cases v <;> first
      | (simp [rdBool, Prog.run] at hr; done)
      | exact ⟨_, rfl, hr⟩
  | global _ => simp [rdBool, Prog.run] at hr
  | func _ => simp [rdBool, Prog.run] at hr
theorem rdSl_inv {C : Ctx} {g : Own} {σ : St} {tm : Array Value} {w : World} {o : Operand} {k : (t : Ty) → List t.den → Mk → Prog} {ρ : Type} {K : St → Option ρ} {r : ρ} {ds : List Deferred}
    (h : SRep C g σ tm w) (hr : (rdSl o k).run σ K = some r) : ∃ t xs m a len cap, Act.eval ⟨tm, ds⟩ o = .slice a len cap ∧ okM σ m ∧ m ≠ .own ∧ bndM σ m ∧
      (cl g σ tm w 0 0 m).says t.size w (Shd C g) (RepC C.P t w (Shd C g)) a len cap xs ∧ (k t xs m).run σ K = some r := by
  cases o with
  | tmp s =>
    simp only [rdSl, Prog.run] at hr
    split at hr
    · rename_i t xs m ha
      obtain ⟨cs, e, hx, hn, hb⟩ := h.val ha
      obtain ⟨h1, h2⟩ := useMarks_inv _ hr
      obtain ⟨a, len, cap, m', e1, e2, hs⟩ := hx
      simp only [refMarks, List.cons.injEq, and_true] at e2
      subst e2
      refine ⟨t, xs, _, a, len, cap, ?_, h1 _ (List.mem_cons_self ..), hn _ (List.mem_cons_self ..), hb _ (List.mem_cons_self ..), hs, h2⟩
      show tm.getD s undef = _
      rw [e, e1]; rfl
    · simp [Prog.run] at hr
  | const v => simp [rdSl, Prog.run] at hr
  | global _ => simp [rdSl, Prog.run] at hr
  | func _ => simp [rdSl, Prog.run] at hr
theorem rdP_inv {C : Ctx} {g : Own} {σ : St} {tm : Array Value} {w : World} {o : Operand} {k : A → Prog} {ρ : Type} {K : St → Option ρ} {r : ρ} {ds : List Deferred}
    (h : SRep C g σ tm w) (hr : (rdP o k).run σ K = some r) : ∃ a, AV C g σ tm w (Act.eval ⟨tm, ds⟩ o) a ∧ (k a).run σ K = some r ∧ (∀ tv, a ≠ .val tv) ∧ (∀ vs, a ≠ .tup vs) := by
  cases o with
  | tmp s =>
    simp only [rdP, Prog.run] at hr
    cases ha : (listGet σ s).a with
    | top | val | tup | mp | mref => rw [ha] at hr; simp [Prog.run] at hr
    | box tv =>
      rw [ha] at hr
      exact ⟨.bptr s 0 (listGet σ s).id, ⟨fun _ b hb => hb, Nat.le_refl _⟩, hr, (fun _ e => by cases e), (fun _ e => by cases e)⟩
    | bptr s' off id =>
      rw [ha] at hr
      have hl := h.lt (s := s) (by rw [ha]; intro e; cases e)
      have := h.slots s hl
      have hb := h.bnd s hl
      rw [ha] at this hb
      exact ⟨.bptr s' off id, ⟨this, hb⟩, hr, (fun _ e => by cases e), (fun _ e => by cases e)⟩
    | eptr s' c gn i t x off =>
      rw [ha] at hr
      have hl := h.lt (s := s) (by rw [ha]; intro e; cases e)
      have := h.slots s hl
      have hb := h.bnd s hl
      rw [ha] at this hb
      exact ⟨.eptr s' c gn i t x off, ⟨this, hb⟩, hr, (fun _ e => by cases e), (fun _ e => by cases e)⟩
    | cptr t x b =>
      rw [ha] at hr
      have hl := h.lt (s := s) (by rw [ha]; intro e; cases e)
      have := h.slots s hl
      have hb := h.bnd s hl
      rw [ha] at this hb
      refine ⟨.cptr t x b, ⟨?_, hb⟩, hr, (fun _ e => by cases e), (fun _ e => by cases e)⟩
      cases b with
      | none => exact this
      | some m => obtain ⟨s', c', g'⟩ := m; exact this
  | const v => simp [rdP, Prog.run] at hr
  | global _ => simp [rdP, Prog.run] at hr
  | func _ => simp [rdP, Prog.run] at hr
end Go.GD
end

section
namespace Go.GD
open Go
def A.handy (a : A) : Prop := ∀ i, (a.mark i).isOwn = false
structure HandLe (C : Ctx) (g : Own) (σ : St) (tm : Array Value) (w : World) (g' : Own) (σ' : St) (tm' : Array Value) (w' : World) : Prop where
  sh : Mono w (Shd C g) w' (Shd C g')
  gens : ∀ s, (listGet σ s).gen ≤ (listGet σ' s).gen ∧ (listGet σ s).id ≤ (listGet σ' s).id
  len : σ'.length = σ.length
  rep : ∀ v a, a.handy → bndA σ a → SlotRep C g σ tm w σ.length v a → SlotRep C g' σ' tm' w' σ.length v a
theorem HandLe.refl (C : Ctx) (g : Own) (σ : St) (tm : Array Value) (w : World) : HandLe C g σ tm w g σ tm w :=
  ⟨Mono.refl _ _, fun _ => ⟨Nat.le_refl _, Nat.le_refl _⟩, rfl, fun _ _ _ _ h => h⟩
theorem HandLe.trans {C : Ctx} {g g1 g2 : Own} {σ σ1 σ2 : St} {tm tm1 tm2 : Array Value} {w w1 w2 : World} (h : HandLe C g σ tm w g1 σ1 tm1 w1) (h' : HandLe C g1 σ1 tm1 w1 g2 σ2 tm2 w2) :
    HandLe C g σ tm w g2 σ2 tm2 w2 :=
  ⟨h.sh.trans h'.sh, fun s => ⟨Nat.le_trans (h.gens s).1 (h'.gens s).1, Nat.le_trans (h.gens s).2 (h'.gens s).2⟩, h'.len.trans h.len, fun v a ha hb hr => by
    have h1 := h.rep v a ha hb hr
    have h2 := h'.rep v a ha (bndA_mono h.gens hb) (by rw [h.len]; exact h1)
    rwa [h.len] at h2⟩
theorem Carry.hand {C : Ctx} {g g' : Own} {σ σ' : St} {tm tm' : Array Value} {w w' : World} (h : Carry C g σ tm w g' σ' tm' w' σ.length)
    (hg : ∀ s, (listGet σ s).gen ≤ (listGet σ' s).gen ∧ (listGet σ s).id ≤ (listGet σ' s).id) (hl : σ'.length = σ.length) : HandLe C g σ tm w g' σ' tm' w' :=
  ⟨h.sh, hg, hl, fun v a ha hb hr => h.slotRep' (fun i hi => by rw [ha i] at hi; cases hi) hb hr⟩
def Laid (ms : List Mk) : Prop := ∀ m, m ∈ ms → m = .own ∨ m = .shr ∨ m = .nil
theorem markAt_mid (dn : List Mk) (m : Mk) (l : List Mk) : markAt (dn ++ m :: l) dn.length = m := by
  have := markAt_append_right dn (m :: l) 0
  simpa [markAt] using this
theorem markAt_mid_left (dn : List Mk) (m : Mk) (l : List Mk) (i : Nat) (h : i < dn.length) : markAt (dn ++ m :: l) i = markAt dn i := markAt_append_left _ _ _ h
theorem markAt_mid_right (dn : List Mk) (m : Mk) (l : List Mk) (i : Nat) : markAt (dn ++ m :: l) (dn.length + 1 + i) = markAt l i := by
  have := markAt_append_right dn (m :: l) (1 + i)
  rw [← Nat.add_assoc] at this
  rw [this, Nat.add_comm 1 i]; rfl
theorem cle_same {w : World} {Sh : Nat → Prop} (k : Claim) : CLe w w Sh k k := by
  cases k with
  | skip => exact .skip _
  | nilc => exact .nil
  | share n => exact .share _
  | hold B V => exact .hold _ _ _ _ (Mono.refl _ _) (fun _ h => h)
theorem takeMarks_inv {C : Ctx} {tm : Array Value} {w : World} {steal : Nat → Bool} {kn : Bool} {ρ : Type} {K : St → Option ρ} {r : ρ} {t : Ty} {cs : List Value} {x : t.den} {N : Nat} :
    (ms : List Mk) → ∀ {k : List Mk → Prog} {g : Own} {σ : St} (dn : List Mk), N = σ.length → SRep C g σ tm w →
    RepX C.P w (Shd C g) (cl g σ tm w N) t 0 cs x (dn ++ ms) → Laid dn → NoOwn ms → (∀ m, m ∈ ms → bndM σ m) →
    (takeMarks steal kn ms k).run σ K = some r →
    ∃ g1 σ1 ms', SRep C g1 σ1 tm w ∧ HandLe C g σ tm w g1 σ1 tm w ∧ ms'.length = ms.length ∧ Laid (dn ++ ms') ∧
      RepX C.P w (Shd C g1) (cl g1 σ1 tm w N) t 0 cs x (dn ++ ms') ∧ (k ms').run σ1 K = some r ∧ (∀ b, g b = none → g1 b = none) ∧ ((∀ s, steal s = false) → kn = true → ∀ m, m ∈ ms' → m = .shr ∨ m = .nil)
  | [], k, g, σ, dn, hN, h, hx, hd, _, _, hr => ⟨g, σ, [], h, .refl .., rfl, by simpa using hd, hx, hr, fun _ h => h, fun _ _ _ h => by cases h⟩
  | m :: l, k, g, σ, dn, hN, h, hx, hd, hn, hb, hr => by
    have hlen := (RepX.length _ hx).2
    have hn' : NoOwn l := fun m hm => hn m (List.mem_cons_of_mem _ hm)
    have hb' : ∀ m, m ∈ l → bndM σ m := fun m hm => hb m (List.mem_cons_of_mem _ hm)
    have easy : ∀ m2, (m2 = .own ∧ kn = false ∨ m2 = .shr ∨ m2 = .nil) → CLe w w (Shd C g) (cl g σ tm w N dn.length m) (cl g σ tm w N dn.length m2) →
        (takeMarks steal kn l fun r => k (m2 :: r)).run σ K = some r →
        ∃ g1 σ1 ms', SRep C g1 σ1 tm w ∧ HandLe C g σ tm w g1 σ1 tm w ∧ ms'.length = (m :: l).length ∧ Laid (dn ++ ms') ∧
          RepX C.P w (Shd C g1) (cl g1 σ1 tm w N) t 0 cs x (dn ++ ms') ∧ (k ms').run σ1 K = some r ∧ (∀ b, g b = none → g1 b = none) ∧ ((∀ s, steal s = false) → kn = true → ∀ m, m ∈ ms' → m = .shr ∨ m = .nil) := by
      intro m2 hm2 hc hr
      have hx2 : RepX C.P w (Shd C g) (cl g σ tm w N) t 0 cs x ((dn ++ [m2]) ++ l) := by
        refine RepX.trans (Mono.refl _ _) t hx (by simp) fun i hi => ?_
        rw [Nat.zero_add, List.append_assoc, List.singleton_append]
        rcases Nat.lt_trichotomy i dn.length with hlt | rfl | hgt
        · rw [markAt_mid_left _ _ _ _ hlt, markAt_mid_left _ _ _ _ hlt]; exact cle_same _
        · rw [markAt_mid, markAt_mid]; exact hc
        · obtain ⟨j, rfl⟩ : ∃ j, i = dn.length + 1 + j := ⟨i - (dn.length + 1), by omega⟩
          rw [markAt_mid_right, markAt_mid_right]; exact cle_same _
      obtain ⟨g1, σ1, ms', h1, h2, h3, h4, h5, h6, h7⟩ := takeMarks_inv l (dn ++ [m2]) hN h hx2 (fun m hm => by
        rcases List.mem_append.1 hm with hm | hm
        · exact hd m hm
        · rw [List.mem_singleton.1 hm]; exact hm2.imp (·.1) id) hn' hb' hr
      exact ⟨g1, σ1, m2 :: ms', h1, h2, by simp [h3], by simpa using h4, by simpa using h5, h6, h7.1, fun hst hk => List.forall_mem_cons.2 ⟨hm2.resolve_left (fun hh => by rw [hk] at hh; exact absurd hh.2 (by simp)), h7.2 hst hk⟩⟩
    have look : ∀ s c gn, (m = .ref s c gn ∨ m = .sub s c gn) →
        (Prog.get s fun sl => match Nat.beq sl.gen gn && (sl.a.mark c).isOwn with
          | true => match steal s with
            | true => .put s { sl with a := sl.a.setMark c .dead } (takeMarks steal kn l fun r => k (.own :: r))
            | false => .put s { sl with a := sl.a.setMark c .shr } (takeMarks steal kn l fun r => k (.shr :: r))
          | false => .fail).run σ K = some r →
        ∃ g1 σ1 ms', SRep C g1 σ1 tm w ∧ HandLe C g σ tm w g1 σ1 tm w ∧ ms'.length = (m :: l).length ∧ Laid (dn ++ ms') ∧
          RepX C.P w (Shd C g1) (cl g1 σ1 tm w N) t 0 cs x (dn ++ ms') ∧ (k ms').run σ1 K = some r ∧ (∀ b, g b = none → g1 b = none) ∧ ((∀ s, steal s = false) → kn = true → ∀ m, m ∈ ms' → m = .shr ∨ m = .nil) := by
      intro s c gn hm hr
      simp only [Prog.run] at hr
      split at hr
      case h_2 => simp [Prog.run] at hr
      rename_i hv
      have hvalid : validB σ s c gn = true := hv
      have hown : ((listGet σ s).a.mark c).isOwn = true := by simp only [Bool.and_eq_true] at hv; exact hv.2
      have hsl := validB_lt hvalid
      have hbl : cl g σ tm w N dn.length m = .hold (fun b => g b = some (s, some c)) (cl g σ tm w N dn.length m |> fun | .hold _ V => V | _ => fun _ => True) := by
        rcases hm with rfl | rfl <;> simp only [clm, hvalid, cond]
      have go : ∀ (m2 : Mk) (p : Option (Nat × Option Nat)) (m3 : Mk), (m2 = .dead ∨ (m2 = .shr ∧ p = none)) → (m3 = .own ∧ steal s = true ∨ m3 = .shr) →
          (∀ g' σ', g' = struck g s c p → CLe w w (Shd C g') (.hold (fun b => g b = some (s, some c)) (fun _ => True)) (cl g' σ' tm w N dn.length m3)) →
          (takeMarks steal kn l fun r => k (m3 :: r)).run (listSet σ s { listGet σ s with a := (listGet σ s).a.setMark c m2 }) K = some r →
          ∃ g1 σ1 ms', SRep C g1 σ1 tm w ∧ HandLe C g σ tm w g1 σ1 tm w ∧ ms'.length = (m :: l).length ∧ Laid (dn ++ ms') ∧
            RepX C.P w (Shd C g1) (cl g1 σ1 tm w N) t 0 cs x (dn ++ ms') ∧ (k ms').run σ1 K = some r ∧ (∀ b, g b = none → g1 b = none) ∧ ((∀ s, steal s = false) → kn = true → ∀ m, m ∈ ms' → m = .shr ∨ m = .nil) := by
        intro m2 p m3 hm2 hm3 hc hr
        have hS := h.strike hm2 hown
        have hF := struck_facts (C := C) (g := g) (tm := tm) (w := w) (p := p) (m := m2) (by rcases hm2 with rfl | ⟨rfl, _⟩ <;> rfl) hown
        have hsN : N ≠ s := by omega
        have hcar := hF.carry N hsN
        have hlen' : (listSet σ s { listGet σ s with a := (listGet σ s).a.setMark c m2 }).length = σ.length := listSet_length _ _ _
        generalize listSet σ s { listGet σ s with a := (listGet σ s).a.setMark c m2 } = σ' at *
        have hmg : ∀ s, (listGet σ s).gen ≤ (listGet σ' s).gen ∧ (listGet σ s).id ≤ (listGet σ' s).id := fun s => ⟨Nat.le_of_eq (hF.gens s).1.symm, Nat.le_of_eq (hF.gens s).2.symm⟩
        have hx2 : RepX C.P w (Shd C (struck g s c p)) (cl (struck g s c p) σ' tm w N) t 0 cs x ((dn ++ [m3]) ++ l) := by
          refine RepX.trans hF.sh t hx (by simp) fun i hi => ?_
          rw [Nat.zero_add, List.append_assoc, List.singleton_append]
          rcases Nat.lt_trichotomy i dn.length with hlt | rfl | hgt
          · rw [markAt_mid_left _ _ _ _ hlt, markAt_mid_left _ _ _ _ hlt]
            rcases hd _ (mem_of_markAt dn i hlt) with e | e | e <;> rw [e]
            · exact .hold _ _ _ _ (hF.place N (some i) (fun e => hsN (by injection e))) (fun _ h => h)
            · exact .share _
            · exact .nil
          · rw [markAt_mid, markAt_mid]
            have hcc := hc _ σ' rfl
            rw [hbl]
            generalize cl (struck g s c p) σ' tm w N dn.length m3 = k3 at hcc ⊢
            cases hcc with
            | skip => exact .skip _
            | hold B B' V V' hB hV => exact .hold _ _ _ _ hB (fun v _ => hV v trivial)
            | hold_share B V hB => exact .hold_share _ _ hB
          · obtain ⟨j, rfl⟩ : ∃ j, i = dn.length + 1 + j := ⟨i - (dn.length + 1), by omega⟩
            rw [markAt_mid_right, markAt_mid_right]
            have hj : j < l.length := by simp at hlen; omega
            exact hcar.cle _ _ (hb' _ (mem_of_markAt l j hj)) (fun e => absurd e (hn' _ (mem_of_markAt l j hj)))
        obtain ⟨g1, σ1, ms', h1, h2, h3, h4, h5, h6, h7⟩ := takeMarks_inv l (dn ++ [m3]) (hN.trans hlen'.symm) hS hx2 (fun m hm => by
          rcases List.mem_append.1 hm with hm | hm
          · exact hd m hm
          · rw [List.mem_singleton.1 hm]; exact hm3.imp (·.1) .inl) hn' (fun m hm => bndM_mono (fun s => (hmg s).1) (hb' m hm)) hr
        subst hN
        exact ⟨g1, σ1, m3 :: ms', h1, (hcar.hand hmg hlen').trans h2, by simp [h3], by simpa using h4, by simpa using h5, h6, fun b hb => h7.1 b (struck_none hb), fun hst hk => List.forall_mem_cons.2 ⟨.inl (hm3.resolve_left (fun hh => by rw [hst s] at hh; exact absurd hh.2 (by simp))), h7.2 hst hk⟩⟩
      split at hr
      · rename_i hst
        refine go .dead (some (N, some dn.length)) .own (.inl rfl) (.inl ⟨rfl, hst⟩) (fun g' σ' e => ?_) hr
        subst e
        exact .hold _ _ _ _ ⟨Nat.le_refl _, fun b _ hb => ⟨rfl, struck_same hb⟩⟩ (fun _ h => h)
      · refine go .shr none .shr (.inr ⟨rfl, rfl⟩) (.inr rfl) (fun g' σ' e => ?_) hr
        subst e
        refine .hold_share _ _ ⟨Nat.le_refl _, fun b _ hb => ⟨rfl, ?_, struck_same hb⟩⟩
        have := (h.gok b (by rw [show g b = _ from hb]; simp)).2
        rcases this with this | this
        · exact .inl this
        · exact .inr (.inr this)
    cases m with
    | shr => exact easy .shr (.inr (.inl rfl)) (.share _) hr
    | nn => exact easy .shr (.inr (.inl rfl)) (.share_weak _) hr
    | nil =>
      cases hk : kn with
      | false => subst hk; exact easy .own (.inl ⟨rfl, rfl⟩) (.nil_hold _ _ trivial) hr
      | true => subst hk; exact easy .nil (.inr (.inr rfl)) .nil hr
    | own => exact absurd rfl (hn _ (List.mem_cons_self ..))
    | dead => simp [takeMarks, Prog.run] at hr
    | bor q => simp [takeMarks, Prog.run] at hr
    | ref s c gn => exact look s c gn (.inl rfl) hr
    | sub s c gn => exact look s c gn (.inr rfl) hr
end Go.GD
end

section
namespace Go.GD
open Go
def zeroC : Ty → List Value → Bool
  | .unit, [] => true
  | .int k, [.int k' n] => kindBeq k k' && n == 0
  | .bool, [.bool b] => !b
  | .str, [.string s] => s.data.toList.isEmpty
  | .pair a b, cs => zeroC a (cs.take a.size) && zeroC b (cs.drop a.size)
  | .sl _, [.slice none 0 0] => true
  | .fn _ _, [.nilFunc] => true
  | _, _ => false
def zeroV (t : Ty) (v : Value) : Bool :=
  match t.isAgg, v with
  | true, .agg cs => zeroC t cs.toList
  | true, _ => false
  | false, v => zeroC t [v]
def fldsOK (tab : List TE) : List Field → List (Nat × Nat) → Bool
  | [], [] => true
  | f :: fs, (o, T) :: l => Nat.beq f.offset o && (Nat.beq f.type T && ((findTE tab T).isSome && fldsOK tab fs l))
  | _, _ => false
def arrOK (tab : List TE) (el sz : Nat) : Nat → List (Nat × Nat) → Bool
  | _, [] => (findTE tab el).isSome
  | i, (o, T) :: l => Nat.beq o (i * sz) && (Nat.beq T el && arrOK tab el sz (i + 1) l)
def descOK (tab : List TE) (e : TE) : TypeDesc → Bool
  | .int k => e.ty.beq (.int k)
  | .bool => e.ty.beq .bool
  | .string => e.ty.beq .str
  | .slice el => Nat.beq e.elem el && match findTE tab el with
    | some te => e.ty.beq (.sl te.ty) && !Nat.beq te.ty.size 0
    | none => false
  | .struct fs => e.ty.isAgg && (!e.arr && fldsOK tab fs.toList e.flds)
  | .array n el => e.ty.isAgg && (e.arr && (Nat.beq e.elem el && (Nat.beq e.flds.length n && match findTE tab el with
    | some te => arrOK tab el te.ty.size 0 e.flds
    | none => false)))
  | .func _ _ _ => match e.ty with
    | .fn _ _ => true
    | _ => false
  | _ => false
def eqSc (P : Program) (T : Nat) : Ty → Bool
  | .bool => match P.underlying T with
    | some .bool => true
    | _ => false
  | .int _ => match P.underlying T with
    | some (.int _) => true
    | _ => false
  | .str => match P.underlying T with
    | some .string => true
    | _ => false
  | _ => false
def eqFld (P : Program) : List Field → Nat → Ty → Bool
  | [f], off, t => Nat.beq f.offset off && (f.name != "_" && eqSc P f.type t)
  | f :: f' :: fs, off, .pair a b => Nat.beq f.offset off && (f.name != "_" && (eqSc P f.type a && eqFld P (f' :: fs) (off + 1) b))
  | _, _, _ => false
def eqOK (P : Program) (T : Nat) (t : Ty) : Bool :=
  eqSc P T t || match P.underlying T with
    | some (.struct fs) => !P.stoodInHeld T && (!P.eqGuardType P.depth T && (t.isAgg && eqFld P fs.toList 0 t))
    | _ => false
def mapsOK (P : Program) : List (Nat × Nat × Nat) → Bool
  | [] => true
  | (T, K, V) :: l => (match P.underlying T with
    | some (.map K' V') => Nat.beq K K' && Nat.beq V V'
    | _ => false) && mapsOK P l
def checkTE (P : Program) (tab : List TE) (e : TE) : Bool := mapsOK P e.mps &&
  match P.info? e.id, P.underlying e.id with
  | some i, some d => Nat.beq i.size e.ty.size && (Nat.beq i.bytes e.bytes && ((match i.zero with
    | some v => zeroV e.ty v
    | none => false) && (descOK tab e d && (!e.eqs || eqOK P e.id e.ty))))
  | _, _ => false
def TabOK (P : Program) (tab : List TE) : Prop := tab.all (checkTE P tab) = true
theorem findTE_mem : (l : List TE) → (T : Nat) → (e : TE) → findTE l T = some e → e ∈ l ∧ e.id = T
  | [], _, _, h => by cases h
  | a :: l, T, e, h => by
    simp only [findTE] at h
    split at h
    · rename_i hb
      injection h with h
      subst h
      exact ⟨List.mem_cons_self .., Nat.eq_of_beq_eq_true hb⟩
    · have := findTE_mem l T e h
      exact ⟨List.mem_cons_of_mem _ this.1, this.2⟩
structure TEfacts (P : Program) (tab : List TE) (T : Nat) (e : TE) : Prop where
  info : ∃ i, P.info? T = some i ∧ i.size = e.ty.size ∧ i.bytes = e.bytes ∧ ∃ v, i.zero = some v ∧ zeroV e.ty v = true
  desc : ∃ d, P.underlying T = some d ∧ descOK tab e d = true
  eqs : e.eqs = true → eqOK P T e.ty = true
theorem mapsOK_find {P : Program} : (l : List (Nat × Nat × Nat)) → (T : Nat) → {K V : Nat} → mapsOK P l = true → findMp l T = some (K, V) → P.underlying T = some (.map K V)
  | [], _, _, _, _, h => by cases h
  | (T', K', V') :: l, T, K, V, hm, h => by
    simp only [mapsOK, Bool.and_eq_true] at hm
    simp only [findMp] at h
    split at h
    · rename_i hb
      injection h with h; injection h with h1 h2
      subst h1; subst h2
      have := Nat.eq_of_beq_eq_true hb
      subst this
      have h1 := hm.1
      split at h1
      · rename_i q1
        simp only [Bool.and_eq_true] at h1
        have e1 := Nat.eq_of_beq_eq_true h1.1
        have e2 := Nat.eq_of_beq_eq_true h1.2
        subst e1; subst e2
        exact q1
      · cases h1
    · exact mapsOK_find l T hm.2 h
theorem findMap_mem : (l : List TE) → (T : Nat) → {x : Nat × Nat} → findMap l T = some x → ∃ e, e ∈ l ∧ findMp e.mps T = some x
  | [], _, _, h => by cases h
  | e :: l, T, x, h => by
    simp only [findMap] at h
    split at h
    · rename_i y hy
      injection h with h
      exact ⟨e, List.mem_cons_self .., by rw [hy, h]⟩
    · obtain ⟨e', h1, h2⟩ := findMap_mem l T h
      exact ⟨e', List.mem_cons_of_mem _ h1, h2⟩
theorem TabOK.map {P : Program} {tab : List TE} (h : TabOK P tab) {T K V : Nat} (hf : findMap tab T = some (K, V)) : P.underlying T = some (.map K V) := by
  obtain ⟨e, hm, he⟩ := findMap_mem _ _ hf
  have := List.all_eq_true.1 h e hm
  unfold checkTE at this
  rw [Bool.and_eq_true] at this
  exact mapsOK_find _ _ this.1 he
theorem TabOK.find {P : Program} {tab : List TE} (h : TabOK P tab) {T : Nat} {e : TE} (hf : findTE tab T = some e) : TEfacts P tab T e := by
  obtain ⟨hm, rfl⟩ := findTE_mem _ _ _ hf
  have := List.all_eq_true.1 h e hm
  unfold checkTE at this
  rw [Bool.and_eq_true] at this
  replace this := this.2
  split at this
  · rename_i i d hi hd
    simp only [Bool.and_eq_true] at this
    obtain ⟨h1, h2, h3, h4, h5⟩ := this
    refine ⟨⟨i, hi, Nat.eq_of_beq_eq_true h1, Nat.eq_of_beq_eq_true h2, ?_⟩, ⟨d, hd, h4⟩, fun he => by rw [he] at h5; simpa using h5⟩
    split at h3
    · rename_i v hv; exact ⟨v, hv, h3⟩
    · cases h3
  · cases this
theorem Env.ty_some {E : Env} {T : Nat} {t : Ty} (h : E.ty T = some t) : ∃ e, findTE E.tab T = some e ∧ e.ty = t := by
  unfold Env.ty at h
  exact Option.map_eq_some_iff.1 h
section
variable {P : Program} {tab : List TE} {T : Nat} {e : TE}
theorem TEfacts.sizeOf (h : TEfacts P tab T e) (w : World) : (Go.sizeOf T).run P w = .ok e.ty.size w := by
  obtain ⟨i, hi, hs, _⟩ := h.info
  simp [Go.sizeOf, typeInfo, hi, hs]
theorem TEfacts.isAgg (h : TEfacts P tab T e) (w : World) : (Go.isAgg T).run P w = .ok e.ty.isAgg w := by
  obtain ⟨d, hd, hdo⟩ := h.desc
  have hu : (Go.underlying T).run P w = .ok d w := by simp [Go.underlying, hd]
  unfold Go.isAgg
  rw [Sem.run_bind, hu]
  cases d with
  | int k => have := Ty.eq_of_beq hdo; simp [this, Ty.isAgg]
  | bool => have := Ty.eq_of_beq hdo; simp [this, Ty.isAgg]
  | string => have := Ty.eq_of_beq hdo; simp [this, Ty.isAgg]
  | slice el =>
    simp only [descOK, Bool.and_eq_true] at hdo
    obtain ⟨_, hdo⟩ := hdo
    split at hdo
    · simp only [Bool.and_eq_true] at hdo
      have := Ty.eq_of_beq hdo.1; simp [this, Ty.isAgg]
    · cases hdo
  | struct fs =>
    simp only [descOK, Bool.and_eq_true] at hdo
    simp [hdo.1]
  | array n el =>
    simp only [descOK, Bool.and_eq_true] at hdo
    simp [hdo.1]
  | func ps rs v =>
    simp only [descOK] at hdo
    split at hdo
    · rename_i a b hab; simp [hab, Ty.isAgg]
    · cases hdo
  | _ => simp [descOK] at hdo
theorem TEfacts.underlying (h : TEfacts P tab T e) (w : World) : ∃ d, (Go.underlying T).run P w = .ok d w ∧ P.underlying T = some d ∧ descOK tab e d = true := by
  obtain ⟨d, hd, hdo⟩ := h.desc
  exact ⟨d, by simp [Go.underlying, hd], hd, hdo⟩
theorem TEfacts.slice (h : TEfacts P tab T e) {t : Ty} (he : e.ty = .sl t) : P.underlying T = some (.slice e.elem) ∧ ∃ te, findTE tab e.elem = some te ∧ te.ty = t ∧ t.size ≠ 0 := by
  obtain ⟨d, hd, hdo⟩ := h.desc
  cases d with
  | slice el =>
    simp only [descOK, Bool.and_eq_true] at hdo
    obtain ⟨h1, hdo⟩ := hdo
    have h1 := Nat.eq_of_beq_eq_true h1
    split at hdo
    · rename_i te hte
      simp only [Bool.and_eq_true] at hdo
      have h2 := Ty.eq_of_beq hdo.1
      rw [he] at h2
      injection h2 with h2
      rw [h1]
      refine ⟨hd, te, hte, h2.symm, fun h0 => ?_⟩
      have h3 := hdo.2
      rw [← h2, h0] at h3
      simp at h3
    · cases hdo
  | int k => have := Ty.eq_of_beq hdo; rw [he] at this; cases this
  | bool => have := Ty.eq_of_beq hdo; rw [he] at this; cases this
  | string => have := Ty.eq_of_beq hdo; rw [he] at this; cases this
  | struct fs => simp [descOK, he, Ty.isAgg] at hdo
  | array n el => simp [descOK, he, Ty.isAgg] at hdo
  | func ps rs v => simp [descOK, he] at hdo
  | _ => simp [descOK] at hdo
end
theorem zero_pair {a b : Ty} {z : (Ty.pair a b).den} (h : Ty.zero (.pair a b) = some z) : a.zero = some z.1 ∧ b.zero = some z.2 := by
  simp only [Ty.zero] at h
  split at h
  · rename_i x y hx hy
    injection h with h
    subst h
    exact ⟨hx, hy⟩
  · cases h
theorem zeroC_rep {P : Program} {w : World} {Sh : Nat → Prop} {cl : Nat → Mk → Claim} (hcl : ∀ c, ∃ B, cl c .own = .hold B (fun _ => True)) :
    (t : Ty) → ∀ {c : Nat} {cs : List Value} {z : t.den}, zeroC t cs = true → cs.length = t.size → t.zero = some z → RepX P w Sh cl t c cs z (ownMarks t)
  | .unit, _, cs, _, h, hl, _ => ⟨List.eq_nil_of_length_eq_zero hl, rfl⟩
  | .int k, _, cs, z, h, hl, hz => by
    match cs, hl with
    | [v], _ =>
      cases v <;> simp [zeroC] at h
      injection hz with hz
      refine ⟨_, rfl, ?_⟩
      rw [kindBeq_eq h.1, h.2, ← hz]; rfl
  | .bool, _, cs, z, h, hl, hz => by
    match cs, hl with
    | [v], _ =>
      cases v <;> simp [zeroC] at h
      injection hz with hz
      refine ⟨_, rfl, ?_⟩
      rw [h, ← hz]; rfl
  | .str, _, cs, z, h, hl, hz => by
    match cs, hl with
    | [v], _ =>
      cases v with
      | string s =>
        simp [zeroC] at h
        injection hz with hz
        refine ⟨_, rfl, ?_⟩
        show [Value.string s] = [Value.string ⟨⟨z⟩⟩]
        rw [← hz]
        obtain ⟨⟨l⟩⟩ := s
        simp at h
        rw [h]
      | _ => simp [zeroC] at h
  | .sl t, c, cs, z, h, hl, hz => by
    match cs, hl with
    | [v], _ =>
      cases v with
      | slice a len cap =>
        obtain rfl : a = none := by cases a with
          | none => rfl
          | some _ => simp [zeroC] at h
        obtain rfl : len = 0 := by cases len with
          | zero => rfl
          | succ _ => simp [zeroC] at h
        obtain rfl : cap = 0 := by cases cap with
          | zero => rfl
          | succ _ => simp [zeroC] at h
        injection hz with hz
        obtain ⟨B, hB⟩ := hcl c
        refine ⟨none, 0, 0, _, rfl, rfl, ?_⟩
        rw [hB, ← hz]
        exact ⟨⟨rfl, Nat.le_refl _, .inl rfl⟩, trivial⟩
      | _ => simp [zeroC] at h
  | .pair a b, c, cs, z, h, hl, hz => by
    have hz := zero_pair hz
    simp only [zeroC, Bool.and_eq_true] at h
    simp only [Ty.size] at hl
    exact ⟨cs.take a.size, cs.drop a.size, _, _, (List.take_append_drop _ _).symm, rfl,
      zeroC_rep hcl a h.1 (by rw [List.length_take]; omega) hz.1, zeroC_rep hcl b h.2 (by rw [List.length_drop]; omega) hz.2⟩
  | .ptr _, _, _, _, _, _, hz => by cases hz
  | .fn _ _, _, _, _, _, _, hz => by cases hz
theorem TEfacts.zero {P : Program} {tab : List TE} {T : Nat} {e : TE} (h : TEfacts P tab T e) {z : e.ty.den} (hz : e.ty.zero = some z) (w : World) :
    ∃ cs, (zeroValue T).run P w = .ok (mkV e.ty cs) w ∧ cs.length = e.ty.size ∧ (mkV e.ty cs).cells = cs.toArray ∧ zeroC e.ty cs = true := by
  obtain ⟨i, hi, hs, _, v, hv, hzv⟩ := h.info
  have hrun : (zeroValue T).run P w = .ok v w := by simp [zeroValue, Go.typeInfo, hi, hv]
  cases hag : e.ty.isAgg with
  | true =>
    unfold zeroV at hzv
    rw [hag] at hzv
    cases v <;> simp at hzv
    rename_i cs
    have hl : ∀ (t : Ty) (cs : List Value) (z : t.den), zeroC t cs = true → t.zero = some z → cs.length = t.size := by
      intro t
      induction t with
      | pair a b iha ihb =>
        intro cs z h hz
        have hz := zero_pair hz
        simp only [zeroC, Bool.and_eq_true] at h
        have h1 := iha _ _ h.1 hz.1
        have h2 := ihb _ _ h.2 hz.2
        have := List.take_append_drop a.size cs
        have hh : cs.length = (cs.take a.size).length + (cs.drop a.size).length := by rw [← List.length_append, this]
        rw [hh, h1, h2]; rfl
      | unit => intro cs z h _; cases cs <;> simp_all [zeroC, Ty.size]
      | int k => intro cs z h _; match cs with
        | [] => simp [zeroC] at h
        | [v] => rfl
        | _ :: _ :: _ => simp [zeroC] at h
      | bool => intro cs z h _; match cs with
        | [] => simp [zeroC] at h
        | [v] => rfl
        | _ :: _ :: _ => simp [zeroC] at h
      | str => intro cs z h _; match cs with
        | [] => simp [zeroC] at h
        | [v] => rfl
        | _ :: _ :: _ => simp [zeroC] at h
      | sl t => intro cs z h _; match cs with
        | [] => simp [zeroC] at h
        | [v] => rfl
        | _ :: _ :: _ => simp [zeroC] at h
      | ptr t => intro cs z h hz; cases hz
      | fn a b => intro cs z h hz; cases hz
    refine ⟨cs.toList, ?_, hl _ _ _ hzv hz, ?_, hzv⟩
    · rw [hrun]; simp [mkV, hag]
    · simp [mkV, hag, Value.cells]
  | false =>
    unfold zeroV at hzv
    rw [hag] at hzv
    simp only at hzv
    refine ⟨[v], by rw [hrun]; simp [mkV, hag], ?_, ?_, hzv⟩
    · cases ht : e.ty <;> simp_all [Ty.size, Ty.isAgg]
    · simp only [mkV, hag, Bool.false_eq_true, ↓reduceIte, List.headD_cons]
      cases ht : e.ty <;> rw [ht] at hzv hag <;> simp [Ty.isAgg] at hag <;> cases v <;> first | rfl | simp [zeroC] at hzv
theorem eqSc_run {P : Program} {w : World} {T : Nat} {t : Ty} {c d : List Value} {x y : t.den} {Ok : Nat → Prop} (h : eqSc P T t = true) (hx : RepC P t w Ok c x) (hy : RepC P t w Ok d y) (n : Nat) :
    ∃ u v b, c = [u] ∧ d = [v] ∧ (Op.equalIn (n + 1) T u v).run P w = .ok b w ∧ eqTy t x y = some b ∧ u.cells = #[u] ∧ v.cells = #[v] ∧ (isAgg T).run P w = .ok false w := by
  cases t with
  | bool =>
    simp only [eqSc] at h
    split at h
    · rename_i hu
      exact ⟨_, _, _, hx, hy, run_equalIn_bool' w n T x y hu, rfl, rfl, rfl, by simp [Go.isAgg, Go.underlying, hu]⟩
    · cases h
  | int k =>
    simp only [eqSc] at h
    split at h
    · rename_i k' hu
      exact ⟨_, _, _, hx, hy, run_equalIn_int w n T k k' x y hu, rfl, rfl, rfl, by simp [Go.isAgg, Go.underlying, hu]⟩
    · cases h
  | str =>
    simp only [eqSc] at h
    split at h
    · rename_i hu
      refine ⟨_, _, _, hx, hy, run_equalIn_string w n T _ _ hu, ?_, rfl, rfl, by simp [Go.isAgg, Go.underlying, hu]⟩
      rw [ByteArray.toList_eq, ByteArray.toList_eq]
      rfl
    · cases h
  | _ => simp [eqSc] at h
theorem part_cell {P : Program} {w : World} {T : Nat} {cs : Array Value} {off : Nat} {v : Value} (h : (isAgg T).run P w = .ok false w) (hc : cs[off]? = some v) :
    (part T cs off).run P w = .ok v w := by
  simp [part, h, hc]
theorem eqFld_run {P : Program} {w : World} {Ok : Nat → Prop} (n : Nat) (xs ys : Array Value) : (fs : List Field) → ∀ (off : Nat) (t : Ty) (c d : List Value) (x y : t.den), eqFld P fs off t = true →
    RepC P t w Ok c x → RepC P t w Ok d y → (∀ i u, c[i]? = some u → xs[off + i]? = some u) → (∀ i u, d[i]? = some u → ys[off + i]? = some u) →
    ∃ b, (Op.eqFields (n + 1) xs ys fs).run P w = .ok b w ∧ eqTy t x y = some b
  | [], _, _, _, _, _, _, h, _, _, _, _ => by simp [eqFld] at h
  | [f], off, t, c, d, x, y, h, hx, hy, hc, hd => by
    simp only [eqFld, Bool.and_eq_true, bne_iff_ne] at h
    obtain ⟨h1, h2, h3⟩ := h
    obtain ⟨u, v, b, rfl, rfl, hr, he, _, _, ha⟩ := eqSc_run (w := w) h3 hx hy n
    refine ⟨b, ?_, he⟩
    have e1 := Nat.eq_of_beq_eq_true h1
    have p1 := part_cell (cs := xs) (off := f.offset) ha (by rw [e1]; exact hc 0 u rfl)
    have p2 := part_cell (cs := ys) (off := f.offset) ha (by rw [e1]; exact hd 0 v rfl)
    simp only [Op.eqFields, ne_eq, h2, not_false_eq_true, if_true, Sem.run_bind, p1, p2, hr, Result.andThen_ok]
    cases b <;> simp
  | f :: f' :: fs, off, .pair a b, c, d, x, y, h, hx, hy, hc, hd => by
    simp only [eqFld, Bool.and_eq_true, bne_iff_ne] at h
    obtain ⟨h1, h2, h3, h4⟩ := h
    obtain ⟨c1, c2, rfl, hx1, hx2⟩ := hx
    obtain ⟨d1, d2, rfl, hy1, hy2⟩ := hy
    obtain ⟨u, v, b1, rfl, rfl, hr, he, _, _, ha⟩ := eqSc_run (w := w) h3 hx1 hy1 n
    have e1 := Nat.eq_of_beq_eq_true h1
    have p1 := part_cell (cs := xs) (off := f.offset) ha (by rw [e1]; exact hc 0 u rfl)
    have p2 := part_cell (cs := ys) (off := f.offset) ha (by rw [e1]; exact hd 0 v rfl)
    obtain ⟨b2, hr2, he2⟩ := eqFld_run n xs ys (f' :: fs) (off + 1) b c2 d2 x.2 y.2 h4 hx2 hy2
      (fun i u hu => by have := hc (i + 1) u (by simpa using hu); rwa [show off + 1 + i = off + (i + 1) by omega])
      (fun i u hu => by have := hd (i + 1) u (by simpa using hu); rwa [show off + 1 + i = off + (i + 1) by omega])
    refine ⟨b1 && b2, ?_, by simp only [eqTy, he, he2]⟩
    rw [Op.eqFields]
    simp only [ne_eq, h2, not_false_eq_true, if_true, Sem.run_bind, p1, p2, hr, Result.andThen_ok]
    cases b1 with
    | false => simp
    | true => simp [hr2]
  | _ :: _ :: _, _, .unit, _, _, _, _, h, _, _, _, _ => by simp [eqFld] at h
  | _ :: _ :: _, _, .int _, _, _, _, _, h, _, _, _, _ => by simp [eqFld] at h
  | _ :: _ :: _, _, .bool, _, _, _, _, h, _, _, _, _ => by simp [eqFld] at h
  | _ :: _ :: _, _, .str, _, _, _, _, h, _, _, _, _ => by simp [eqFld] at h
  | _ :: _ :: _, _, .sl _, _, _, _, _, h, _, _, _, _ => by simp [eqFld] at h
  | _ :: _ :: _, _, .ptr _, _, _, _, _, h, _, _, _, _ => by simp [eqFld] at h
  | _ :: _ :: _, _, .fn _ _, _, _, _, _, h, _, _, _, _ => by simp [eqFld] at h
theorem eqOK_run {P : Program} {w : World} {Ok : Nat → Prop} {T : Nat} {t : Ty} {c d : List Value} {x y : t.den} (h : eqOK P T t = true) (hx : RepC P t w Ok c x) (hy : RepC P t w Ok d y) (op : BinOp) (p q : Operand)
    (hint : ∀ k, t ≠ .int k) : ∃ b, eqTy t x y = some b ∧ (op = .eql → (do eqGuard op T p q (mkV t c) (mkV t d); binOp op T (mkV t c) (mkV t d) : Sem Value).run P w = .ok (.bool b) w) ∧
      (op = .neq → (do eqGuard op T p q (mkV t c) (mkV t d); binOp op T (mkV t c) (mkV t d) : Sem Value).run P w = .ok (.bool !b) w) := by
  simp only [eqOK, Bool.or_eq_true] at h
  rcases h with h | h
  · obtain ⟨u, v, b, rfl, rfl, hr, he, _, _, ha⟩ := eqSc_run (w := w) h hx hy 9999
    refine ⟨b, he, ?_⟩
    cases t with
    | int k => exact absurd rfl (hint k)
    | bool =>
      have e1 : u = .bool x := by injection (show [u] = [Value.bool x] from hx)
      have e2 : v = .bool y := by injection (show [v] = [Value.bool y] from hy)
      subst e1; subst e2
      constructor
      · rintro rfl
        simp [mkV, Ty.isAgg, eqGuard, binOp, Op.equal, Op.maxDepth, hr]
      · rintro rfl
        simp [mkV, Ty.isAgg, eqGuard, binOp, Op.equal, Op.maxDepth, hr]
    | str =>
      have e1 : u = .string ⟨⟨x⟩⟩ := by injection (show [u] = [Value.string ⟨⟨x⟩⟩] from hx)
      have e2 : v = .string ⟨⟨y⟩⟩ := by injection (show [v] = [Value.string ⟨⟨y⟩⟩] from hy)
      subst e1; subst e2
      have hb : ((show List UInt8 from x) == (show List UInt8 from y)) = b := by
        simpa only [eqTy, Option.some.injEq] using he
      constructor
      · rintro rfl
        simp [mkV, Ty.isAgg, eqGuard, binOp, Op.stringOp]
        exact hb
      · rintro rfl
        simp [mkV, Ty.isAgg, eqGuard, binOp, Op.stringOp]
        exact hb
    | _ => simp [eqSc] at h
  · split at h
    · rename_i fs hu
      simp only [Bool.and_eq_true, Bool.not_eq_true'] at h
      obtain ⟨h1, h2, h3, h4⟩ := h
      have hf : P.underlying T = some (.struct (P.fieldsOf T)) := by simp [Program.fieldsOf, hu]
      have hff : P.fieldsOf T = fs := by simp [Program.fieldsOf, hu]
      obtain ⟨b, hr, he⟩ := eqFld_run (P := P) 9998 c.toArray d.toArray fs.toList 0 t c d x y h4 hx hy (fun i u hu => by simpa using hu) (fun i u hu => by simpa using hu)
      have hq : (Op.equalIn 10000 T (.agg c.toArray) (.agg d.toArray)).run P w = .ok b w := by
        rw [run_equalIn_struct w 9999 T _ _ hf h1, hff]; exact hr
      have hg := fun op => run_eqGuard_agg (P := P) w op T p q c.toArray d.toArray h2
      refine ⟨b, he, ?_, ?_⟩
      · rintro rfl
        simp only [mkV, h3, if_true, Sem.run_bind, hg, Result.andThen_ok, run_eql_struct, hq]
      · rintro rfl
        simp only [mkV, h3, if_true, Sem.run_bind, hg, Result.andThen_ok, run_neq_struct, hq]
    · cases h
end Go.GD
end

section
namespace Go.GD
open Go
structure Grow (C : Ctx) (g : Own) (σ : St) (w : World) (g' : Own) (w' : World) : Prop where
  hs : w.heap.size ≤ w'.heap.size
  hH : ∀ b, b < w.heap.size → w'.heap[b]? = w.heap[b]?
  hn : ∀ b, b < w.heap.size → g b = none → g' b = none
  ho : ∀ b, b < w.heap.size → ∀ s c, ((listGet σ s).a.mark c).isOwn = true → g b = some (s, some c) → g' b = some (s, some c)
  hbx : ∀ b, b < w.heap.size → ∀ s, g b = some (s, none) → g' b = some (s, none)
  hok : ∀ b, g' b ≠ none → b < w'.heap.size ∧ (C.base ≤ b ∨ C.G b)
  io : SameIO w w'
theorem Grow.refl {C : Ctx} {g : Own} {σ : St} {tm : Array Value} {w : World} (h : SRep C g σ tm w) : Grow C g σ w g w :=
  ⟨Nat.le_refl _, fun _ _ => rfl, fun _ _ h => h, fun _ _ _ _ _ h => h, fun _ _ _ h => h, h.gok, .refl w⟩
theorem Grow.heap {C : Ctx} {g : Own} {σ : St} {tm : Array Value} {w w' : World} (h : SRep C g σ tm w) (he : w'.heap = w.heap) (hio : SameIO w w') : Grow C g σ w g w' :=
  ⟨by rw [he]; exact Nat.le_refl _, fun _ _ => by rw [he], fun _ _ h => h, fun _ _ _ _ _ h => h, fun _ _ _ h => h, fun b hb => by rw [he]; exact h.gok b hb, hio⟩
theorem Grow.step {C : Ctx} {g g' : Own} {σ : St} {tm tm' : Array Value} {w w' : World} {d : Nat} {a' : A} {i' n' : Nat} (gr : Grow C g σ w g' w')
    (htm : tm'.size = tm.size) (htm' : ∀ s, s ≠ d → tm'.getD s undef = tm.getD s undef) (hgen : (listGet σ d).gen < n')
    (hid : (i' = (listGet σ d).id ∧ tm'.getD d undef = tm.getD d undef) ∨ (listGet σ d).id < i') (hpin : ∀ v, C.pin d = some v → a'.isBox = true → tm'.getD d undef = v) : Step C g σ tm w g' tm' w' d a' i' n' :=
  ⟨gr.hs, fun b hb _ => gr.hH b hb, gr.hn, fun b hb s c _ => gr.ho b hb s c, fun b hb s _ => gr.hbx b hb s, gr.hok, htm, htm', hgen, hid, gr.io, hpin⟩
theorem getD_set_same {tm : Array Value} {d : Nat} {v : Value} (h : d < tm.size) : (tm.setIfInBounds d v).getD d undef = v := by
  simp [Array.getD, h]
theorem getD_set_other {tm : Array Value} {d s : Nat} {v : Value} (h : s ≠ d) : (tm.setIfInBounds d v).getD s undef = tm.getD s undef := by
  simp only [Array.getD_eq_getD_getElem?, Array.getElem?_setIfInBounds]
  rw [if_neg (fun e => h e.symm)]
theorem SRep.grow {C : Ctx} {g g' : Own} {σ : St} {tm : Array Value} {w w' : World} (h : SRep C g σ tm w) (gr : Grow C g σ w g' w') : SRep C g' σ tm w' := by
  have st : Step C g σ tm w g' tm w' σ.length .top 1 1 := gr.step rfl (fun _ _ => rfl) (by rw [listGet_out _ _ (Nat.le_refl _)]; exact Nat.one_pos) (.inr (by rw [listGet_out _ _ (Nat.le_refl _)]; exact Nat.one_pos)) (fun _ _ hb => by cases hb)
  have := h.replace st (fun hl => absurd hl (Nat.lt_irrefl _))
  rwa [listSet_out _ _ _ (Nat.le_refl _)] at this
theorem put_sound {C : Ctx} {g g' : Own} {σ : St} {tm : Array Value} {w w' : World} {dst : Option Nat} {a0 : A} {v : Value} {ρ : Type} {K : St → Option ρ} {r : ρ} {ds : List Deferred}
    (h : SRep C g σ tm w) (gr : Grow C g σ w g' w')
    (new : ∀ d, dst = some d → d < σ.length → ∀ σ' tm', HandLe C g σ tm w g' σ' tm' w' → SlotRep C g' σ' tm' w' d v a0 ∧ bndA σ' a0)
    (hr : (putA dst a0 .fin).run σ K = some r) (hbox : a0.isBox = false ∨ ∀ d, dst = some d → C.pin d = none := by exact .inl rfl) :
    ∃ σ', SRep C g' σ' ((⟨tm, ds⟩ : Act).put dst v).tmps w' ∧ K σ' = some r ∧ ((⟨tm, ds⟩ : Act).put dst v).defers = ds := by
  cases dst with
  | none => exact ⟨σ, h.grow gr, hr, rfl⟩
  | some d =>
    simp only [putA, Prog.run] at hr
    have st : Step C g σ tm w g' (tm.setIfInBounds d v) w' d a0 ((listGet σ d).id + 1) ((listGet σ d).gen + 1) :=
      gr.step (by simp) (fun s hs => getD_set_other hs) (by omega) (.inr (by omega)) (fun v' hv hb => by
        rcases hbox with hbox | hbox
        · rw [hbox] at hb; cases hb
        · rw [hbox d rfl] at hv; cases hv)
    refine ⟨_, h.replace st (fun hl => ?_), hr, rfl⟩
    have hN : σ.length ≠ d := by omega
    have := new d rfl hl _ _ ((st.carry h _ hN).hand st.gens (listSet_length _ _ _))
    change SlotRep C g' _ (tm.setIfInBounds d v) w' d ((tm.setIfInBounds d v).getD d undef) a0 ∧ _
    rw [getD_set_same (by rw [h.len]; exact hl)]
    exact this
section
variable {C : Ctx} {g g' : Own} {σ σ' : St} {tm tm' : Array Value} {w w' : World}
theorem handy_val {tv : TV} (h : NoOwn tv.ms) : (A.val tv).handy := by
  intro i
  have : ∀ (ms : List Mk) (i : Nat), NoOwn ms → (markAt ms i).isOwn = false := by
    intro ms
    induction ms with
    | nil => intro i _; rfl
    | cons a l ih =>
      intro i hn
      cases i with
      | zero =>
        have := hn a (List.mem_cons_self ..)
        cases a <;> first | rfl | exact absurd rfl this
      | succ i => exact ih i (fun m hm => hn m (List.mem_cons_of_mem _ hm))
  exact this _ _ h
theorem Val.later (hv : HandLe C g σ tm w g' σ' tm' w') {v : Value} {tv : TV} (h : Val C g σ tm w v tv) : Val C g' σ' tm' w' v tv := by
  obtain ⟨cs, e, hx, hn, hb⟩ := h
  obtain ⟨cs', e', hx'⟩ := hv.rep v (.val tv) (handy_val hn) hb ⟨cs, e, hx.place _ _ hn⟩
  exact ⟨cs', e', hx'.place _ _ hn, hn, fun m hm => bndM_mono (fun s => (hv.gens s).1) (hb m hm)⟩
theorem Val.slot {v : Value} {tv : TV} (h : Val C g σ tm w v tv) (d c : Nat) : ValRep C g σ tm w d c v tv := by
  obtain ⟨cs, e, hx, hn, hb⟩ := h
  exact ⟨cs, e, hx.place _ _ hn⟩
theorem TupRep.of_vals {d : Nat} : (vs : List TV) → (c : Nat) → (vals : List Value) → vals.length = vs.length →
    (∀ (i : Nat) (u : Value) (tv : TV), vals[i]? = some u → vs[i]? = some tv → Val C g σ tm w u tv) → TupRep C g σ tm w d c vals vs
  | [], _, [], _, _ => trivial
  | [], _, _ :: _, hl, _ => by simp at hl
  | _ :: _, _, [], hl, _ => by simp at hl
  | tv :: vs, c, v :: vals, hl, h =>
    ⟨(h 0 v tv rfl rfl).slot d c, TupRep.of_vals vs _ vals (by simpa using hl) fun i u tv hu htv => h (i + 1) u tv hu htv⟩
theorem AV.new {v : Value} {a : A} (h : AV C g σ tm w v a) (hv : HandLe C g σ tm w g' σ' tm' w') (d : Nat) : SlotRep C g' σ' tm' w' d v a ∧ bndA σ' a := by
  cases a with
  | top => exact h.elim
  | box _ => exact h.elim
  | val tv =>
    have := Val.later hv h
    exact ⟨this.slot d 0, this.choose_spec.2.2.2⟩
  | tup vs =>
    obtain ⟨vals, e, hl, hp⟩ := h
    refine ⟨⟨vals, e, TupRep.of_vals vs 0 vals hl fun i u tv hu htv => Val.later hv (hp i u tv hu htv)⟩, fun tv htv m hm => ?_⟩
    obtain ⟨i, hi, he⟩ := List.mem_iff_getElem.1 htv
    have := Val.later hv (hp i (vals[i]'(by omega)) tv (List.getElem?_eq_getElem _) (by rw [List.getElem?_eq_getElem hi, he]))
    exact this.choose_spec.2.2.2 m hm
  | mp _ _ => exact h.elim
  | mref s id => exact ⟨hv.rep v _ (fun _ => rfl) h.2 h.1, bndA_mono hv.gens h.2⟩
  | bptr s off id => exact ⟨hv.rep v _ (fun _ => rfl) h.2 h.1, bndA_mono hv.gens h.2⟩
  | eptr s c gn i t x off => exact ⟨hv.rep v _ (fun _ => rfl) h.2 h.1, bndA_mono hv.gens h.2⟩
  | cptr t x b =>
    obtain ⟨h1, h2⟩ := h
    have := hv.rep v (.cptr t x b) (fun _ => rfl) h2 (by cases b <;> exact h1)
    exact ⟨by cases b <;> exact this, bndA_mono hv.gens h2⟩
theorem Val.int (k : IntKind) (n : Int) : Val C g σ tm w (.int k n) ⟨.int k, n, [.shr]⟩ :=
  ⟨_, rfl, ⟨_, rfl, rfl⟩, fun m hm => by simp at hm; subst hm; simp, fun m hm => by simp at hm; subst hm; trivial⟩
theorem Val.bool (b : Bool) : Val C g σ tm w (.bool b) ⟨.bool, b, [.shr]⟩ :=
  ⟨_, rfl, ⟨_, rfl, rfl⟩, fun m hm => by simp at hm; subst hm; simp, fun m hm => by simp at hm; subst hm; trivial⟩
end
def Good {ρ : Type} (C : Ctx) (K : St → Option ρ) (r : ρ) (ds : List Deferred) (next : Act → World → Prop) : Prop :=
  ∀ g' σ' (a' : Act) w', SRep C g' σ' a'.tmps w' → a'.defers = ds → K σ' = some r → next a' w'
theorem av_sound {C : Ctx} {g g' : Own} {σ : St} {tm : Array Value} {w w' : World} {o : Oper} {a0 : A} {v : Value} {ρ : Type} {K : St → Option ρ} {r : ρ} {ds : List Deferred}
    {next : Act → World → Prop} {Q : Exit → Act → World → Prop}
    (h : SRep C g σ tm w) (gr : Grow C g σ w g' w') (hexec : (execOp (Act.eval ⟨tm, ds⟩) o).run C.P w = .ok (.value v) w')
    (ha : AV C g σ tm w v a0) (hr : (putA o.dst a0 .fin).run σ K = some r) (hK : Good C K r ds next) : o.wp C.P ⟨tm, ds⟩ w next Q := by
  unfold Oper.wp
  rw [hexec, Oper.upon_value]
  obtain ⟨σ', h1, h2, h3⟩ := put_sound (v := v) (ds := ds) h gr (fun d _ _ σ' tm' hv => ha.new hv d) hr (by
    cases a0 with
    | box _ => exact ha.elim
    | _ => exact .inl rfl)
  exact hK _ _ _ _ h1 h3 h2
theorem new_sound {C : Ctx} {g g' : Own} {σ : St} {tm : Array Value} {w w' : World} {o : Oper} {a0 : A} {v : Value} {ρ : Type} {K : St → Option ρ} {r : ρ} {ds : List Deferred}
    {next : Act → World → Prop} {Q : Exit → Act → World → Prop}
    (h : SRep C g σ tm w) (gr : Grow C g σ w g' w') {w0 : World} (hexec : (execOp (Act.eval ⟨tm, ds⟩) o).run C.P w0 = .ok (.value v) w')
    (new : ∀ d, o.dst = some d → d < σ.length → ∀ σ' tm', HandLe C g σ tm w g' σ' tm' w' → SlotRep C g' σ' tm' w' d v a0 ∧ bndA σ' a0)
    (hr : (putA o.dst a0 .fin).run σ K = some r) (hK : Good C K r ds next) (hbox : a0.isBox = false ∨ ∀ d, o.dst = some d → C.pin d = none := by exact .inl rfl) : o.wp C.P ⟨tm, ds⟩ w0 next Q := by
  unfold Oper.wp
  rw [hexec, Oper.upon_value]
  obtain ⟨σ', h1, h2, h3⟩ := put_sound (v := v) (ds := ds) h gr new hr hbox
  exact hK _ _ _ _ h1 h3 h2
def handTo (g : Own) (N d off : Nat) : Own := fun b =>
  match g b with
  | some (s, some c) => if s = N then some (d, some (off + c)) else some (s, some c)
  | x => x
theorem handTo_none {g : Own} {N d off b : Nat} (h : g b = none) : handTo g N d off b = none := by simp [handTo, h]
theorem handTo_box {g : Own} {N d off b s : Nat} (h : g b = some (s, none)) : handTo g N d off b = some (s, none) := by simp [handTo, h]
theorem handTo_other {g : Own} {N d off b s c : Nat} (h : g b = some (s, some c)) (hs : s ≠ N) : handTo g N d off b = some (s, some c) := by simp [handTo, h, hs]
theorem handTo_hand {g : Own} {N d off b c : Nat} (h : g b = some (N, some c)) : handTo g N d off b = some (d, some (off + c)) := by simp [handTo, h]
theorem handTo_le {g : Own} {N d off b : Nat} (h : handTo g N d off b ≠ none) : g b ≠ none := fun hb => h (handTo_none hb)
theorem Grow.handTo {C : Ctx} {g : Own} {σ : St} {tm : Array Value} {w : World} (h : SRep C g σ tm w) (d off : Nat) : Grow C g σ w (handTo g σ.length d off) w := by
  refine ⟨Nat.le_refl _, fun _ _ => rfl, fun b _ hb => handTo_none hb, fun b _ s c hm hb => handTo_other hb ?_, fun b _ s hb => handTo_box hb, fun b hb => h.gok b (handTo_le hb), .refl w⟩
  intro e
  rw [e, listGet_out _ _ (Nat.le_refl _)] at hm
  cases hm
theorem laid_cells {C : Ctx} {g1 g' : Own} {σ1 σ' : St} {tm tm' : Array Value} {w w' : World} {N d off : Nat} {t : Ty} {cs : List Value} {x : t.den} {ms : List Mk}
    (hx : RepX C.P w (Shd C g1) (cl g1 σ1 tm w N) t 0 cs x ms) (hl : Laid ms) (hsh : Mono w (Shd C g1) w' (Shd C g'))
    (hp : ∀ c, Mono w (fun b => g1 b = some (N, some c)) w' (fun b => g' b = some (d, some (off + c)))) :
    RepX C.P w' (Shd C g') (cl g' σ' tm' w' d) t off cs x ms := by
  have hlen := RepX.length _ hx
  refine RepX.trans hsh t hx rfl fun i hi => ?_
  rw [Nat.zero_add]
  rcases hl _ (mem_of_markAt ms i (by omega)) with e | e | e <;> rw [e]
  · exact .hold _ _ _ _ (hp i) (fun _ h => h)
  · exact .share _
  · exact .nil
theorem laid_bnd {σ : St} {ms : List Mk} (hl : Laid ms) : ∀ m, m ∈ ms → bndM σ m := by
  intro m hm
  rcases hl m hm with rfl | rfl | rfl <;> trivial
theorem mono_handTo {C : Ctx} {g : Own} {w : World} (N d off : Nat) : Mono w (Shd C g) w (Shd C (handTo g N d off)) :=
  ⟨Nat.le_refl _, fun _ _ hb => ⟨rfl, hb.1, handTo_none hb.2⟩⟩
end Go.GD
end
