import GoSem.Core.Code
import GoSem.Core.View
import Derived.KernelRfl
namespace Go.GD
noncomputable section

/-! The typed data of the programs, and a reading of code as a function on such data. -/

inductive Ty where
  | unit | int (k : IntKind) | bool | str
  | pair (a b : Ty) | sl (t : Ty) | ptr (t : Ty) | fn (a b : Ty)
  deriving DecidableEq, Repr, Inhabited

@[reducible] def Ty.den : Ty → Type
  | .unit => Unit
  | .int _ => Int
  | .bool => Bool
  | .str => List UInt8
  | .pair a b => a.den × b.den
  | .sl t => List t.den
  | .ptr t => t.den
  | .fn a b => a.den → Option b.den

def kindBeq : IntKind → IntKind → Bool
  | .i8, .i8 | .i16, .i16 | .i32, .i32 | .i64, .i64 | .u8, .u8 | .u16, .u16 | .u32, .u32 | .u64, .u64 => true
  | _, _ => false

def Ty.beq : Ty → Ty → Bool
  | .unit, .unit => true
  | .int k, .int k' => kindBeq k k'
  | .bool, .bool => true
  | .str, .str => true
  | .pair a b, .pair a' b' => a.beq a' && b.beq b'
  | .sl a, .sl a' => a.beq a'
  | .ptr a, .ptr a' => a.beq a'
  | .fn a b, .fn a' b' => a.beq a' && b.beq b'
  | _, _ => false

theorem kindBeq_eq {a b : IntKind} (h : kindBeq a b = true) : a = b := by
  cases a <;> cases b <;> first | rfl | simp [kindBeq] at h

theorem Ty.eq_of_beq : {a b : Ty} → a.beq b = true → a = b
  | .unit, b, h => by cases b <;> simp_all [Ty.beq]
  | .int k, b, h => by cases b <;> simp_all [Ty.beq]; exact kindBeq_eq h
  | .bool, b, h => by cases b <;> simp_all [Ty.beq]
  | .str, b, h => by cases b <;> simp_all [Ty.beq]
  | .pair x y, b, h => by
    cases b <;> simp [Ty.beq] at h
    rw [Ty.eq_of_beq h.1, Ty.eq_of_beq h.2]
  | .sl x, b, h => by
    cases b <;> simp [Ty.beq] at h
    rw [Ty.eq_of_beq h]
  | .ptr x, b, h => by
    cases b <;> simp [Ty.beq] at h
    rw [Ty.eq_of_beq h]
  | .fn x y, b, h => by
    cases b <;> simp [Ty.beq] at h
    rw [Ty.eq_of_beq h.1, Ty.eq_of_beq h.2]

/-- how many cells a value of the type takes -/
def Ty.size : Ty → Nat
  | .unit => 0
  | .pair a b => a.size + b.size
  | _ => 1

def Ty.isAgg : Ty → Bool
  | .unit | .pair .. => true
  | _ => false

def Ty.zero : (t : Ty) → Option t.den
  | .unit => some ()
  | .int _ => some (0 : Int)
  | .bool => some false
  | .str => some ([] : List UInt8)
  | .pair a b => match a.zero, b.zero with
    | some x, some y => some (x, y)
    | _, _ => none
  | .sl _ => some []
  | .ptr _ => none
  | .fn _ _ => none

def castD {a b : Ty} (h : a.beq b = true) (x : a.den) : b.den := (Ty.eq_of_beq h) ▸ x

def castO (a b : Ty) (x : a.den) : Option b.den :=
  if h : a.beq b = true then some (castD h x) else none

/-- marks of slices: shared; owned here; a look at the place (slot, cell) as it was at a generation; a part of it;
    a look at a variable's memory; the nil slice; shared and not nil; nothing is known -/
inductive Mk where
  | shr | own | ref (s c g : Nat) | sub (s c g : Nat) | bor (l : List (Nat × Nat × List Nat)) | nil | nn | dead
  deriving Repr, Inhabited

def ownMarks : Ty → List Mk
  | .unit => []
  | .pair a b => ownMarks a ++ ownMarks b
  | .sl _ => [.own]
  | _ => [.shr]

def nilMarks : Ty → List Mk
  | .unit => []
  | .pair a b => nilMarks a ++ nilMarks b
  | .sl _ => [.nil]
  | _ => [.shr]

def shrMarks : Ty → List Mk
  | .unit => []
  | .pair a b => shrMarks a ++ shrMarks b
  | _ => [.shr]

structure TV where
  t : Ty
  x : t.den
  ms : List Mk

inductive A where
  | top
  | val (v : TV)
  | tup (vs : List TV)
  | box (v : TV)
  | bptr (s off id : Nat)
  | eptr (s c g : Nat) (i : Nat) (t : Ty) (x : t.den) (off : Nat)
  | cptr (t : Ty) (x : t.den) (bor : Option (Nat × Nat × Nat))
  /-- a map with int64 keys that this call alone holds -/
  | mp (t : Ty) (ks : List (Int × t.den))
  /-- the map that slot s holds -/
  | mref (s id : Nat)
  deriving Inhabited

structure Slot where
  a : A
  id : Nat
  gen : Nat
  deriving Inhabited

abbrev St := List Slot


/-- part of type b at cell offset off: reading -/
def getAt : (t : Ty) → t.den → (off : Nat) → (b : Ty) → Option b.den
  | .pair l r, x, off, b =>
    if h : (Nat.beq off 0 && (Ty.pair l r).beq b) = true then some (castD (Bool.and_eq_true_iff.1 h).2 x)
    else if Nat.blt off l.size then getAt l x.1 off b else getAt r x.2 (off - l.size) b
  | t, x, off, b => if h : (Nat.beq off 0 && t.beq b) = true then some (castD (Bool.and_eq_true_iff.1 h).2 x) else none

/-- the same part replaced -/
def setAt : (t : Ty) → t.den → (off : Nat) → (b : Ty) → b.den → Option t.den
  | .pair l r, x, off, b, y =>
    if h : (Nat.beq off 0 && b.beq (Ty.pair l r)) = true then some (castD (Bool.and_eq_true_iff.1 h).2 y)
    else if Nat.blt off l.size then (setAt l x.1 off b y).map fun z => (z, x.2) else (setAt r x.2 (off - l.size) b y).map fun z => (x.1, z)
  | t, _, off, b, y => if h : (Nat.beq off 0 && b.beq t) = true then some (castD (Bool.and_eq_true_iff.1 h).2 y) else none

inductive Prog : Type 1 where
  | fin
  | fail
  | get (s : Nat) (k : Slot → Prog)
  | put (s : Nat) (v : Slot) (k : Prog)
  | br (b : Bool) (p q : Prog)
  | brs (s : Nat) (p q u : Prog)
  | both (p q : Prog)
  | bind {α : Type} (o : Option α) (k : α → Prog)

def listSet : List Slot → Nat → Slot → List Slot
  | [], _, _ => []
  | _ :: l, 0, v => v :: l
  | a :: l, n + 1, v => a :: listSet l n v

def listGet : List Slot → Nat → Slot
  | [], _ => ⟨.top, 0, 0⟩
  | a :: _, 0 => a
  | _ :: l, n + 1 => listGet l n

/-- two readings that must agree -/
def bothO {ρ : Type} (a b : Option ρ) : Option ρ := open Classical in if a = b then a else none

def Prog.run {ρ : Type} : Prog → St → (St → Option ρ) → Option ρ
  | .fin, σ, k => k σ
  | .fail, _, _ => none
  | .get s p, σ, k => (p (listGet σ s)).run σ k
  | .put s v p, σ, k => p.run (listSet σ s v) k
  | .br b p q, σ, k => cond b (p.run σ k) (q.run σ k)
  | .brs s p q u, σ, k => match listGet σ s with
    | ⟨.val ⟨.bool, b, ms⟩, i, g⟩ => cond b (p.run (listSet σ s ⟨.val ⟨.bool, true, ms⟩, i, g⟩) k) (q.run (listSet σ s ⟨.val ⟨.bool, false, ms⟩, i, g⟩) k)
    | ⟨.tup [], _, _⟩ => u.run σ k
    | _ => none
  | .both p q, σ, k => bothO (p.run σ k) (q.run σ k)
  | .bind o p, σ, k => o.bind fun x => (p x).run σ k

/-- the program's types, as they are used here -/
structure TE where
  id : Nat
  ty : Ty
  /-- of a struct: the cells' offset and the type of each field -/
  flds : List (Nat × Nat) := []
  /-- of a slice, an array, a pointer: the element's type -/
  elem : Nat := 0
  arr : Bool := false
  bytes : Nat := 0
  /-- values of the type can be held against each other part by part -/
  eqs : Bool := false
  /-- map types: (the type, its keys', its values') -/
  mps : List (Nat × Nat × Nat) := []

def findMp : List (Nat × Nat × Nat) → Nat → Option (Nat × Nat)
  | [], _ => none
  | (T, K, V) :: l, n => if Nat.beq T n then some (K, V) else findMp l n

def findMap : List TE → Nat → Option (Nat × Nat)
  | [], _ => none
  | e :: l, n => match findMp e.mps n with
    | some x => some x
    | none => findMap l n

def Ty.atom : Ty → Bool
  | .int _ | .bool => true
  | _ => false

@[reducible] def mapTy (t : Ty) : Ty := .sl (.pair (.int .i64) t)

def mget {α : Type} : List (Int × α) → Int → Option α
  | [], _ => none
  | p :: l, k => cond (k == p.1) (some p.2) (mget l k)

def mset {α : Type} : List (Int × α) → Int → α → List (Int × α)
  | [], k, v => [(k, v)]
  | p :: l, k, v => cond (k == p.1) ((k, v) :: l) (p :: mset l k v)

def findTE : List TE → Nat → Option TE
  | [], _ => none
  | e :: l, n => if Nat.beq e.id n then some e else findTE l n

/-- packed lists of types -/
@[reducible] def pk : List Ty → Ty
  | [] => .unit
  | [t] => t
  | t :: ts => .pair t (pk ts)

structure Sig where
  ps : List Ty
  rs : List Ty
  /-- all slices of the results are new memory of their own -/
  own : Bool
  /-- the first argument's slice is used up -/
  eat : Bool := false
  φ : (pk ps).den → Option (pk rs).den

/-- a function whose first parameter points to a variable of its caller's, which it may change: the variable's type and its marks, before and after -/
structure BxSig where
  t : Ty
  bm : List Mk
  ps : List Ty
  rs : List Ty
  φ : t.den → (pk ps).den → Option (t.den × (pk rs).den)

structure Env where
  tab : List TE
  fn : Nat → Option Sig
  /-- slots from here on are temporaries -/
  nv : Nat
  /-- result slots -/
  res : List Nat
  /-- functions that change a variable of their caller's -/
  bx : Nat → Option BxSig := fun _ => none
  /-- slots that point to a variable of the caller's -/
  pins : List Nat := []

def memNat : List Nat → Nat → Bool
  | [], _ => false
  | a :: l, n => Nat.beq a n || memNat l n

def Env.pinned (E : Env) : Option Nat → Bool
  | none => false
  | some d => memNat E.pins d

def Env.steals (E : Env) (dst src : Nat) : Bool := Nat.ble E.nv src || memNat E.res dst

def markBeq : Mk → Mk → Bool
  | .shr, .shr | .own, .own | .dead, .dead => true
  | .ref a b c, .ref a' b' c' | .sub a b c, .sub a' b' c' => Nat.beq a a' && (Nat.beq b b' && Nat.beq c c')
  | _, _ => false

def marksBeq : List Mk → List Mk → Bool
  | [], [] => true
  | a :: l, b :: m => markBeq a b && marksBeq l m
  | _, _ => false

def markAt : List Mk → Nat → Mk
  | [], _ => .dead
  | m :: _, 0 => m
  | _ :: l, n + 1 => markAt l n

def setMarkL : List Mk → Nat → Mk → List Mk
  | [], _, _ => []
  | _ :: l, 0, v => v :: l
  | a :: l, n + 1, v => a :: setMarkL l n v

def markTup : List TV → Nat → Mk
  | [], _ => .dead
  | v :: l, n => if Nat.blt n v.ms.length then markAt v.ms n else markTup l (n - v.ms.length)

def setMarkTup : List TV → Nat → Mk → List TV
  | [], _, _ => []
  | v :: l, n, m => if Nat.blt n v.ms.length then { v with ms := setMarkL v.ms n m } :: l else v :: setMarkTup l (n - v.ms.length) m

def A.mark : A → Nat → Mk
  | .val v, c | .box v, c => markAt v.ms c
  | .tup vs, c => markTup vs c
  | _, _ => .dead

def A.setMark : A → Nat → Mk → A
  | .val v, c, m => .val { v with ms := setMarkL v.ms c m }
  | .box v, c, m => .box { v with ms := setMarkL v.ms c m }
  | .tup vs, c, m => .tup (setMarkTup vs c m)
  | a, _, _ => a

def Mk.isOwn : Mk → Bool
  | .own => true
  | _ => false

/-- a mark as it is read off a slot -/
def refMark (s g c : Nat) : Mk → Mk
  | .own => .ref s c g
  | m => m

def refMarks (s g : Nat) : Nat → List Mk → List Mk
  | _, [] => []
  | c, m :: l => refMark s g c m :: refMarks s g (c + 1) l

def A.isBox : A → Bool
  | .box _ => true
  | _ => false

/-- the cells are owned here -/
def A.owns (a : A) : List Nat → Bool
  | [] => true
  | c :: l => (a.mark c).isOwn && a.owns l

def useBor : List (Nat × Nat × List Nat) → Prog → Prog
  | [], p => p
  | (s, g, cs) :: l, p => .get s fun sl => match Nat.beq sl.gen g && (sl.a.isBox && sl.a.owns cs) with
    | true => useBor l p
    | false => .fail

/-- the marks still speak of what is there -/
def useMarks : List Mk → Prog → Prog
  | [], p => p
  | .shr :: l, p | .nil :: l, p | .nn :: l, p => useMarks l p
  | .own :: _, _ => .fail
  | .dead :: _, _ => .fail
  | .ref s c g :: l, p | .sub s c g :: l, p =>
    .get s fun sl => match Nat.beq sl.gen g && (sl.a.mark c).isOwn with
      | true => useMarks l p
      | false => .fail
  | .bor q :: l, p => useBor q (useMarks l p)

/-- what becomes of the marks where a value is laid down: it is taken over, or shared for good -/
def takeMarks (steal : Nat → Bool) (kn : Bool) : List Mk → (List Mk → Prog) → Prog
  | [], k => k []
  | .shr :: l, k => takeMarks steal kn l fun r => k (.shr :: r)
  | .nn :: l, k => takeMarks steal kn l fun r => k (.shr :: r)
  | .nil :: l, k => takeMarks steal kn l fun r => k (cond kn .nil .own :: r)
  | .own :: _, _ => .fail
  | .dead :: _, _ => .fail
  | .bor _ :: _, _ => .fail
  | .ref s c g :: l, k | .sub s c g :: l, k =>
    .get s fun sl => match Nat.beq sl.gen g && (sl.a.mark c).isOwn with
      | true => match steal s with
        | true => .put s { sl with a := sl.a.setMark c .dead } (takeMarks steal kn l fun r => k (.own :: r))
        | false => .put s { sl with a := sl.a.setMark c .shr } (takeMarks steal kn l fun r => k (.shr :: r))
      | false => .fail

def putA (dst : Option Nat) (a : A) (p : Prog) : Prog :=
  match dst with
  | none => p
  | some d => .get d fun old => .put d ⟨a, old.id + 1, old.gen + 1⟩ p

/-- a constant as data -/
def constD : Ty → Value → Option TV
  | .int k, .int k' n => if kindBeq k k' then some ⟨.int k, n, [.shr]⟩ else none
  | .bool, .bool b => some ⟨.bool, b, [.shr]⟩
  | .str, .string s => some ⟨.str, s.data.toList, [.shr]⟩
  | .sl t, .slice none 0 0 => some ⟨.sl t, [], [.nil]⟩
  | _, _ => none

section ops
variable (E : Env)

def Env.ty (E : Env) (T : Nat) : Option Ty := (findTE E.tab T).map (·.ty)

def refTup (s g : Nat) : Nat → List TV → List TV
  | _, [] => []
  | c, v :: l => { v with ms := refMarks s g c v.ms } :: refTup s g (c + v.ms.length) l

/-- an operand as it is read -/
def rdA (T : Nat) (o : Operand) (k : A → Prog) : Prog :=
  match o with
  | .tmp s => .get s fun sl => match sl.a with
    | .val v => k (.val { v with ms := refMarks s sl.gen 0 v.ms })
    | .tup vs => k (.tup (refTup s sl.gen 0 vs))
    | .box _ => k (.bptr s 0 sl.id)
    | .mp _ _ => k (.mref s sl.id)
    | .top => .fail
    | a => k a
  | .const v => match E.ty T with
    | some t => match constD t v with
      | some d => k (.val d)
      | none => .fail
    | none => .fail
  | _ => .fail

/-- an operand as a value in use -/
def rdV (T : Nat) (o : Operand) (k : TV → Prog) : Prog :=
  rdA E T o fun a => match a with
    | .val v => useMarks v.ms (k v)
    | _ => .fail

def rdInt (o : Operand) (k : IntKind → Int → Prog) : Prog :=
  match o with
  | .tmp s => .get s fun sl => match sl.a with
    | .val ⟨.int kd, x, _⟩ => k kd x
    | _ => .fail
  | .const (.int kd n) => k kd n
  | _ => .fail

def rdBool (o : Operand) (k : Bool → Prog) : Prog :=
  match o with
  | .tmp s => .get s fun sl => match sl.a with
    | .val ⟨.bool, x, _⟩ => k x
    | _ => .fail
  | .const (.bool n) => k n
  | _ => .fail

/-- a slice operand -/
def rdSl (o : Operand) (k : (t : Ty) → List t.den → Mk → Prog) : Prog :=
  match o with
  | .tmp s => .get s fun sl => match sl.a with
    | .val ⟨.sl t, xs, [m]⟩ => useMarks [refMark s sl.gen 0 m] (k t xs (refMark s sl.gen 0 m))
    | _ => .fail
  | _ => .fail

/-- a slice operand of the given elements -/
def rdS (t0 : Ty) (o : Operand) (k : List t0.den → Mk → Prog) : Prog :=
  rdSl o fun t xs m => match castO (.sl t) (.sl t0) xs with
    | some ys => k ys m
    | none => .fail

def out (o : Oper) (v : TV) : Prog := putA o.dst (.val v) .fin

def idx {α : Type} (xs : List α) (i : Int) : Option α := cond (decide (0 ≤ i)) xs[i.toNat]? none

def eqTy : (t : Ty) → t.den → t.den → Option Bool
  | .unit, _, _ => some true
  | .int _, x, y => some (x == y)
  | .bool, x, y => some (x == y)
  | .str, x, y => some (x == y)
  | .pair a b, x, y => match eqTy a x.1 y.1, eqTy b x.2 y.2 with
    | some p, some q => some (p && q)
    | _, _ => none
  | _, _, _ => none

def intOp (op : BinOp) (k : IntKind) (x y : Int) (f : TV → Prog) : Prog :=
  match op with
  | .add => f ⟨.int k, k.wrap (x + y), [.shr]⟩
  | .sub => f ⟨.int k, k.wrap (x - y), [.shr]⟩
  | .mul => f ⟨.int k, k.wrap (x * y), [.shr]⟩
  | .quo => .br (y == 0) .fail (f ⟨.int k, k.wrap (x.tdiv y), [.shr]⟩)
  | .rem => .br (y == 0) .fail (f ⟨.int k, x.tmod y, [.shr]⟩)
  | .and => f ⟨.int k, k.wrap (BitVec.ofInt k.bits x &&& BitVec.ofInt k.bits y).toNat, [.shr]⟩
  | .or => f ⟨.int k, k.wrap (BitVec.ofInt k.bits x ||| BitVec.ofInt k.bits y).toNat, [.shr]⟩
  | .xor => f ⟨.int k, k.wrap (BitVec.ofInt k.bits x ^^^ BitVec.ofInt k.bits y).toNat, [.shr]⟩
  | .andNot => f ⟨.int k, k.wrap (BitVec.ofInt k.bits x &&& ~~~ BitVec.ofInt k.bits y).toNat, [.shr]⟩
  | .eql => f ⟨.bool, (x == y), [.shr]⟩
  | .neq => f ⟨.bool, (x != y), [.shr]⟩
  | .lss => f ⟨.bool, decide (x < y), [.shr]⟩
  | .leq => f ⟨.bool, decide (x ≤ y), [.shr]⟩
  | .gtr => f ⟨.bool, decide (x > y), [.shr]⟩
  | .geq => f ⟨.bool, decide (x ≥ y), [.shr]⟩
  | _ => .fail

/-- the one mark of a slice that is held against nil -/
def nilP (x : Operand) (k : Bool → Prog) : Prog :=
  rdSl x fun _ xs m => match m with
    | .nil => k true
    | .nn => k false
    | _ => .br xs.isEmpty (.both (k true) (k false)) (k false)

def isNilC : Operand → Bool
  | .const (.slice none 0 0) => true
  | _ => false

def binP (op : BinOp) (T : Nat) (x y : Operand) (f : TV → Prog) : Prog :=
  match E.ty T with
  | some (.int _) =>
    rdInt x fun k a => rdInt y fun k' b =>
      match op with
      | .shl => .br (decide (b < 0)) .fail (f ⟨.int k, k.wrap (a * 2 ^ (min b.toNat k.bits)), [.shr]⟩)
      | .shr => .br (decide (b < 0)) .fail (f ⟨.int k, a.fdiv (2 ^ (min b.toNat k.bits)), [.shr]⟩)
      | op => if kindBeq k k' then intOp op k a b f else .fail
  | some (.sl _) => match isNilC y, op with
    | true, .eql => nilP x fun b => f ⟨.bool, b, [.shr]⟩
    | true, .neq => nilP x fun b => f ⟨.bool, !b, [.shr]⟩
    | _, _ => .fail
  | some t => match (findTE E.tab T).map (·.eqs) with
    | some true =>
      rdV E T x fun v => rdV E T y fun w =>
        match castO v.t t v.x, castO w.t t w.x with
        | some a, some b => match eqTy t a b with
          | some r => match op with
            | .eql => f ⟨.bool, r, [.shr]⟩
            | .neq => f ⟨.bool, !r, [.shr]⟩
            | _ => .fail
          | none => .fail
        | _, _ => .fail
    | _ => .fail
  | none => .fail

/-- a place in memory -/
def rdP (o : Operand) (k : A → Prog) : Prog :=
  match o with
  | .tmp s => .get s fun sl => match sl.a with
    | .box _ => k (.bptr s 0 sl.id)
    | .bptr s off id => k (.bptr s off id)
    | .eptr s c g i t x off => k (.eptr s c g i t x off)
    | .cptr t x b => k (.cptr t x b)
    | _ => .fail
  | _ => .fail

/-- a map -/
def rdMap (o : Operand) (k : Nat → Nat → Prog) : Prog :=
  match o with
  | .tmp s => .get s fun sl => match sl.a with
    | .mp _ _ => k s sl.id
    | .mref s' id => k s' id
    | _ => .fail
  | _ => .fail

/-- the entries of a map -/
def mapP (t : Ty) (s id : Nat) (k : Slot → List (Int × t.den) → Prog) : Prog :=
  .get s fun sl => match Nat.beq sl.id id with
  | true => match sl.a with
    | .mp t' ks => match castO (mapTy t') (mapTy t) ks with
      | some ks => k sl ks
      | none => .fail
    | _ => .fail
  | false => .fail

def loadP (t : Ty) (a : A) (k : TV → Prog) : Prog :=
  match a with
  | .bptr s off id => .get s fun sl => match Nat.beq sl.id id with
    | true => match sl.a with
      | .box v => match getAt v.t v.x off t with
        | some y => k ⟨t, y, refMarks s sl.gen off ((v.ms.drop off).take t.size)⟩
        | none => .fail
      | _ => .fail
    | false => .fail
  | .eptr s c g _ te x off => useMarks [.ref s c g] (match getAt te x off t with
    | some y => k ⟨t, y, shrMarks t⟩
    | none => .fail)
  | .cptr te x bor => useMarks (match bor with | none => [] | some (s, c, g) => [.sub s c g]) (match getAt te x 0 t with
    | some y => k ⟨t, y, shrMarks t⟩
    | none => .fail)
  | _ => .fail

def setMarks : List Mk → Nat → List Mk → List Mk
  | ms, _, [] => ms
  | ms, i, m :: l => setMarks (setMarkL ms i m) (i + 1) l

/-- the data of a slot, to be changed -/
def A.tv : A → Option TV
  | .val v | .box v => some v
  | _ => none

def A.setX : A → TV → A
  | .val _, v => .val v
  | .box _, v => .box v
  | a, _ => a

def storeP (t : Ty) (a : A) (v : TV) (p : Prog) : Prog :=
  match castO v.t t v.x with
  | none => .fail
  | some y => match a with
    | .bptr s off id => takeMarks (fun src => E.steals s src) false v.ms fun ms =>
      .get s fun sl => match Nat.beq sl.id id with
      | true => match sl.a with
        | .box b => match setAt b.t b.x off t y with
          | some z => .put s ⟨.box ⟨b.t, z, setMarks b.ms off ms⟩, sl.id, sl.gen + 1⟩ p
          | none => .fail
        | _ => .fail
      | false => .fail
    | .eptr s c g i te x off => takeMarks (fun _ => false) true v.ms fun _ =>
      useMarks [.ref s c g] (match setAt te x off t y with
        | some e => .get s fun sl => match sl.a.tv with
          | some w => match getAt w.t w.x c (.sl te) with
            | some xs => match setAt w.t w.x c (.sl te) (xs.set i e) with
              | some z => .put s ⟨sl.a.setX { w with x := z }, sl.id, sl.gen + 1⟩ p
              | none => .fail
            | none => .fail
          | none => .fail
        | none => .fail)
    | _ => .fail

def fieldP (S : Nat) (a : A) (f : Nat) (k : A → Prog) : Prog :=
  match (findTE E.tab S).bind (·.flds[f]?) with
  | some (o, T) => match E.ty T with
    | some t => if Nat.beq t.size 0 then .fail else match a with
      | .bptr s off id => .get s fun sl => match Nat.beq sl.id id && sl.a.isBox with
        | true => k (.bptr s (off + o) id)
        | false => .fail
      | .eptr s c g i te x off => useMarks [.ref s c g] (k (.eptr s c g i te x (off + o)))
      | .cptr te x bor => useMarks (match bor with | none => [] | some (s, c, g) => [.sub s c g]) (match getAt te x o t with
        | some y => k (.cptr t y bor)
        | none => .fail)
      | _ => .fail
    | none => .fail
  | none => .fail

def partsP (flds : List (Nat × Nat)) : List (Nat × Operand) → TV → (TV → Prog) → Prog
  | [], z, k => k z
  | (i, o) :: l, z, k => match flds[i]? with
    | some (off, T) => rdV E T o fun v => match E.ty T with
      | some t => match castO v.t t v.x with
        | some y => match setAt z.t z.x off t y with
          | some x' => partsP flds l ⟨z.t, x', setMarks z.ms off v.ms⟩ k
          | none => .fail
        | none => .fail
      | none => .fail
    | none => .fail

def rowsP (T : Nat) (t : Ty) : Nat → List (Nat × Operand) → (List t.den → Prog) → Prog
  | _, [], k => k []
  | i, (j, o) :: l, k => if Nat.beq i j then
      rdV E T o fun v => match castO v.t t v.x with
        | some y => takeMarks (fun _ => false) true v.ms fun _ => rowsP T t (i + 1) l fun r => k (y :: r)
        | none => .fail
    else .fail

def argsP : List Nat → List Operand → (ts : List Ty) → ((pk ts).den → List Mk → Prog) → Prog
  | [], [], [], k => k () []
  | [T], [o], [t], k => rdV E T o fun v => match castO v.t t v.x with
    | some y => k y v.ms
    | none => .fail
  | T :: Ts, o :: os, t :: t' :: ts, k => rdV E T o fun v => match castO v.t t v.x with
    | some y => argsP Ts os (t' :: ts) fun r ms => k (y, r) (v.ms ++ ms)
    | none => .fail
  | _, _, _, _ => .fail

def resTVs (own : Bool) : (ts : List Ty) → (pk ts).den → List TV
  | [], _ => []
  | [t], x => [⟨t, x, cond own (ownMarks t) (shrMarks t)⟩]
  | t :: t' :: ts, x => ⟨t, x.1, cond own (ownMarks t) (shrMarks t)⟩ :: resTVs own (t' :: ts) x.2

def resA (own : Bool) (ts : List Ty) (x : (pk ts).den) : A :=
  match resTVs own ts x with
  | [v] => .val v
  | vs => .tup vs

/-- no slice in a slice: nothing in it that could be seen elsewhere -/
def Ty.scalar : Ty → Bool
  | .unit | .int _ | .bool | .str => true
  | .pair a b => a.scalar && b.scalar
  | _ => false

def Ty.flat : Ty → Bool
  | .unit | .int _ | .bool | .str => true
  | .pair a b => a.flat && b.flat
  | .sl t => t.scalar
  | _ => false

def allFlat : List Ty → Bool
  | [] => true
  | t :: l => t.flat && allFlat l

def appendLimit : Nat := 140737488355328

def appendP (o : Oper) (T : Nat) (x y : Operand) : Prog :=
  match findTE E.tab T with
  | some e => match findTE E.tab e.elem with
    | some el => match e.ty.beq (.sl el.ty), el.ty.zero with
      | true, some _ => rdV E T x fun v => match castO v.t (.sl el.ty) v.x with
        | some xs => rdS el.ty y fun ys _ => .br (Nat.ble ((xs.length + ys.length) * el.bytes) appendLimit && Nat.ble (xs.length + ys.length) 9223372036854775807)
            (takeMarks (fun _ => true) false v.ms fun ms' => match ms' with
              | [.own] => out o ⟨.sl el.ty, xs ++ ys, [.own]⟩
              | _ => .fail)
            .fail
        | none => .fail
      | _, _ => .fail
    | none => .fail
  | none => .fail

def copyL {α : Type} (xs ys : List α) : List α := ys.take xs.length ++ xs.drop ys.length

/-- copying into a slice of one's own; its elements hold no slices -/
def copyP (o : Oper) (T : Nat) (x y : Operand) : Prog :=
  match findTE E.tab T with
  | some e => match findTE E.tab e.elem with
    | some el => if e.ty.beq (.sl el.ty) && el.ty.scalar then
        rdS el.ty y fun ys _ => rdS el.ty x fun _ m => match m with
          | .ref s c _ => .get s fun sl => match sl.a.tv with
            | some w => match getAt w.t w.x c (.sl el.ty) with
              | some xs => match setAt w.t w.x c (.sl el.ty) (copyL xs ys) with
                | some z => .put s ⟨sl.a.setX { w with x := z }, sl.id, sl.gen + 1⟩ (out o ⟨.int .i64, ((Nat.min ys.length xs.length : Nat) : Int), [.shr]⟩)
                | none => .fail
              | none => .fail
            | none => .fail
          | _ => .fail
      else .fail
    | none => .fail
  | none => .fail

/-- a function of a list of arguments and captured variables, as a function of its first argument -/
def consP : (a : Ty) → (ts : List Ty) → a.den → (pk ts).den → (pk (a :: ts)).den
  | _, [], y, _ => y
  | _, _ :: _, y, c => (y, c)

structure FnOf where
  a : Ty
  ts : List Ty
  b : Ty
  G : (pk ts).den → a.den → Option b.den

def fnOf : (ps rs : List Ty) → ((pk ps).den → Option (pk rs).den) → Option FnOf
  | a :: ts, [b], φ => some ⟨a, ts, b, fun c y => φ (consP a ts y c)⟩
  | _, _, _ => none

def capOk : List Mk → Bool
  | [] => true
  | .own :: l | .shr :: l | .nn :: l | .nil :: l => capOk l
  | _ => false

def ownCells : Nat → List Mk → List Nat
  | _, [] => []
  | i, .own :: l => i :: ownCells (i + 1) l
  | i, _ :: l => ownCells (i + 1) l

def capP (s : Nat) (t : Ty) (k : t.den → Nat × Nat × List Nat → Prog) : Prog :=
  .get s fun sl => match sl.a with
    | .box v => match castO v.t t v.x with
      | some x => if capOk v.ms then k x (s, sl.gen, ownCells 0 v.ms) else .fail
      | none => .fail
    | _ => .fail

/-- captured variables -/
def capsP : List Operand → (ts : List Ty) → ((pk ts).den → List (Nat × Nat × List Nat) → Prog) → Prog
  | [], [], k => k () []
  | [.tmp s], [.ptr t], k => capP s t fun x q => k x [q]
  | .tmp s :: os, .ptr t :: t' :: ts, k => capP s t fun x q => capsP os (t' :: ts) fun r l => k (x, r) (q :: l)
  | _, _, _ => .fail

def isFn : Ty → Bool
  | .fn _ _ => true
  | _ => false

def optInt (o : Option Operand) (d : Int) (k : Int → Prog) : Prog :=
  match o with
  | none => k d
  | some x => rdInt x fun _ n => k n

def eatHead : List Ty → Bool
  | .sl _ :: _ => true
  | _ => false

/-- a call of a function by its contract -/
def callP (o : Oper) (sg : Sig) (x : (pk sg.ps).den) (ms : List Mk) : Prog :=
  if sg.eat then match eatHead sg.ps && (sg.own && o.dst.isSome), ms with
    | true, m :: l => takeMarks (fun _ => true) false [m] fun r => match r with
      | [.own] => useMarks l (if allFlat sg.rs then .bind (sg.φ x) fun r => putA o.dst (resA true sg.rs r) .fin
          else takeMarks (fun _ => false) true l fun _ => .bind (sg.φ x) fun r => putA o.dst (resA true sg.rs r) .fin)
      | _ => .fail
    | _, _ => .fail
  else if sg.own && allFlat sg.rs then .bind (sg.φ x) fun r => putA o.dst (resA true sg.rs r) .fin
  else takeMarks (fun _ => false) true ms fun _ => .bind (sg.φ x) fun r => putA o.dst (resA sg.own sg.rs r) .fin

/-- a variable that a call may change -/
def boxP (b : BxSig) (x : Operand) (k : Nat → Slot → b.t.den → Prog) : Prog :=
  rdP x fun a => match a with
    | .bptr s 0 id => .get s fun sl => match Nat.beq sl.id id with
      | true => match sl.a with
        | .box v => if marksBeq v.ms b.bm then match castO v.t b.t v.x with
          | some x => k s sl x
          | none => .fail
          else .fail
        | _ => .fail
      | false => .fail
    | _ => .fail

/-- a call of a function that changes a variable -/
def boxCallP (o : Oper) (b : BxSig) : List Nat → List Operand → Prog
  | _ :: Ts, x :: os => argsP E Ts os b.ps fun y ms => takeMarks (fun _ => false) true ms fun _ =>
      boxP b x fun s sl u => .bind (b.φ u y) fun r => .put s ⟨.box ⟨b.t, r.1, b.bm⟩, sl.id, sl.gen + 1⟩ (putA o.dst (resA false b.rs r.2) .fin)
  | _, _ => .fail

/-- the operations -/
def opP (o : Oper) : Prog :=
  match o.op with
  | .move x => rdA E o.type x fun a => putA o.dst a .fin
  | .assign x => rdA E o.type x fun a => match a with
    | .val v => if isFn v.t then putA o.dst (.val v) .fin else takeMarks (fun src => E.steals (o.dst.getD 0) src) false v.ms fun ms => putA o.dst (.val { v with ms }) .fin
    | .mref s id => putA o.dst (.mref s id) .fin
    | .bptr s off id => putA o.dst (.bptr s off id) .fin
    | _ => .fail
  | .pick c a b => rdBool c fun t => .br t (rdA E o.type a fun a => putA o.dst a .fin) (rdA E o.type b fun a => putA o.dst a .fin)
  | .alloc T => if E.pinned o.dst then .fail else match E.ty T with
    | some t => match t.zero with
      | some z => putA o.dst (.box ⟨t, z, ownMarks t⟩) .fin
      | none => .fail
    | none => .fail
  | .box T x => if E.pinned o.dst then .fail else match E.ty T with
    | some t => rdV E T x fun v => match castO v.t t v.x with
      | some y => takeMarks (fun src => Nat.ble E.nv src) false v.ms fun ms => putA o.dst (.box ⟨t, y, ms⟩) .fin
      | none => .fail
    | none => .fail
  | .build T ps => match findTE E.tab T with
    | some e => match e.ty.zero with
      | some z => if e.ty.isAgg then partsP E e.flds ps.toList ⟨e.ty, z, nilMarks e.ty⟩ fun v => out o v else .fail
      | none => .fail
    | none => .fail
  | .buildSlice T n ps => match findTE E.tab T with
    | some e => match findTE E.tab e.elem with
      | some el => match e.ty.beq (.sl el.ty), el.ty.zero with
        | true, some _ => if Nat.beq n ps.toList.length && Nat.ble (n * el.ty.size) 16777216 then rowsP E e.elem el.ty 0 ps.toList fun r => out o ⟨.sl el.ty, r, [.own]⟩ else .fail
        | _, _ => .fail
      | none => .fail
    | none => .fail
  | .load T x => match E.ty T with
    | some t => rdP x fun a => loadP t a fun v => out o v
    | none => .fail
  | .store T x y => match E.ty T with
    | some t => rdV E T y fun v => rdP x fun a => storeP E t a v (putA o.dst .top .fin)
    | none => .fail
  | .binOp op T x y _ => binP E op T x y fun v => out o v
  | .unOp op _ x => match op with
    | .not => rdBool x fun b => out o ⟨.bool, !b, [.shr]⟩
    | .neg => rdInt x fun k n => out o ⟨.int k, k.wrap (0 - n), [.shr]⟩
    | _ => .fail
  | .convert s d x => match E.ty s, E.ty d with
    | some (.int _), some (.int k) => rdInt x fun _ n => out o ⟨.int k, k.wrap n, [.shr]⟩
    | some (.sl (.int .u8)), some .str => rdS (.int .u8) x fun xs _ => out o ⟨.str, xs.map fun (n : Int) => UInt8.ofNat n.toNat, [.shr]⟩
    | some .str, some (.sl (.int .u8)) => rdV E s x fun v => match castO v.t .str v.x with
      | some l => out o ⟨.sl (.int .u8), l.map fun (b : UInt8) => (b.toNat : Int), [.shr]⟩
      | none => .fail
    | some (.sl (.int .u8)), some (.sl (.int .u8)) => rdV E s x fun v => match castO v.t (.sl (.int .u8)) v.x with
      | some xs => .br (Nat.beq s d && Nat.blt 0 xs.length) (takeMarks (fun _ => true) false v.ms fun ms => match ms with
        | [.own] => putA o.dst (.val ⟨.sl (.int .u8), xs, [.shr]⟩) .fin
        | _ => .fail) .fail
      | none => .fail
    | _, _ => .fail
  | .makeSlice T l c => match findTE E.tab T with
    | some e => match findTE E.tab e.elem with
      | some el => match e.ty.beq (.sl el.ty), el.ty.zero with
        | true, some z => rdInt l fun _ n => rdInt c fun _ m =>
          .br (decide (0 ≤ n) && (decide (n ≤ m) && (decide (el.bytes * m ≤ (appendLimit : Int)) && decide (m ≤ 9223372036854775807))))
            (out o ⟨.sl el.ty, List.replicate n.toNat z, [.own]⟩) .fail
        | _, _ => .fail
      | none => .fail
    | none => .fail
  | .slice T x lo hi none => match E.ty T with
    | some (.sl t) => rdS t x fun xs m =>
      optInt lo 0 fun l => optInt hi xs.length fun h =>
        .br (decide (0 ≤ l) && (decide (l ≤ h) && decide (h ≤ (xs.length : Int))))
          (match m with
            | .shr | .nn => out o ⟨.sl t, (xs.take h.toNat).drop l.toNat, [.shr]⟩
            | .ref s c g | .sub s c g => out o ⟨.sl t, (xs.take h.toNat).drop l.toNat, [.sub s c g]⟩
            | _ => .fail) .fail
    | _ => .fail
  | .makeFunc (.func f) fst caps => match fst.toList, E.fn f with
    | [], some sg => if sg.eat then .fail else match fnOf sg.ps sg.rs sg.φ with
      | some F => if F.b.scalar then capsP caps.toList F.ts fun cx q => putA o.dst (.val ⟨.fn F.a F.b, F.G cx, [.bor q]⟩) .fin else .fail
      | none => .fail
    | _, _ => .fail
  | .makeMap T none => match findMap E.tab T with
    | some (_, V) => match E.ty V with
      | some t => if t.atom then putA o.dst (.mp t []) .fin else .fail
      | none => .fail
    | none => .fail
  | .lookup T x i false => match findMap E.tab T with
    | some (_, V) => match E.ty V with
      | some t => if t.atom then match t.zero with
        | some z => rdMap x fun s id => rdInt i fun kd n => if kindBeq kd .i64 then mapP t s id fun _ ks => out o ⟨t, (mget ks n).getD z, [.shr]⟩ else .fail
        | none => .fail
        else .fail
      | none => .fail
    | none => .fail
  | .mapUpdate T x i y => match findMap E.tab T with
    | some (_, V) => match E.ty V with
      | some t => if t.atom then rdV E V y fun v => match castO v.t t v.x with
        | some u => rdMap x fun s id => rdInt i fun kd n => if kindBeq kd .i64 then mapP t s id fun sl ks => .put s ⟨.mp t (mset ks n u), sl.id, sl.gen + 1⟩ (putA o.dst .top .fin) else .fail
        | none => .fail
        else .fail
      | none => .fail
    | none => .fail
  | .fieldAddr S x f => match findTE E.tab S with
    | some e => if e.ty.isAgg && !e.arr then rdP x fun a => fieldP E S a f fun a => putA o.dst a .fin else .fail
    | none => .fail
  | .indexAddr T x i => match findTE E.tab T with
    | some e => if e.arr then match i with
        | .const (.int _ n) => if e.ty.isAgg && decide (0 ≤ n) then rdP x fun a => fieldP E T a n.toNat fun a => putA o.dst a .fin else .fail
        | _ => .fail
      else match findTE E.tab e.elem with
        | some el => if e.ty.beq (.sl el.ty) then rdS el.ty x fun xs m => rdInt i fun _ n =>
            .bind (idx xs n) fun e => match m with
              | .shr | .nn => putA o.dst (.cptr el.ty e none) .fin
              | .ref s c g => putA o.dst (.eptr s c g n.toNat el.ty e 0) .fin
              | .sub s c g => putA o.dst (.cptr el.ty e (some (s, c, g))) .fin
              | _ => .fail
          else .fail
        | none => .fail
    | none => .fail
  | .nilCheck x => rdP x fun a => match a with
    | .bptr s off id => .get s fun sl => match Nat.beq sl.id id && sl.a.isBox with
      | true => putA o.dst (.bptr s off id) .fin
      | false => .fail
    | _ => .fail
  | .extract x i => rdA E 0 x fun a => match a with
    | .tup vs => match vs[i]? with
      | some v => out o v
      | none => .fail
    | _ => .fail
  | .call c => match c.callee with
    | .value (.func f) => match E.fn f with
      | some sg => argsP E c.argTypes.toList c.args.toList sg.ps fun x ms => callP o sg x ms
      | none => match E.bx f with
        | some b => boxCallP E o b c.argTypes.toList c.args.toList
        | none => .fail
    | .value (.tmp s) => .get s fun sl => match sl.a with
      | .val ⟨.fn a b, G, [m]⟩ => if b.scalar then useMarks [refMark s sl.gen 0 m] (argsP E c.argTypes.toList c.args.toList [a] fun x _ => .bind (G x) fun y => putA o.dst (.val ⟨b, y, shrMarks b⟩) .fin) else .fail
      | _ => .fail
    | .builtin .len => match c.args.toList, c.argTypes.toList with
      | [x], [T] => match E.ty T with
        | some (.sl _) => rdSl x fun _ xs _ => out o ⟨.int .i64, (xs.length : Int), [.shr]⟩
        | _ => .fail
      | _, _ => .fail
    | .builtin .append => match c.args.toList, c.argTypes.toList with
      | [x, y], [T, T'] => if Nat.beq T T' then appendP E o T x y else .fail
      | _, _ => .fail
    | .builtin .copy => match c.args.toList, c.argTypes.toList with
      | [x, y], [T, T'] => if Nat.beq T T' then copyP E o T x y else .fail
      | _, _ => .fail
    | .builtin .min => match c.args.toList with
      | [x, y] => rdInt x fun k a => rdInt y fun _ b => out o ⟨.int k, cond (decide (b < a)) b a, [.shr]⟩
      | _ => .fail
    | .builtin .max => match c.args.toList with
      | [x, y] => rdInt x fun k a => rdInt y fun _ b => out o ⟨.int k, cond (decide (b > a)) b a, [.shr]⟩
      | _ => .fail
    | _ => .fail
  | _ => .fail
end ops

inductive Ex where
  | normal | exit (id : Nat) | ret

/-- the guard of an operation -/
def guardP (ops : List Oper) (o : Oper) (p : Prog) : Prog :=
  match o.guard with
  | none => p
  | some (j, want) => match (ops[j]?).bind (·.dst) with
    | some s => .brs s (cond want p (putA o.dst (.tup []) .fin)) (cond want (putA o.dst (.tup []) .fin) p) (putA o.dst (.tup []) .fin)
    | none => .fail

/-- rounds: at most n -/
def iter {S ρ : Type} (step : (S → Option ρ) → S → Option ρ) : Nat → S → Option ρ
  | 0, _ => none
  | n + 1, s => step (iter step n) s

/-- what a slot is at a loop's head, but for the data -/
inductive Sh where
  | top
  | val (t : Ty) (ms : List Mk)
  | box (t : Ty) (ms : List Mk)
  | bptr (s off : Nat)
  | cptr (t : Ty)
  | mp (t : Ty)
  | mref (s : Nat)
  deriving Inhabited

/-- what becomes of a mark at a loop's head, in slot i -/
def normMark (σ : St) (ks frz : List Nat) (i : Nat) : Mk → Mk
  | .own => cond (memNat frz i) .shr .own
  | .ref s c g => let sl := listGet σ s; cond (Nat.beq sl.gen g && (sl.a.mark c).isOwn) (cond (memNat ks s && !memNat frz s) (.ref s c 0) .shr) .dead
  | .sub s c g => let sl := listGet σ s; cond (Nat.beq sl.gen g && (sl.a.mark c).isOwn) (cond (memNat ks s && !memNat frz s) (.sub s c 0) .shr) .dead
  | .bor _ => .dead
  | m => m

def shOf (σ : St) (ks frz : List Nat) (i : Nat) : Slot → Sh
  | ⟨.val v, _, _⟩ => .val v.t (v.ms.map (normMark σ ks frz i))
  | ⟨.box v, _, _⟩ => .box v.t (v.ms.map (normMark σ ks frz i))
  | ⟨.bptr s off id, _, _⟩ => cond (Nat.beq (listGet σ s).id id && memNat ks s) (.bptr s off) .top
  | ⟨.cptr t _ none, _, _⟩ => .cptr t
  | ⟨.mp t _, _, _⟩ => .mp t
  | ⟨.mref s id, _, _⟩ => cond (Nat.beq (listGet σ s).id id && memNat ks s) (.mref s) .top
  | _ => .top

/-- the shapes at a loop's head: of the slots that live -/
def shapes (σ : St) (ks frz : List Nat) : Nat → List Slot → List Sh
  | _, [] => []
  | i, s :: l => (if memNat ks i then shOf σ ks frz i s else .top) :: shapes σ ks frz (i + 1) l

def shTys : List Sh → List Ty
  | [] => []
  | .val t _ :: l | .box t _ :: l | .cptr t :: l => t :: shTys l
  | .mp t :: l => mapTy t :: shTys l
  | _ :: l => shTys l

structure DV where
  t : Ty
  x : t.den

/-- the data of the slots that live, where they have these shapes -/
def dataAt (σ : St) (ks frz : List Nat) : Nat → List Sh → List Slot → Option (List DV)
  | _, [], [] => some []
  | i, .top :: hs, _ :: l => dataAt σ ks frz (i + 1) hs l
  | i, .val _ ms :: hs, ⟨.val v, _, _⟩ :: l => if marksBeq (v.ms.map (normMark σ ks frz i)) ms then
      match dataAt σ ks frz (i + 1) hs l with
      | some r => some (⟨v.t, v.x⟩ :: r)
      | none => none
    else none
  | i, .box _ ms :: hs, ⟨.box v, _, _⟩ :: l => if marksBeq (v.ms.map (normMark σ ks frz i)) ms then
      match dataAt σ ks frz (i + 1) hs l with
      | some r => some (⟨v.t, v.x⟩ :: r)
      | none => none
    else none
  | i, .bptr s off :: hs, ⟨.bptr s' off' id, _, _⟩ :: l =>
    if Nat.beq s s' && (Nat.beq off off' && Nat.beq (listGet σ s').id id) then dataAt σ ks frz (i + 1) hs l else none
  | i, .cptr _ :: hs, ⟨.cptr t x none, _, _⟩ :: l => match dataAt σ ks frz (i + 1) hs l with
      | some r => some (⟨t, x⟩ :: r)
      | none => none
  | i, .mp t :: hs, ⟨.mp t' x, _, _⟩ :: l => if t'.beq t then match dataAt σ ks frz (i + 1) hs l with
      | some r => some (⟨mapTy t', x⟩ :: r)
      | none => none
    else none
  | i, .mref s :: hs, ⟨.mref s' id, _, _⟩ :: l =>
    if Nat.beq s s' && Nat.beq (listGet σ s').id id then dataAt σ ks frz (i + 1) hs l else none
  | _, _, _ => none

def packL : (ts : List Ty) → List DV → Option (pk ts).den
  | [], [] => some ()
  | [t], [d] => castO d.t t d.x
  | t :: t' :: ts, d :: l => match castO d.t t d.x, packL (t' :: ts) l with
    | some x, some r => some (x, r)
    | _, _ => none
  | _, _ => none

def unpackL : (ts : List Ty) → (pk ts).den → List DV
  | [], _ => []
  | [t], x => [⟨t, x⟩]
  | t :: t' :: ts, x => ⟨t, x.1⟩ :: unpackL (t' :: ts) x.2

def inject : List Sh → List DV → List Slot
  | [], _ => []
  | .val _ ms :: hs, d :: l => ⟨.val ⟨d.t, d.x, ms⟩, 0, 0⟩ :: inject hs l
  | .box _ ms :: hs, d :: l => ⟨.box ⟨d.t, d.x, ms⟩, 0, 0⟩ :: inject hs l
  | .cptr _ :: hs, d :: l => ⟨.cptr d.t d.x none, 0, 0⟩ :: inject hs l
  | .bptr s off :: hs, l => ⟨.bptr s off 0, 0, 0⟩ :: inject hs l
  | .mp t :: hs, d :: l => ⟨match castO d.t (mapTy t) d.x with | some x => .mp t x | none => .top, 0, 0⟩ :: inject hs l
  | .mref s :: hs, l => ⟨.mref s 0, 0, 0⟩ :: inject hs l
  | _ :: hs, l => ⟨.top, 0, 0⟩ :: inject hs l

/-- at a loop's head (named by the first region in its body): the slots that live, and those whose slices are shared from here on -/
structure LoopAnn where
  id : Nat
  live : List Nat
  frz : List Nat := []

def findAnn : List LoopAnn → Nat → LoopAnn
  | [], n => ⟨n, [], []⟩
  | a :: l, n => if Nat.beq a.id n then a else findAnn l n

/-- the first region's number -/
def firstRegion : Code → Option Nat
  | .region id _ _ => some id
  | .seq a b => match firstRegion a with
    | some n => some n
    | none => firstRegion b
  | .block _ c | .loop c | .scope c => firstRegion c
  | .cond _ a b => match firstRegion a with
    | some n => some n
    | none => firstRegion b
  | _ => none

/-- slices that a slot owns are shared from here on -/
def freezeP : List Nat → Prog
  | [] => .fin
  | s :: l => .get s fun sl => match sl.a.tv with
    | some v => takeMarks (fun _ => false) true (refMarks s sl.gen 0 v.ms) fun _ => freezeP l
    | none => freezeP l

section code
variable (E : Env) {ρ : Type} (ann : List LoopAnn) (fuel : Nat)

/-- the same, with the slots that are read and written -/
def _root_.Go.GD.Prog.runF : Prog → St → List Nat → List Nat → (St → List Nat → List Nat → Option ρ) → Option ρ
  | .fin, σ, R, W, k => k σ R W
  | .fail, _, _, _, _ => none
  | .get s p, σ, R, W, k => (p (listGet σ s)).runF σ (s :: R) W k
  | .put s v p, σ, R, W, k => p.runF (listSet σ s v) R (s :: W) k
  | .br b p q, σ, R, W, k => cond b (p.runF σ R W k) (q.runF σ R W k)
  | .brs s p q u, σ, R, W, k => match listGet σ s with
    | ⟨.val ⟨.bool, b, ms⟩, i, g⟩ => cond b (p.runF (listSet σ s ⟨.val ⟨.bool, true, ms⟩, i, g⟩) (s :: R) W k) (q.runF (listSet σ s ⟨.val ⟨.bool, false, ms⟩, i, g⟩) (s :: R) W k)
    | ⟨.tup [], _, _⟩ => u.runF σ (s :: R) W k
    | _ => none
  | .both _ _, _, _, _, _ => none
  | .bind o p, σ, R, W, k => o.bind fun x => (p x).runF σ R W k

def insN (i : Nat) (l : List Nat) : List Nat := cond (memNat l i) l (i :: l)

def uniN : List Nat → List Nat → List Nat
  | [], l => l
  | a :: m, l => insN a (uniN m l)

/-- the operations that must come before operation j, of those that stand before it (each once: a list with doubles grows like Fibonacci's numbers) -/
def ancOf (anc : List (List Nat)) : List Edge → List Nat
  | [] => []
  | e :: l => match e.ground with
    | .textOnly _ | .gcOnly _ => ancOf anc l
    | _ => insN e.on (uniN (anc.getD e.on []) (ancOf anc l))

def disj : List Nat → List Nat → Bool
  | [], _ => true
  | a :: l, m => !memNat m a && disj l m

/-- operation j against those before it: (their footprints, their places) -/
def apartAll (before : List Nat) (R W : List Nat) : Nat → List (List Nat × List Nat) → Bool
  | _, [] => true
  | i, (R', W') :: l => (memNat before i || (disj W R' && (disj W W' && disj W' R))) && apartAll before R W (i + 1) l

def edgesOk (j : Nat) : List Edge → Bool
  | [] => true
  | e :: l => match e.ground with
    | .textOnly _ | .gcOnly _ => edgesOk j l
    | _ => Nat.blt e.on j && edgesOk j l

/-- a region that draws its order: in the text's order, and any two operations that no edge orders touch different slots -/
def drawC (ops : List Oper) : List Oper → Nat → List (List Nat) → List (List Nat × List Nat) → St → (St → Option ρ) → Option ρ
  | [], _, _, _, σ, k => k σ
  | o :: l, j, anc, fps, σ, k => (guardP ops o (opP E o)).runF σ [] [] fun σ' R W =>
    let mine := ancOf anc o.after.toList
    if edgesOk j o.after.toList && apartAll mine R W 0 fps then drawC ops l (j + 1) (anc ++ [mine]) (fps ++ [(R, W)]) σ' k else none

def regC (ops : List Oper) : List Oper → St → (St → Option ρ) → Option ρ
  | [], σ, k => k σ
  | o :: l, σ, k => (guardP ops o (opP E o)).run σ fun σ' => regC ops l σ' k

/-- a round has ended: the next one -/
def nextK (sh : List Sh) (ks frz : List Nat) (F : (pk (shTys sh)).den → Option ρ) (k : Ex → St → Option ρ) : Ex → St → Option ρ
  | .normal, σ => match dataAt σ ks frz 0 sh σ with
    | some l => match packL (shTys sh) l with
      | some s => F s
      | none => none
    | none => none
  | e, σ => k e σ

def loopC (f : (Ex → St → Option ρ) → St → Option ρ) (a : LoopAnn) (k : Ex → St → Option ρ) (σ : St) : Option ρ :=
  let sh := shapes σ a.live a.frz 0 σ
  match dataAt σ a.live a.frz 0 sh σ with
  | some l => match packL (shTys sh) l with
    | some s => iter (fun F s => f (nextK sh a.live a.frz F k) (inject sh (unpackL (shTys sh) s))) fuel s
    | none => none
  | none => none

def codeC : Code → (Ex → St → Option ρ) → St → Option ρ
  | .skip, k, σ => k .normal σ
  | .region _ ops false, k, σ => regC E ops.toList ops.toList σ fun σ' => k .normal σ'
  | .region id ops true, k, σ => (freezeP (findAnn ann (id + 1000000)).frz).run σ fun σ => drawC E ops.toList ops.toList 0 [] [] σ fun σ' => k .normal σ'
  | .seq a b, k, σ => codeC a (fun e σ' => match e with
    | .normal => codeC b k σ'
    | e => k e σ') σ
  | .cond c a b, k, σ => match c with
    | .tmp s => match (listGet σ s).a with
      | .val ⟨.bool, t, _⟩ => cond t (codeC a k σ) (codeC b k σ)
      | _ => none
    | _ => none
  | .block id c, k, σ => codeC c (fun e σ' => match e with
    | .exit i => if Nat.beq i id then k .normal σ' else k (.exit i) σ'
    | e => k e σ') σ
  | .loop c, k, σ => loopC fuel (codeC c) (findAnn ann ((firstRegion c).getD 0)) k σ
  | .exit id, k, σ => k (.exit id) σ
  | .ret, k, σ => k .ret σ
  | _, _, _ => none

end code

/-- a parameter's slot -/
def initSlot : (t : Ty) → t.den → List Mk → Slot
  | .ptr t, x, _ => ⟨.cptr t x none, 0, 0⟩
  | t, x, ms => ⟨.val ⟨t, x, ms⟩, 0, 0⟩

def headM : List (List Mk) → (t : Ty) → List Mk
  | [], t => shrMarks t
  | m :: _, _ => m

/-- the parameters' slots; pm: the marks of the first ones -/
def initArgs : List (List Mk) → (ts : List Ty) → (pk ts).den → List Slot
  | _, [], _ => []
  | pm, [t], x => [initSlot t x (headM pm t)]
  | pm, t :: t' :: ts, x => initSlot t x.1 (headM pm t) :: initArgs pm.tail (t' :: ts) x.2

/-- the marks of a result, as the signature says -/
def resMarks (own : Bool) (t : Ty) (ms : List Mk) : Bool :=
  cond own (marksBeq ms (ownMarks t)) (ms.all fun m => markBeq m .shr || markBeq m .own)

/-- a result's data -/
def resTV : ResultVar → St → Option TV
  | .tmp s, σ => match (listGet σ s).a with
    | .val v => some v
    | _ => none
  | .cell s _, σ => match (listGet σ s).a with
    | .box v => some v
    | _ => none

def readRes {ρ : Type} : List ResultVar → (own : Bool) → (ts : List Ty) → St → ((pk ts).den → Option ρ) → Option ρ
  | [], _, [], _, k => k ()
  | [r], own, [t], σ, k => match resTV r σ with
    | some v => if resMarks own v.t v.ms then match castO v.t t v.x with
        | some y => k y
        | none => none
      else none
    | none => none
  | r :: r' :: rs, own, t :: t' :: ts, σ, k => match resTV r σ with
    | some v => if resMarks own v.t v.ms then match castO v.t t v.x with
        | some y => readRes (r' :: rs) own (t' :: ts) σ fun z => k (y, z)
        | none => none
      else none
    | none => none
  | _, _, _, _, _ => none

def resSlots (l : List ResultVar) : List Nat := l.map fun
  | .tmp s => s
  | .cell s _ => s

def topSlot : Slot := ⟨.top, 0, 0⟩

/-- a function as a function on data -/
def fnX (tab : List TE) (fn : Nat → Option Sig) (bx : Nat → Option BxSig) (nv : Nat) (ann : List LoopAnn) (fuel : Nat) (f : Func) (pm : List (List Mk)) (ps rs : List Ty) (own : Bool) (x : (pk ps).den) : Option (pk rs).den :=
  match f.body with
  | none => none
  | some c =>
    codeC { tab, fn, nv, res := resSlots f.results.toList, bx } ann fuel c (fun e σ => match e with
      | .normal | .ret => readRes f.results.toList own rs σ some
      | _ => none) (initArgs pm ps x ++ List.replicate (f.ntmps - ps.length) topSlot)

def fnD (tab : List TE) (fn : Nat → Option Sig) (nv : Nat) (ann : List LoopAnn) (fuel : Nat) (f : Func) (pm : List (List Mk)) (ps rs : List Ty) (own : Bool) (x : (pk ps).den) : Option (pk rs).den :=
  fnX tab fn (fun _ => none) nv ann fuel f pm ps rs own x

/-- what the caller's variable and the results are in the end -/
def readBox {ρ : Type} (l : List ResultVar) (t : Ty) (bm : List Mk) (rs : List Ty) (σ : St) (k : t.den → (pk rs).den → Option ρ) : Option ρ :=
  match (listGet σ 0).a with
  | .box v => if marksBeq v.ms bm then match castO v.t t v.x with
    | some x => readRes l false rs σ (k x)
    | none => none
    else none
  | _ => none

/-- a function that changes a variable of its caller's, as a function on data -/
def fnB (tab : List TE) (fn : Nat → Option Sig) (bx : Nat → Option BxSig) (nv : Nat) (ann : List LoopAnn) (fuel : Nat) (f : Func) (t : Ty) (bm : List Mk) (ps rs : List Ty) (x : t.den) (y : (pk ps).den) : Option (t.den × (pk rs).den) :=
  match f.body with
  | none => none
  | some c =>
    codeC { tab, fn, nv, res := resSlots f.results.toList, bx, pins := [0] } ann fuel c (fun e σ => match e with
      | .normal | .ret => readBox f.results.toList t bm rs σ fun x z => some (x, z)
      | _ => none) (⟨.box ⟨t, x, bm⟩, 0, 0⟩ :: (initArgs [] ps y ++ List.replicate (f.ntmps - (ps.length + 1)) topSlot))

end
end Go.GD
