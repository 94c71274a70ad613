/- What is proved here: nothing of the program; this text defines the plain data of the program, and a small evaluator of its code over plain data. -/
import Derived.Test.YtcfnaifggdelnaaRows
namespace Go.Proofs.Ytcfnaifggdelnaa.E
open Go

structure Slot where
  Page : Int
  Rights : Int
structure Ins where
  Op : Int
  X : Int
structure Ctl where
  Traps : Int
  Post : Int
  Open : Bool
structure GExit where
  Kind : Int
  Page : Int
  Write : Bool
  N : Int
structure Entry where
  Tag : Int
  Page : Int
  Host : Int
  Rights : Int
structure GAct where
  Kind : Int
  M : Int
  G : Int
  X : Int
  Y : Int
  Z : Int
structure Told where
  Ok : Bool
  N : Int
structure Kept where
  Known : List Bool
  Slots : List Slot
structure Guest where
  Prog : List Ins
  A : Int
  Pc : Int
  Written : List Slot
  Live : List Slot
  Ctl : Ctl
  Pending : Int
  Exit : GExit
  Halted : Bool
  Seen : List Int
structure Bare where
  Memory : List (List Int)
  Guests : List Guest
  Outs : List Int
  Pending : Int
structure Mon where
  Outer : List Slot
  Out : List (List Int)
  Dirty : List Bool
  Guests : List Guest
  Outs : List Int
  Pending : Int
  Traps : Int
  Tables : List Kept
  Own : Int
structure Host where
  Memory : List (List Int)
  Mons : List Mon
  Buffer : List Entry
  IoBuffer : List Entry

/-! Plain functions on data, under names of their own, by which an evaluation stops. -/
section
variable {α : Type}
def ix (l : List α) (i : Int) (d : α) : α := l.getD i.toNat d
def up (l : List α) (i : Int) (x : α) : List α := l.set i.toNat x
def ln (l : List α) : Int := (l.length : Int)
def tk (l : List α) (n : Int) : List α := l.take n.toNat
def dp (l : List α) (n : Int) : List α := l.drop n.toNat
def rp (n : Int) (d : α) : List α := List.replicate n.toNat d
def ap (l m : List α) : List α := l ++ m
end
def wadd (k : IntKind) (x y : Int) : Int := k.wrap (x + y)
def wsub (k : IntKind) (x y : Int) : Int := k.wrap (x - y)
def wmul (k : IntKind) (x y : Int) : Int := k.wrap (x * y)
def wquo (k : IntKind) (x y : Int) : Int := k.wrap (x.tdiv y)
def wrem (x y : Int) : Int := x.tmod y
def wand (k : IntKind) (x y : Int) : Int := k.wrap (BitVec.ofInt k.bits x &&& BitVec.ofInt k.bits y).toNat
def wor (k : IntKind) (x y : Int) : Int := k.wrap (BitVec.ofInt k.bits x ||| BitVec.ofInt k.bits y).toNat
def wxor (k : IntKind) (x y : Int) : Int := k.wrap (BitVec.ofInt k.bits x ^^^ BitVec.ofInt k.bits y).toNat
def wandn (k : IntKind) (x y : Int) : Int := k.wrap (BitVec.ofInt k.bits x &&& ~~~ BitVec.ofInt k.bits y).toNat
def wshl (k : IntKind) (x y : Int) : Int := k.wrap (x * 2 ^ (min y.toNat k.bits))
def wshr (k : IntKind) (x y : Int) : Int := x.fdiv (2 ^ (min y.toNat k.bits))
def wcv (k : IntKind) (x : Int) : Int := k.wrap x
/-- The byte of a constant string. -/
def byteAt (s : ByteArray) (n : Int) : Int := match s[n.toNat]? with
  | some b => (b.toNat : Int)
  | none => 0
def ieq (x y : Int) : Bool := x == y
def ine (x y : Int) : Bool := x != y
def ilt (x y : Int) : Bool := decide (x < y)
def ile (x y : Int) : Bool := decide (x ≤ y)
def igt (x y : Int) : Bool := decide (x > y)
def ige (x y : Int) : Bool := decide (x ≥ y)
def beqb (x y : Bool) : Bool := x == y
def imin (a b : Int) : Int := if b < a then b else a
def imax (a b : Int) : Int := if b > a then b else a
/-- The index of an element. -/
def inb (i n : Int) : Bool := decide (0 ≤ i ∧ i < n)
/-- A slice expression's bounds. -/
def inr (a b n : Int) : Bool := decide (0 ≤ a ∧ a ≤ b ∧ b ≤ n)
/-- No more than a slice that is made may hold. -/
def few (n : Int) : Bool := decide (0 ≤ n ∧ n ≤ 2147483648)

inductive Ty where
  | int | u8 | bool | slot | ins | entry | act | told | kept | guest | bare | mon
  | sl (t : Ty)
  deriving DecidableEq

@[reducible] def Ty.den : Ty → Type
  | .int => Int
  | .u8 => Int
  | .bool => Bool
  | .slot => Slot
  | .ins => Ins
  | .entry => Entry
  | .act => GAct
  | .told => Told
  | .kept => Kept
  | .guest => Guest
  | .bare => Bare
  | .mon => Mon
  | .sl t => List t.den

/-- One cell's content as plain data. -/
inductive CV where
  | i (k : IntKind) (n : Int)
  | b (x : Bool)
  | s (t : Ty) (l : List t.den)

inductive CTy where
  | i (k : IntKind)
  | b
  | s (t : Ty)
  deriving DecidableEq

def CV.ty : CV → CTy
  | .i k _ => .i k
  | .b _ => .b
  | .s t _ => .s t

def Ty.shape : Ty → List CTy
  | .int => [.i .i64]
  | .u8 => [.i .u8]
  | .bool => [.b]
  | .slot => [.i .i64, .i .i64]
  | .ins => [.i .i64, .i .i64]
  | .entry => [.i .i64, .i .i64, .i .i64, .i .i64]
  | .act => [.i .i64, .i .i64, .i .i64, .i .i64, .i .i64, .i .i64]
  | .told => [.b, .i .i64]
  | .kept => [.s .bool, .s .slot]
  | .guest => [.s .ins, .i .i64, .i .i64, .s .slot, .s .slot, .i .i64, .i .i64, .b, .i .i64, .i .i64, .i .i64, .b, .i .i64, .b, .s .int]
  | .bare => [.s (.sl .int), .s .guest, .s .int, .i .i64]
  | .mon => [.s .slot, .s (.sl .int), .s .bool, .s .guest, .s .int, .i .i64, .i .i64, .s .kept, .i .i64]
  | .sl t => [.s t]

def Ty.width : Ty → Nat
  | .int => 1
  | .u8 => 1
  | .bool => 1
  | .slot => 2
  | .ins => 2
  | .entry => 4
  | .act => 6
  | .told => 2
  | .kept => 2
  | .guest => 15
  | .bare => 4
  | .mon => 9
  | .sl _ => 1

def Ty.dflt : (t : Ty) → t.den
  | .int => (0 : Int)
  | .u8 => (0 : Int)
  | .bool => false
  | .slot => ⟨0, 0⟩
  | .ins => ⟨0, 0⟩
  | .entry => ⟨0, 0, 0, 0⟩
  | .act => ⟨0, 0, 0, 0, 0, 0⟩
  | .told => ⟨false, 0⟩
  | .kept => ⟨[], []⟩
  | .guest => ⟨[], 0, 0, [], [], ⟨0, 0, false⟩, 0, ⟨0, 0, false, 0⟩, false, []⟩
  | .bare => ⟨[], [], [], 0⟩
  | .mon => ⟨[], [], [], [], [], 0, 0, [], 0⟩
  | .sl _ => []

def Ty.cells : (t : Ty) → t.den → List CV
  | .int, x => [.i .i64 x]
  | .u8, x => [.i .u8 x]
  | .bool, x => [.b x]
  | .slot, x => [.i .i64 x.Page, .i .i64 x.Rights]
  | .ins, x => [.i .i64 x.Op, .i .i64 x.X]
  | .entry, x => [.i .i64 x.Tag, .i .i64 x.Page, .i .i64 x.Host, .i .i64 x.Rights]
  | .act, x => [.i .i64 x.Kind, .i .i64 x.M, .i .i64 x.G, .i .i64 x.X, .i .i64 x.Y, .i .i64 x.Z]
  | .told, x => [.b x.Ok, .i .i64 x.N]
  | .kept, x => [.s .bool x.Known, .s .slot x.Slots]
  | .guest, x => [.s .ins x.Prog, .i .i64 x.A, .i .i64 x.Pc, .s .slot x.Written, .s .slot x.Live, .i .i64 x.Ctl.Traps, .i .i64 x.Ctl.Post, .b x.Ctl.Open, .i .i64 x.Pending, .i .i64 x.Exit.Kind, .i .i64 x.Exit.Page, .b x.Exit.Write, .i .i64 x.Exit.N, .b x.Halted, .s .int x.Seen]
  | .bare, x => [.s (.sl .int) x.Memory, .s .guest x.Guests, .s .int x.Outs, .i .i64 x.Pending]
  | .mon, x => [.s .slot x.Outer, .s (.sl .int) x.Out, .s .bool x.Dirty, .s .guest x.Guests, .s .int x.Outs, .i .i64 x.Pending, .i .i64 x.Traps, .s .kept x.Tables, .i .i64 x.Own]
  | .sl t, x => [.s t x]

def Ty.ofCells : (t : Ty) → List CV → Option t.den
  | .int, cs => match cs with
    | [.i .i64 x] => some x
    | _ => none
  | .u8, cs => match cs with
    | [.i .u8 x] => some x
    | _ => none
  | .bool, cs => match cs with
    | [.b x] => some x
    | _ => none
  | .slot, cs => match cs with
    | [.i .i64 a, .i .i64 b] => some ⟨a, b⟩
    | _ => none
  | .ins, cs => match cs with
    | [.i .i64 a, .i .i64 b] => some ⟨a, b⟩
    | _ => none
  | .entry, cs => match cs with
    | [.i .i64 a, .i .i64 b, .i .i64 c, .i .i64 d] => some ⟨a, b, c, d⟩
    | _ => none
  | .act, cs => match cs with
    | [.i .i64 a, .i .i64 b, .i .i64 c, .i .i64 d, .i .i64 e, .i .i64 f] => some ⟨a, b, c, d, e, f⟩
    | _ => none
  | .told, cs => match cs with
    | [.b a, .i .i64 b] => some ⟨a, b⟩
    | _ => none
  | .kept, cs => match cs with
    | [.s .bool a, .s .slot b] => some ⟨a, b⟩
    | _ => none
  | .guest, cs => match cs with
    | [.s .ins a, .i .i64 b, .i .i64 c, .s .slot d, .s .slot e, .i .i64 f1, .i .i64 f2, .b f3, .i .i64 g, .i .i64 h1, .i .i64 h2, .b h3, .i .i64 h4, .b j, .s .int k] => some ⟨a, b, c, d, e, ⟨f1, f2, f3⟩, g, ⟨h1, h2, h3, h4⟩, j, k⟩
    | _ => none
  | .bare, cs => match cs with
    | [.s (.sl .int) a, .s .guest b, .s .int c, .i .i64 d] => some ⟨a, b, c, d⟩
    | _ => none
  | .mon, cs => match cs with
    | [.s .slot a, .s (.sl .int) b, .s .bool c, .s .guest d, .s .int e, .i .i64 f, .i .i64 g, .s .kept h, .i .i64 i] => some ⟨a, b, c, d, e, f, g, h, i⟩
    | _ => none
  | .sl t, cs => match cs with
    | [.s t' x] => if h : t' = t then some (h ▸ x) else none
    | _ => none

/-- An atom: what one slot or one cell holds. -/
inductive At where
  | bad
  | i (k : IntKind) (n : Int)
  | b (x : Bool)
  | sl (r : Nat) (p : List (Int × Nat))
  | lp (l off : Nat)
  | ep (r : Nat) (p : List (Int × Nat)) (i : Int) (off : Nat)
  | fn (f : Nat) (caps : List Nat)
  /-- of this slice's header, and of what it leads to through other columns than these, it is said that they are as at the beginning -/
  | kp (r : Nat) (J : List (List Nat)) (t : Ty)

inductive TV where
  | at (a : At)
  | agg (l : List At)

inductive MV where
  | und
  | v (x : TV)
  | tup (l : List TV)

/-- A slice: its rows; is it our own; 'ep': it looks into another one and holds as long as nothing is written. -/
structure Root where
  t : Ty
  l : List t.den
  own : Bool
  ep : Option Nat

/-- The state: slots, local variables' cells, slices; the slots of the callers; the next free number. -/
structure St where
  tm : List MV
  lo : List (Nat × List At)
  ro : List (Nat × Root)
  stk : List (List MV)
  nid : Nat
  ep : Nat

/-- What a call is handed, what it hands back. -/
inductive AV where
  | one (c : CV)
  | agg (l : List CV)

structure Cfg where
  P : Program
  /-- a slice type's element -/
  sty : TypeId → Option Ty
  /-- a type's cells: is it an aggregate, and what each cell holds -/
  cty : TypeId → Option (Bool × List CTy)
  /-- a field's offset and width -/
  fof : TypeId → Nat → Option (Nat × Nat)
  /-- the struct types that == is known of -/
  eqt : TypeId → Bool
  ctr : FuncId → Option (List AV → Option (Bool × List AV))
  /-- functions that write into the slice that they are handed: slice and number in; slice and number out -/
  mct : FuncId → Option (CV → Int → Option (Bool × CV × Int))
  /-- functions that are handed a local variable: which of its cells hold slices of our own; its cells and arguments in; its cells and results out -/
  pct : FuncId → Option (List Bool × (List CV → List AV → Option (Bool × List CV × List AV)))
  /-- functions that are handed slices of our own among their arguments: which of the arguments' cells these are; the one that is written in place, if there is one: its cell, the result's cell, what is stale behind the call; arguments in, results out -/
  tct : FuncId → Option (List Bool × Option (Nat × Nat × List (List Nat)) × (List AV → Option (Bool × List AV)))

def aget {α : Type} : List (Nat × α) → Nat → Option α
  | [], _ => none
  | (k, v) :: r, n => if k == n then some v else aget r n

/-- The slice at a path below a slice. -/
def getP : (t : Ty) → List t.den → List (Int × Nat) → Option CV
  | t, l, [] => some (.s t l)
  | t, l, (i, j) :: p =>
    match (t.cells (ix l i t.dflt))[j]? with
    | some (.s t' l') => getP t' l' p
    | _ => none

def splice {α : Type} (l : List α) (off : Nat) (new : List α) : List α := l.take off ++ new ++ l.drop (off + new.length)

/-- The slice at a path replaced. -/
def putP : (t : Ty) → List t.den → List (Int × Nat) → CV → Option (List t.den)
  | t, _, [], cv =>
    match cv with
    | .s t' l' => if h : t' = t then some (h ▸ l') else none
    | _ => none
  | t, l, (i, j) :: p, cv =>
    match (t.cells (ix l i t.dflt))[j]? with
    | some (.s t1 l1) =>
      match putP t1 l1 p cv with
      | some l2 =>
        match t.ofCells (splice (t.cells (ix l i t.dflt)) j [.s t1 l2]) with
        | some x => some (up l i x)
        | none => none
      | none => none
    | _ => none

/-- The row at index i of a slice has some cells replaced. -/
def setRow (t : Ty) (l : List t.den) (i : Int) (j : Nat) (new : List CV) : Option (List t.den) :=
  match t.ofCells (splice (t.cells (ix l i t.dflt)) j new) with
  | some x => some (up l i x)
  | none => none

def zeroAt (id : Nat) : CTy → At
  | .i k => .i k 0
  | .b => .b false
  | .s _ => .sl id []

def zeros : List CTy → Nat → List At
  | [], _ => []
  | c :: r, id => zeroAt id c :: zeros r (id + 1)

def newRoot (t : Ty) (l : List t.den) : Root := ⟨t, l, true, none⟩

def zeroRoots : List CTy → Nat → List (Nat × Root)
  | [], _ => []
  | .s t :: r, id => (id, newRoot t []) :: zeroRoots r (id + 1)
  | _ :: r, id => zeroRoots r (id + 1)

def cvAt (r : Nat) (p : List (Int × Nat)) (i : Int) : List CV → Nat → List At
  | [], _ => []
  | .i k n :: cs, j => .i k n :: cvAt r p i cs (j + 1)
  | .b x :: cs, j => .b x :: cvAt r p i cs (j + 1)
  | .s _ _ :: cs, j => .sl r (p ++ [(i, j)]) :: cvAt r p i cs (j + 1)

/-- Results of a call laid as slices of their own. -/
def layC : List CV → Nat → List At
  | [], _ => []
  | .i k n :: cs, id => .i k n :: layC cs (id + 1)
  | .b x :: cs, id => .b x :: layC cs (id + 1)
  | .s _ _ :: cs, id => .sl id [] :: layC cs (id + 1)

def layR (own : Bool) : List CV → Nat → List (Nat × Root)
  | [], _ => []
  | .s t l :: cs, id => (id, ⟨t, l, own, none⟩) :: layR own cs (id + 1)
  | _ :: cs, id => layR own cs (id + 1)

def AV.cvs : AV → List CV
  | .one c => [c]
  | .agg l => l

def layAV : List AV → Nat → List TV
  | [], _ => []
  | .one c :: r, id => .at ((layC [c] id).headD .bad) :: layAV r (id + 1)
  | .agg cs :: r, id => .agg (layC cs id) :: layAV r (id + cs.length)

def layAR (own : Bool) : List AV → Nat → List (Nat × Root)
  | [], _ => []
  | x :: r, id => layR own x.cvs id ++ layAR own r (id + x.cvs.length)

def mvOf : List TV → MV
  | [x] => .v x
  | l => .tup l

/-- What an operation does: its condition, its value, the local variables' cells and the slices that it lays (ahead of what was there). -/
structure Dl where
  c : Bool := true
  v : MV
  lo : List (Nat × List At) := []
  ro : List (Nat × Root) := []
  bump : Bool := false

def Dl.at (a : At) : Dl := { v := .v (.at a) }

def constV : Value → Option At
  | .int k n => some (.i k n)
  | .bool x => some (.b x)
  | _ => none

def St.opnd (st : St) : Operand → Option MV
  | .tmp t => match st.tm[t]? with
    | some (.v (.at .bad)) => none
    | x => x
  | .const v => match constV v with
    | some a => some (.v (.at a))
    | none => none
  | .func f => some (.v (.at (.fn f [])))
  | .global _ => none

def St.at (st : St) (x : Operand) : Option At :=
  match st.opnd x with
  | some (.v (.at a)) => some a
  | _ => none

/-- A slice that may be looked at. -/
def St.root (st : St) (r : Nat) : Option Root :=
  match aget st.ro r with
  | some R => match R.ep with
    | none => some R
    | some e => if e == st.ep then some R else none
  | none => none

def St.node (st : St) (r : Nat) (p : List (Int × Nat)) : Option CV :=
  match st.root r with
  | some R => getP R.t R.l p
  | none => none

/-- An atom's content, read. -/
def St.cvOf (st : St) : At → Option CV
  | .i k n => some (.i k n)
  | .b x => some (.b x)
  | .sl r p => st.node r p
  | _ => none

def optAll {α β : Type} (f : α → Option β) : List α → Option (List β)
  | [] => some []
  | a :: r =>
    match f a with
    | some b => match optAll f r with
      | some bs => some (b :: bs)
      | none => none
    | none => none

def St.avOf (st : St) : MV → Option AV
  | .v (.at a) => match st.cvOf a with
    | some c => some (.one c)
    | none => none
  | .v (.agg l) => match optAll st.cvOf l with
    | some cs => some (.agg cs)
    | none => none
  | _ => none

def intOp (op : BinOp) (k : IntKind) (x y : Int) : Option (Bool × At) :=
  match op with
  | .add => some (true, .i k (wadd k x y))
  | .sub => some (true, .i k (wsub k x y))
  | .mul => some (true, .i k (wmul k x y))
  | .quo => some (ine y 0, .i k (wquo k x y))
  | .rem => some (ine y 0, .i k (wrem x y))
  | .and => some (true, .i k (wand k x y))
  | .or => some (true, .i k (wor k x y))
  | .xor => some (true, .i k (wxor k x y))
  | .andNot => some (true, .i k (wandn k x y))
  | .eql => some (true, .b (ieq x y))
  | .neq => some (true, .b (ine x y))
  | .lss => some (true, .b (ilt x y))
  | .leq => some (true, .b (ile x y))
  | .gtr => some (true, .b (igt x y))
  | .geq => some (true, .b (ige x y))
  | _ => none

def shiftOp (op : BinOp) (k : IntKind) (x y : Int) : Option (Bool × At) :=
  match op with
  | .shl => some (ile 0 y, .i k (wshl k x y))
  | .shr => some (ile 0 y, .i k (wshr k x y))
  | _ => none

def isShift : BinOp → Bool
  | .shl | .shr => true
  | _ => false

def atEq : At → At → Option Bool
  | .i k x, .i k' y => if k = k' then some (ieq x y) else none
  | .b x, .b y => some (beqb x y)
  | _, _ => none

def atsEq : List At → List At → Option Bool
  | [], [] => some true
  | [a], [b] => atEq a b
  | a :: r, b :: s =>
    match atEq a b, atsEq r s with
    | some x, some y => some (x && y)
    | _, _ => none
  | _, _ => none

def atTy : At → Option CTy
  | .i k _ => some (.i k)
  | .b _ => some .b
  | _ => none

def eqlRes (op : BinOp) (e : Bool) : Option Dl :=
  match op with
  | .eql => some (.at (.b e))
  | .neq => some (.at (.b (!e)))
  | _ => none

def tvAts : TV → List At
  | .at a => [a]
  | .agg l => l

/-- The parts of a struct laid over its zero cells. -/
def layParts (C : Cfg) (T : TypeId) (st : St) : List (Nat × Operand) → List At → Option (List At)
  | [], cs => some cs
  | (f, x) :: r, cs =>
    match C.fof T f, st.opnd x with
    | some (off, n), some (.v y) => if (tvAts y).length = n ∧ off + n ≤ cs.length then layParts C T st r (splice cs off (tvAts y)) else none
    | _, _ => none

def samePath : List (Int × Nat) → List (Int × Nat) → Option Bool
  | [], [] => some true
  | (i, j) :: p, (i', j') :: q =>
    if j == j' then match samePath p q with
      | some c => some (ieq i i' && c)
      | none => none
    else none
  | _, _ => none

/-- What is handed over to a new place: a condition, the contents, the slices that go with it. -/
def St.give (st : St) (tgt : Option (Nat × List (Int × Nat) × Int)) : List At → Nat → Option (Bool × List CV × List Nat)
  | [], _ => some (true, [], [])
  | a :: r, j =>
    match st.give tgt r (j + 1) with
    | none => none
    | some (c, cs, ks) =>
      match a with
      | .i k n => some (c, .i k n :: cs, ks)
      | .b x => some (c, .b x :: cs, ks)
      | .sl r [] =>
        match st.root r with
        | some R => if R.own && !ks.contains r && (match tgt with | some (r', _, _) => !(r == r') | none => true) then some (c, .s R.t R.l :: cs, r :: ks) else none
        | none => none
      | .sl r q =>
        match tgt with
        | some (r', p, i) =>
          if r == r' then
            match samePath q (p ++ [(i, j)]), st.node r q with
            | some e, some cv => some (c && e, cv :: cs, ks)
            | _, _ => none
          else none
        | none => none
      | _ => none

/-- Slices that were handed over: they may be looked at until something is written again. -/
def moved (st : St) : List Nat → List (Nat × Root)
  | [] => []
  | r :: ks => match aget st.ro r with
    | some R => (r, { R with own := false, ep := some (st.ep + 1) }) :: moved st ks
    | none => moved st ks

def rowParts (st : St) (t : Ty) : List (Nat × Operand) → List t.den → List Nat → Option (List t.den × List Nat)
  | [], l, ks => some (l, ks)
  | (i, x) :: r, l, ks =>
    match st.opnd x with
    | some (.v y) =>
      match st.give none (tvAts y) 0 with
      | some (true, cs, ks') => match t.ofCells cs with
        | some d => if i < l.length && ks'.all (fun k => !ks.contains k) then rowParts st t r (l.set i d) (ks' ++ ks) else none
        | none => none
      | _ => none
    | _ => none

def Ty.flat (t : Ty) : Bool := t.shape.all fun c => match c with | .s _ => false | _ => true

def appendCV (t : Ty) : CV → CV → Option (List t.den)
  | .s t1 l1, .s t2 l2 => if h : t1 = t ∧ t2 = t then some (ap (h.1 ▸ l1) (h.2 ▸ l2)) else none
  | _, _ => none

/-- The slice that a slice expression makes. -/
def subRoot (st : St) (R : Root) (t : Ty) (l : List t.den) : Root := ⟨t, l, false, if R.own then some st.ep else R.ep⟩

/-- The end of a slice: of one of our own it takes the slice over. -/
def cutD (st : St) (id r : Nat) (p : List (Int × Nat)) (R : Root) (t : Ty) (l : List t.den) (a : Int) : Dl :=
  match R.own, p with
  | true, [] => { c := inr a (ln l) (ln l), v := .v (.at (.sl id [])), ro := (id, newRoot t (dp l a)) :: moved st [r], bump := true }
  | _, _ => { c := inr a (ln l) (ln l), v := .v (.at (.sl id [])), ro := [(id, subRoot st R t (dp l a))] }

/-- What an operation does, but for a store that puts a slice into another one. -/
def delta (C : Cfg) (st : St) (o : Oper) (id : Nat) : Option Dl :=
  match o.op with
  | .move x | .assign x =>
    match x with
    | .const (.pointer none) => some { v := .v (.at .bad) }
    | .const (.slice none 0 0) => match C.sty o.type with
      | some t => some { v := .v (.at (.sl id [])), ro := [(id, newRoot t [])] }
      | none => none
    | x => match st.opnd x with
      | some v => some { v }
      | none => none
  | .pick c a b =>
    match st.at c, st.opnd a, st.opnd b with
    | some (.b c), some (.v (.at (.b x))), some (.v (.at (.b y))) => some (.at (.b (cond c x y)))
    | some (.b true), some v, _ => some { v }
    | some (.b false), _, some v => some { v }
    | _, _, _ => none
  | .alloc T =>
    match C.cty T with
    | some (_, tys) => if tys.length ≤ 31 then some { v := .v (.at (.lp (id + 31) 0)), lo := [(id + 31, zeros tys id)], ro := zeroRoots tys id } else none
    | none => none
  | .box _ x =>
    match st.opnd x with
    | some (.v y) => some { v := .v (.at (.lp id 0)), lo := [(id, tvAts y)] }
    | _ => none
  | .build T parts =>
    match C.cty T with
    | some (true, tys) =>
      match layParts C T st parts.toList (zeros tys id) with
      | some cs => if tys.length ≤ 31 then some { v := .v (.agg cs), ro := zeroRoots tys id } else none
      | none => none
    | _ => none
  | .load T x =>
    match C.cty T, st.at x with
    | some (agg, tys), some (.lp l off) =>
      match aget st.lo l with
      | some cs =>
        if agg then (if off + tys.length ≤ cs.length then some { v := .v (.agg ((cs.drop off).take tys.length)) } else none)
        else match cs[off]? with
          | some a => some (.at a)
          | none => none
      | none => none
    | some (agg, tys), some (.ep r p i off) =>
      match st.node r p with
      | some (.s t l) =>
        if agg then (if off + tys.length ≤ t.width then some { v := .v (.agg (cvAt r p i (((t.cells (ix l i t.dflt)).drop off).take tys.length) off)) } else none)
        else match cvAt r p i (((t.cells (ix l i t.dflt)).drop off).take 1) off with
          | [a] => some (.at a)
          | _ => none
      | _ => none
    | _, _ => none
  | .store T a x =>
    match C.cty T, st.opnd x, st.at a with
    | some (_, tys), some (.v y), some (.lp l off) =>
      match aget st.lo l with
      | some cs => if (tvAts y).length = tys.length ∧ off + tys.length ≤ cs.length then some { v := .und, lo := [(l, splice cs off (tvAts y))] } else none
      | none => none
    | some (_, tys), some (.v y), some (.ep r p i off) =>
      match st.root r, st.node r p, st.give none (tvAts y) 0 with
      | some R, some (.s t l), some (c, cvs, []) =>
        if R.own && (tvAts y).length == tys.length && decide (off + tys.length ≤ t.width) then
          match setRow t l i off cvs with
          | some l' => match putP R.t R.l p (.s t l') with
            | some m => some { c, v := .und, ro := [(r, { R with l := m })], bump := true }
            | none => none
          | none => none
        else none
      | _, _, _ => none
    | _, _, _ => none
  | .nilCheck x =>
    match st.at x with
    | some (.lp l off) => some (.at (.lp l off))
    | some (.ep r p i off) => some (.at (.ep r p i off))
    | _ => none
  | .binOp op T x y _ =>
    match st.opnd x, st.opnd y with
    | some (.v (.at (.i k a))), some (.v (.at (.i k' b))) =>
      if isShift op then
        match shiftOp op k a b with
        | some (c, r) => some { c, v := .v (.at r) }
        | none => none
      else if k = k' then
        match intOp op k a b with
        | some (c, r) => some { c, v := .v (.at r) }
        | none => none
      else none
    | some (.v (.at (.b a))), some (.v (.at (.b b))) => if C.cty T = some (false, [.b]) then eqlRes op (beqb a b) else none
    | some (.v (.agg l)), some (.v (.agg m)) =>
      match C.cty T, atsEq l m with
      | some (true, tys), some e => if C.eqt T = true ∧ optAll atTy l = some tys ∧ optAll atTy m = some tys then eqlRes op e else none
      | _, _ => none
    | _, _ => none
  | .unOp op _ x =>
    match op, st.at x with
    | .not, some (.b a) => some (.at (.b (!a)))
    | .neg, some (.i k n) => some (.at (.i k (wsub k 0 n)))
    | _, _ => none
  | .convert src dst x =>
    match C.cty src, C.cty dst, st.at x with
    | some _, some (false, [.i k]), some (.i _ n) => some (.at (.i k (wcv k n)))
    | _, _, _ => none
  | .makeFunc (.func f) first caps =>
    match first.toList, optAll (fun x => match st.at x with | some (.lp l 0) => some l | _ => none) caps.toList with
    | [], some ls => some (.at (.fn f ls))
    | _, _ => none
  | .makeSlice T len cap =>
    match C.sty T, st.at len, st.at cap with
    | some t, some (.i .i64 n), some (.i .i64 m) =>
      some { c := few n && ieq n m, v := .v (.at (.sl id [])), ro := [(id, newRoot t (rp n t.dflt))] }
    | _, _, _ => none
  | .slice T x low high none =>
    match st.at x with
    | some (.sl r p) =>
      match st.root r, st.node r p with
      | some R, some (.s t l) =>
        if C.sty T = some t then
        match low, high with
        | none, none => some { v := .v (.at (.sl id [])), ro := [(id, subRoot st R t l)] }
        | some lo, none => match st.at lo with
          | some (.i .i64 a) => some (cutD st id r p R t l a)
          | _ => none
        | none, some hi => match st.at hi with
          | some (.i .i64 b) => some { c := inr 0 b (ln l), v := .v (.at (.sl id [])), ro := [(id, subRoot st R t (tk l b))] }
          | _ => none
        | some lo, some hi => match st.at lo, st.at hi with
          | some (.i .i64 a), some (.i .i64 b) => some { c := inr a b (ln l), v := .v (.at (.sl id [])), ro := [(id, subRoot st R t (dp (tk l b) a))] }
          | _, _ => none
        else none
      | _, _ => none
    | _ => none
  | .fieldAddr T x f =>
    match C.fof T f, st.at x with
    | some (o, _), some (.lp l off) => some (.at (.lp l (off + o)))
    | some (o, _), some (.ep r p i off) => some (.at (.ep r p i (off + o)))
    | _, _ => none
  | .field T x f =>
    match C.P.underlying T with
    | some (.struct fs) =>
      match fs[f]? with
      | some fx =>
        match C.cty fx.type, st.opnd x with
        | some (agg, tys), some (.v (.agg l)) =>
          if fx.offset + tys.length ≤ l.length then
            match agg with
            | true => some { v := .v (.agg ((l.drop fx.offset).take tys.length)) }
            | false => match l[fx.offset]? with
              | some a => some (.at a)
              | none => none
          else none
        | _, _ => none
      | none => none
    | _ => none
  | .index T (.const (.string s)) i =>
    match C.P.underlying T, st.at i with
    | some .string, some (.i _ n) => some { c := inb n s.size, v := .v (.at (.i .u8 (byteAt s n))) }
    | _, _ => none
  | .indexAddr T x i =>
    match st.at x, st.at i with
    | some (.sl r p), some (.i .i64 n) =>
      match st.node r p with
      | some (.s t l) => if C.sty T = some t then some { c := inb n (ln l), v := .v (.at (.ep r p n 0)) } else none
      | _ => none
    | _, _ => none
  | .extract x j =>
    match st.opnd x with
    | some (.tup l) => match l[j]? with
      | some y => some { v := .v y }
      | none => none
    | _ => none
  | .call c =>
    match c.callee with
    | .builtin .len =>
      match c.args.toList, c.argTypes.toList with
      | [x], [T] => match st.at x with
        | some (.sl r p) => match st.node r p with
          | some (.s t l) => if C.sty T = some t then some (.at (.i .i64 (ln l))) else none
          | _ => none
        | _ => none
      | _, _ => none
    | .builtin .min =>
      match c.args.toList with
      | [x, y] => match st.at x, st.at y with
        | some (.i .i64 a), some (.i .i64 b) => some (.at (.i .i64 (imin a b)))
        | _, _ => none
      | _ => none
    | .builtin .max =>
      match c.args.toList with
      | [x, y] => match st.at x, st.at y with
        | some (.i .i64 a), some (.i .i64 b) => some (.at (.i .i64 (imax a b)))
        | _, _ => none
      | _ => none
    | .builtin .append =>
      match c.args.toList, c.argTypes.toList with
      | [x, y], [T, T2] =>
        if T2 = T then
        match C.sty T, st.at x, st.at y with
        | some t, some (.sl r []), some (.sl r2 p2) =>
          match st.root r, st.root r2, st.node r2 p2 with
          | some R, some R2, some cv2 =>
            if R.own && (t.flat || R2.own && p2.isEmpty && !(r == r2)) then
              match appendCV t (.s R.t R.l) cv2 with
              | some m => some { c := few (ln m), v := .v (.at (.sl id [])), ro := (id, newRoot t m) :: moved st (if t.flat then [r] else [r, r2]), bump := true }
              | none => none
            else none
          | _, _, _ => none
        | _, _, _ => none
        else none
      | _, _ => none
    | .value (.func f) =>
      match C.ctr f with
      | some run =>
        match optAll (fun x => match st.opnd x with | some v => st.avOf v | none => none) c.args.toList with
        | some avs => match run avs with
          | some (c, rs) => if (rs.flatMap AV.cvs).length ≤ 31 then some { c, v := mvOf (layAV rs id), ro := layAR true rs id } else none
          | none => none
        | none => none
      | none => none
    | _ => none
  | .buildSlice T len parts =>
    match C.sty T with
    | some t => match rowParts st t parts.toList (List.replicate len t.dflt) [] with
      | some (l, ks) => if len ≤ 65536 then some { v := .v (.at (.sl id [])), ro := (id, newRoot t l) :: moved st ks, bump := true } else none
      | none => none
    | none => none
  | _ => none

def St.put (st : St) (dst : Option Tmp) (v : MV) : St :=
  match dst with
  | some d => { st with tm := st.tm.set d v }
  | none => st

def St.apply (st : St) (dst : Option Tmp) (d : Dl) : St :=
  { st with lo := d.lo ++ st.lo, ro := d.ro ++ st.ro, ep := if d.bump then st.ep + 1 else st.ep }.put dst d.v

/-! A store that puts a slice into another one: what led through the old one leads nowhere. -/

def cols (p : List (Int × Nat)) : List Nat := p.map (·.2)

/-- What is stale by js is stale by J. -/
def coarse (js J : List (List Nat)) : Bool := js.all fun m => J.any fun c => c.isPrefixOf m

def staleAt (r : Nat) (js : List (List Nat)) : At → At
  | .kp r' J t => cond (Nat.beq r r') (cond (coarse js J) (.kp r' J t) .bad) (.kp r' J t)
  | .sl r' q => if r == r' && js.any (fun m => m.isPrefixOf (cols q)) then .bad else .sl r' q
  | .ep r' q i o => if r == r' && js.any (fun m => m.isPrefixOf (cols q)) then .bad else .ep r' q i o
  | a => a

def staleTV (r : Nat) (js : List (List Nat)) : TV → TV
  | .at a => .at (staleAt r js a)
  | .agg l => .agg (l.map (staleAt r js))

def staleMV (r : Nat) (js : List (List Nat)) : MV → MV
  | .und => .und
  | .v x => .v (staleTV r js x)
  | .tup l => .tup (l.map (staleTV r js))

def sliceCols : List CV → Nat → List Nat
  | [], _ => []
  | .s _ _ :: r, j => j :: sliceCols r (j + 1)
  | _ :: r, j => sliceCols r (j + 1)

/-- The columns in which another slice stands behind the store. -/
def newCols : List At → List CV → Nat → List Nat
  | .sl _ (_ :: _) :: r, _ :: cs, j => newCols r cs (j + 1)
  | _ :: r, .s _ _ :: cs, j => j :: newCols r cs (j + 1)
  | _ :: r, _ :: cs, j => newCols r cs (j + 1)
  | _, _, _ => []

def graft (C : Cfg) (st : St) (o : Oper) : Option (Bool × St) :=
  match o.op with
  | .store T a x =>
    match C.cty T, st.opnd x, st.at a with
    | some (_, tys), some (.v y), some (.ep r p i off) =>
      match st.root r, st.node r p, st.give (some (r, p, i)) (tvAts y) off with
      | some R, some (.s t l), some (c, cvs, ks) =>
        if R.own && (tvAts y).length == tys.length && decide (off + tys.length ≤ t.width) then
          match setRow t l i off cvs with
          | some l' => match putP R.t R.l p (.s t l') with
            | some m =>
              let js := (newCols (tvAts y) cvs off).map fun j => cols p ++ [j]
              some (c,
                { st with
                  tm := st.tm.map (staleMV r js)
                  stk := st.stk.map fun f => f.map (staleMV r js)
                  lo := st.lo.map fun x => (x.1, x.2.map (staleAt r js))
                  ro := (r, { R with l := m }) :: (moved st ks ++ st.ro)
                  ep := st.ep + 1 })
            | none => none
          | none => none
        else none
      | _, _, _ => none
    | _, _, _ => none
  | _ => none

/-- The state after a slice (below a slice of our own) was written by a call. -/
def inSt (st : St) (r : Nat) (R : Root) (m : List R.t.den) (js : List (List Nat)) : St :=
  { st with
    tm := st.tm.map (staleMV r js)
    stk := st.stk.map fun f => f.map (staleMV r js)
    lo := st.lo.map fun x => (x.1, x.2.map (staleAt r js))
    ro := (r, { R with l := m }) :: st.ro
    ep := st.ep + 1 }

/-- A call that writes into the slice that it is handed. -/
def mcall (C : Cfg) (st : St) (o : Oper) : Option (Bool × St × MV) :=
  match o.op with
  | .call c =>
    match c.callee with
    | .value (.func f) =>
      match C.mct f, c.args.toList with
      | some run, [x, y] =>
        match st.at x, st.at y with
        | some (.sl r p), some (.i .i64 k) =>
          match st.root r, st.node r p with
          | some R, some (.s t l) =>
            match run (.s t l) k with
            | some (cc, .s t' l', k') =>
              if R.own = true ∧ t' = t then
                match putP R.t R.l p (.s t' l') with
                | some m => some (cc, inSt st r R m ((List.range t.width).map fun j => cols p ++ [j]), .v (.at (.i .i64 k')))
                | none => none
              else none
            | _ => none
          | _, _ => none
        | _, _ => none
      | _, _ => none
    | _ => none
  | _ => none

/-! A call that writes into a local variable that it is handed. -/

def atIds : At → List Nat
  | .sl r _ => [r]
  | .ep r _ _ _ => [r]
  | .kp r _ _ => [r]
  | _ => []

def atLids : At → List Nat
  | .lp l _ => [l]
  | .fn _ caps => caps
  | _ => []

def mvAts : MV → List At
  | .und => []
  | .v x => tvAts x
  | .tup l => l.flatMap tvAts

/-- The local variable's cells, read: contents; slices that are handed over. -/
def St.blk (st : St) : List Bool → List At → Option (List CV × List Nat)
  | [], [] => some ([], [])
  | own :: ms, a :: r =>
    match St.blk st ms r with
    | none => none
    | some (cs, ks) =>
      match a with
      | .i k n => some (.i k n :: cs, ks)
      | .b x => some (.b x :: cs, ks)
      | .sl q [] =>
        match st.root q with
        | some R => if R.own == own && R.ep.isNone && !ks.contains q then some (.s R.t R.l :: cs, cond own (q :: ks) ks) else none
        | none => none
      | _ => none
  | _, _ => none

/-- The cells after the call. -/
def blkNew : List Bool → List At → List CV → Nat → Option (List At)
  | [], [], [], _ => some []
  | own :: ms, a :: r, c :: cs, id =>
    match blkNew ms r cs (id + 1) with
    | none => none
    | some l =>
      match a, c with
      | .i k _, .i k' n => if k = k' then some (.i k n :: l) else none
      | .b _, .b x => some (.b x :: l)
      | .sl q [], .s _ _ => some (cond own (.sl id [] :: l) (.sl q [] :: l))
      | _, _ => none
  | _, _, _, _ => none

def blkRo : List Bool → List CV → Nat → List (Nat × Root)
  | own :: ms, .s t l :: cs, id => cond own ((id, newRoot t l) :: blkRo ms cs (id + 1)) (blkRo ms cs (id + 1))
  | _ :: ms, _ :: cs, id => blkRo ms cs (id + 1)
  | _, _, _ => []

/-- Slices that were handed over lead nowhere. -/
def killed (st : St) : List Nat → List (Nat × Root)
  | [] => []
  | r :: ks => match aget st.ro r with
    | some R => (r, { R with own := false, ep := some st.ep }) :: killed st ks
    | none => killed st ks

def argFree (st : St) (ks : List Nat) (m : MV) : Bool :=
  (mvAts m).all fun a => (atIds a).all fun r => !ks.contains r && (match st.root r with | some R => R.ep.isNone | none => false)

def St.avF (st : St) (ks : List Nat) (m : MV) : Option AV := if argFree st ks m then st.avOf m else none

def pcallF (st : St) (own : List Bool) (run : List CV → List AV → Option (Bool × List CV × List AV)) (id : Nat) : List Operand → Option (Bool × St × MV)
  | x :: ys =>
    match st.at x with
    | some (.lp l 0) =>
      match aget st.lo l with
      | some cells =>
        match st.blk own cells with
        | some (cs, ks) =>
          match optAll (fun y => match st.opnd y with | some v => st.avF ks v | none => none) ys with
          | some avs =>
            match run cs avs with
            | some (cc, cs', rs) =>
              match blkNew own cells cs' id with
              | some cells' =>
                if cells.length ≤ 12 ∧ (rs.flatMap AV.cvs).length ≤ 16 then
                  some (cc, { st with lo := (l, cells') :: st.lo, ro := blkRo own cs' id ++ (layAR true rs (id + 12) ++ (killed st ks ++ st.ro)), ep := st.ep + 1 }, mvOf (layAV rs (id + 12)))
                else none
              | none => none
            | none => none
          | none => none
        | none => none
      | none => none
    | _ => none
  | _ => none

def pcall (C : Cfg) (st : St) (o : Oper) (id : Nat) : Option (Bool × St × MV) :=
  match o.op with
  | .call c =>
    match c.callee with
    | .value (.func f) =>
      match C.pct f with
      | some (own, run) => pcallF st own run id c.args.toList
      | none => none
    | _ => none
  | _ => none

/-! A call that is handed slices of our own. -/

def atFree (st : St) (ks : List Nat) (a : At) : Bool :=
  (atIds a).all fun r => !ks.contains r && (match st.root r with | some R => R.ep.isNone | none => false)

def St.tks (st : St) : List Bool → List At → Option (List CV × List Nat)
  | [], [] => some ([], [])
  | own :: ms, a :: r =>
    match St.tks st ms r with
    | none => none
    | some (cs, ks) =>
      match own with
      | true =>
        match a with
        | .sl q [] =>
          match st.root q with
          | some R => if R.own && !ks.contains q then some (.s R.t R.l :: cs, q :: ks) else none
          | none => none
        | _ => none
      | false =>
        match st.cvOf a with
        | some c => some (c :: cs, ks)
        | none => none
  | _, _ => none

def packAV : List TV → List CV → List AV
  | [], _ => []
  | .at _ :: r, cs => .one (cs.headD (.b false)) :: packAV r (cs.drop 1)
  | .agg l :: r, cs => .agg (cs.take l.length) :: packAV r (cs.drop l.length)

def tvsOf (st : St) : List Operand → Option (List TV)
  | [] => some []
  | x :: r =>
    match st.opnd x, tvsOf st r with
    | some (.v y), some ys => some (y :: ys)
    | _, _ => none

/-- Functions that may be handed one slice twice: which cells are the same as which of our own. -/
def alTab : List (Nat × List (List (Nat × Nat))) := [
  (100000, [])]

def aliasesOf (f : FuncId) : List (List (Nat × Nat)) :=
  match aget alTab f with
  | some x => x
  | none => [[]]

def freeAll (st : St) (ks : List Nat) (al : List (Nat × Nat)) : Nat → List Bool → List At → Bool
  | j, own :: ms, a :: r => (own || (al.any (fun x => Nat.beq x.1 j) || atFree st ks a)) && freeAll st ks al (j + 1) ms r
  | _, _, _ => true

def aliasOk (own : List Bool) (ats : List At) (al : List (Nat × Nat)) : Bool :=
  al.all fun x => match ats[x.1]?, ats[x.2]?, own[x.1]?, own[x.2]? with
    | some (.sl q []), some (.sl r []), some false, some true => Nat.beq q r
    | _, _, _, _ => false

/-- What led through the slice q leads, where it isn't stale, through its new self n. -/
def renAt (q n : Nat) (js : List (List Nat)) : At → At
  | .sl r p => cond (Nat.beq r q) (cond (js.any (fun m => m.isPrefixOf (cols p))) .bad (.sl n p)) (.sl r p)
  | .ep r p i o => cond (Nat.beq r q) (cond (js.any (fun m => m.isPrefixOf (cols p))) .bad (.ep n p i o)) (.ep r p i o)
  | .kp r J t => cond (Nat.beq r q) (cond (coarse js J) (.kp n J t) .bad) (.kp r J t)
  | a => a

def mapTV (f : At → At) : TV → TV
  | .at a => .at (f a)
  | .agg l => .agg (l.map f)

def mapMV (f : At → At) : MV → MV
  | .und => .und
  | .v x => .v (mapTV f x)
  | .tup l => .tup (l.map (mapTV f))

/-- The slice that is written in place, its new number, what is stale. -/
def renOf (own : List Bool) (ats : List At) (id : Nat) : Option (Nat × Nat × List (List Nat)) → Option (Option (Nat × Nat × List (List Nat)))
  | none => some none
  | some (ja, jr, js) => match own[ja]?, ats[ja]? with
    | some true, some (.sl q []) => some (some (q, id + jr, js))
    | _, _ => none

def St.ren (st : St) : Option (Nat × Nat × List (List Nat)) → St
  | none => st
  | some (q, n, js) => { st with tm := st.tm.map (mapMV (renAt q n js)), stk := st.stk.map (fun f => f.map (mapMV (renAt q n js))), lo := st.lo.map (fun x => (x.1, x.2.map (renAt q n js))) }

def tcallF (st : St) (als : List (List (Nat × Nat))) (own : List Bool) (inp : Option (Nat × Nat × List (List Nat))) (run : List AV → Option (Bool × List AV)) (id : Nat) (args : List Operand) : Option (Bool × St × MV) :=
  match tvsOf st args with
  | some tvs =>
    match st.tks own (tvs.flatMap tvAts) with
    | some (cs, ks) =>
      match renOf own (tvs.flatMap tvAts) id inp with
      | some x =>
        cond (als.any fun al => aliasOk own (tvs.flatMap tvAts) al && freeAll st ks al 0 own (tvs.flatMap tvAts))
          (match run (packAV tvs cs) with
          | some (cc, rs) =>
            if (rs.flatMap AV.cvs).length ≤ 31 then
              some (cc, ({ st with ro := layAR true rs id ++ (killed st ks ++ st.ro), ep := st.ep + 1 } : St).ren x, mvOf (layAV rs id))
            else none
          | none => none) none
      | none => none
    | none => none
  | none => none

def tcall (C : Cfg) (st : St) (o : Oper) (id : Nat) : Option (Bool × St × MV) :=
  match o.op with
  | .call c =>
    match c.callee with
    | .value (.func f) =>
      match C.tct f with
      | some (own, inp, run) => tcallF st (aliasesOf f) own inp run id c.args.toList
      | none => none
    | _ => none
  | _ => none

/-! The loops' heads. -/

inductive IT where
  | hole
  | lit (i : Int)

/-- A template's atom. -/
inductive AT where
  | bad
  | i (k : IntKind)
  | b
  | sl (r : Nat) (js : List Nat)
  | lp (l off : Nat)
  | ep (r : Nat) (js : List Nat) (off : Nat)
  | fn (f : Nat) (caps : List Nat)

structure Tmpl where
  n : Nat
  tm : List (Nat × AT)
  lo : List (Nat × List AT)
  ro : List (Nat × Ty × Bool)
  /-- of the callers' slots: frame, slot, cell; what it leads to is kept -/
  sk : List (Nat × Nat × Nat × AT) := []
  /-- where several ways meet: the slice of which it is said (kp) what stays -/
  kr : Nat := 0

def AT.sig : AT → List CTy
  | .i k => [.i k]
  | .b => [.b]
  | .sl _ js => js.map fun _ => .i .i64
  | .ep _ js _ => (js.map fun _ => CTy.i .i64) ++ [.i .i64]
  | _ => []

def Tmpl.sig (T : Tmpl) : List CTy :=
  T.tm.flatMap (fun x => x.2.sig) ++ T.lo.flatMap (fun x => x.2.flatMap AT.sig) ++ T.ro.map fun x => .s x.2.1

@[reducible] def Dat : List CTy → Type
  | [] => Unit
  | .i _ :: r => Int × Dat r
  | .b :: r => Bool × Dat r
  | .s t :: r => List t.den × Dat r

def unpack : (sig : List CTy) → List CV → Option (Dat sig)
  | [], [] => some ()
  | .i k :: sig, .i k' n :: cs => if k = k' then match unpack sig cs with
      | some d => some (n, d)
      | none => none
    else none
  | .b :: sig, .b x :: cs => match unpack sig cs with
      | some d => some (x, d)
      | none => none
  | .s t :: sig, .s t' l :: cs => if h : t' = t then match unpack sig cs with
      | some d => some (h ▸ l, d)
      | none => none
    else none
  | _, _ => none

def packs : (sig : List CTy) → Dat sig → List CV
  | [], _ => []
  | .i k :: sig, d => .i k d.1 :: packs sig d.2
  | .b :: sig, d => .b d.1 :: packs sig d.2
  | .s t :: sig, d => .s t d.1 :: packs sig d.2

structure Bnd where
  r : List (Nat × Nat)
  l : List (Nat × Nat)

def idx : List Nat → List (Int × Nat) → Option (List CV)
  | [], [] => some []
  | j :: js, (i, j') :: p => if j == j' then match idx js p with
      | some cs => some (.i .i64 i :: cs)
      | none => none
    else none
  | _, _ => none

def bind1 (l : List (Nat × Nat)) (k v : Nat) : Option (List (Nat × Nat)) :=
  match aget l k with
  | some u => if u == v then some l else none
  | none => if l.any (fun x => x.2 == v) then none else some ((k, v) :: l)

def takeAt (B : Bnd) : AT → At → Option (Bnd × List CV)
  | .bad, _ => some (B, [])
  | .i k, .i k' n => if k = k' then some (B, [.i k n]) else none
  | .b, .b x => some (B, [.b x])
  | .sl r js, .sl r' p => match bind1 B.r r r', idx js p with
    | some br, some cs => some ({ B with r := br }, cs)
    | _, _ => none
  | .lp l off, .lp l' off' => if off == off' then match bind1 B.l l l' with
      | some bl => some ({ B with l := bl }, [])
      | none => none
    else none
  | .ep r js off, .ep r' p i off' => if off == off' then match bind1 B.r r r', idx js p with
      | some br, some cs => some ({ B with r := br }, cs ++ [.i .i64 i])
      | _, _ => none
    else none
  | .fn f caps, .fn f' caps' => if f == f' && caps.length == caps'.length then
      match (caps.zip caps').foldl (fun (acc : Option (List (Nat × Nat))) x => match acc with | some bl => bind1 bl x.1 x.2 | none => none) (some B.l) with
      | some bl => some ({ B with l := bl }, [])
      | none => none
    else none
  | _, _ => none

def takeTm (st : St) : Bnd → List (Nat × AT) → Option (Bnd × List CV)
  | B, [] => some (B, [])
  | B, (n, a) :: r =>
    match st.tm[n]? with
    | some (.v (.at x)) => match takeAt B a x with
      | some (B', cs) => match takeTm st B' r with
        | some (B'', cs') => some (B'', cs ++ cs')
        | none => none
      | none => none
    | _ => none

def stAt (st : St) (f s k : Nat) : Option At :=
  match st.stk[f]? with
  | some fr => match fr[s]? with
    | some (.v x) => (tvAts x)[k]?
    | _ => none
  | none => none

def takeSk (st : St) : Bnd → List (Nat × Nat × Nat × AT) → Option Bnd
  | B, [] => some B
  | B, (f, s, k, a) :: r =>
    match stAt st f s k with
    | some x => match takeAt B a x with
      | some (B', []) => takeSk st B' r
      | _ => none
    | none => none

def takeCells : Bnd → List AT → List At → Option (Bnd × List CV)
  | B, [], [] => some (B, [])
  | B, a :: r, x :: y => match takeAt B a x with
    | some (B', cs) => match takeCells B' r y with
      | some (B'', cs') => some (B'', cs ++ cs')
      | none => none
    | none => none
  | _, _, _ => none

def takeLo (st : St) : Bnd → List (Nat × List AT) → Option (Bnd × List CV)
  | B, [] => some (B, [])
  | B, (l, xa) :: r =>
    match aget B.l l with
    | some l' => match aget st.lo l' with
      | some cells => match takeCells B xa cells with
        | some (B', cs) => match takeLo st B' r with
          | some (B'', cs') => some (B'', cs ++ cs')
          | none => none
        | none => none
      | none => none
    | none => none

def takeRo (st : St) (B : Bnd) : List (Nat × Ty × Bool) → Option (List CV)
  | [] => some []
  | (r, t, own) :: rest =>
    match aget B.r r with
    | some r' => match aget st.ro r' with
      | some R => if R.t = t ∧ R.own = own ∧ R.ep = none then match takeRo st B rest with
          | some cs => some (.s R.t R.l :: cs)
          | none => none
        else none
      | none => none
    | none => none

def bndOk (B : Bnd) : Bool := B.r.all (fun x => decide (x.1 < 1000)) && B.l.all (fun x => decide (x.1 < 1000))

def Tmpl.takeB (T : Tmpl) (st : St) : Option (Bnd × List CV) :=
  if T.n == st.tm.length then
    match takeTm st ⟨[], []⟩ T.tm with
    | some (B0, cs) => match takeSk st B0 T.sk with
      | some B => match takeLo st B T.lo with
        | some (B', cs') => match takeRo st B' T.ro with
          | some cs'' => if bndOk B' then some (B', cs ++ cs' ++ cs'') else none
          | none => none
        | none => none
      | none => none
    | none => none
  else none

def Tmpl.take (T : Tmpl) (st : St) : Option (List CV) :=
  match T.takeB st with
  | some (_, cs) => some cs
  | none => none

/-! What is kept of the callers' slots at a loop's head: numbers, whole slices and local variables that the template names. -/

def rfind : List (Nat × Nat) → Nat → Option Nat
  | [], _ => none
  | (k, v) :: l, r => cond (Nat.beq v r) (some k) (rfind l r)

def keepAt (B : Bnd) (base : Nat) : At → At
  | .i k n => .i k n
  | .b x => .b x
  | .sl r p => match rfind B.r r with | some k => .sl (base + k) p | none => .bad
  | .ep r p i o => match rfind B.r r with | some k => .ep (base + k) p i o | none => .bad
  | .kp r J t => match rfind B.r r with | some k => .kp (base + k) J t | none => .bad
  | .lp l o => match rfind B.l l with | some k => .lp (base + k) o | none => .bad
  | _ => .bad

def keepStk (B : Bnd) (base : Nat) (stk : List (List MV)) : List (List MV) := stk.map fun f => f.map (mapMV (keepAt B base))

/-- Two paths of the same columns: are the indices the same? -/
def eqPath : List (Int × Nat) → List (Int × Nat) → Bool
  | [], [] => true
  | [(i, j)], [(i', j')] => cond (Nat.beq j j') (ieq i i') false
  | (i, j) :: p, (i', j') :: q => cond (Nat.beq j j') (ieq i i' && eqPath p q) false
  | _, _ => false

def corrR (B : Bnd) (base : Nat) (r' r : Nat) : Bool := Nat.ble base r && (match aget B.r (r - base) with | some v => Nat.beq v r' | none => false)

/-- Does the old atom lead where the kept one is to lead? -/
def corrAt (B : Bnd) (base : Nat) : At → At → Bool
  | .sl r' p', .sl r p => cond (corrR B base r' r) (eqPath p' p) false
  | .ep r' p' i' o', .ep r p i o => cond (corrR B base r' r && Nat.beq o' o) (ieq i' i && eqPath p' p) false
  | .kp r' J' t', .kp r J t => corrR B base r' r && (J' == J && decide (t' = t))
  | .lp l' o', .lp l o => Nat.ble base l && Nat.beq o o' && (match aget B.l (l - base) with | some v => Nat.beq v l' | none => false)
  | _, .sl _ _ => false
  | _, .lp _ _ => false
  | _, .ep _ _ _ _ => false
  | _, .fn _ _ => false
  | _, .kp _ _ _ => false
  | _, _ => true

def corrAts (B : Bnd) (base : Nat) : List At → List At → Bool
  | [], [] => true
  | a :: r, b :: s => corrAt B base a b && corrAts B base r s
  | _, _ => false

def corrTV (B : Bnd) (base : Nat) : TV → TV → Bool
  | .at a, .at b => corrAt B base a b
  | .agg l, .agg m => corrAts B base l m
  | _, _ => false

def corrTVs (B : Bnd) (base : Nat) : List TV → List TV → Bool
  | [], [] => true
  | a :: r, b :: s => corrTV B base a b && corrTVs B base r s
  | _, _ => false

def corrMV (B : Bnd) (base : Nat) : MV → MV → Bool
  | .und, .und => true
  | .v x, .v y => corrTV B base x y
  | .tup l, .tup m => corrTVs B base l m
  | _, _ => false

def corrF (B : Bnd) (base : Nat) : List MV → List MV → Bool
  | [], [] => true
  | a :: r, b :: s => corrMV B base a b && corrF B base r s
  | _, _ => false

def corrStk (B : Bnd) (base : Nat) : List (List MV) → List (List MV) → Bool
  | [], [] => true
  | a :: r, b :: s => corrF B base a b && corrStk B base r s
  | _, _ => false

def idxBack : List Nat → List CV → Option (List (Int × Nat) × List CV)
  | [], cs => some ([], cs)
  | j :: js, .i _ n :: cs => match idxBack js cs with
    | some (p, cs') => some ((n, j) :: p, cs')
    | none => none
  | _, _ => none

def putAt (base : Nat) : AT → List CV → Option (At × List CV)
  | .bad, cs => some (.bad, cs)
  | .i k, .i _ n :: cs => some (.i k n, cs)
  | .b, .b x :: cs => some (.b x, cs)
  | .sl r js, cs => match idxBack js cs with
    | some (p, cs') => some (.sl (base + r) p, cs')
    | none => none
  | .lp l off, cs => some (.lp (base + l) off, cs)
  | .ep r js off, cs => match idxBack js cs with
    | some (p, .i _ n :: cs') => some (.ep (base + r) p n off, cs')
    | _ => none
  | .fn f caps, cs => some (.fn f (caps.map fun l => base + l), cs)
  | _, _ => none

def putTm (base : Nat) : List (Nat × AT) → List CV → List MV → Option (List MV × List CV)
  | [], cs, tm => some (tm, cs)
  | (n, a) :: r, cs, tm => match putAt base a cs with
    | some (x, cs') => putTm base r cs' (tm.set n (.v (.at x)))
    | none => none

def putCells (base : Nat) : List AT → List CV → Option (List At × List CV)
  | [], cs => some ([], cs)
  | a :: r, cs => match putAt base a cs with
    | some (x, cs') => match putCells base r cs' with
      | some (xs, cs'') => some (x :: xs, cs'')
      | none => none
    | none => none

def putLo (base : Nat) : List (Nat × List AT) → List CV → Option (List (Nat × List At) × List CV)
  | [], cs => some ([], cs)
  | (l, xa) :: r, cs => match putCells base xa cs with
    | some (xs, cs') => match putLo base r cs' with
      | some (ls, cs'') => some ((base + l, xs) :: ls, cs'')
      | none => none
    | none => none

def putRo (base : Nat) : List (Nat × Ty × Bool) → List CV → Option (List (Nat × Root))
  | [], [] => some []
  | (r, _, own) :: rest, .s t l :: cs => match putRo base rest cs with
    | some ros => some ((base + r, ⟨t, l, own, none⟩) :: ros)
    | none => none
  | _, _ => none

def Tmpl.put (T : Tmpl) (base : Nat) (cs : List CV) : Option St :=
  match putTm base T.tm cs (List.replicate T.n (.v (.at .bad))) with
  | some (tm, cs') => match putLo base T.lo cs' with
    | some (lo, cs'') => match putRo base T.ro cs'' with
      | some ro => some { tm, lo, ro, stk := [], nid := base + 1000, ep := 0 }
      | none => none
    | none => none
  | none => none

def iter {σ ρ : Type} : Nat → ((σ → Option ρ) → σ → Option ρ) → σ → Option ρ
  | 0, _, _ => none
  | n + 1, F, s => F (iter n F) s

inductive Ex where
  | normal
  | exit (id : Nat)
  | ret

abbrev Ans := List AV

/-- A call that is walked into: function, arguments, state; what follows. -/
abbrev InCall := FuncId → List MV → St → (List TV → St → Option Ans) → Option Ans

def guardOf (st : St) (ops : Array Oper) (j : Nat) : Option MV :=
  match ops[j]? with
  | some o => match o.dst with
    | some t => st.tm[t]?
    | none => none
  | none => none

def guardDst (ops : Array Oper) (j : Nat) : Option Tmp :=
  match ops[j]? with
  | some o => o.dst
  | none => none

/-- A function that has a contract is called by it where it is called by its name. -/
def byName (C : Cfg) (x : Operand) (f : FuncId) : Bool :=
  match x with
  | .func _ => (C.ctr f).isSome || (C.mct f).isSome || (C.pct f).isSome || (C.tct f).isSome
  | _ => false

def isIn (C : Cfg) (st : St) (o : Oper) : Option (FuncId × List Nat × Array Operand) :=
  match o.op with
  | .call { callee := .value x, args, .. } =>
    match st.at x with
    | some (.fn f caps) => cond (byName C x f) none (some (f, caps, args))
    | _ => none
  | _ => none

/-- A value that is used more than once: named, so that it is written once. -/
@[reducible] def share {α β : Type} (x : α) (f : α → β) : β := f x

/-! The slots, looked at one by one, so that they stand there as they are. -/
def forceAt {β : Type} (a : At) (k : At → β) : β :=
  match a with
  | .bad => k .bad
  | .i c n => k (.i c n)
  | .b x => k (.b x)
  | .sl r p => k (.sl r p)
  | .lp l o => k (.lp l o)
  | .ep r p i o => k (.ep r p i o)
  | .fn f c => k (.fn f c)
  | .kp r J t => k (.kp r J t)

def forceMV {β : Type} (m : MV) (k : MV → β) : β :=
  match m with
  | .und => k .und
  | .v (.at a) => forceAt a fun a => k (.v (.at a))
  | .v (.agg l) => k (.v (.agg l))
  | .tup l => k (.tup l)

def forceTm {β : Type} : List MV → (List MV → β) → β
  | [], k => k []
  | m :: l, k => forceMV m fun m => forceTm l fun l => k (m :: l)

def forceNat {β : Type} (n : Nat) (k : Nat → β) : β :=
  match n with
  | 0 => k 0
  | m + 1 => k (m + 1)

def forceAts {β : Type} : List At → (List At → β) → β
  | [], k => k []
  | a :: l, k => forceAt a fun a => forceAts l fun l => k (a :: l)

def forceLo {β : Type} : List (Nat × List At) → (List (Nat × List At) → β) → β
  | [], k => k []
  | (n, cs) :: l, k => forceNat n fun n => forceAts cs fun cs => forceLo l fun l => k ((n, cs) :: l)

def forceB {β : Type} (b : Bool) (k : Bool → β) : β :=
  match b with
  | true => k true
  | false => k false

def forceEp {β : Type} (e : Option Nat) (k : Option Nat → β) : β :=
  match e with
  | none => k none
  | some n => forceNat n fun n => k (some n)

def forceRo {β : Type} : List (Nat × Root) → (List (Nat × Root) → β) → β
  | [], k => k []
  | (n, ⟨t, x, own, ep⟩) :: l, k => forceNat n fun n => forceB own fun own => forceEp ep fun ep => forceRo l fun l => k ((n, ⟨t, x, own, ep⟩) :: l)

/-- The state, looked at part by part, so that it stands there as it is. -/
def St.forced (st : St) (k : St → Option Ans) : Option Ans :=
  forceTm st.tm fun tm => forceLo st.lo fun lo => forceRo st.ro fun ro => forceNat st.nid fun nid => forceNat st.ep fun ep => k { tm, lo, ro, stk := st.stk, nid, ep }

/-- The state after something was written into a slice: what was written is named. -/
def St.shared (st : St) (k : St → Option Ans) : Option Ans :=
  forceTm st.tm fun tm =>
    match st.ro with
    | (r, R) :: ro => share R.l fun l => k { st with tm, ro := (r, { R with l }) :: ro }
    | [] => k { st with tm }

def wrote (o : Oper) (d : Dl) (st : St) (k : St → Option Ans) : Option Ans :=
  match o.op, d.ro with
  | .store .., [_] => st.shared k
  | _, _ => k st

/-- One operation that is no call to be walked into: the guard, then what it does. -/
def step1 (C : Cfg) (base : Nat) (i : Nat) (o : Oper) (st : St) (k : St → Option Ans) : Option Ans :=
  match delta C st o (base + 32 * i) with
  | some d => cond d.c (wrote o d (st.apply o.dst d) k) none
  | none =>
    match graft C st o with
    | some (c, st') => cond c ((st'.put o.dst .und).shared k) none
    | none =>
      match mcall C st o with
      | some (c, st', v) => cond c ((st'.put o.dst v).shared k) none
      | none =>
        match pcall C st o (base + 32 * i) with
        | some (c, st', v) => cond c (k (st'.put o.dst v)) none
        | none =>
          match tcall C st o (base + 32 * i) with
          | some (c, st', v) => cond c (k (st'.put o.dst v)) none
          | none => none

def guarded (ops : Array Oper) (o : Oper) (st : St) (run skip : St → Option Ans) : Option Ans :=
  match o.guard with
  | none => run st
  | some (j, want) =>
    match guardOf st ops j with
    | some .und => skip (st.put o.dst .und)
    | some (.v (.at (.b x))) =>
      cond x
        (match want with
          | true => run (st.put (guardDst ops j) (.v (.at (.b true))))
          | false => skip ((st.put (guardDst ops j) (.v (.at (.b true)))).put o.dst .und))
        (match want with
          | true => skip ((st.put (guardDst ops j) (.v (.at (.b false)))).put o.dst .und)
          | false => run (st.put (guardDst ops j) (.v (.at (.b false)))))
    | _ => none

def denOps (C : Cfg) (call : InCall) (ops : Array Oper) (base : Nat) (k : St → Option Ans) : List Nat → St → Option Ans
  | [], st => k st
  | i :: rest, st =>
    match ops[i]? with
    | none => none
    | some o =>
      guarded ops o st
        (fun st =>
          match isIn C st o with
          | some (f, caps, args) =>
            match optAll (fun x => st.opnd x) args.toList with
            | some vs => call f (vs ++ caps.map fun l => .v (.at (.lp l 0))) st fun rs st' => denOps C call ops base k rest (st'.put o.dst (mvOf rs))
            | none => none
          | none => step1 C base i o st (denOps C call ops base k rest))
        (denOps C call ops base k rest)

/-! Regions that draw their order. -/

def opTmps (o : Oper) : List Nat :=
  o.op.operands.toList.filterMap fun x => match x with
    | .tmp t => some t
    | _ => none

/-- What an operation looks at: slots, slices, local variables; what it writes. -/
structure Foot where
  tm : List Nat
  ro : List Nat
  lo : List Nat
  dst : Option Nat
  wro : List Nat
  wlo : List Nat

def opAts (st : St) (o : Oper) : List At := (o.op.operands.toList.filterMap st.opnd).flatMap mvAts

def guardTm (ops : Array Oper) (o : Oper) : List Nat :=
  match o.guard with
  | some (j, _) => (guardDst ops j).toList
  | none => []

def lookFoot (st : St) (ops : Array Oper) (o : Oper) (d : Dl) : Foot :=
  { tm := opTmps o ++ guardTm ops o, ro := (opAts st o).flatMap atIds, lo := (opAts st o).flatMap atLids, dst := o.dst, wro := d.ro.map (·.1), wlo := d.lo.map (·.1) }

def skipFoot (ops : Array Oper) (o : Oper) : Foot :=
  { tm := guardTm ops o, ro := [], lo := [], dst := o.dst, wro := [], wlo := [] }

def apartL (a b : List Nat) : Bool := a.all fun x => !b.contains x

def Foot.apart (x y : Foot) : Bool :=
  (match x.dst with
    | some d => !y.tm.contains d && !(y.dst == some d)
    | none => true) &&
  (match y.dst with
    | some d => !x.tm.contains d
    | none => true) &&
  apartL x.wro (y.ro ++ y.wro) && apartL y.wro x.ro && apartL x.wlo (y.lo ++ y.wlo) && apartL y.wlo x.lo

def closureOf (ops : Array Oper) : List Nat → List (List Nat) → List (List Nat)
  | [], acc => acc
  | i :: r, acc =>
    let c := match ops[i]? with
      | some o => o.after.toList.flatMap fun e => if Region.binds .any e then e.on :: (acc.getD e.on []) else []
      | none => []
    closureOf ops r (acc ++ [c])

def fullAt (cl : List (List Nat)) (m : Nat) : Bool := (List.range m).all fun j => (cl.getD m []).contains j

/-- An operation that waits for all that are ahead of it, and that all behind it wait for. -/
def pinned (n : Nat) (cl : List (List Nat)) (m : Nat) : Bool := fullAt cl m && (List.range' (m + 1) (n - (m + 1))).all fun k => (cl.getD k []).contains m

def pinsOf (n : Nat) (cl : List (List Nat)) : List Bool := (List.range n).map (pinned n cl)

def freeLen : List Bool → Nat
  | false :: r => freeLen r + 1
  | _ => 0

/-- Each operation comes behind what it waits for, by some ranking. -/
def orderly (md : Region.Mode) (ops : Array Oper) (rk : Nat → Nat) : Bool :=
  (List.range ops.size).all fun i => match ops[i]? with
    | some o => o.after.toList.all fun e => !Region.binds md e || (Nat.blt e.on ops.size && Nat.blt (rk e.on) (rk i))
    | none => true

def posIn : List Nat → Nat → Nat
  | [], _ => 0
  | a :: r, i => cond (Nat.beq a i) 0 (posIn r i + 1)

def drawOk (ops : Array Oper) (cl : List (List Nat)) : Bool :=
  cond (Region.departs ops) (orderly .text ops (fun i => i) && orderly .gc ops (posIn (Region.linearise .gc ops 0))) true &&
  (List.range ops.size).all (fun i => (cl.getD i []).all fun j => decide (j < i))

/-- Operations that do not wait for each other do not touch each other. -/
def apartOk (cl : List (List Nat)) (fs : List (Nat × Foot)) : Bool :=
  fs.all fun x => fs.all fun y => !(decide (x.1 < y.1)) || (cl.getD y.1 []).contains x.1 || x.2.apart y.2

/-- It may be that what looked into another slice is looked at no more. -/
def mayBump (ops : Array Oper) (i : Nat) : Bool :=
  match ops[i]? with
  | some o => match o.op with
    | .store .. | .buildSlice .. => true
    | .slice _ _ (some _) none none => true
    | .call c => match c.callee with
      | .builtin .append => true
      | _ => false
    | _ => false
  | none => false

def deadR (b : Bool) (R : Root) : Root :=
  match b, R.ep with
  | true, some _ => { R with ep := some 0 }
  | _, _ => R

/-- What an operation of a drawn region does: the slices that look into others die if anything may be written. -/
def St.effD (st : St) (b : Bool) (dst : Option Tmp) (d : Dl) : St :=
  { st with lo := d.lo ++ st.lo, ro := d.ro.map (fun (x : Nat × Root) => (x.1, deadR b x.2)) ++ st.ro }.put dst d.v

/-- An append to a slice that lies below a slice of our own: where its result goes, where the slice lies, what it will hold. -/
structure App where
  dst : Nat
  r : Nat
  p : List (Int × Nat)
  t : Ty
  l : List t.den

def apLow (C : Cfg) (st : St) (o : Oper) : Option (Bool × App) :=
  match o.op, o.dst, o.guard with
  | .call c, some d, none =>
    match c.callee with
    | .builtin .append =>
      match c.args.toList, c.argTypes.toList with
      | [x, y], [T, T2] =>
        if T2 = T then
        match C.sty T, st.at x, st.at y with
        | some t, some (.sl r (a :: p)), some (.sl r2 p2) =>
          match st.root r, st.node r (a :: p), st.node r2 p2 with
          | some R, some cv1, some cv2 =>
            if R.own && t.flat && !(r == r2) then
              match appendCV t cv1 cv2, cv2 with
              | some m, .s _ (_ :: _) => some (few (ln m), ⟨d, r, a :: p, t, m⟩)
              | _, _ => none
            else none
          | _, _, _ => none
        | _, _, _ => none
        else none
      | _, _ => none
    | _ => none
  | _, _, _ => none

/-- An operation that reads alone, and whether it may be done is not asked. -/
def pureOp (o : Oper) : Bool :=
  o.guard.isNone && match o.op with
  | .move (.tmp _) | .load .. | .fieldAddr .. | .indexAddr .. | .nilCheck .. => true
  | _ => false

/-- Those that the operation `a` does not wait for read alone. -/
def lateOk (ops : Array Oper) (cl : List (List Nat)) (m a : Nat) : Bool :=
  (List.range' m (a - m)).all fun j => (cl.getD a []).contains j || (match ops[j]? with | some o => pureOp o | none => false)

def badDl : Dl := { v := .v (.at .bad) }

def denDraw (C : Cfg) (ops : Array Oper) (cl : List (List Nat)) (b : Bool) (base m : Nat) (k : St → Option Ans) (kl : App → St → Option Ans) : List Nat → List (Nat × Foot) → St → Option Ans
  | [], fs, st => if apartOk cl fs then k st else none
  | i :: rest, fs, st =>
    match ops[i]? with
    | none => none
    | some o =>
      guarded ops o st
        (fun st' =>
          match delta C st' o (base + 32 * i) with
          | some d => cond d.c (denDraw C ops cl b base m k kl rest ((i, lookFoot st' ops o d) :: fs) (st'.effD b o.dst d)) none
          | none =>
            match rest, apLow C st' o with
            | [], some (c, x) => if b && lateOk ops cl m i && decide (x.dst < st'.tm.length) && apartOk cl ((i, lookFoot st' ops o badDl) :: fs) then cond c (kl x (st'.put o.dst (.v (.at .bad)))) none else none
            | _, _ => none)
        (fun st' => denDraw C ops cl b base m k kl rest ((i, skipFoot ops o) :: fs) st')

/-- The store that puts the longer slice where the shorter one lay. -/
def lateStore (C : Cfg) (st : St) (o : Oper) (x : App) : Option (Bool × St) :=
  match o.op, o.guard with
  | .store T a (.tmp d), none =>
    match C.cty T, st.at a with
    | some (false, [.s t1]), some (.ep r p i off) =>
      match st.root r, st.node r p, samePath (p ++ [(i, off)]) x.p with
      | some R, some (.s t l), some c =>
        if R.own && Nat.beq d x.dst && Nat.beq r x.r && decide (off < t.width) then
          match setRow t l i off [.s x.t x.l] with
          | some l' => match putP R.t R.l p (.s t l') with
            | some m => some (c, inSt st r R m [cols p ++ [off]])
            | none => none
          | none => none
        else none
      | _, _, _ => none
    | _, _ => none
  | _, _ => none

/-- From the append to the store: what lies between reads alone. -/
def lateSegs (C : Cfg) (ops : Array Oper) (base : Nat) (x : App) (k : Nat → List Bool → St → Option Ans) : List Bool → Nat → St → Option Ans
  | true :: r, m, st =>
    match ops[m]? with
    | none => none
    | some o =>
      match lateStore C st o x with
      | some (c, st') => cond c ((st'.put o.dst .und).shared (k (m + 1) r)) none
      | none =>
        if pureOp o && !(o.dst == some x.dst) then
          match delta C st o (base + 32 * m) with
          | some d => cond d.c (lateSegs C ops base x k r (m + 1) (st.apply o.dst d)) none
          | none => none
        else none
  | _, _, _ => none

/-- The region in parts: an operation that stands where it stands; operations that may go in several orders. -/
def denSegs (C : Cfg) (call : InCall) (ops : Array Oper) (cl : List (List Nat)) (base : Nat) (k : St → Option Ans) : Nat → Nat → List Bool → St → Option Ans
  | 0, _, _, _ => none
  | fuel + 1, m, pins, st =>
    match pins with
    | [] => k st
    | true :: r => denOps C call ops base (fun st' => denSegs C call ops cl base k fuel (m + 1) r st') [m] st
    | false :: r =>
      let n := freeLen r + 1
      let b := (List.range' m n).any (mayBump ops)
      denDraw C ops cl b base m (fun st' => denSegs C call ops cl base k fuel (m + n) (r.drop (freeLen r)) st')
        (fun x st' => lateSegs C ops base x (fun m' r' st'' => denSegs C call ops cl base k fuel m' r' st'') (r.drop (freeLen r)) (m + n) st')
        (List.range' m n) [] { st with ep := if b then st.ep + 1 else st.ep }

def denDrawn (C : Cfg) (call : InCall) (ops : Array Oper) (k : St → Option Ans) (st : St) : Option Ans :=
  let cl := closureOf ops (List.range ops.size) []
  if drawOk ops cl then denSegs C call ops cl st.nid k (ops.size + 1) 0 (pinsOf ops.size cl) { st with nid := st.nid + 32 * ops.size } else none

/-! Where ways meet. -/

def codeSize : Code → Nat
  | .seq a b => codeSize a + codeSize b + 1
  | .cond _ a b => codeSize a + codeSize b + 1
  | .block _ a => codeSize a + 1
  | .loop a => codeSize a + 1
  | _ => 1

def forkEnd : Code → Bool
  | .cond _ _ _ => true
  | .seq _ b => forkEnd b
  | _ => false

def joinKey (a b : Code) : Nat := 1000000 + 1000 * codeSize a + codeSize b

/-- Do the pointers stand where the template says? -/
def fitT (T : Tmpl) (st : St) : Bool :=
  T.tm.all fun x => match x.2, st.tm[x.1]? with
    | .lp _ o, some (.v (.at (.lp _ o'))) => Nat.beq o o'
    | _, _ => true

/-- Behind a fork: is there a template of what follows? -/
def joinT (tm : Nat → Option Tmpl) (st : St) (a b : Code) : Option Tmpl :=
  match tm 999999 with
  | some _ => match forkEnd a with
    | true => match tm (joinKey a b) with
      | some T => cond (fitT T st) (some T) (tm (1000000000 + joinKey a b))
      | none => none
    | false => none
  | none => none

def kpRoot : List (List MV) → Nat
  | [.v (.at (.kp r _ _))] :: _ => r
  | _ => 0

def joinStk (T : Tmpl) (st : St) : List (List MV) := keepStk ⟨[(T.kr, kpRoot st.stk)], []⟩ st.nid st.stk

/-- What follows, from a template's data. -/
def joinK (T : Tmpl) (nid : Nat) (stk : List (List MV)) (k : St → Option Ans) (s : Dat T.sig) : Option Ans :=
  match T.put nid (packs T.sig s) with
  | none => none
  | some st1 => k { st1 with stk := stk }

/-- The data of a way's end. -/
def joinE (T : Tmpl) (nid : Nat) (stk : List (List MV)) (st : St) (κ : Dat T.sig → Option Ans) : Option Ans :=
  match T.takeB st with
  | none => none
  | some (B, cs) => match unpack T.sig cs with
    | none => none
    | some s => cond (corrStk B nid st.stk stk) (κ s) none

def denF (C : Cfg) (tm : Nat → Option Tmpl) (N : Nat) (call : InCall) : Code → St → (Ex → St → Option Ans) → Option Ans
  | .skip, st, k => k .normal st
  | .region _ ops false, st, k =>
    st.forced fun st => denOps C call ops st.nid (fun st' => k .normal st') (List.range ops.size) { st with nid := st.nid + 32 * ops.size }
  | .region _ ops true, st, k =>
    st.forced fun st => denDrawn C call ops (fun st' => k .normal st') st
  | .seq a b, st, k =>
    match joinT tm st a b with
    | none => denF C tm N call a st fun e st' => match e with
      | .normal => denF C tm N call b st' k
      | e => k e st'
    | some T =>
      share (joinK T st.nid (joinStk T st) fun st1 => denF C tm N call b st1 k) fun κ => denF C tm N call a st fun e st' => match e with
        | .normal => joinE T st.nid (joinStk T st) st' κ
        | e => k e st'
  | .cond c a b, st, k =>
    match st.at c with
    | some (.b x) => cond x (denF C tm N call a st k) (denF C tm N call b st k)
    | _ => none
  | .block id (.loop body), st, k =>
    match tm id with
    | none => none
    | some T =>
      match T.takeB st with
      | none => none
      | some (B0, cs) =>
        match unpack T.sig cs with
        | none => none
        | some s0 =>
          cond (corrStk B0 st.nid st.stk (keepStk B0 st.nid st.stk))
          (iter N (fun rec s =>
            match T.put st.nid (packs T.sig s) with
            | none => none
            | some st1 => denF C tm N call body { st1 with stk := keepStk B0 st.nid st.stk } fun e st' => match e with
              | .normal => match T.takeB st' with
                | none => none
                | some (B', cs') => match unpack T.sig cs' with
                  | none => none
                  | some s' => cond (corrStk B' st.nid st'.stk (keepStk B0 st.nid st.stk)) (rec s') none
              | .exit id' => if id' == id then k .normal st' else k (.exit id') st'
              | .ret => k .ret st') s0) none
  | .block id body, st, k => denF C tm N call body st fun e st' => match e with
    | .exit id' => if id' == id then k .normal st' else k (.exit id') st'
    | e => k e st'
  | .exit id, st, k => k (.exit id) st
  | .ret, st, k => k .ret st
  | _, _, _ => none

/-- What a function hands back. -/
def resultsOf (C : Cfg) (st : St) : List ResultVar → Option (List TV)
  | [] => some []
  | .tmp t :: r =>
    match st.tm[t]?, resultsOf C st r with
    | some (.v x), some xs => some (x :: xs)
    | _, _ => none
  | .cell t T :: r =>
    match st.at (.tmp t), C.cty T, resultsOf C st r with
    | some (.lp l off), some (agg, tys), some xs => match aget st.lo l with
      | some cs =>
        if agg then (if off + tys.length ≤ cs.length then some (.agg ((cs.drop off).take tys.length) :: xs) else none)
        else match cs[off]? with
          | some a => some (.at a :: xs)
          | none => none
      | none => none
    | _, _, _ => none

/-- A function's body, from its arguments on. -/
def denFn (C : Cfg) (tms : FuncId → Nat → Option Tmpl) (N : Nat) (call : InCall) (f : FuncId) (vs : List MV) (st : St) (k : List TV → St → Option Ans) : Option Ans :=
  match C.P.funcs[f]? with
  | some fn =>
    match fn.body with
    | some body =>
      denF C (tms f) N call body { st with tm := vs ++ List.replicate (fn.ntmps - vs.length) .und, stk := st.tm :: st.stk } fun e st' =>
        match e with
        | .exit _ => none
        | _ => match resultsOf C st' fn.results.toList, st'.stk with
          | some rs, tm :: stk => k rs { st' with tm, stk }
          | _, _ => none
    | none => none
  | none => none

def callIn (C : Cfg) (tms : FuncId → Nat → Option Tmpl) (N : Nat) : Nat → InCall
  | 0 => fun _ _ _ _ => none
  | d + 1 => denFn C tms N (callIn C tms N d)

/-- The answer: each result's content; each slice in it owned, no two of one root. -/
def ansOf (st : St) : List TV → List Nat → Option Ans
  | [], _ => some []
  | .at a :: r, seen =>
    match st.give none [a] 0 with
    | some (true, [c], ks) => if ks.all (fun k => !seen.contains k) then match ansOf st r (ks ++ seen) with
        | some xa => some (.one c :: xa)
        | none => none
      else none
    | _ => none
  | .agg l :: r, seen =>
    match st.give none l 0 with
    | some (true, cs, ks) => if ks.all (fun k => !seen.contains k) then match ansOf st r (ks ++ seen) with
        | some xa => some (.agg cs :: xa)
        | none => none
      else none
    | _ => none

/-- A function over plain data. -/
def evalFn (C : Cfg) (tms : FuncId → Nat → Option Tmpl) (N D : Nat) (f : FuncId) (args : List AV) : Option Ans :=
  denFn C tms N (callIn C tms N D) f ((layAV args 0).map .v) { tm := [], lo := [], ro := layAR false args 0, stk := [], nid := (args.flatMap AV.cvs).length, ep := 0 } fun rs st => ansOf st rs []

end Go.Proofs.Ytcfnaifggdelnaa.E
