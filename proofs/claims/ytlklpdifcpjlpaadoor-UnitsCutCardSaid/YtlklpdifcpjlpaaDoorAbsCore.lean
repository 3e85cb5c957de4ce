/- The abstract interpreter: an executable big-step reading of the model's code over values without memory. Definitions only. -/
import Derived.Defers
import Derived.Recover
namespace Go.Abs

/-- What is known of a slice's right to be appended to: nothing; its capacity is its length; it owns its row. -/
inductive Own where
  | no
  | full
  | row (e : TypeId)
  deriving DecidableEq, Inhabited

inductive AVal where
  | bool (b : Bool)
  | int (k : IntKind) (n : Int)
  | str (s : List UInt8)
  | nilptr
  | ptr (o off : Nat)
  | loc (o off : Nat)
  | imm (cells : List AVal)
  | slice (own : Own) (elems : List (List AVal))
  | fn (f : FuncId) (captured : List AVal)
  | nilfunc
  | iface (t : TypeId) (v : AVal)
  | nilIface
  | nilmap
  | agg (cells : List AVal)
  | tup (vs : List AVal)
  | any
  deriving Inhabited

inductive AObj where
  | cells (l : List AVal)
  | iter (s : List UInt8) (pos : Nat)
  deriving Inhabited

abbrev Mem := List AObj

structure AFrame where
  tmps : List AVal
  locs : List AObj
  defers : List (FuncId × List AVal)
  deriving Inhabited

inductive AExit where
  | normal
  | ret
  | exit (id : Nat)
  | pan (v : AVal)

inductive Out where
  | ret (v : AVal)
  | pan (v : AVal)

/-- What the interpreter needs of a type. -/
inductive TK where
  | bool
  | int (k : IntKind)
  | str
  | struct (fields : List (Nat × Nat × Bool))
  | array (len esize : Nat) (eagg : Bool)
  | slice (elem : TypeId)
  | ptr
  | iface
  | func
  | map

structure TI where
  kind : TK
  size : Nat
  bytes : Nat
  zero : List AVal

def TI.isAgg (t : TI) : Bool :=
  match t.kind with
  | .struct _ | .array .. => true
  | _ => false

/-- What calls and loops come to; of a call a test, too, under which it is told. -/
structure Ora where
  call : FuncId → List AVal → Mem → Option (Bool × Out × Mem)
  loop : FuncId → Code → AFrame → Mem → Option (AExit × AFrame × Mem)

structure Env where
  T : TypeId → Option TI
  fn : FuncId → Option Func
  glob : Nat → Option (List AVal)
  /-- the arguments that hand on their row -/
  mv : FuncId → Nat → Bool
  /-- the slots whose block is of the frame alone -/
  loc : FuncId → Nat → Bool
  /-- the slots that a loop keeps from round to round -/
  keep : FuncId → List Nat
  /-- the struct types that are held against each other cell by cell, and their cells -/
  eqT : TypeId → Option Nat
  /-- the deferred functions: what they make of a panic under way -/
  dfr : FuncId → Option (List AVal → Option AVal → Mem → Option (Option AVal × Mem))

/-! ### Lists -/
def tget : List AVal → Nat → AVal
  | [], _ => .any
  | x :: _, 0 => x
  | _ :: r, n + 1 => tget r n
def tset : List AVal → Nat → AVal → List AVal
  | [], _, _ => []
  | _ :: r, 0, v => v :: r
  | x :: r, n + 1, v => x :: tset r n v
def oget : List AObj → Nat → Option AObj
  | [], _ => none
  | x :: _, 0 => some x
  | _ :: r, n + 1 => oget r n
def oset : List AObj → Nat → AObj → List AObj
  | [], _, _ => []
  | _ :: r, 0, v => v :: r
  | x :: r, n + 1, v => x :: oset r n v
def takeN {α : Type} : List α → Nat → Option (List α)
  | _, 0 => some []
  | [], _ + 1 => none
  | x :: r, n + 1 => (takeN r n).map (x :: ·)
def sub {α : Type} : List α → Nat → Nat → Option (List α)
  | l, 0, n => takeN l n
  | [], _ + 1, _ => none
  | _ :: r, off + 1, n => sub r off n
def overlay {α : Type} : List α → List α → Option (List α)
  | l, [] => some l
  | [], _ :: _ => none
  | _ :: r, v :: vs => (overlay r vs).map (v :: ·)
def lput {α : Type} : List α → Nat → List α → Option (List α)
  | l, 0, vs => overlay l vs
  | [], _ + 1, _ => none
  | x :: r, off + 1, vs => (lput r off vs).map (x :: ·)

/-! ### Values -/
def disown : AVal → AVal
  | .slice (.row _) l => .slice .no l
  | v => v
/-- as a part of something else: nothing is known of a slice's room -/
def plainCell : AVal → AVal
  | .slice _ l => .slice .no l
  | v => v
def plainAgg : AVal → AVal
  | .agg cs => .agg (cs.map plainCell)
  | v => v
def cellsOf : AVal → List AVal
  | .agg cs => cs
  | v => [v]
/-- a value that may be a part of a slice, an interface value, a constant place -/
def isData : AVal → Bool
  | .ptr .. | .loc .. | .tup _ | .any => false
  | .fn _ (_ :: _) => false
  | _ => true
def oneC : AVal → Bool
  | .agg _ => false
  | _ => true
def hasTarget : AVal → Bool
  | .ptr .. | .loc .. | .imm _ | .fn .. | .iface .. => true
  | _ => false
/-- a value that owns no row -/
def noRow : AVal → Bool
  | .slice (.row _) _ => false
  | _ => true
def ofConst1 : Value → Option AVal
  | .bool b => some (.bool b)
  | .int k n => some (.int k n)
  | .string s => some (.str s.data.toList)
  | .pointer none => some .nilptr
  | .slice none 0 0 => some (.slice .full [])
  | .nilFunc => some .nilfunc
  | .nilIface => some .nilIface
  | .map none => some .nilmap
  | _ => none
def ofConsts : List Value → Option (List AVal)
  | [] => some []
  | v :: r => match ofConst1 v, ofConsts r with
    | some a, some l => some (a :: l)
    | _, _ => none
def ofConst : Value → Option AVal
  | .agg cs => (ofConsts cs.toList).map .agg
  | v => ofConst1 v

def ev (E : Env) (fr : AFrame) : Operand → Option AVal
  | .tmp t => match tget fr.tmps t with
    | .any => none
    | v => some v
  | .const v => ofConst v
  | .global g => (E.glob g).map .imm
  | .func f => some (.fn f [])

def evs (E : Env) (fr : AFrame) : List Operand → Option (List AVal)
  | [] => some []
  | x :: r => match ev E fr x, evs E fr r with
    | some v, some l => some (v :: l)
    | _, _ => none

def put (fr : AFrame) (dst : Option Tmp) (v : AVal) : AFrame :=
  match dst with
  | some d => { fr with tmps := tset fr.tmps d v }
  | none => fr
/-- the slot that an operand names keeps its value without the row -/
def leave1 (fr : AFrame) : Operand → AFrame
  | .tmp t => { fr with tmps := tset fr.tmps t (disown (tget fr.tmps t)) }
  | _ => fr

/-! ### Places -/
def getCells (fr : AFrame) (m : Mem) (p : AVal) (n : Nat) : Option (List AVal) :=
  match p with
  | .ptr o off => match oget m o with
    | some (.cells l) => sub l off n
    | _ => none
  | .loc o off => match oget fr.locs o with
    | some (.cells l) => sub l off n
    | _ => none
  | .imm cells => takeN cells n
  | _ => none
/-- a cell of an object with the number o may hold it -/
def mayHold (o : Nat) : AVal → Bool
  | .ptr o' _ => o' ≤ o
  | .fn _ cs => cs.all fun | .ptr o' _ => o' ≤ o | v => isData v
  | .agg _ | .loc .. | .tup _ | .any => false
  | _ => true
def mayHoldL (v : AVal) : Bool := isData v && !(match v with | .agg _ => true | _ => false)
def setCells (fr : AFrame) (m : Mem) (p : AVal) (vs : List AVal) : Option (AFrame × Mem) :=
  match p with
  | .ptr o off => match oget m o with
    | some (.cells l) => if vs.all (mayHold o) then (lput l off vs).map fun l' => (fr, oset m o (.cells l')) else none
    | _ => none
  | .loc o off => match oget fr.locs o with
    | some (.cells l) => if vs.all mayHoldL then (lput l off vs).map fun l' => ({ fr with locs := oset fr.locs o (.cells l') }, m) else none
    | _ => none
  | _ => none

/-! ### Integers and strings -/
def intBin (op : BinOp) (k : IntKind) (a b : Int) : Option AVal :=
  match op with
  | .add => some (.int k (k.wrap (a + b)))
  | .sub => some (.int k (k.wrap (a - b)))
  | .mul => some (.int k (k.wrap (a * b)))
  | .quo => if b = 0 then none else some (.int k (k.wrap (a.tdiv b)))
  | .rem => if b = 0 then none else some (.int k (a.tmod b))
  | .and => some (.int k (k.wrap (BitVec.ofInt k.bits a &&& BitVec.ofInt k.bits b).toNat))
  | .or => some (.int k (k.wrap (BitVec.ofInt k.bits a ||| BitVec.ofInt k.bits b).toNat))
  | .xor => some (.int k (k.wrap (BitVec.ofInt k.bits a ^^^ BitVec.ofInt k.bits b).toNat))
  | .andNot => some (.int k (k.wrap (BitVec.ofInt k.bits a &&& ~~~ BitVec.ofInt k.bits b).toNat))
  | .eql => some (.bool (a == b))
  | .neq => some (.bool (a != b))
  | .lss => some (.bool (a < b))
  | .leq => some (.bool (a ≤ b))
  | .gtr => some (.bool (a > b))
  | .geq => some (.bool (a ≥ b))
  | _ => none
def shiftBin (op : BinOp) (k : IntKind) (a b : Int) : Option AVal :=
  if b < 0 then none else
  match op with
  | .shl => some (.int k (k.wrap (a * 2 ^ (min b.toNat k.bits))))
  | .shr => some (.int k (a.fdiv (2 ^ (min b.toNat k.bits))))
  | _ => none
def isShift : BinOp → Bool
  | .shl | .shr => true
  | _ => false
def strBin (op : BinOp) (a b : List UInt8) : Option AVal :=
  match op with
  | .add => if a.length + b.length ≤ 9223372036854775807 then some (.str (a ++ b)) else none
  | .eql => some (.bool (a == b))
  | .neq => some (.bool !(a == b))
  | .lss => some (.bool (Op.bytesLess a b))
  | .leq => some (.bool (Op.bytesLess a b || a == b))
  | .gtr => some (.bool !(Op.bytesLess a b || a == b))
  | .geq => some (.bool !(Op.bytesLess a b))
  | _ => none
/-- cells that hold whole numbers, bools and strings alone are alike -/
def sameCell : AVal → AVal → Option Bool
  | .bool a, .bool b => some (a == b)
  | .int k a, .int k' b => if k = k' then some (a == b) else none
  | .str a, .str b => some (a == b)
  | _, _ => none
def sameCells : List AVal → List AVal → Option Bool
  | [], [] => some true
  | x :: xs, y :: ys => match sameCell x y, sameCells xs ys with
    | some a, some b => some (a && b)
    | _, _ => none
  | _, _ => none
def isEq : BinOp → Option Bool
  | .eql => some true
  | .neq => some false
  | _ => none
end Go.Abs
