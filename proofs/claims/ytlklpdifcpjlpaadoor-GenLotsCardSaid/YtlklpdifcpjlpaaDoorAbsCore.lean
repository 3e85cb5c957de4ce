/- The abstract interpreter: an executable big-step reading of the model's code over values without memory. Definitions only. -/
import Derived.Defers
import Derived.Recover
namespace Go.Abs

/-- What is known of a slice's right to be appended to: nothing; its capacity is its length; it is nil; it owns its row. -/
inductive Own where
  | no
  | full
  | nil
  | row (e : TypeId)
  deriving DecidableEq, Inhabited

inductive AVal where
  | bool (b : Bool)
  | int (k : IntKind) (n : Int)
  | str (s : List UInt8)
  | nilptr
  | ptr (o off : Nat)
  | loc (o off : Nat)
  | imm (cells : List AVal)
  | slice (own : Own) (elems : List (List AVal))
  | fn (f : FuncId) (captured : List AVal)
  | nilfunc
  | iface (t : TypeId) (v : AVal)
  | nilIface
  | nilmap
  | agg (cells : List AVal)
  | tup (vs : List AVal)
  /-- an interface value of which is known only whether it is nil -/
  | err (isnil : Bool)
  /-- a map: an object's number -/
  | mapp (o : Nat)
  | any
  deriving Inhabited

/-- the keys of a map -/
inductive KK where
  | int (k : IntKind)
  | str
  deriving DecidableEq, Inhabited
inductive AObj where
  | cells (l : List AVal)
  | iter (s : List UInt8) (pos : Nat)
  | map (kk : KK) (es : List (AVal × AVal))
  deriving Inhabited

abbrev Mem := List AObj

structure AFrame where
  tmps : List AVal
  locs : List AObj
  defers : List (FuncId × List AVal)
  deriving Inhabited

inductive AExit where
  | normal
  | ret
  | exit (id : Nat)
  | pan (v : AVal)

inductive Out where
  | ret (v : AVal)
  | pan (v : AVal)

/-- What the interpreter needs of a type. -/
inductive TK where
  | bool
  | int (k : IntKind)
  | str
  | struct (fields : List (Nat × Nat × Bool))
  | array (len esize : Nat) (eagg : Bool)
  | slice (elem : TypeId)
  | ptr
  | iface
  | func
  | map (k e : TypeId)

structure TI where
  kind : TK
  size : Nat
  bytes : Nat
  zero : List AVal

def TI.isAgg (t : TI) : Bool :=
  match t.kind with
  | .struct _ | .array .. => true
  | _ => false

/-- what follows where there is something -/
def optK {α R : Type} (o : Option α) (k : α → Option R) : Option R :=
  match o with
  | some b => k b
  | none => none
/-- what follows one of two -/
def sumK {α γ R : Type} (s : α ⊕ γ) (l : α → Option R) (r : γ → Option R) : Option R :=
  match s with
  | .inl a => l a
  | .inr c => r c
/-- A result that is told under tests: they stand outside what follows. -/
inductive CT (β : Type) : Type 1 where
  | done (b : β)
  | fail
  | ite (c : Bool) (t e : CT β)
  | opt {α : Type} (o : Option α) (k : α → CT β)
  | sum {α γ : Type} (s : α ⊕ γ) (l : α → CT β) (r : γ → CT β)
  | raw (o : Option β)
def CT.run {β R : Type} (c : CT β) (K : β → Option R) : Option R :=
  match c with
  | .done b => K b
  | .fail => none
  | .ite c t e => bif c then t.run K else e.run K
  | .opt o k => optK o fun a => (k a).run K
  | .sum s l r => sumK s (fun a => (l a).run K) (fun c => (r c).run K)
  | .raw o => optK o K
def CT.eval {β : Type} (c : CT β) : Option β :=
  match c with
  | .done b => some b
  | .fail => none
  | .ite c t e => bif c then t.eval else e.eval
  | .opt o k => optK o fun a => (k a).eval
  | .sum s l r => sumK s (fun a => (l a).eval) (fun c => (r c).eval)
  | .raw o => o
theorem optK_assoc {α β R : Type} (o : Option α) (f : α → Option β) (k : β → Option R) : optK (optK o f) k = optK o fun a => optK (f a) k := by
  cases o <;> rfl
theorem optK_cond {β R : Type} (c : Bool) (t e : Option β) (k : β → Option R) : optK (bif c then t else e) k = bif c then optK t k else optK e k := by
  cases c <;> rfl
theorem optK_ite {β R : Type} (c : Prop) [Decidable c] (t e : Option β) (k : β → Option R) : optK (if c then t else e) k = if c then optK t k else optK e k := by
  split <;> rfl
theorem optK_sum {α γ β R : Type} (s : α ⊕ γ) (l : α → Option β) (r : γ → Option β) (k : β → Option R) : optK (sumK s l r) k = sumK s (fun a => optK (l a) k) (fun c => optK (r c) k) := by
  cases s <;> rfl
theorem optK_some {β R : Type} (b : β) (k : β → Option R) : optK (some b) k = k b := rfl
theorem optK_none {β R : Type} (k : β → Option R) : optK none k = none := rfl
theorem CT.run_eq {β R : Type} (K : β → Option R) : ∀ c : CT β, c.run K = optK c.eval K
  | .done _ => rfl
  | .fail => rfl
  | .ite c t e => by cases c <;> simp only [CT.run, CT.eval, cond_true, cond_false, CT.run_eq K]
  | .opt o k => by
    cases o with
    | none => rfl
    | some a => exact CT.run_eq K (k a)
  | .sum s l r => by
    cases s with
    | inl a => exact CT.run_eq K (l a)
    | inr c => exact CT.run_eq K (r c)
  | .raw o => rfl
theorem CT.run_some {β R : Type} {K : β → Option R} {c : CT β} {r : R} (h : c.run K = some r) : ∃ b, c.eval = some b ∧ K b = some r := by
  rw [CT.run_eq] at h
  cases he : c.eval with
  | none => rw [he] at h; cases h
  | some b => rw [he] at h; exact ⟨b, rfl, h⟩
theorem CT.run_optK {β γ R : Type} (c : CT β) (f : β → Option γ) (k : γ → Option R) : optK (c.run f) k = c.run fun b => optK (f b) k := by
  rw [CT.run_eq, CT.run_eq, optK_assoc]
/-- a result with a test -/
def CT.ofNat {β : Type} (o : Option (Bool × β)) : CT β :=
  match o with
  | some (b, x) => .ite b (.done x) .fail
  | none => .fail
def CT.ofOpt {β : Type} (o : Option β) : CT β :=
  match o with
  | some x => .done x
  | none => .fail

/-- What calls and loops come to. -/
structure Ora where
  call : FuncId → List AVal → Mem → CT (Out × Mem)
  loop : FuncId → Code → AFrame → Mem → CT (AExit × AFrame × Mem)

/-- what is forgotten of a value -/
inductive WK where
  | keep
  | no
  | err

structure Env where
  T : TypeId → Option TI
  fn : FuncId → Option Func
  glob : Nat → Option (List AVal)
  /-- the arguments that hand on their row -/
  mv : FuncId → Nat → Bool
  /-- the slots whose block is of the frame alone -/
  loc : FuncId → Nat → Bool
  /-- the slots that a loop keeps from round to round -/
  keep : FuncId → List Nat
  /-- the struct types that are held against each other cell by cell, and their cells -/
  eqT : TypeId → Option Nat
  /-- the slots whose nil slice is a row of such elements -/
  row : FuncId → Tmp → Option TypeId
  /-- the cells of a type whose nil slice is a row -/
  rowT : TypeId → List (Option TypeId)
  /-- what a loop forgets of a slot -/
  wk : FuncId → Tmp → WK
  /-- what a function forgets of a result -/
  res : FuncId → Nat → WK
  /-- the deferred functions: what they make of a panic under way -/
  dfr : FuncId → Option (List AVal → Option AVal → Mem → Option (Option AVal × Mem))
  /-- the globals whose cells are all told -/
  exact : Nat → Bool := fun _ => false
  /-- the one type of two cells, a pointer and a row, whose blocks are told by their type -/
  bld : Option TypeId := none

/-! ### Lists -/
def tget : List AVal → Nat → AVal
  | [], _ => .any
  | x :: _, 0 => x
  | _ :: r, n + 1 => tget r n
def tset : List AVal → Nat → AVal → List AVal
  | [], _, _ => []
  | _ :: r, 0, v => v :: r
  | x :: r, n + 1, v => x :: tset r n v
def oget : List AObj → Nat → Option AObj
  | [], _ => none
  | x :: _, 0 => some x
  | _ :: r, n + 1 => oget r n
def oset : List AObj → Nat → AObj → List AObj
  | [], _, _ => []
  | _ :: r, 0, v => v :: r
  | x :: r, n + 1, v => x :: oset r n v
def takeN {α : Type} : List α → Nat → Option (List α)
  | _, 0 => some []
  | [], _ + 1 => none
  | x :: r, n + 1 => (takeN r n).map (x :: ·)
def sub {α : Type} : List α → Nat → Nat → Option (List α)
  | l, 0, n => takeN l n
  | [], _ + 1, _ => none
  | _ :: r, off + 1, n => sub r off n
def overlay {α : Type} : List α → List α → Option (List α)
  | l, [] => some l
  | [], _ :: _ => none
  | _ :: r, v :: vs => (overlay r vs).map (v :: ·)
def lput {α : Type} : List α → Nat → List α → Option (List α)
  | l, 0, vs => overlay l vs
  | [], _ + 1, _ => none
  | x :: r, off + 1, vs => (lput r off vs).map (x :: ·)

/-! ### Values -/
def disown : AVal → AVal
  | .slice (.row _) l => .slice .no l
  | v => v
/-- as a part of something else: nothing is known of a slice's room -/
def plainCell : AVal → AVal
  | .slice _ l => .slice .no l
  | v => v
def plainAgg : AVal → AVal
  | .agg cs => .agg (cs.map plainCell)
  | v => v
def cellsOf : AVal → List AVal
  | .agg cs => cs
  | v => [v]
/-- a value that may be a part of a slice, an interface value, a constant place -/
def isData : AVal → Bool
  | .ptr .. | .loc .. | .tup _ | .mapp _ | .any => false
  | .fn _ (_ :: _) => false
  | _ => true
def oneC : AVal → Bool
  | .agg _ => false
  | _ => true
def hasTarget : AVal → Bool
  | .ptr .. | .loc .. | .imm _ | .fn .. | .iface .. => true
  | _ => false
/-- a value that owns no row -/
def noRow : AVal → Bool
  | .slice (.row _) _ => false
  | _ => true
def ofConst1 : Value → Option AVal
  | .bool b => some (.bool b)
  | .int k n => some (.int k n)
  | .string s => some (.str s.data.toList)
  | .pointer none => some .nilptr
  | .slice none 0 0 => some (.slice .nil [])
  | .nilFunc => some .nilfunc
  | .nilIface => some .nilIface
  | .map none => some .nilmap
  | _ => none
def ofConsts : List Value → Option (List AVal)
  | [] => some []
  | v :: r => match ofConst1 v, ofConsts r with
    | some a, some l => some (a :: l)
    | _, _ => none
def ofConst : Value → Option AVal
  | .agg cs => (ofConsts cs.toList).map .agg
  | v => ofConst1 v

def ev (E : Env) (fr : AFrame) : Operand → Option AVal
  | .tmp t => match tget fr.tmps t with
    | .any => none
    | v => some v
  | .const v => ofConst v
  | .global g => (E.glob g).map .imm
  | .func f => some (.fn f [])

def evs (E : Env) (fr : AFrame) : List Operand → Option (List AVal)
  | [] => some []
  | x :: r => match ev E fr x, evs E fr r with
    | some v, some l => some (v :: l)
    | _, _ => none

def put (fr : AFrame) (dst : Option Tmp) (v : AVal) : AFrame :=
  match dst with
  | some d => { fr with tmps := tset fr.tmps d v }
  | none => fr
/-- a nil slice as a row of such elements -/
def promo (E : Env) (t : Option TypeId) (v : AVal) : AVal :=
  match t with
  | none => v
  | some e => match v with
    | .slice .nil es => (match es with
      | [] => (match E.T e with
        | some ei => (match ei.size with
          | 0 => .slice .nil []
          | _ + 1 => .slice (.row e) [])
        | none => .slice .nil [])
      | x :: r => .slice .nil (x :: r))
    | v => v
def promoL (E : Env) : List (Option TypeId) → List AVal → List AVal
  | t :: ts, v :: vs => promo E t v :: promoL E ts vs
  | _, vs => vs
def promoS (E : Env) (F : FuncId) (dst : Option Tmp) (v : AVal) : AVal :=
  match dst with
  | some d => promo E (E.row F d) v
  | none => v
def weakV (k : WK) (v : AVal) : AVal :=
  match k with
  | .keep => v
  | .no => (match v with
    | .slice _ es => .slice .no es
    | v => v)
  | .err => (match v with
    | .nilIface => .err true
    | .iface _ _ => .err false
    | v => v)
/-- the slot that an operand names keeps its value without the row -/
def leave1 (fr : AFrame) : Operand → AFrame
  | .tmp t => { fr with tmps := tset fr.tmps t (disown (tget fr.tmps t)) }
  | _ => fr

/-! ### Places -/
def getCells (fr : AFrame) (m : Mem) (p : AVal) (n : Nat) : Option (List AVal) :=
  match p with
  | .ptr o off => match oget m o with
    | some (.cells l) => sub l off n
    | _ => none
  | .loc o off => match oget fr.locs o with
    | some (.cells l) => sub l off n
    | _ => none
  | .imm cells => takeN cells n
  | _ => none
/-- a cell of an object with the number o may hold it -/
def mayHold (o : Nat) : AVal → Bool
  | .ptr o' _ => o' ≤ o
  | .fn _ cs => cs.all fun | .ptr o' _ => o' ≤ o | v => isData v
  | .agg _ | .loc .. | .tup _ | .mapp _ | .any => false
  | _ => true
def mayHoldL (v : AVal) : Bool := isData v && !(match v with | .agg _ => true | _ => false)
/-- a pointer and a row: a strings.Builder -/
def isBld : List AVal → Bool
  | [.nilptr, .slice _ _] => true
  | [.ptr _ _, .slice _ _] => true
  | _ => false
def isBldR : List AVal → Bool
  | [.nilptr, .slice (.row _) _] => true
  | [.ptr _ _, .slice (.row _) _] => true
  | _ => false
theorem isBldR_bld {l : List AVal} (h : isBldR l = true) : isBld l = true := by
  unfold isBldR at h
  split at h <;> first | rfl | cases h
def okBld (E : Env) (t : TypeId) (l : List AVal) : Bool :=
  match E.bld with
  | some T => !(isBld l) || Nat.beq t T
  | none => true
theorem okBld_of {E : Env} {t : TypeId} {l : List AVal} (h : okBld E t l = true) : ∀ T, E.bld = some T → isBld l = true → t = T := fun T hT hb => by
  simp only [okBld, hT, hb, Bool.not_true, Bool.false_or] at h
  exact Nat.eq_of_beq_eq_true h
/-- cells are put into an object; it does not become a builder by that -/
def lputB (l : List AVal) (off : Nat) (vs : List AVal) : Option (List AVal) :=
  match lput l off vs with
  | some l' => if isBld l' && !(isBld l) then none else some l'
  | none => none
theorem lputB_of {l l' vs : List AVal} {off : Nat} (h : lputB l off vs = some l') : lput l off vs = some l' ∧ (isBld l' = true → isBld l = true) := by
  unfold lputB at h
  cases hl : lput l off vs with
  | none => rw [hl] at h; cases h
  | some x =>
    rw [hl] at h
    simp only at h
    split at h
    · cases h
    · rename_i hn
      injection h with h; subst h
      refine ⟨rfl, fun hb => ?_⟩
      cases hl' : isBld l with
      | true => rfl
      | false => rw [hb, hl'] at hn; exact absurd rfl hn
def setCells (fr : AFrame) (m : Mem) (p : AVal) (vs : List AVal) : Option (AFrame × Mem) :=
  match p with
  | .ptr o off => match oget m o with
    | some (.cells l) => if vs.all (mayHold o) then (lputB l off vs).map fun l' => (fr, oset m o (.cells l')) else none
    | _ => none
  | .loc o off => match oget fr.locs o with
    | some (.cells l) => if vs.all mayHoldL then (lputB l off vs).map fun l' => ({ fr with locs := oset fr.locs o (.cells l') }, m) else none
    | _ => none
  | _ => none

/-! ### Integers and strings -/
def intBin (op : BinOp) (k : IntKind) (a b : Int) : Option AVal :=
  match op with
  | .add => some (.int k (k.wrap (a + b)))
  | .sub => some (.int k (k.wrap (a - b)))
  | .mul => some (.int k (k.wrap (a * b)))
  | .quo => if b = 0 then none else some (.int k (k.wrap (a.tdiv b)))
  | .rem => if b = 0 then none else some (.int k (a.tmod b))
  | .and => some (.int k (k.wrap (BitVec.ofInt k.bits a &&& BitVec.ofInt k.bits b).toNat))
  | .or => some (.int k (k.wrap (BitVec.ofInt k.bits a ||| BitVec.ofInt k.bits b).toNat))
  | .xor => some (.int k (k.wrap (BitVec.ofInt k.bits a ^^^ BitVec.ofInt k.bits b).toNat))
  | .andNot => some (.int k (k.wrap (BitVec.ofInt k.bits a &&& ~~~ BitVec.ofInt k.bits b).toNat))
  | .eql => some (.bool (a == b))
  | .neq => some (.bool (a != b))
  | .lss => some (.bool (a < b))
  | .leq => some (.bool (a ≤ b))
  | .gtr => some (.bool (a > b))
  | .geq => some (.bool (a ≥ b))
  | _ => none
def shiftBin (op : BinOp) (k : IntKind) (a b : Int) : Option AVal :=
  if b < 0 then none else
  match op with
  | .shl => some (.int k (k.wrap (a * 2 ^ (min b.toNat k.bits))))
  | .shr => some (.int k (a.fdiv (2 ^ (min b.toNat k.bits))))
  | _ => none
def isShift : BinOp → Bool
  | .shl | .shr => true
  | _ => false
def strBin (op : BinOp) (a b : List UInt8) : Option AVal :=
  match op with
  | .add => if a.length + b.length ≤ 9223372036854775807 then some (.str (a ++ b)) else none
  | .eql => some (.bool (a == b))
  | .neq => some (.bool !(a == b))
  | .lss => some (.bool (Op.bytesLess a b))
  | .leq => some (.bool (Op.bytesLess a b || a == b))
  | .gtr => some (.bool !(Op.bytesLess a b || a == b))
  | .geq => some (.bool !(Op.bytesLess a b))
  | _ => none
/-- cells that hold whole numbers, bools and strings alone are alike -/
def sameCell : AVal → AVal → Option Bool
  | .bool a, .bool b => some (a == b)
  | .int k a, .int k' b => if k = k' then some (a == b) else none
  | .str a, .str b => some (a == b)
  | _, _ => none
def sameCells : List AVal → List AVal → Option Bool
  | [], [] => some true
  | x :: xs, y :: ys => match sameCell x y, sameCells xs ys with
    | some a, some b => some (a && b)
    | _, _ => none
  | _, _ => none
def isEq : BinOp → Option Bool
  | .eql => some true
  | .neq => some false
  | _ => none
end Go.Abs
