/- Part of the engine: an abstract reading of the program's code and its soundness. -/
import Derived.Defers
import Derived.Recover
import Derived.Deep.Quiet
import Derived.Laws.AppendOwn
import Derived.ArgAppend
import Derived.Below
import Derived.Deep.MidRow
import Derived.Lib.AppendStr
import Derived.Laws.Append
import Derived.Laws.OwnMore
import Derived.WalkKit
import Derived.Laws.BytesString
import Derived.Laws.BytesArg
import Derived.Lib.ConvBytes
import Derived.Laws.Tables
import Derived.Great.BuildSlice
import Derived.Lib.SlBytesConst
set_option linter.unusedVariables false
set_option linter.unusedSimpArgs false
namespace Go.Abs
inductive Own where
  | no
  | full
  | nil
  | row (e : TypeId)
  deriving DecidableEq, Inhabited
inductive AVal where
  | bool (b : Bool)
  | int (k : IntKind) (n : Int)
  | str (s : List UInt8)
  | nilptr
  | ptr (o off : Nat)
  | loc (o off : Nat)
  | imm (cells : List AVal)
  | slice (own : Own) (elems : List (List AVal))
  | fn (f : FuncId) (captured : List AVal)
  | nilfunc
  | iface (t : TypeId) (v : AVal)
  | nilIface
  | nilmap
  | agg (cells : List AVal)
  | tup (vs : List AVal)
  | err (isnil : Bool)
  | mapp (o : Nat)
  | sref (o off n : Nat)
  | any
  deriving Inhabited
inductive KK where
  | int (k : IntKind)
  | str
  deriving DecidableEq, Inhabited
inductive AObj where
  | cells (l : List AVal)
  | iter (s : List UInt8) (pos : Nat)
  | map (kk : KK) (es : List (AVal × AVal))
  deriving Inhabited
abbrev Mem := List AObj
structure AFrame where
  tmps : List AVal
  locs : List AObj
  defers : List (FuncId × List AVal)
  deriving Inhabited
inductive AExit where
  | normal
  | ret
  | exit (id : Nat)
  | pan (v : AVal)
inductive Out where
  | ret (v : AVal)
  | pan (v : AVal)
inductive TK where
  | bool
  | int (k : IntKind)
  | str
  | struct (fields : List (Nat × Nat × Bool))
  | array (len esize : Nat) (eagg : Bool)
  | slice (elem : TypeId)
  | ptr
  | iface
  | func
  | map (k e : TypeId)
structure TI where
  kind : TK
  size : Nat
  bytes : Nat
  zero : List AVal
def TI.isAgg (t : TI) : Bool :=
  match t.kind with
  | .struct _ | .array .. => true
  | _ => false
def optK {α R : Type} (o : Option α) (k : α → Option R) : Option R :=
  match o with
  | some b => k b
  | none => none
def sumK {α γ R : Type} (s : α ⊕ γ) (l : α → Option R) (r : γ → Option R) : Option R :=
  match s with
  | .inl a => l a
  | .inr c => r c
inductive CT (β : Type) : Type 1 where
  | done (b : β)
  | fail
  | ite (c : Bool) (t e : CT β)
  | opt {α : Type} (o : Option α) (k : α → CT β)
  | sum {α γ : Type} (s : α ⊕ γ) (l : α → CT β) (r : γ → CT β)
  | raw (o : Option β)
def CT.run {β R : Type} (c : CT β) (K : β → Option R) : Option R :=
  match c with
  | .done b => K b
  | .fail => none
  | .ite c t e => bif c then t.run K else e.run K
  | .opt o k => optK o fun a => (k a).run K
  | .sum s l r => sumK s (fun a => (l a).run K) (fun c => (r c).run K)
  | .raw o => optK o K
def CT.eval {β : Type} (c : CT β) : Option β :=
  match c with
  | .done b => some b
  | .fail => none
  | .ite c t e => bif c then t.eval else e.eval
  | .opt o k => optK o fun a => (k a).eval
  | .sum s l r => sumK s (fun a => (l a).eval) (fun c => (r c).eval)
  | .raw o => o
theorem optK_assoc {α β R : Type} (o : Option α) (f : α → Option β) (k : β → Option R) : optK (optK o f) k = optK o fun a => optK (f a) k := by
  cases o <;> rfl
theorem optK_cond {β R : Type} (c : Bool) (t e : Option β) (k : β → Option R) : optK (bif c then t else e) k = bif c then optK t k else optK e k := by
  cases c <;> rfl
theorem optK_ite {β R : Type} (c : Prop) [Decidable c] (t e : Option β) (k : β → Option R) : optK (if c then t else e) k = if c then optK t k else optK e k := by
  split <;> rfl
theorem optK_sum {α γ β R : Type} (s : α ⊕ γ) (l : α → Option β) (r : γ → Option β) (k : β → Option R) : optK (sumK s l r) k = sumK s (fun a => optK (l a) k) (fun c => optK (r c) k) := by
  cases s <;> rfl
theorem optK_some {β R : Type} (b : β) (k : β → Option R) : optK (some b) k = k b := rfl
theorem optK_none {β R : Type} (k : β → Option R) : optK none k = none := rfl
theorem CT.run_eq {β R : Type} (K : β → Option R) : ∀ c : CT β, c.run K = optK c.eval K
  | .done _ => rfl
  | .fail => rfl
  | .ite c t e => by cases c <;> simp only [CT.run, CT.eval, cond_true, cond_false, CT.run_eq K]
  | .opt o k => by
    cases o with
    | none => rfl
    | some a => exact CT.run_eq K (k a)
  | .sum s l r => by
    cases s with
    | inl a => exact CT.run_eq K (l a)
    | inr c => exact CT.run_eq K (r c)
  | .raw o => rfl
theorem CT.run_some {β R : Type} {K : β → Option R} {c : CT β} {r : R} (h : c.run K = some r) : ∃ b, c.eval = some b ∧ K b = some r := by
  rw [CT.run_eq] at h
  cases he : c.eval with
  | none => rw [he] at h; cases h
  | some b => rw [he] at h; exact ⟨b, rfl, h⟩
def CT.ofNat {β : Type} (o : Option (Bool × β)) : CT β :=
  match o with
  | some (b, x) => .ite b (.done x) .fail
  | none => .fail
structure Ora where
  call : FuncId → List AVal → Mem → CT (Out × Mem)
  loop : FuncId → Code → AFrame → Mem → CT (AExit × AFrame × Mem)
inductive CK where
  | bool
  | int (k : IntKind)
  | str
  deriving DecidableEq, Inhabited
def fitCK : List CK → List AVal → Bool
  | [], [] => true
  | .bool :: r, .bool _ :: s => fitCK r s
  | .int k :: r, .int j _ :: s => decide (k = j) && fitCK r s
  | .str :: r, .str _ :: s => fitCK r s
  | _, _ => false
inductive WK where
  | keep
  | no
  | err
structure Env where
  T : TypeId → Option TI
  fn : FuncId → Option Func
  glob : Nat → Option (List AVal)
  mv : FuncId → Nat → Bool
  loc : FuncId → Nat → Bool
  keep : FuncId → Option Nat → List Nat
  eqT : TypeId → Option (List CK)
  row : FuncId → Tmp → Option TypeId
  rowT : TypeId → List (Option TypeId)
  wk : FuncId → Tmp → WK
  res : FuncId → Nat → WK
  dfr : FuncId → Option (List AVal → Option AVal → Mem → Option (Option AVal × Mem))
  exact : Nat → Bool := fun _ => false
  pure : FuncId → Bool := fun _ => false
  bld : Option TypeId := none
def tget : List AVal → Nat → AVal
  | [], _ => .any
  | x :: _, 0 => x
  | _ :: r, n + 1 => tget r n
def tset : List AVal → Nat → AVal → List AVal
  | [], _, _ => []
  | _ :: r, 0, v => v :: r
  | x :: r, n + 1, v => x :: tset r n v
def oget : List AObj → Nat → Option AObj
  | [], _ => none
  | x :: _, 0 => some x
  | _ :: r, n + 1 => oget r n
def oset : List AObj → Nat → AObj → List AObj
  | [], _, _ => []
  | _ :: r, 0, v => v :: r
  | x :: r, n + 1, v => x :: oset r n v
def takeN {α : Type} : List α → Nat → Option (List α)
  | _, 0 => some []
  | [], _ + 1 => none
  | x :: r, n + 1 => (takeN r n).map (x :: ·)
def sub {α : Type} : List α → Nat → Nat → Option (List α)
  | l, 0, n => takeN l n
  | [], _ + 1, _ => none
  | _ :: r, off + 1, n => sub r off n
def overlay {α : Type} : List α → List α → Option (List α)
  | l, [] => some l
  | [], _ :: _ => none
  | _ :: r, v :: vs => (overlay r vs).map (v :: ·)
def lput {α : Type} : List α → Nat → List α → Option (List α)
  | l, 0, vs => overlay l vs
  | [], _ + 1, _ => none
  | x :: r, off + 1, vs => (lput r off vs).map (x :: ·)
def disown : AVal → AVal
  | .slice (.row _) l => .slice .no l
  | v => v
def plainCell : AVal → AVal
  | .slice _ l => .slice .no l
  | v => v
def keepNil : AVal → AVal
  | .slice .nil l => .slice .nil l
  | .slice _ l => .slice .no l
  | v => v
def plainAgg : AVal → AVal
  | .agg cs => .agg (cs.map keepNil)
  | v => v
def cellsOf : AVal → List AVal
  | .agg cs => cs
  | v => [v]
def isData : AVal → Bool
  | .ptr .. | .loc .. | .tup _ | .mapp _ | .sref .. | .any => false
  | .fn _ (_ :: _) => false
  | _ => true
def oneC : AVal → Bool
  | .agg _ => false
  | _ => true
def hasTarget : AVal → Bool
  | .ptr .. | .loc .. | .imm _ | .fn .. | .iface .. => true
  | _ => false
def noRow : AVal → Bool
  | .slice (.row _) _ => false
  | _ => true
def ofConst1 : Value → Option AVal
  | .bool b => some (.bool b)
  | .int k n => some (.int k n)
  | .string s => some (.str s.data.toList)
  | .pointer none => some .nilptr
  | .slice none 0 0 => some (.slice .nil [])
  | .nilFunc => some .nilfunc
  | .nilIface => some .nilIface
  | .map none => some .nilmap
  | _ => none
def ofConsts : List Value → Option (List AVal)
  | [] => some []
  | v :: r => match ofConst1 v, ofConsts r with
    | some a, some l => some (a :: l)
    | _, _ => none
def ofConst : Value → Option AVal
  | .agg cs => (ofConsts cs.toList).map .agg
  | v => ofConst1 v
def ev (E : Env) (fr : AFrame) : Operand → Option AVal
  | .tmp t => match tget fr.tmps t with
    | .any => none
    | v => some v
  | .const v => ofConst v
  | .global g => (E.glob g).map .imm
  | .func f => some (.fn f [])
def evs (E : Env) (fr : AFrame) : List Operand → Option (List AVal)
  | [] => some []
  | x :: r => match ev E fr x, evs E fr r with
    | some v, some l => some (v :: l)
    | _, _ => none
def put (fr : AFrame) (dst : Option Tmp) (v : AVal) : AFrame :=
  match dst with
  | some d => { fr with tmps := tset fr.tmps d v }
  | none => fr
def promo (E : Env) (t : Option TypeId) (v : AVal) : AVal :=
  match t with
  | none => v
  | some e => match v with
    | .slice .nil es => (match es with
      | [] => (match E.T e with
        | some ei => (match ei.size with
          | 0 => .slice .nil []
          | _ + 1 => .slice (.row e) [])
        | none => .slice .nil [])
      | x :: r => .slice .nil (x :: r))
    | v => v
def promoL (E : Env) : List (Option TypeId) → List AVal → List AVal
  | t :: ts, v :: vs => promo E t v :: promoL E ts vs
  | _, vs => vs
def promoS (E : Env) (F : FuncId) (dst : Option Tmp) (v : AVal) : AVal :=
  match dst with
  | some d => promo E (E.row F d) v
  | none => v
def weakV (k : WK) (v : AVal) : AVal :=
  match k with
  | .keep => v
  | .no => (match v with
    | .slice _ es => .slice .no es
    | v => v)
  | .err => (match v with
    | .nilIface => .err true
    | .iface _ _ => .err false
    | v => v)
def leave1 (fr : AFrame) : Operand → AFrame
  | .tmp t => { fr with tmps := tset fr.tmps t (disown (tget fr.tmps t)) }
  | _ => fr
def getCells (fr : AFrame) (m : Mem) (p : AVal) (n : Nat) : Option (List AVal) :=
  match p with
  | .ptr o off => match oget m o with
    | some (.cells l) => sub l off n
    | _ => none
  | .loc o off => match oget fr.locs o with
    | some (.cells l) => sub l off n
    | _ => none
  | .imm cells => takeN cells n
  | _ => none
def mayHold (o : Nat) : AVal → Bool
  | .ptr o' _ => o' ≤ o
  | .fn _ cs => cs.all fun | .ptr o' _ => o' ≤ o | v => isData v
  | .agg _ | .loc .. | .tup _ | .mapp _ | .sref .. | .any => false
  | _ => true
def mayHoldL (v : AVal) : Bool := isData v && !(match v with | .agg _ => true | _ => false)
def isBld : List AVal → Bool
  | [.nilptr, .slice _ _] => true
  | [.ptr _ _, .slice _ _] => true
  | _ => false
def okBld (E : Env) (t : TypeId) (l : List AVal) : Bool :=
  match E.bld with
  | some T => !(isBld l) || Nat.beq t T
  | none => true
theorem okBld_of {E : Env} {t : TypeId} {l : List AVal} (h : okBld E t l = true) : ∀ T, E.bld = some T → isBld l = true → t = T := fun T hT hb => by
  simp only [okBld, hT, hb, Bool.not_true, Bool.false_or] at h
  exact Nat.eq_of_beq_eq_true h
def lputB (l : List AVal) (off : Nat) (vs : List AVal) : Option (List AVal) :=
  match lput l off vs with
  | some l' => if isBld l' && !(isBld l) then none else some l'
  | none => none
theorem lputB_of {l l' vs : List AVal} {off : Nat} (h : lputB l off vs = some l') : lput l off vs = some l' ∧ (isBld l' = true → isBld l = true) := by
  unfold lputB at h
  cases hl : lput l off vs with
  | none => rw [hl] at h; cases h
  | some x =>
    rw [hl] at h
    simp only at h
    split at h
    · cases h
    · rename_i hn
      injection h with h; subst h
      refine ⟨rfl, fun hb => ?_⟩
      cases hl' : isBld l with
      | true => rfl
      | false => rw [hb, hl'] at hn; exact absurd rfl hn
def setCells (fr : AFrame) (m : Mem) (p : AVal) (vs : List AVal) : Option (AFrame × Mem) :=
  match p with
  | .ptr o off => match oget m o with
    | some (.cells l) => if vs.all (mayHold o) then (lputB l off vs).map fun l' => (fr, oset m o (.cells l')) else none
    | _ => none
  | .loc o off => match oget fr.locs o with
    | some (.cells l) => if vs.all mayHoldL then (lputB l off vs).map fun l' => ({ fr with locs := oset fr.locs o (.cells l') }, m) else none
    | _ => none
  | _ => none
def intBin (op : BinOp) (k : IntKind) (a b : Int) : Option AVal :=
  match op with
  | .add => some (.int k (k.wrap (a + b)))
  | .sub => some (.int k (k.wrap (a - b)))
  | .mul => some (.int k (k.wrap (a * b)))
  | .quo => if b = 0 then none else some (.int k (k.wrap (a.tdiv b)))
  | .rem => if b = 0 then none else some (.int k (a.tmod b))
  | .and => some (.int k (k.wrap (BitVec.ofInt k.bits a &&& BitVec.ofInt k.bits b).toNat))
  | .or => some (.int k (k.wrap (BitVec.ofInt k.bits a ||| BitVec.ofInt k.bits b).toNat))
  | .xor => some (.int k (k.wrap (BitVec.ofInt k.bits a ^^^ BitVec.ofInt k.bits b).toNat))
  | .andNot => some (.int k (k.wrap (BitVec.ofInt k.bits a &&& ~~~ BitVec.ofInt k.bits b).toNat))
  | .eql => some (.bool (a == b))
  | .neq => some (.bool (a != b))
  | .lss => some (.bool (a < b))
  | .leq => some (.bool (a ≤ b))
  | .gtr => some (.bool (a > b))
  | .geq => some (.bool (a ≥ b))
  | _ => none
def shiftBin (op : BinOp) (k : IntKind) (a b : Int) : Option AVal :=
  if b < 0 then none else
  match op with
  | .shl => some (.int k (k.wrap (a * 2 ^ (min b.toNat k.bits))))
  | .shr => some (.int k (a.fdiv (2 ^ (min b.toNat k.bits))))
  | _ => none
def isShift : BinOp → Bool
  | .shl | .shr => true
  | _ => false
def strBin (op : BinOp) (a b : List UInt8) : Option AVal :=
  match op with
  | .add => if a.length + b.length ≤ 9223372036854775807 then some (.str (a ++ b)) else none
  | .eql => some (.bool (a == b))
  | .neq => some (.bool !(a == b))
  | .lss => some (.bool (Op.bytesLess a b))
  | .leq => some (.bool (Op.bytesLess a b || a == b))
  | .gtr => some (.bool !(Op.bytesLess a b || a == b))
  | .geq => some (.bool !(Op.bytesLess a b))
  | _ => none
def sameCell : AVal → AVal → Option Bool
  | .bool a, .bool b => some (a == b)
  | .int k a, .int k' b => if k = k' then some (a == b) else none
  | .str a, .str b => some (a == b)
  | _, _ => none
def sameCells : List AVal → List AVal → Option Bool
  | [], [] => some true
  | x :: xs, y :: ys => match sameCell x y, sameCells xs ys with
    | some a, some b => some (a && b)
    | _, _ => none
  | _, _ => none
def isEq : BinOp → Option Bool
  | .eql => some true
  | .neq => some false
  | _ => none
end Go.Abs
namespace Go.Abs
section
variable {R : Type}
def asB (v : Option AVal) (k : Bool → Option R) : Option R :=
  match v with
  | some (.bool b) => k b
  | _ => none
def asI (v : Option AVal) (k : IntKind → Int → Option R) : Option R :=
  match v with
  | some (.int i n) => k i n
  | _ => none
def structFields (E : Env) (t : TypeId) : Option (List (Nat × Nat × Bool)) :=
  match E.T t with
  | some { kind := .struct fs, .. } => some fs
  | _ => none
def ofCells (agg : Bool) (cs : List AVal) : Option AVal :=
  if agg then some (.agg cs) else
  match cs with
  | [v] => some v
  | _ => none
def loadV (E : Env) (fr : AFrame) (m : Mem) (t : TypeId) (p : AVal) : Option AVal :=
  match E.T t with
  | some ti => match getCells fr m p ti.size with
    | some cs => if ti.isAgg then (if cs.all isData then some (.agg (cs.map disown)) else none) else ofCells false cs
    | none => none
  | none => none
def fill (place : Nat → Option (Nat × Nat)) : List AVal → List (Nat × AVal) → Option (List AVal)
  | cells, [] => some cells
  | cells, (i, v) :: rest =>
    match place i with
    | none => none
    | some (off, size) =>
      if (cellsOf v).length = size then
        match lput cells off (cellsOf v) with
        | some cells' => fill place cells' rest
        | none => none
      else none
def evParts (E : Env) (fr : AFrame) : List (Nat × Operand) → Option (List (Nat × AVal))
  | [] => some []
  | (i, x) :: r => match ev E fr x, evParts E fr r with
    | some v, some l => if isData v then some ((i, disown v) :: l) else none
    | _, _ => none
def chunks (size : Nat) : Nat → List AVal → List (List AVal)
  | 0, _ => []
  | n + 1, l => l.take size :: chunks size n (l.drop size)
def repl : Nat → List AVal → List AVal
  | 0, _ => []
  | n + 1, z => z ++ repl n z
def nilness (k : TK) (a b : AVal) : Option Bool :=
  match k with
  | .iface => match a, b with
    | .nilIface, .nilIface => some true
    | .nilIface, .iface .. => some false
    | .iface .., .nilIface => some false
    | .nilIface, .err b => some b
    | .err b, .nilIface => some b
    | _, _ => none
  | .ptr => match a, b with
    | .nilptr, .nilptr => some true
    | .nilptr, .ptr .. => some false
    | .ptr .., .nilptr => some false
    | _, _ => none
  | .func => match a, b with
    | .nilfunc, .nilfunc => some true
    | .nilfunc, .fn .. => some false
    | .fn .., .nilfunc => some false
    | _, _ => none
  | .slice _ => match a, b with
    | .slice .nil _, .slice .nil _ => some true
    | .slice _ ((_ :: _) :: _), .slice .nil _ => some false
    | _, _ => none
  | _ => none
def bytesOf : List (List AVal) → Option (List UInt8)
  | [] => some []
  | [.int .u8 n] :: r => (bytesOf r).map (UInt8.ofNat n.toNat :: ·)
  | _ => none
def bytesL (es : List (List AVal)) : List UInt8 := match bytesOf es with
  | some l => l
  | none => []
def allByte (es : List (List AVal)) : Bool := match bytesOf es with
  | some _ => true
  | none => false
def isByte (E : Env) (e : TypeId) : Bool :=
  match E.T e with
  | some { kind := .int .u8, size := 1, .. } => true
  | _ => false
def convV (E : Env) (src dst : TypeId) (v : AVal) : Option AVal :=
  match E.T src, E.T dst with
  | some _, some { kind := .int k, .. } => match v with
    | .int _ n => some (.int k (k.wrap n))
    | _ => none
  | some si, some { kind := .str, .. } => match v with
    | .str s => some (.str s)
    | .int _ n => some (.str (Utf8.encode n).data.toList)
    | .slice _ es => (match si.kind with
      | .slice e => if isByte E e then (match allByte es with
        | true => some (.str (bytesL es))
        | false => none) else none
      | _ => none)
    | _ => none
  | _, _ => none
def binV (E : Env) (op : BinOp) (t : TypeId) (cx cy : Bool) (a b : AVal) : Option AVal :=
  match a, b with
  | .int k x, .int k' y => if isShift op then shiftBin op k x y else if k = k' then intBin op k x y else none
  | .str x, .str y => strBin op x y
  | .bool x, .bool y => match E.T t with
    | some { kind := .bool, .. } => (isEq op).map fun e => .bool (e == (x == y))
    | _ => none
  | .agg xs, .agg ys => (match E.eqT t with
    | some ks => (match fitCK ks xs with
      | true => (match isEq op, sameCells xs ys with
        | some e, some r => some (.bool (e == r))
        | _, _ => none)
      | false => none)
    | none => none)
  | a, b => if cx || cy then match E.T t with
      | some ti => match isEq op, nilness ti.kind a b with
        | some e, some r => some (.bool (e == r))
        | _, _ => none
      | none => none
    else none
def isConst : Operand → Bool
  | .const _ => true
  | _ => false
def unV (op : UnOp) (a : AVal) : Option AVal :=
  match op, a with
  | .neg, .int k n => some (.int k (k.wrap (0 - n)))
  | .not, .bool b => some (.bool !b)
  | _, _ => none
def bound (n : Nat) : Option (Option AVal) → Nat → Option Nat
  | none, d => some d
  | some (some (.int _ i)), _ => if 0 ≤ i ∧ i ≤ n then some i.toNat else none
  | _, _ => none
def uni (n : Nat) (es : List (List AVal)) : Bool := es.all fun e => e.length == n
def sliceV (E : Env) (k : TK) (v : AVal) (lo hi : Option (Option AVal)) : Option AVal :=
  match v with
  | .str s => match k with
   | .str => match bound s.length hi s.length with
    | some h => match bound h lo 0 with
      | some l => some (.str ((s.take h).drop l))
      | none => none
    | none => none
   | _ => none
  | .slice _ es => match k with
    | .slice e => match E.T e with
      | some ei => if uni ei.size es then match bound es.length hi es.length with
          | some h => match bound h lo 0 with
            | some l => some (.slice .no ((es.take h).drop l))
            | none => none
          | none => none
        else none
      | none => none
    | _ => none
  | .sref q off n => match k with
    | .slice e => match E.T e with
      | some ei => match bound n hi n with
          | some h => match bound h lo 0 with
            | some l => some (.sref q (off + l * ei.size) (h - l))
            | none => none
          | none => none
      | none => none
    | _ => none
  | _ => none
def slice3C (E : Env) (k : TK) (v : AVal) (lo hi mx : Option (Option AVal)) (kk : AVal → Option R) : Option R :=
  match v with
  | .slice _ es => match k with
    | .slice e => match E.T e with
      | some ei => if ei.size ≠ 0 && uni ei.size es then (match lo, hi, mx with
          | none, some (some (.int _ h)), some (some (.int _ x)) => if 0 ≤ h ∧ h ≤ es.length then (if h = x then kk (.slice .full (es.take h.toNat)) else none) else none
          | _, _, _ => none) else none
      | none => none
    | _ => none
  | _ => none
def indexV (E : Env) (t : TypeId) (v : AVal) (i : Int) : Option AVal :=
  match v with
  | .str s => match E.T t with
    | some { kind := .str, .. } => if 0 ≤ i then match s[i.toNat]? with
        | some b => some (.int .u8 b.toNat)
        | none => none
      else none
    | _ => none
  | .agg cs => match E.T t with
    | some { kind := .array n sz agg, .. } => if 0 ≤ i ∧ i < n then match sub cs (i.toNat * sz) sz with
        | some l => ofCells agg l
        | none => none
      else none
    | _ => none
  | _ => none
def addrOff (p : AVal) (n : Nat) : Option AVal :=
  match p with
  | .ptr o off => some (.ptr o (off + n))
  | .loc o off => some (.loc o (off + n))
  | .imm cs => some (.imm (cs.drop n))
  | _ => none
def elemOf (n : Nat) (es : List (List AVal)) (i : Int) : Option (List AVal) :=
  if 0 ≤ i then match es[i.toNat]? with
    | some e => if e.length = n then some e else none
    | none => none
  else none
def lenV : TK → AVal → Option Nat
  | .str, .str s => some s.length
  | .slice _, .slice _ es => some es.length
  | .slice _, .sref _ _ n => some n
  | _, _ => none
def roomOk (n bytes : Nat) : Bool := n ≤ 9223372036854775807 && n * bytes ≤ 140737488355328
def appendSrc (E : Env) (e : TypeId) (size : Nat) (k : TK) (x : AVal) : Option (List (List AVal)) :=
  match k, x with
  | .slice _, .slice _ xs => if uni size xs then some xs else none
  | .str, .str b => if isByte E e then some (b.map fun c => [.int .u8 c.toNat]) else none
  | _, _ => none
def isCons {α : Type} : List α → Bool
  | [] => false
  | _ :: _ => true
def appendTo (e : TypeId) (ei : TI) (own : Own) (es xs : List (List AVal)) : Option AVal :=
  if ei.size ≠ 0 && roomOk (es.length + xs.length) ei.bytes then
    match own with
    | .no => none
    | .full => bif isCons xs then (if uni ei.size es then some (.slice (.row e) (es ++ xs)) else none) else some (.slice .full es)
    | .nil => some (.slice (.row e) (es ++ xs))
    | .row e' => if e' = e then some (.slice (.row e) (es ++ xs)) else none
  else none
def appendV (E : Env) (t t' : TypeId) (s x : AVal) : Option AVal :=
  match E.T t, E.T t', s with
  | some { kind := .slice e, .. }, some ti', .slice own es => match E.T e with
    | some ei => match appendSrc E e ei.size ti'.kind x with
      | some xs => appendTo e ei own es xs
      | none => none
    | none => none
  | _, _, _ => none
def toK (o : Option AVal) (k : AVal → Option R) : Option R :=
  match o with
  | some v => k v
  | none => none
def intBinC (op : BinOp) (k : IntKind) (a b : Int) (kk : AVal → Option R) : Option R :=
  match op with
  | .quo => if b = 0 then none else kk (.int k (k.wrap (a.tdiv b)))
  | .rem => if b = 0 then none else kk (.int k (a.tmod b))
  | op => toK (intBin op k a b) kk
def shiftBinC (op : BinOp) (k : IntKind) (a b : Int) (kk : AVal → Option R) : Option R :=
  if b < 0 then none else
  match op with
  | .shl => kk (.int k (k.wrap (a * 2 ^ (min b.toNat k.bits))))
  | .shr => kk (.int k (a.fdiv (2 ^ (min b.toNat k.bits))))
  | _ => none
def strBinC (op : BinOp) (a b : List UInt8) (kk : AVal → Option R) : Option R :=
  match op with
  | .add => if a.length + b.length ≤ 9223372036854775807 then kk (.str (a ++ b)) else none
  | op => toK (strBin op a b) kk
def binC (E : Env) (op : BinOp) (t : TypeId) (cx cy : Bool) (a b : AVal) (kk : AVal → Option R) : Option R :=
  match a, b with
  | .int k x, .int k' y => if isShift op then shiftBinC op k x y kk else if k = k' then intBinC op k x y kk else none
  | .str x, .str y => strBinC op x y kk
  | a, b => toK (binV E op t cx cy a b) kk
def boundC (n : Nat) (o : Option (Option AVal)) (d : Nat) (kk : Nat → Option R) : Option R :=
  match o with
  | none => kk d
  | some (some (.int _ i)) => if 0 ≤ i ∧ i ≤ n then kk i.toNat else none
  | _ => none
def sliceC (E : Env) (k : TK) (v : AVal) (lo hi : Option (Option AVal)) (kk : AVal → Option R) : Option R :=
  match v with
  | .str s => match k with
   | .str => boundC s.length hi s.length fun h => boundC h lo 0 fun l => kk (.str ((s.take h).drop l))
   | _ => none
  | .slice _ es => match k with
    | .slice e => match E.T e with
      | some ei => if uni ei.size es then boundC es.length hi es.length fun h => boundC h lo 0 fun l => kk (.slice .no ((es.take h).drop l)) else none
      | none => none
    | _ => none
  | .sref q off n => match k with
    | .slice e => match E.T e with
      | some ei => boundC n hi n fun h => boundC h lo 0 fun l => kk (.sref q (off + l * ei.size) (h - l))
      | none => none
    | _ => none
  | _ => none
def convC (E : Env) (src dst : TypeId) (v : AVal) (kk : AVal → Option R) : Option R :=
  match v with
  | .slice own es => (match E.T src, E.T dst with
    | some si, some di => (match si.kind with
      | .slice e => (match di.kind with
        | .str => if isByte E e then (match allByte es with
          | true => kk (.str (bytesL es))
          | false => none) else none
        | _ => toK (convV E src dst (.slice own es)) kk)
      | _ => toK (convV E src dst (.slice own es)) kk)
    | _, _ => toK (convV E src dst (.slice own es)) kk)
  | v => toK (convV E src dst v) kk
def byteAt (s : List UInt8) (n : Nat) : Int := (s.getD n 0).toNat
def nthL (es : List (List AVal)) (n : Nat) : List AVal := es.getD n []
def indexC (E : Env) (t : TypeId) (v : AVal) (i : Int) (kk : AVal → Option R) : Option R :=
  match v with
  | .str s => match E.T t with
    | some { kind := .str, .. } => if 0 ≤ i ∧ i < s.length then kk (.int .u8 (byteAt s i.toNat)) else none
    | _ => none
  | .agg cs => match E.T t with
    | some { kind := .array n sz agg, .. } => if 0 ≤ i ∧ i < n then match sub cs (i.toNat * sz) sz with
        | some l => toK (ofCells agg l) kk
        | none => none
      else none
    | _ => none
  | _ => none
def elemC (n : Nat) (es : List (List AVal)) (i : Int) (kk : AVal → Option R) : Option R :=
  if 0 ≤ i ∧ i < es.length then (bif Nat.beq (nthL es i.toNat).length n then kk (.imm (nthL es i.toNat)) else none) else none
def isI (k : IntKind) : AVal → Bool
  | .int j _ => decide (j = k)
  | _ => false
def getI : AVal → Int
  | .int _ n => n
  | _ => 0
def isS : AVal → Bool
  | .str _ => true
  | _ => false
def getS : AVal → List UInt8
  | .str s => s
  | _ => []
def isB : AVal → Bool
  | .bool _ => true
  | _ => false
def getB : AVal → Bool
  | .bool b => b
  | _ => false
def isSl : AVal → Bool
  | .slice .no _ => true
  | _ => false
def isNilS : AVal → Bool
  | .slice .nil [] => true
  | _ => false
def getSl : AVal → List (List AVal)
  | .slice _ l => l
  | _ => []
def etaC (z v : AVal) (kk : AVal → Option R) : Option R :=
  match z with
  | .int k _ => bif isI k v then kk (.int k (getI v)) else none
  | .str _ => bif isS v then kk (.str (getS v)) else none
  | .bool _ => bif isB v then kk (.bool (getB v)) else none
  | .slice _ _ => bif isNilS v then kk (.slice .nil []) else bif isSl v then kk (.slice .no (getSl v)) else none
  | _ => kk v
def cellAt (l : List AVal) (n : Nat) : AVal := tget l n
def etaCs : List AVal → List AVal → Nat → (List AVal → Option R) → Option R
  | [], _, _, kk => kk []
  | z :: zs, e, j, kk => etaC z (cellAt e j) fun v => etaCs zs e (j + 1) fun vs => kk (v :: vs)
def loadC (E : Env) (t : TypeId) (cells : List AVal) (kk : AVal → Option R) : Option R :=
  match E.T t with
  | some ti => bif Nat.ble ti.size cells.length && Nat.beq ti.size ti.zero.length then
      (if ti.isAgg then etaCs ti.zero cells 0 fun cs => if cs.all isData then kk (.agg (cs.map disown)) else none
       else match ti.zero with
        | [z] => etaC z (cellAt cells 0) kk
        | _ => none)
    else none
  | none => none
def appendToC (e : TypeId) (ei : TI) (own : Own) (es xs : List (List AVal)) (kk : AVal → Option R) : Option R :=
  if ei.size ≠ 0 && roomOk (es.length + xs.length) ei.bytes then
    match own with
    | .no => none
    | .full => bif isCons xs then (if uni ei.size es then kk (.slice (.row e) (es ++ xs)) else none) else kk (.slice .full es)
    | .nil => kk (.slice (.row e) (es ++ xs))
    | .row e' => if e' = e then kk (.slice (.row e) (es ++ xs)) else none
  else none
def appendC (E : Env) (t t' : TypeId) (s x : AVal) (kk : AVal → Option R) : Option R :=
  match E.T t, E.T t', s with
  | some { kind := .slice e, .. }, some ti', .slice own es => match E.T e with
    | some ei => match ti'.kind, x with
      | .slice _, .slice _ xs => if uni ei.size xs then appendToC e ei own es xs kk else none
      | .str, .str b => if isByte E e then appendToC e ei own es (b.map fun c => [.int .u8 c.toNat]) kk else none
      | _, _ => none
    | none => none
  | _, _, _ => none
theorem intBinC_eq (op : BinOp) (k : IntKind) (a b : Int) (kk : AVal → Option R) : intBinC op k a b kk = toK (intBin op k a b) kk := by
  cases op <;> try rfl
  all_goals (simp only [intBinC, intBin]; split <;> rfl)
theorem shiftBinC_eq (op : BinOp) (k : IntKind) (a b : Int) (kk : AVal → Option R) : shiftBinC op k a b kk = toK (shiftBin op k a b) kk := by
  unfold shiftBinC shiftBin
  split
  · rfl
  · cases op <;> rfl
theorem strBinC_eq (op : BinOp) (a b : List UInt8) (kk : AVal → Option R) : strBinC op a b kk = toK (strBin op a b) kk := by
  cases op <;> try rfl
  simp only [strBinC, strBin]; split <;> rfl
theorem convC_eq (E : Env) (src dst : TypeId) (v : AVal) (kk : AVal → Option R) : convC E src dst v kk = toK (convV E src dst v) kk := by
  unfold convC
  split
  · rename_i own es
    split
    · rename_i si di h1 h2
      split
      · rename_i e he
        split
        · rename_i hd
          obtain ⟨dk, d1, d2, d3⟩ := di
          obtain rfl : dk = .str := hd
          simp only [convV, h1, h2, he]
          split
          · cases allByte es <;> rfl
          · rfl
        · rfl
      · rfl
    · rfl
  · rfl
theorem binC_eq (E : Env) (op : BinOp) (t : TypeId) (cx cy : Bool) (a b : AVal) (kk : AVal → Option R) : binC E op t cx cy a b kk = toK (binV E op t cx cy a b) kk := by
  unfold binC
  split
  · simp only [binV]
    split
    · exact shiftBinC_eq ..
    · split
      · exact intBinC_eq ..
      · rfl
  · simp only [binV]; exact strBinC_eq ..
  · rfl
theorem boundC_eq (n : Nat) (o : Option (Option AVal)) (d : Nat) (kk : Nat → Option R) : boundC n o d kk = (match bound n o d with | some h => kk h | none => none) := by
  cases o with
  | none => rfl
  | some o =>
    cases o with
    | none => rfl
    | some v =>
      cases v <;> try rfl
      simp only [boundC, bound]
      split <;> rfl
theorem sliceC_eq (E : Env) (k : TK) (v : AVal) (lo hi : Option (Option AVal)) (kk : AVal → Option R) : sliceC E k v lo hi kk = toK (sliceV E k v lo hi) kk := by
  unfold sliceC sliceV
  split
  · split
    · simp only [boundC_eq]
      cases bound _ hi _ with
      | none => rfl
      | some h =>
        simp only
        cases bound h lo 0 <;> rfl
    · rfl
  · split
    · split
      · split
        · simp only [boundC_eq]
          cases bound _ hi _ with
          | none => rfl
          | some h =>
            simp only
            cases bound h lo 0 <;> rfl
        · rfl
      · rfl
    · rfl
  · split
    · split
      · simp only [boundC_eq]
        cases bound _ hi _ with
        | none => rfl
        | some h =>
          simp only
          cases bound h lo 0 <;> rfl
      · rfl
    · rfl
  · rfl
theorem indexC_eq (E : Env) (t : TypeId) (v : AVal) (i : Int) (kk : AVal → Option R) : indexC E t v i kk = toK (indexV E t v i) kk := by
  unfold indexC indexV
  split
  · rename_i s
    split
    · by_cases h0 : 0 ≤ i
      · rw [if_pos h0]
        by_cases h1 : i < s.length
        · rw [if_pos ⟨h0, h1⟩]
          have : i.toNat < s.length := by omega
          simp [byteAt, List.getElem?_eq_getElem this, List.getD_eq_getElem?_getD, toK]
        · rw [if_neg (fun h => h1 h.2)]
          rw [List.getElem?_eq_none (by omega)]
          rfl
      · rw [if_neg h0, if_neg (fun h => h0 h.1)]; rfl
    · rfl
  · split
    · split
      · split <;> rfl
      · rfl
    · rfl
  · rfl
theorem elemC_eq (n : Nat) (es : List (List AVal)) (i : Int) (kk : AVal → Option R) : elemC n es i kk = toK ((elemOf n es i).map .imm) kk := by
  unfold elemC elemOf
  by_cases h0 : 0 ≤ i
  · rw [if_pos h0]
    by_cases h1 : i < es.length
    · rw [if_pos ⟨h0, h1⟩]
      have h2 : i.toNat < es.length := by omega
      have h3 : nthL es i.toNat = es[i.toNat] := by simp [nthL, List.getD_eq_getElem?_getD, List.getElem?_eq_getElem h2]
      rw [List.getElem?_eq_getElem h2, h3]
      simp only
      by_cases h4 : es[i.toNat].length = n
      · rw [if_pos h4]
        have : Nat.beq es[i.toNat].length n = true := by rw [Nat.beq_eq]; exact h4
        rw [this]; rfl
      · rw [if_neg h4]
        have : Nat.beq es[i.toNat].length n = false := by
          cases hb : Nat.beq es[i.toNat].length n with
          | false => rfl
          | true => exact absurd (Nat.eq_of_beq_eq_true hb) h4
        rw [this]; rfl
    · rw [if_neg (fun h => h1 h.2), List.getElem?_eq_none (by omega)]
      rfl
  · rw [if_neg h0, if_neg (fun h => h0 h.1)]; rfl
theorem etaC_some {z v : AVal} {kk : AVal → Option R} {r : R} (h : etaC z v kk = some r) : kk v = some r := by
  unfold etaC at h
  split at h
  · cases v <;> simp [isI, cond] at h
    split at h
    · rename_i hk; simp at hk; subst hk; exact h
    · cases h
  · cases v <;> simp [isS] at h
    exact h
  · cases v <;> simp [isB] at h
    exact h
  · cases hn : isNilS v with
    | true =>
      rw [hn] at h
      cases v <;> try (cases hn; done)
      rename_i own es
      cases own <;> try (cases hn; done)
      cases es with
      | nil => exact h
      | cons _ _ => cases hn
    | false =>
      rw [hn] at h
      simp only [cond_false] at h
      cases v <;> simp [isSl] at h
      rename_i own es
      cases own <;> simp at h
      exact h
  · exact h
theorem tget_drop : ∀ (l : List AVal) (j : Nat), j < l.length → l.drop j = tget l j :: l.drop (j + 1)
  | [], _, h => by simp at h
  | x :: r, 0, _ => rfl
  | x :: r, j + 1, h => by simpa [tget] using tget_drop r j (by simpa using h)
theorem takeN_succ {α : Type} (x : α) (r : List α) (n : Nat) : takeN (x :: r) (n + 1) = (takeN r n).map (x :: ·) := rfl
theorem takeN_zero {α : Type} (l : List α) : takeN l 0 = some [] := by cases l <;> rfl
theorem etaCs_some : ∀ {zs e : List AVal} {j : Nat} {kk : List AVal → Option R} {r : R}, etaCs zs e j kk = some r → j + zs.length ≤ e.length → ∃ vs, takeN (e.drop j) zs.length = some vs ∧ kk vs = some r
  | [], e, j, kk, r, h, _ => ⟨[], takeN_zero _, h⟩
  | z :: zs, e, j, kk, r, h, hl => by
    simp only [List.length_cons] at hl
    have h1 := etaC_some h
    obtain ⟨vs, h2, h3⟩ := etaCs_some h1 (by omega)
    refine ⟨_, ?_, h3⟩
    rw [tget_drop e j (by omega), List.length_cons, takeN_succ, h2]; rfl
theorem loadC_some {E : Env} {fr : AFrame} {m : Mem} {t : TypeId} {cells : List AVal} {kk : AVal → Option R} {r : R} (h : loadC E t cells kk = some r) : ∃ v, loadV E fr m t (.imm cells) = some v ∧ kk v = some r := by
  unfold loadC at h
  unfold loadV
  split at h
  · rename_i ti hti
    cases hb : (Nat.ble ti.size cells.length && Nat.beq ti.size ti.zero.length) with
    | false => rw [hb] at h; cases h
    | true =>
      rw [hb] at h
      simp only [cond_true] at h
      rw [Bool.and_eq_true] at hb
      have h1 := Nat.le_of_ble_eq_true hb.1
      have h2 := Nat.eq_of_beq_eq_true hb.2
      simp only [getCells]
      split at h
      · rename_i ha
        obtain ⟨vs, h3, h4⟩ := etaCs_some h (by omega)
        rw [List.drop_zero, ← h2] at h3
        rw [h3]
        simp only [ha, if_true]
        split at h4
        · rename_i hd; rw [if_pos hd]; exact ⟨_, rfl, h4⟩
        · cases h4
      · rename_i ha
        split at h
        · rename_i z hz
          have h3 := etaC_some h
          rw [hz] at h2
          simp only [List.length_cons, List.length_nil, Nat.zero_add] at h2
          have h4 : takeN cells ti.size = some [cellAt cells 0] := by
            rw [h2]
            have := tget_drop cells 0 (by omega)
            rw [List.drop_zero] at this
            rw [this, takeN_succ, takeN_zero]; rfl
          rw [h4]
          simp only [ha, Bool.false_eq_true, if_false]
          exact ⟨_, rfl, h3⟩
        · cases h
  · cases h
theorem etaC_nat (z v : AVal) (kk : AVal → Option R) : etaC z v kk = toK (etaC z v some) kk := by
  unfold etaC
  split
  · cases isI _ v <;> rfl
  · cases isS v <;> rfl
  · cases isB v <;> rfl
  · cases isNilS v <;> cases isSl v <;> rfl
  · rfl
theorem etaCs_nat : ∀ (zs e : List AVal) (j : Nat) (kk : List AVal → Option AVal) (f : AVal → Option R), toK (etaCs zs e j kk) f = etaCs zs e j fun vs => toK (kk vs) f
  | [], e, j, kk, f => rfl
  | z :: zs, e, j, kk, f => by
    simp only [etaCs]
    rw [etaC_nat, etaC_nat (kk := fun v => etaCs zs e (j + 1) fun vs => toK (kk (v :: vs)) f)]
    cases etaC z (cellAt e j) some with
    | none => rfl
    | some v => exact etaCs_nat zs e (j + 1) (fun vs => kk (v :: vs)) f
theorem loadC_nat (E : Env) (t : TypeId) (cells : List AVal) (kk : AVal → Option R) : loadC E t cells kk = toK (loadC E t cells some) kk := by
  unfold loadC
  split
  · cases (Nat.ble _ _ && Nat.beq _ _) with
    | false => rfl
    | true =>
      simp only [cond_true]
      split
      · rw [etaCs_nat]
        congr 1
        funext vs
        split <;> rfl
      · split
        · exact etaC_nat _ _ _
        · rfl
  · rfl
theorem appendTo_eq (e : TypeId) (ei : TI) (own : Own) (es xs : List (List AVal)) (kk : AVal → Option R) : appendToC e ei own es xs kk = toK (appendTo e ei own es xs) kk := by
  unfold appendTo appendToC
  split
  · cases own with
    | no => rfl
    | full =>
      simp only
      cases isCons xs
      · rfl
      · simp only [cond_true]; split <;> rfl
    | nil => rfl
    | row e' => simp only; split <;> rfl
  · rfl
theorem appendC_eq (E : Env) (t t' : TypeId) (s x : AVal) (kk : AVal → Option R) : appendC E t t' s x kk = toK (appendV E t t' s x) kk := by
  unfold appendC appendV
  split
  · split
    · split
      · rename_i hk
        simp only [hk, appendSrc]
        split
        · exact appendTo_eq ..
        · rfl
      · rename_i hk
        simp only [hk, appendSrc]
        split
        · exact appendTo_eq ..
        · rfl
      · rename_i h1 h2
        have : ∀ k : TK, ∀ x : AVal, (∀ e own xs, k = .slice e → x = .slice own xs → False) → (∀ b, k = .str → x = .str b → False) → ∀ (e : TypeId) (n : Nat), appendSrc E e n k x = none := by
          intro k x h1 h2 e n
          cases k <;> cases x <;> first | rfl | exact (h1 _ _ _ rfl rfl).elim | exact (h2 _ rfl rfl).elim
        rw [this _ _ h1 h2]; rfl
    · rfl
  · rfl
def usesRow (E : Env) (d : Tmp) (o : Oper) : Bool :=
  match o.op with
  | .assign (.tmp t) => t == d
  | .store _ _ (.tmp t) => t == d
  | .call c => match c.callee with
    | .builtin .append => match (c.args[0]? : Option Operand) with
      | some (.tmp t) => t == d
      | _ => false
    | .value (.func f) => (List.range c.args.size).any fun i => E.mv f i && (match (c.args[i]? : Option Operand) with | some (.tmp t) => t == d | _ => false)
    | _ => false
  | _ => false
def xfer (E : Env) (ops : List Oper) (dst : Option Tmp) : Bool :=
  match dst with
  | some d => ops.any (usesRow E d)
  | none => false
def argsOf (E : Env) (f : FuncId) : Nat → List Operand → AFrame → Option (List AVal × AFrame)
  | _, [], fr => some ([], fr)
  | i, x :: r, fr => match argsOf E f (i + 1) r fr with
    | some (vs, fr') => match ev E fr' x with
      | some v =>
        match v with
        | .loc .. => none
        | _ => if E.mv f i then some (v :: vs, leave1 fr' x) else some (plainAgg (plainCell v) :: vs, fr')
      | none => none
    | none => none
def capOk : List AVal → Option (List AVal)
  | [] => some []
  | v :: r => match capOk r with
    | some l => match v with
      | .ptr .. => some (v :: l)
      | _ => if isData v then some (plainAgg (plainCell v) :: l) else none
    | none => none
def callK (o : Oper) (fr : AFrame) (K : AFrame → Mem → Option R) (Kp : AVal → AFrame → Mem → Option R) : Out × Mem → Option R := fun x =>
  match x.1 with
  | .ret v => K (put fr o.dst v) x.2
  | .pan v => Kp v fr x.2
def pureK (o : Oper) (fr : AFrame) (m : Mem) (K : AFrame → Mem → Option R) : Out × Mem → Option R := fun x =>
  match x.1 with
  | .ret v => (match x.2 with
    | [] => K (put fr o.dst v) m
    | _ :: _ => none)
  | .pan _ => none
def within (base : Nat) : AVal → Bool
  | .ptr o _ => o < base
  | .mapp _ => false
  | .sref o _ _ => o < base
  | .fn _ cs => cs.all fun | .ptr o _ => o < base | v => isData v
  | .tup vs => vs.all fun | .ptr o _ => o < base | .mapp _ => false | .sref .. => false | .fn _ (_ :: _) => false | _ => true
  | _ => true
def absCall (E : Env) (D : Ora) (o : Oper) (f : FuncId) (args : List AVal) (fr : AFrame) (m : Mem) (K : AFrame → Mem → Option R) (Kp : AVal → AFrame → Mem → Option R) : Option R :=
  match E.fn f with
  | none => none
  | some _ => if E.pure f then (if args.all (within 0) then (D.call f args []).run (pureK o fr m K) else none) else (D.call f args m).run (callK o fr K Kp)
def keyOk : KK → AVal → Bool
  | .int k, .int j _ => k == j
  | .str, .str _ => true
  | _, _ => false
def keyEq : AVal → AVal → Bool
  | .int _ a, .int _ b => a == b
  | .str a, .str b => a == b
  | _, _ => false
def mhas (k : AVal) : List (AVal × AVal) → Bool
  | [] => false
  | e :: r => keyEq k e.1 || mhas k r
def mget (k : AVal) : List (AVal × AVal) → AVal
  | [] => .any
  | e :: r => bif keyEq k e.1 then e.2 else mget k r
def mput (k v : AVal) : List (AVal × AVal) → List (AVal × AVal)
  | [] => [(k, v)]
  | e :: r => bif keyEq k e.1 then (k, v) :: r else e :: mput k v r
def outC (ti : TI) (v : AVal) (kk : AVal → Option R) : Option R :=
  if ti.isAgg then (match v with
    | .agg cs => bif Nat.beq cs.length ti.zero.length then etaCs ti.zero cs 0 fun cs => if cs.all isData then kk (.agg (cs.map disown)) else none else none
    | _ => none)
  else (match ti.zero with
    | [z] => etaC z v fun v => if isData v then kk (disown v) else none
    | _ => none)
def zeroV (ti : TI) : AVal := if ti.isAgg then .agg ti.zero else ti.zero.headD .any
def lookK (ok : Bool) (b : Bool) (v : AVal) : AVal := bif ok then .tup [v, .bool b] else v
def kindK : TK → Option KK
  | .int k => some (.int k)
  | .str => some .str
  | _ => none
def kkB : KK → KK → Bool
  | .int k, .int j => k == j
  | .str, .str => true
  | _, _ => false
def keyT (E : Env) (t : TypeId) (kk : KK) : Bool :=
  match E.T t with
  | some ti => (match kindK ti.kind with
    | some kk' => kkB kk' kk
    | none => false)
  | none => false
def absOp (E : Env) (D : Ora) (F : FuncId) (ops : List Oper) (o : Oper) (fr : AFrame) (m : Mem) (K : AFrame → Mem → Option R) (Kp : AVal → AFrame → Mem → Option R) : Option R :=
  let val (v : Option AVal) : Option R := match v with
    | some v => K (put fr o.dst v) m
    | none => none
  match o.op with
  | .move x => match ev E fr x with
    | some v => if xfer E ops o.dst then K (put (leave1 fr x) o.dst (promoS E F o.dst v)) m else K (put fr o.dst (disown (promoS E F o.dst v))) m
    | none => none
  | .assign x => match ev E fr x with
    | some v => K (put (leave1 fr x) o.dst (promoS E F o.dst v)) m
    | none => none
  | .pick c a b => asB (ev E fr c) fun t => val ((ev E fr (if t then a else b)).map disown)
  | .alloc e => match E.T e, o.dst with
    | some ti, some d => if okBld E e (promoL E (E.rowT e) ti.zero) then (if E.loc F d then K (put { fr with locs := fr.locs ++ [.cells (promoL E (E.rowT e) ti.zero)] } o.dst (.loc fr.locs.length 0)) m
        else K (put fr o.dst (.ptr m.length 0)) (m ++ [.cells (promoL E (E.rowT e) ti.zero)])) else none
    | _, _ => none
  | .box t x => match ev E fr x, o.dst with
    | some v, some d => if okBld E t (promoL E (E.rowT t) (cellsOf v)) then (if E.loc F d then
          (if (cellsOf v).all mayHoldL then K (put { (leave1 fr x) with locs := fr.locs ++ [.cells (promoL E (E.rowT t) (cellsOf v))] } o.dst (.loc fr.locs.length 0)) m else none)
        else if (cellsOf v).all (mayHold m.length) then K (put (leave1 fr x) o.dst (.ptr m.length 0)) (m ++ [.cells (promoL E (E.rowT t) (cellsOf v))]) else none) else none
    | _, _ => none
  | .build t parts => match E.T t, evParts E fr parts.toList with
    | some { kind := .struct fs, zero := z, .. }, some ps => val ((fill (fun i => (fs[i]?).map fun f => (f.1, f.2.1)) z ps).map .agg)
    | some { kind := .array _ sz _, zero := z, .. }, some ps => val ((fill (fun i => some (i * sz, sz)) z ps).map .agg)
    | _, _ => none
  | .buildSlice t len parts => match E.T t, evParts E fr parts.toList with
    | some { kind := .slice e, .. }, some ps => match E.T e with
      | some ei => if ei.size ≠ 0 && len ≠ 0 && len * ei.size ≤ 16777216 then
          val ((fill (fun i => some (i * ei.size, ei.size)) (repl len ei.zero) (ps.map fun p => (p.1, plainAgg (plainCell p.2)))).map fun cs => .slice .full (chunks ei.size len cs))
        else none
      | none => none
    | _, _ => none
  | .load t a => match ev E fr a with
    | some p => match p with
      | .imm cells => loadC E t cells fun v => K (put fr o.dst (disown v)) m
      | p => match loadV E fr m t p with
        | some v => if xfer E ops o.dst && !noRow v then
            (match setCells fr m p [disown v] with
             | some (fr', m') => K (put fr' o.dst v) m'
             | none => K (put fr o.dst (disown v)) m)
          else K (put fr o.dst (disown v)) m
        | none => none
    | none => none
  | .store t a x => match ev E fr a, ev E fr x, E.T t with
    | some p, some v, some ti => if (cellsOf v).length = ti.size then
        match setCells (leave1 fr x) m p (promoL E (E.rowT t) (cellsOf v)) with
        | some (fr', m') => K (put fr' o.dst (.tup [])) m'
        | none => none
      else none
    | _, _, _ => none
  | .nilCheck x => match ev E fr x with
    | some v => if hasTarget v then K (put fr o.dst v) m else none
    | none => none
  | .binOp op t x y _ => match ev E fr x, ev E fr y with
    | some a, some b => binC E op t (isConst x) (isConst y) a b fun v => K (put fr o.dst v) m
    | _, _ => none
  | .unOp op _ x => match ev E fr x with
    | some a => val (unV op a)
    | none => none
  | .convert src dst x => match ev E fr x with
    | some a => (match a, E.T src, E.T dst with
      | .str s, some _, some { kind := .slice e, .. } => if isByte E e && s.length ≤ 140737488355328 then val (some (.slice .no (s.map fun b => [.int .u8 b.toNat]))) else none
      | _, _, _ => convC E src dst a fun v => K (put fr o.dst v) m)
    | none => none
  | .makeInterface t x => match ev E fr x, E.T t with
    | some v, some ti => (match ti.kind with
      | .iface => none
      | _ => if isData v then val (some (.iface t (plainAgg (plainCell v)))) else none)
    | _, _ => none
  | .makeFunc (.func f) first captured => if first.size = 0 then match evs E fr captured.toList with
      | some vs => val ((capOk vs).map (.fn f))
      | none => none
    else none
  | .slice t x lo hi mx => match ev E fr x, E.T t with
    | some v, some ti => if mx.isSome then slice3C E ti.kind v (lo.map (ev E fr)) (hi.map (ev E fr)) (mx.map (ev E fr)) fun v => K (put fr o.dst v) m
      else sliceC E ti.kind v (lo.map (ev E fr)) (hi.map (ev E fr)) fun v => K (put fr o.dst v) m
    | _, _ => none
  | .fieldAddr s x f => match structFields E s, ev E fr x with
    | some fs, some p => match fs[f]? with
      | some (off, size, _) => if size = 0 then none else val (addrOff p off)
      | none => none
    | _, _ => none
  | .field s x f => match structFields E s, ev E fr x with
    | some fs, some (.agg cs) => match fs[f]? with
      | some (off, size, agg) => match sub cs off size with
        | some l => val (ofCells agg l)
        | none => none
      | none => none
    | _, _ => none
  | .indexAddr t x i => asI (ev E fr i) fun _ i => match ev E fr x, E.T t with
    | some (.slice _ es), some { kind := .slice e, .. } => (match E.T e with
      | some ei => if ei.size = 0 then none else elemC ei.size es i fun v => K (put fr o.dst v) m
      | none => none)
    | some (.sref q off n), some { kind := .slice e, .. } => (match E.T e with
      | some ei => if 0 ≤ i ∧ i < n then K (put fr o.dst (.ptr q (off + i.toNat * ei.size))) m else none
      | none => none)
    | some p, some { kind := .array n sz _, .. } => if 0 ≤ i ∧ i < n then val (addrOff p (i.toNat * sz)) else none
    | _, _ => none
  | .index t x i => asI (ev E fr i) fun _ i => match ev E fr x with
    | some v => indexC E t v i fun v => K (put fr o.dst v) m
    | none => none
  | .range t x => match ev E fr x, E.T t, o.dst with
    | some (.str s), some { kind := .str, .. }, some d => if E.loc F d then K (put { fr with locs := fr.locs ++ [.iter s 0] } o.dst (.loc fr.locs.length 0)) m else none
    | _, _, _ => none
  | .next it true => match ev E fr it with
    | some (.loc j off) => match off with
      | 0 => match oget fr.locs j with
        | some (.iter s pos) => if pos < s.length then
            K (put { fr with locs := oset fr.locs j (.iter s (pos + (Utf8.decode ⟨s.toArray⟩ pos).2)) } o.dst (.tup [.bool true, .int .i64 pos, .int .i32 (Utf8.decode ⟨s.toArray⟩ pos).1])) m
          else K (put fr o.dst (.tup [.bool false])) m
        | _ => none
      | _ + 1 => none
    | _ => none
  | .typeAssert x _ t ok => match ev E fr x, E.T t with
    | some v, some ti => (match ti.kind with
      | .iface => none
      | _ => match v with
        | .iface u y => if u = t then K (put fr o.dst (if ok then .tup [y, .bool true] else y)) m
            else if ok then (match ofCells ti.isAgg ti.zero with
              | some z => K (put fr o.dst (.tup [z, .bool false])) m
              | none => none) else none
        | .nilIface => if ok then (match ofCells ti.isAgg ti.zero with
            | some z => K (put fr o.dst (.tup [z, .bool false])) m
            | none => none) else none
        | _ => none)
    | _, _ => none
  | .extract t i => match ev E fr t with
    | some (.tup vs) => match vs[i]? with
      | some v => K (put fr o.dst (disown v)) m
      | none => none
    | _ => none
  | .call c => match c.callee with
    | .value x => match ev E fr x with
      | some (.fn f caps) => match argsOf E f 0 c.args.toList fr with
        | some (vs, fr') => absCall E D o f (vs ++ caps) fr' m K Kp
        | none => none
      | _ => none
    | .builtin .len => match c.args[0]?, c.argTypes[0]? with
      | some x, some t => match ev E fr x, E.T t with
        | some v, some ti => val ((lenV ti.kind v).map fun n => .int .i64 n)
        | _, _ => none
      | _, _ => none
    | .builtin .append => match c.args[0]?, c.args[1]?, c.argTypes[0]?, c.argTypes[1]? with
      | some s, some x, some t, some t' => if c.args.size = 2 && c.argTypes.size = 2 then match ev E fr s, ev E fr x with
          | some v, some u => appendC E t t' v u fun r => K (put (leave1 fr s) o.dst r) m
          | _, _ => none
        else none
      | _, _, _, _ => none
    | .builtin .max => match evs E fr c.args.toList with
      | some [.int k a, .int _ b] => val (some (.int k (if b > a then b else a)))
      | _ => none
    | .builtin .min => match evs E fr c.args.toList with
      | some [.int k a, .int _ b] => val (some (.int k (if b < a then b else a)))
      | _ => none
    | _ => none
  | .makeMap t rs => match rs, E.T t, o.dst with
    | none, some { kind := .map k _, .. }, some _ => match E.T k with
      | some kt => match kindK kt.kind with
        | some kk => K (put fr o.dst (.mapp m.length)) (m ++ [.map kk []])
        | none => none
      | none => none
    | _, _, _ => none
  | .lookup t x ix ok => match ev E fr x, ev E fr ix, E.T t with
    | some (.mapp j), some k, some { kind := .map kt e, .. } => match oget m j, E.T e with
      | some (.map kk es), some ti => if keyOk kk k && keyT E kt kk then
          (bif mhas k es then outC ti (mget k es) fun v => K (put fr o.dst (lookK ok true v)) m
           else K (put fr o.dst (lookK ok false (zeroV ti))) m) else none
      | _, _ => none
    | _, _, _ => none
  | .mapUpdate t x k v | .insert t x k v => match ev E fr x, ev E fr k, ev E fr v, E.T t with
    | some (.mapp j), some k, some v, some { kind := .map kt _, .. } => match oget m j with
      | some (.map kk es) => if keyOk kk k && keyT E kt kk && isData v then K (put fr o.dst (.tup [])) (oset m j (.map kk (mput k (plainAgg (plainCell v)) es))) else none
      | _ => none
    | _, _, _, _ => none
  | .panic x => match ev E fr x with
    | some (.iface t v) => Kp (.iface t v) fr m
    | _ => none
  | .defer c => match c.callee with
    | .value x => match ev E fr x with
      | some (.fn f caps) => match argsOf E f 0 c.args.toList fr with
        | some (vs, fr') => match capOk (vs ++ caps) with
          | some l => K (put { fr' with defers := (f, l) :: fr'.defers } o.dst (.tup [])) m
          | none => none
        | none => none
      | _ => none
    | _ => none
  | _ => none
def withGuard (ops : List Oper) (o : Oper) (fr : AFrame) (yes no : AFrame → Option R) : Option R :=
  match o.guard with
  | none => yes fr
  | some (j, want) => match (ops[j]?).bind (·.dst) with
    | none => none
    | some d => match tget fr.tmps d with
      | .bool b => (match b with
        | true => (if want then yes else no) { fr with tmps := tset fr.tmps d (.bool true) }
        | false => (if want then no else yes) { fr with tmps := tset fr.tmps d (.bool false) })
      | .tup [] => no fr
      | _ => none
def fuse (E : Env) (fr : AFrame) (o o' : Oper) : Option (Tmp × List (List AVal)) :=
  match o.op with
  | .buildSlice t len parts => (match o'.op with
    | .convert t1 t2 x => (match x with
      | .tmp d' => (match o.guard, o'.guard, o.dst with
        | none, none, some d => if Nat.beq t1 t && (Nat.beq t2 t && (Nat.beq d' d && Nat.blt d fr.tmps.length)) then
            (match E.T t, evParts E fr parts.toList with
            | some { kind := .slice e, .. }, some ps => (match E.T e with
              | some ei => if isByte E e && (ei.size ≠ 0 && len ≠ 0 && len * ei.size ≤ 16777216) then
                  (fill (fun i => some (i * ei.size, ei.size)) (repl len ei.zero) (ps.map fun p => (p.1, plainAgg (plainCell p.2)))).map fun cs => (d, chunks ei.size len cs)
                else none
              | none => none)
            | _, _ => none)
          else none
        | _, _, _ => none)
      | _ => none)
    | _ => none)
  | _ => none
def fuseL (E : Env) (fr : AFrame) (o : Oper) (rest : List Oper) : Option (Tmp × List (List AVal)) :=
  match rest with
  | o' :: _ => fuse E fr o o'
  | [] => none
def runOps (E : Env) (D : Ora) (F : FuncId) (ops : List Oper) : List Oper → AFrame → Mem → (AFrame → Mem → Option R) → (AVal → AFrame → Mem → Option R) → Option R
  | [], fr, m, K, _ => K fr m
  | o :: rest, fr, m, K, Kp =>
    match fuseL E fr o rest with
    | some x => (match rest with
      | o' :: rest' => runOps E D F ops rest' (put (put fr (some x.1) (.slice .no x.2)) o'.dst (.slice .no x.2)) m K Kp
      | [] => none)
    | none =>
      withGuard ops o fr (fun fr => absOp E D F ops o fr m (fun fr m => runOps E D F ops rest fr m K Kp) Kp)
        (fun fr => runOps E D F ops rest (put fr o.dst (.tup [])) m K Kp)
def keyOf : Code → Option Nat
  | .region id _ _ => some id
  | .seq a b => match keyOf a with
    | some k => some k
    | none => keyOf b
  | .cond _ a b => match keyOf a with
    | some k => some k
    | none => keyOf b
  | .block _ b => keyOf b
  | .loop b => keyOf b
  | _ => none
def normL (keep : List Nat) : Nat → List AVal → List AVal
  | _, [] => []
  | i, v :: r => (if keep.contains i then v else .any) :: normL keep (i + 1) r
def weakL (k : Nat → WK) : Nat → List AVal → List AVal
  | _, [] => []
  | i, v :: r => weakV (k i) v :: weakL k (i + 1) r
def nLocs : List AVal → Nat
  | [] => 0
  | v :: r => match v with
    | .loc o _ => (match Nat.ble (nLocs r) o with
      | true => o + 1
      | false => nLocs r)
    | _ => nLocs r
def normT (E : Env) (F : FuncId) (k : Option Nat) (l : List AVal) : List AVal := weakL (E.wk F) 0 (normL (E.keep F k) 0 l)
def norm (E : Env) (F : FuncId) (k : Option Nat) (fr : AFrame) : AFrame := { fr with tmps := normT E F k fr.tmps, locs := fr.locs.take (nLocs (normT E F k fr.tmps)) }
def calmB : Callee → Bool
  | .builtin .len | .builtin .max | .builtin .min => true
  | _ => false
def calm (E : Env) : Op → Bool
  | .move _ | .assign _ | .pick .. | .load .. | .binOp .. | .unOp .. | .fieldAddr .. | .field .. | .indexAddr .. | .index .. | .slice .. | .extract .. | .nilCheck _ | .makeInterface .. | .build .. => true
  | .convert _ dst _ => match E.T dst with
    | some { kind := .slice _, .. } => false
    | _ => true
  | .call c => calmB c.callee
  | _ => false
def argD (E : Env) (f : FuncId) (i : Nat) (v : AVal) : Option AVal :=
  match v with
  | .loc .. => none
  | _ => if E.mv f i then (if noRow v then some v else none) else some (plainAgg (plainCell v))
def argsD (E : Env) (f : FuncId) (fr : AFrame) : Nat → List Operand → Option (List AVal)
  | _, [] => some []
  | i, x :: r => match argsD E f fr (i + 1) r with
    | some vs => match ev E fr x with
      | some v => match argD E f i v with
        | some v => some (v :: vs)
        | none => none
      | none => none
    | none => none
def callD (L : List AObj) (k : AVal → List AObj → Mem → Option R) : Out × Mem → Option R := fun x =>
  match x.1 with
  | .ret v => k v L x.2
  | .pan _ => none
def pureD (L : List AObj) (m : Mem) (k : AVal → List AObj → Mem → Option R) : Out × Mem → Option R := fun x =>
  match x.1 with
  | .ret v => (match x.2 with
    | [] => k v L m
    | _ :: _ => none)
  | .pan _ => none
def drawCall (E : Env) (D : Ora) (f : FuncId) (args : List AVal) (L : List AObj) (m : Mem) (k : AVal → List AObj → Mem → Option R) : Option R :=
  match E.fn f with
  | none => none
  | some _ => if E.pure f then (if args.all (within 0) then (D.call f args []).run (pureD L m k) else none) else (D.call f args m).run (callD L k)
def plainMove : AVal → Bool
  | .slice (.row _) _ => false
  | .slice .nil _ => false
  | _ => true
def isMem (E : Env) (F : FuncId) (ops : List Oper) : Nat → Operand → Bool
  | n + 1, .tmp d => match ops.find? (fun o => o.dst == some d) with
    | some o => (match o.op with
      | .nilCheck _ => true
      | .fieldAddr _ x _ => isMem E F ops n x
      | .indexAddr _ x _ => isMem E F ops n x
      | _ => false)
    | none => !(E.loc F d)
  | _, _ => false
structure Eff where
  rL : Bool
  wL : Bool
  rM : Bool
  wM : Bool
def eff (E : Env) (F : FuncId) (ops : List Oper) (o : Oper) : Eff :=
  match o.op with
  | .load _ a => if isMem E F ops 8 a then ⟨false, false, true, xfer E ops o.dst⟩ else ⟨true, false, false, false⟩
  | .store _ a _ => if isMem E F ops 8 a then ⟨false, false, true, true⟩ else ⟨true, true, false, false⟩
  | .alloc _ => ⟨true, true, false, false⟩
  | .range _ _ => ⟨true, true, false, false⟩
  | .call c => (match c.callee with
    | .value x => (match x with
      | .func f => if E.pure f then ⟨false, false, false, false⟩ else ⟨false, false, true, true⟩
      | _ => ⟨false, false, true, true⟩)
    | _ => ⟨false, false, false, false⟩)
  | _ => ⟨false, false, false, false⟩
def sliceT (E : Env) (t : TypeId) : Bool :=
  match E.T t with
  | some { kind := .slice _, .. } => true
  | _ => false
def isRowV : AVal → Bool
  | .slice (.row _) _ => true
  | _ => false
def dropT (E : Env) (ops : List Oper) (o : Oper) : Option Tmp :=
  match o.guard with
  | some _ => none
  | none => (match o.op with
    | .move x => (match x with
      | .tmp t => if sliceT E o.type && xfer E ops o.dst then some t else none
      | _ => none)
    | .assign x => (match x with
      | .tmp t => if sliceT E o.type then some t else none
      | _ => none)
    | .store _ _ x => (match x with
      | .tmp t => some t
      | _ => none)
    | .call c => (match c.callee with
      | .builtin .append => (match (c.args[0]? : Option Operand) with
        | some (.tmp t) => some t
        | _ => none)
      | _ => none)
    | _ => none)
def leaveT (d : Option Tmp) (fr : AFrame) : AFrame :=
  match d with
  | some t => { fr with tmps := tset fr.tmps t (disown (tget fr.tmps t)) }
  | none => fr
def postD (E : Env) (ops : List Oper) (o : Oper) (fr : AFrame) (v : AVal) (L : List AObj) : AFrame := put { leaveT (dropT E ops o) fr with locs := L } o.dst v
def onlyL (L : List AObj) : AFrame := { tmps := [], locs := L, defers := [] }
def isPtr : AVal → Bool
  | .ptr .. => true
  | _ => false
def isLoc : AVal → Bool
  | .loc .. => true
  | _ => false
def drawOp (E : Env) (D : Ora) (F : FuncId) (ops : List Oper) (o : Oper) (fr : AFrame) (m : Mem) (k : AVal → List AObj → Mem → Option R) : Option R :=
  match o.op with
  | .move x | .assign x => match ev E fr x with
    | some v => if plainMove v then k v fr.locs m else (if (dropT E ops o).isSome && isRowV v then k v fr.locs m else none)
    | none => none
  | .pick c a b => asB (ev E fr c) fun t => toK ((ev E fr (if t then a else b)).map disown) fun v => k v fr.locs m
  | .build t parts => match E.T t, evParts E fr parts.toList with
    | some { kind := .struct fs, zero := z, .. }, some ps => toK ((fill (fun i => (fs[i]?).map fun f => (f.1, f.2.1)) z ps).map .agg) fun v => k v fr.locs m
    | some { kind := .array _ sz _, zero := z, .. }, some ps => toK ((fill (fun i => some (i * sz, sz)) z ps).map .agg) fun v => k v fr.locs m
    | _, _ => none
  | .buildSlice t len parts => match E.T t, evParts E fr parts.toList with
    | some { kind := .slice e, .. }, some ps => match E.T e with
      | some ei => if ei.size ≠ 0 && len ≠ 0 && len * ei.size ≤ 16777216 then
          toK ((fill (fun i => some (i * ei.size, ei.size)) (repl len ei.zero) (ps.map fun p => (p.1, plainAgg (plainCell p.2)))).map fun cs => .slice .full (chunks ei.size len cs)) fun v => k v fr.locs m
        else none
      | none => none
    | _, _ => none
  | .load t a => match ev E fr a with
    | some p => match p with
      | .imm cells => loadC E t cells fun v => k (disown v) fr.locs m
      | p => if isMem E F ops 8 a then (if isPtr p then (match loadV E (onlyL fr.locs) m t p with
          | some v => if xfer E ops o.dst && !noRow v then
              (match setCells (onlyL fr.locs) m p [disown v] with
               | some x => k v fr.locs x.2
               | none => k (disown v) fr.locs m)
            else k (disown v) fr.locs m
          | none => none) else none)
        else if isLoc p then (match loadV E (onlyL fr.locs) m t p with
          | some v => if noRow v then k v fr.locs m else none
          | none => none) else none
    | none => none
  | .store t a x => if o.guard.isSome then none else match ev E fr a, ev E fr x, E.T t with
    | some p, some v, some ti => if (cellsOf v).length = ti.size then
        (if (if isMem E F ops 8 a then isPtr p else isLoc p) then
          (match setCells (onlyL fr.locs) m p (promoL E (E.rowT t) (cellsOf v)) with
           | some x => k (.tup []) x.1.locs x.2
           | none => none)
         else none)
      else none
    | _, _, _ => none
  | .nilCheck x => match ev E fr x with
    | some v => if hasTarget v then k v fr.locs m else none
    | none => none
  | .binOp op t x y _ => match ev E fr x, ev E fr y with
    | some a, some b => binC E op t (isConst x) (isConst y) a b fun v => k v fr.locs m
    | _, _ => none
  | .unOp op _ x => match ev E fr x with
    | some a => toK (unV op a) fun v => k v fr.locs m
    | none => none
  | .convert src dst x => match ev E fr x with
    | some a => (match a, E.T src, E.T dst with
      | .str _, some _, some { kind := .slice _, .. } => none
      | _, _, _ => convC E src dst a fun v => k v fr.locs m)
    | none => none
  | .makeInterface t x => match ev E fr x, E.T t with
    | some v, some ti => (match ti.kind with
      | .iface => none
      | _ => if isData v then k (.iface t (plainAgg (plainCell v))) fr.locs m else none)
    | _, _ => none
  | .slice t x lo hi mx => if mx.isSome then none else match ev E fr x, E.T t with
    | some v, some ti => sliceC E ti.kind v (lo.map (ev E fr)) (hi.map (ev E fr)) fun v => k v fr.locs m
    | _, _ => none
  | .fieldAddr s x f => match structFields E s, ev E fr x with
    | some fs, some p => match fs[f]? with
      | some (off, size, _) => if size = 0 then none else toK (addrOff p off) fun v => k v fr.locs m
      | none => none
    | _, _ => none
  | .field s x f => match structFields E s, ev E fr x with
    | some fs, some (.agg cs) => match fs[f]? with
      | some (off, size, agg) => match sub cs off size with
        | some l => toK (ofCells agg l) fun v => k v fr.locs m
        | none => none
      | none => none
    | _, _ => none
  | .indexAddr t x i => asI (ev E fr i) fun _ i => match ev E fr x, E.T t with
    | some (.slice _ es), some { kind := .slice e, .. } => (match E.T e with
      | some ei => if ei.size = 0 then none else elemC ei.size es i fun v => k v fr.locs m
      | none => none)
    | some (.sref q off n), some { kind := .slice e, .. } => (match E.T e with
      | some ei => if 0 ≤ i ∧ i < n then k (.ptr q (off + i.toNat * ei.size)) fr.locs m else none
      | none => none)
    | some p, some { kind := .array n sz _, .. } => if 0 ≤ i ∧ i < n then toK (addrOff p (i.toNat * sz)) fun v => k v fr.locs m else none
    | _, _ => none
  | .index t x i => asI (ev E fr i) fun _ i => match ev E fr x with
    | some v => indexC E t v i fun v => k v fr.locs m
    | none => none
  | .extract t i => match ev E fr t with
    | some (.tup vs) => match vs[i]? with
      | some v => k (disown v) fr.locs m
      | none => none
    | _ => none
  | .call c => match c.callee with
    | .value x => match ev E fr x with
      | some (.fn f caps) => match argsD E f fr 0 c.args.toList with
        | some vs => drawCall E D f (vs ++ caps) fr.locs m k
        | none => none
      | _ => none
    | .builtin .len => match c.args[0]?, c.argTypes[0]? with
      | some x, some t => match ev E fr x, E.T t with
        | some v, some ti => toK ((lenV ti.kind v).map fun n => .int .i64 n) fun v => k v fr.locs m
        | _, _ => none
      | _, _ => none
    | .builtin .append => if o.guard.isSome then none else match c.args[0]?, c.args[1]?, c.argTypes[0]?, c.argTypes[1]? with
      | some s, some x, some t, some t' => if c.args.size = 2 && c.argTypes.size = 2 then match ev E fr s, ev E fr x with
          | some v, some u => appendC E t t' v u fun r => k r fr.locs m
          | _, _ => none
        else none
      | _, _, _, _ => none
    | .builtin .max => match evs E fr c.args.toList with
      | some [.int j a, .int _ b] => k (.int j (if b > a then b else a)) fr.locs m
      | _ => none
    | .builtin .min => match evs E fr c.args.toList with
      | some [.int j a, .int _ b] => k (.int j (if b < a then b else a)) fr.locs m
      | _ => none
    | _ => none
  | .alloc e => match E.T e, o.dst with
    | some ti, some d => if E.loc F d then (if okBld E e (promoL E (E.rowT e) ti.zero) then k (.loc fr.locs.length 0) (fr.locs ++ [.cells (promoL E (E.rowT e) ti.zero)]) m else none) else none
    | _, _ => none
  | .range t x => match ev E fr x, E.T t, o.dst with
    | some (.str s), some { kind := .str, .. }, some d => if E.loc F d then k (.loc fr.locs.length 0) (fr.locs ++ [.iter s 0]) m else none
    | _, _, _ => none
  | _ => none
def runDraw (E : Env) (D : Ora) (F : FuncId) (ops : List Oper) : List Oper → AFrame → Mem → (AFrame → Mem → Option R) → Option R
  | [], fr, m, K => K fr m
  | o :: rest, fr, m, K =>
    withGuard ops o fr (fun fr => drawOp E D F ops o fr m fun v L m => runDraw E D F ops rest (postD E ops o fr v L) m K)
      (fun fr => runDraw E D F ops rest (put fr o.dst (.tup [])) m K)
def maskOf (ms : List Nat) : List Edge → Nat
  | [] => 0
  | e :: r => if Region.binds .any e then (1 <<< e.on) ||| ms.getD e.on 0 ||| maskOf ms r else maskOf ms r
def masks : List Oper → List Nat → List Nat
  | [], ms => ms
  | o :: r, ms => masks r (ms ++ [maskOf ms o.after.toList])
def waitsM (ms : List Nat) (j i : Nat) : Bool := Nat.testBit (ms.getD j 0) i
def parted (x y : Eff) : Bool :=
  (!(x.rL || x.wL) || !(y.rL || y.wL) || (!x.wL && !y.wL)) && (!(x.rM || x.wM) || !(y.rM || y.wM) || (!x.wM && !y.wM))
def keepsT (ops : Array Oper) (d : Option Tmp) (o : Oper) : Bool :=
  match d with
  | some t => !(o.looksAt ops).contains t && o.dst != some t
  | none => true
def commute (E : Env) (F : FuncId) (ops : Array Oper) (x y : Oper) : Bool :=
  x.apart ops y && keepsT ops (dropT E ops.toList x) y && keepsT ops (dropT E ops.toList y) x && parted (eff E F ops.toList x) (eff E F ops.toList y)
def freeA (E : Env) (F : FuncId) (ops : Array Oper) (ms : List Nat) (i j : Nat) (oi : Oper) : Bool :=
  match ops[j]? with
  | none => true
  | some oj => waitsM ms j i || commute E F ops oi oj
def lexM (E : Env) (F : FuncId) (ops : Array Oper) (ms : List Nat) : Bool :=
  (List.range ops.size).all fun i => match ops[i]? with
    | none => false
    | some oi => oi.after.all (fun e => !Region.binds .any e || e.on < i) && (List.range ops.size).all fun j => j ≤ i || freeA E F ops ms i j oi
def lexA (E : Env) (F : FuncId) (ops : Array Oper) : Bool := lexM E F ops (masks ops.toList [])
def exec (E : Env) (D : Ora) (F : FuncId) : Code → AFrame → Mem → (AExit → AFrame → Mem → Option R) → Option R
  | .skip, fr, m, K => K .normal fr m
  | .region _ ops draw, fr, m, K =>
    if draw && !(ops.toList.all fun o => calm E o.op) then (if lexA E F ops then runDraw E D F ops.toList ops.toList fr m (K .normal) else none) else
    runOps E D F ops.toList ops.toList fr m (K .normal) (fun v => K (.pan v))
  | .seq a b, fr, m, K => exec E D F a fr m fun ex fr m => match ex with
    | .normal => exec E D F b fr m K
    | ex => K ex fr m
  | .cond c a b, fr, m, K => match ev E fr c with
    | some (.bool t) => (match t with
      | true => exec E D F a fr m K
      | false => exec E D F b fr m K)
    | _ => none
  | .block id body, fr, m, K => exec E D F body fr m fun ex fr m => match ex with
    | .exit i => if i = id then K .normal fr m else K (.exit i) fr m
    | ex => K ex fr m
  | .loop body, fr, m, K => (D.loop F body (norm E F (keyOf body) fr) m).run fun x => K x.1 x.2.1 x.2.2
  | .exit id, fr, m, K => K (.exit id) fr m
  | .ret, fr, m, K => K .ret fr m
  | _, _, _, _ => none
def resultOf (E : Env) (fr : AFrame) (m : Mem) : ResultVar → Option AVal
  | .tmp t => match tget fr.tmps t with
    | .any | .loc .. | .tup _ => none
    | v => some v
  | .cell a t => match tget fr.tmps a with
    | .any => none
    | p => (loadV E fr m t p).map disown
def resultsOf (E : Env) (wk : Nat → WK) (fr : AFrame) (m : Mem) : Nat → List ResultVar → Option (List AVal)
  | _, [] => some []
  | i, x :: r => match resultOf E fr m x, resultsOf E wk fr m (i + 1) r with
    | some v, some l => some (weakV (wk i) v :: l)
    | _, _ => none
def packResults : List AVal → AVal
  | [v] => plainAgg v
  | vs => .tup (vs.map fun v => plainAgg (disown v))
def cutMem (base : Nat) (v : AVal) (m : Mem) : Mem := if within base v then m.take base else m
def leaving (E : Env) (wk : Nat → WK) (fn : Func) (base : Nat) (fr : AFrame) : List (FuncId × List AVal) → Option AVal → Mem → Option (Out × Mem)
  | [], none, m => match resultsOf E wk fr m 0 fn.results.toList with
    | some vs => some (.ret (packResults vs), cutMem base (packResults vs) m)
    | none => none
  | [], some v, m => some (.pan v, cutMem base v m)
  | (f, args) :: ds, u, m => match E.fn f, E.dfr f with
    | some _, some g => match g args u m with
      | some (u', m') => leaving E wk fn base fr ds u' m'
      | none => none
    | _, _ => none
def undefs : Nat → List AVal
  | 0 => []
  | n + 1 => .tup [] :: undefs n
def execFunc (E : Env) (D : Ora) (F : FuncId) (args : List AVal) (m : Mem) : Option (Out × Mem) :=
  match E.fn F with
  | none => none
  | some fn => match fn.body with
    | none => none
    | some c => exec E D F c { tmps := args ++ undefs (fn.ntmps - args.length), locs := [], defers := [] } m fun ex fr m' =>
      match ex with
      | .normal | .ret => leaving E (E.res F) fn m.length fr fr.defers none m'
      | .pan v => leaving E (E.res F) fn m.length fr fr.defers (some v) m'
      | .exit _ => none
end
def subLoops : Code → List Code
  | .seq a b => subLoops a ++ subLoops b
  | .cond _ a b => subLoops a ++ subLoops b
  | .block _ b => subLoops b
  | .loop b => b :: subLoops b
  | _ => []
abbrev CNats := FuncId → Option (List AVal → Mem → CT (Out × Mem))
abbrev LNats := FuncId → Option Nat → Option (AFrame → Mem → CT (AExit × AFrame × Mem))
def noLoops : LNats := fun _ _ => none
def noCalls : CNats := fun _ => none
def ora (N : CNats) (L : LNats) : Ora :=
  { call := fun f args m => match N f with
      | some g => g args m
      | none => .fail
    loop := fun F body fr m => match L F (keyOf body) with
      | some g => g fr m
      | none => .fail }
def loopK (E : Env) (F : FuncId) (k : Option Nat) (C : AFrame → Mem → Option (AExit × AFrame × Mem)) : AExit → AFrame → Mem → Option (AExit × AFrame × Mem) := fun ex fr m =>
  match ex with
  | .normal => C (norm E F k fr) m
  | ex => some (ex, norm E F k fr, m)
def denN (E : Env) (N : CNats) : Nat → Ora
  | 0 => { call := fun _ _ _ => .fail, loop := fun _ _ _ _ => .fail }
  | n + 1 => {
      call := fun f args m => match N f with
        | some g => g args m
        | none => .raw (execFunc E (denN E N n) f args m)
      loop := fun F body fr m => .raw (exec E (denN E N n) F body fr m (loopK E F (keyOf body) fun fr m => ((denN E N n).loop F body fr m).eval)) }
def loopAt (fn : Func) (n : Nat) : Code :=
  match fn.body with
  | some c => match (subLoops c)[n]? with
    | some b => b
    | none => .skip
  | none => .skip
end Go.Abs
namespace Go.Abs
def CellsAt (w : World) (fx : Nat → Nat) (b off : Nat) (Vs : List Value) : Prop :=
  ∀ j V, Vs[j]? = some V → w.cell? ⟨b, off + j, none⟩ = some V ∧ off + j < fx b
mutual
def Rep (w : World) (fx : Nat → Nat) : AVal → Value → Prop
  | .bool b, V => V = .bool b
  | .int k n, V => V = .int k n
  | .str s, V => V = .string ⟨s.toArray⟩
  | .nilptr, V => V = .pointer none
  | .imm cells, V => ∃ b off Vs, V = .pointer (some ⟨b, off, none⟩) ∧ RepL w fx cells Vs ∧ CellsAt w fx b off Vs
  | .slice own elems, V => ∃ A n c Vs, V = .slice A n c ∧ n = elems.length ∧ n ≤ c ∧ RepLL w fx elems Vs ∧ (∃ sz, ∀ e ∈ elems, e.length = sz) ∧
      (match own with | .no => True | .full => c = n ∧ (A = none → c = 0) | .nil => A = none ∧ c = 0 | .row _ => False) ∧
      (Vs ≠ [] → ∃ b off, A = some ⟨b, off, none⟩ ∧ CellsAt w fx b off Vs)
  | .fn f caps, V => caps = [] ∧ V = .func (.func f) #[] #[]
  | .nilfunc, V => V = .nilFunc
  | .iface t v, V => ∃ V', V = .iface t V' ∧ Rep w fx v V'
  | .nilIface, V => V = .nilIface
  | .nilmap, V => V = .map none
  | .agg cells, V => ∃ Vs, V = .agg Vs.toArray ∧ RepL w fx cells Vs
  | .ptr _ _, _ => False
  | .loc _ _, _ => False
  | .tup _, _ => False
  | .err b, V => (b = true ∧ V = .nilIface) ∨ (b = false ∧ ∃ t v, V = .iface t v)
  | .mapp _, _ => False
  | .sref _ _ _, _ => False
  | .any, _ => False
def RepL (w : World) (fx : Nat → Nat) : List AVal → List Value → Prop
  | [], Vs => Vs = []
  | v :: r, Vs => ∃ V Vr, Vs = V :: Vr ∧ Rep w fx v V ∧ V.oneCell' = true ∧ RepL w fx r Vr
def RepLL (w : World) (fx : Nat → Nat) : List (List AVal) → List Value → Prop
  | [], Vs => Vs = []
  | e :: r, Vs => ∃ V1 V2, Vs = V1 ++ V2 ∧ RepL w fx e V1 ∧ RepLL w fx r V2
end
structure Ext (w : World) (fx : Nat → Nat) (w' : World) (fx' : Nat → Nat) : Prop where
  le : ∀ b, fx b ≤ fx' b
  cell : ∀ b off, off < fx b → w'.cell? ⟨b, off, none⟩ = w.cell? ⟨b, off, none⟩
  none : ∀ b off, 0 < fx b → w.cell? ⟨b, off, Option.none⟩ = Option.none → w'.cell? ⟨b, off, Option.none⟩ = Option.none
theorem Ext.refl (w : World) (fx : Nat → Nat) : Ext w fx w fx := ⟨fun _ => Nat.le_refl _, fun _ _ _ => rfl, fun _ _ _ h => h⟩
theorem Ext.trans {w w' w'' : World} {fx fx' fx'' : Nat → Nat} (h : Ext w fx w' fx') (h' : Ext w' fx' w'' fx'') : Ext w fx w'' fx'' :=
  ⟨fun b => Nat.le_trans (h.le b) (h'.le b), fun b off ho => (h'.cell b off (Nat.lt_of_lt_of_le ho (h.le b))).trans (h.cell b off ho), fun b off h0 hn => h'.none b off (Nat.lt_of_lt_of_le h0 (h.le b)) (h.none b off h0 hn)⟩
theorem CellsAt.ext {w w' : World} {fx fx' : Nat → Nat} (h : Ext w fx w' fx') {b off : Nat} {Vs : List Value} (hc : CellsAt w fx b off Vs) : CellsAt w' fx' b off Vs :=
  fun j V hj => by
    obtain ⟨h1, h2⟩ := hc j V hj
    exact ⟨(h.cell b _ h2).trans h1, Nat.lt_of_lt_of_le h2 (h.le b)⟩
set_option linter.unusedSectionVars false
section
variable {w w' : World} {fx fx' : Nat → Nat} (hx : Ext w fx w' fx')
include hx
mutual
theorem Rep.ext : ∀ (v : AVal) (V : Value), Rep w fx v V → Rep w' fx' v V
  | .bool _, _, h => h
  | .int _ _, _, h => h
  | .str _, _, h => h
  | .nilptr, _, h => h
  | .imm cells, V, h => by
    obtain ⟨b, off, Vs, e, hr, hc⟩ := h
    exact ⟨b, off, Vs, e, RepL.ext cells Vs hr, hc.ext hx⟩
  | .slice own elems, V, h => by
    obtain ⟨A, n, c, Vs, e, hn, hnc, hr, hs, ho, hc⟩ := h
    refine ⟨A, n, c, Vs, e, hn, hnc, RepLL.ext elems Vs hr, hs, ho, fun hne => ?_⟩
    obtain ⟨b, off, ha, hat⟩ := hc hne
    exact ⟨b, off, ha, hat.ext hx⟩
  | .fn _ _, _, h => h
  | .nilfunc, _, h => h
  | .iface t v, V, h => by
    obtain ⟨V', e, hr⟩ := h
    exact ⟨V', e, Rep.ext v V' hr⟩
  | .nilIface, _, h => h
  | .nilmap, _, h => h
  | .agg cells, V, h => by
    obtain ⟨Vs, e, hr⟩ := h
    exact ⟨Vs, e, RepL.ext cells Vs hr⟩
  | .ptr _ _, _, h => h
  | .loc _ _, _, h => h
  | .tup _, _, h => h
  | .err _, _, h => h
  | .mapp _, _, h => h
  | .sref _ _ _, _, h => h
  | .any, _, h => h
theorem RepL.ext : ∀ (l : List AVal) (Vs : List Value), RepL w fx l Vs → RepL w' fx' l Vs
  | [], _, h => h
  | v :: r, Vs, h => by
    obtain ⟨V, Vr, e, h1, h2, h3⟩ := h
    exact ⟨V, Vr, e, Rep.ext v V h1, h2, RepL.ext r Vr h3⟩
theorem RepLL.ext : ∀ (l : List (List AVal)) (Vs : List Value), RepLL w fx l Vs → RepLL w' fx' l Vs
  | [], _, h => h
  | e :: r, Vs, h => by
    obtain ⟨V1, V2, e', h1, h2⟩ := h
    exact ⟨V1, V2, e', RepL.ext e V1 h1, RepLL.ext r V2 h2⟩
end
end
theorem RepL.length {w : World} {fx : Nat → Nat} : ∀ {l : List AVal} {Vs : List Value}, RepL w fx l Vs → Vs.length = l.length
  | [], _, h => by rw [show _ = [] from h]; rfl
  | _ :: r, Vs, h => by
    obtain ⟨V, Vr, rfl, _, _, h3⟩ := h
    simp [RepL.length (l := r) h3]
theorem RepL.get {w : World} {fx : Nat → Nat} : ∀ {l : List AVal} {Vs : List Value} {i : Nat} {v : AVal}, RepL w fx l Vs → l[i]? = some v →
    ∃ V, Vs[i]? = some V ∧ Rep w fx v V ∧ V.oneCell' = true
  | [], _, _, _, _, hi => by simp at hi
  | x :: r, Vs, i, v, h, hi => by
    obtain ⟨V, Vr, rfl, h1, h2, h3⟩ := h
    cases i with
    | zero => simp at hi; subst hi; exact ⟨V, rfl, h1, h2⟩
    | succ i => simp at hi ⊢; exact RepL.get (l := r) h3 hi
theorem RepL.append {w : World} {fx : Nat → Nat} : ∀ {l l' : List AVal} {Vs Vs' : List Value}, RepL w fx l Vs → RepL w fx l' Vs' → RepL w fx (l ++ l') (Vs ++ Vs')
  | [], _, _, _, h, h' => by rw [show _ = [] from h]; exact h'
  | _ :: r, _, _, _, h, h' => by
    obtain ⟨V, Vr, rfl, h1, h2, h3⟩ := h
    exact ⟨V, _, rfl, h1, h2, RepL.append (l := r) h3 h'⟩
theorem RepL.split {w : World} {fx : Nat → Nat} : ∀ {l l' : List AVal} {Vs : List Value}, RepL w fx (l ++ l') Vs → ∃ V1 V2, Vs = V1 ++ V2 ∧ RepL w fx l V1 ∧ RepL w fx l' V2
  | [], _, Vs, h => ⟨[], Vs, rfl, rfl, h⟩
  | _ :: r, _, Vs, h => by
    obtain ⟨V, Vr, rfl, h1, h2, h3⟩ := h
    obtain ⟨V1, V2, rfl, ha, hb⟩ := RepL.split (l := r) h3
    exact ⟨V :: V1, V2, rfl, ⟨V, V1, rfl, h1, h2, ha⟩, hb⟩
theorem RepL.cells {w : World} {fx : Nat → Nat} : ∀ {l : List AVal} {Vs : List Value}, RepL w fx l Vs → ∀ u ∈ Vs, u.oneCell' = true
  | [], _, h, u, hu => by rw [show _ = [] from h] at hu; cases hu
  | _ :: r, Vs, h, u, hu => by
    obtain ⟨V, Vr, rfl, h1, h2, h3⟩ := h
    cases hu with
    | head => exact h2
    | tail _ hm => exact RepL.cells (l := r) h3 u hm
theorem RepLL.append {w : World} {fx : Nat → Nat} : ∀ {l l' : List (List AVal)} {Vs Vs' : List Value}, RepLL w fx l Vs → RepLL w fx l' Vs' → RepLL w fx (l ++ l') (Vs ++ Vs')
  | [], _, _, _, h, h' => by rw [show _ = [] from h]; exact h'
  | _ :: r, _, _, _, h, h' => by
    obtain ⟨V1, V2, rfl, h1, h2⟩ := h
    exact ⟨V1, _, by simp, h1, RepLL.append (l := r) h2 h'⟩
theorem RepLL.split {w : World} {fx : Nat → Nat} : ∀ {l l' : List (List AVal)} {Vs : List Value}, RepLL w fx (l ++ l') Vs → ∃ V1 V2, Vs = V1 ++ V2 ∧ RepLL w fx l V1 ∧ RepLL w fx l' V2
  | [], _, Vs, h => ⟨[], Vs, rfl, rfl, h⟩
  | e :: r, _, Vs, h => by
    obtain ⟨V1, V2, rfl, h1, h2⟩ := h
    obtain ⟨V3, V4, rfl, ha, hb⟩ := RepLL.split (l := r) h2
    exact ⟨V1 ++ V3, V4, by simp, ⟨V1, V3, rfl, h1, ha⟩, hb⟩
theorem RepLL.cells {w : World} {fx : Nat → Nat} : ∀ {l : List (List AVal)} {Vs : List Value}, RepLL w fx l Vs → ∀ u ∈ Vs, u.oneCell' = true
  | [], _, h, u, hu => by rw [show _ = [] from h] at hu; cases hu
  | _ :: r, Vs, h, u, hu => by
    obtain ⟨V1, V2, rfl, h1, h2⟩ := h
    rcases List.mem_append.1 hu with hu | hu
    · exact RepL.cells h1 u hu
    · exact RepLL.cells (l := r) h2 u hu
theorem RepLL.length {w : World} {fx : Nat → Nat} {sz : Nat} : ∀ {l : List (List AVal)} {Vs : List Value}, RepLL w fx l Vs → (∀ e ∈ l, e.length = sz) → Vs.length = l.length * sz
  | [], _, h, _ => by rw [show _ = [] from h]; simp
  | e :: r, Vs, h, hs => by
    obtain ⟨V1, V2, rfl, h1, h2⟩ := h
    rw [List.length_append, RepL.length h1, RepLL.length (l := r) h2 fun e he => hs e (List.mem_cons_of_mem _ he), hs e (List.mem_cons_self ..), List.length_cons, Nat.add_mul]
    omega
theorem RepLL.get {w : World} {fx : Nat → Nat} {sz : Nat} : ∀ {l : List (List AVal)} {Vs : List Value} {i : Nat} {e : List AVal}, RepLL w fx l Vs → (∀ e ∈ l, e.length = sz) → l[i]? = some e →
    ∃ V0 V1 V2, Vs = V0 ++ V1 ++ V2 ∧ V0.length = i * sz ∧ RepL w fx e V1
  | [], _, _, _, _, _, hi => by simp at hi
  | x :: r, Vs, i, e, h, hs, hi => by
    obtain ⟨V1, V2, rfl, h1, h2⟩ := h
    cases i with
    | zero => simp at hi; subst hi; exact ⟨[], V1, V2, by simp, by simp, h1⟩
    | succ i =>
      simp at hi
      obtain ⟨U0, U1, U2, rfl, hl, hr⟩ := RepLL.get (l := r) h2 (fun e he => hs e (List.mem_cons_of_mem _ he)) hi
      refine ⟨V1 ++ U0, U1, U2, by simp, ?_, hr⟩
      rw [List.length_append, RepL.length h1, hl, hs x (List.mem_cons_self ..), Nat.add_mul]
      omega
theorem Rep.plainCell {w : World} {fx : Nat → Nat} : ∀ {v : AVal} {V : Value}, Rep w fx v V → Rep w fx (plainCell v) V
  | .slice own elems, V, h => by
    obtain ⟨A, n, c, Vs, e, hn, hnc, hr, hs, ho, hc⟩ := h
    exact ⟨A, n, c, Vs, e, hn, hnc, hr, hs, trivial, hc⟩
  | .bool _, _, h | .int _ _, _, h | .str _, _, h | .nilptr, _, h | .imm _, _, h | .fn _ _, _, h | .nilfunc, _, h | .iface _ _, _, h | .nilIface, _, h | .nilmap, _, h | .agg _, _, h | .ptr _ _, _, h | .loc _ _, _, h | .tup _, _, h | .err _, _, h | .mapp _, _, h | .sref _ _ _, _, h | .any, _, h => h
theorem Rep.keepNil {w : World} {fx : Nat → Nat} {v : AVal} {V : Value} (h : Rep w fx v V) : Rep w fx (keepNil v) V := by
  cases v with
  | slice own elems => cases own <;> first | exact h | exact Rep.plainCell h
  | _ => exact h
theorem RepL.keepNils {w : World} {fx : Nat → Nat} : ∀ {l : List AVal} {Vs : List Value}, RepL w fx l Vs → RepL w fx (l.map Abs.keepNil) Vs
  | [], _, h => h
  | _ :: r, _, h => by
    obtain ⟨V, Vr, rfl, h1, h2, h3⟩ := h
    exact ⟨V, Vr, rfl, h1.keepNil, h2, RepL.keepNils (l := r) h3⟩
theorem Rep.plainAgg {w : World} {fx : Nat → Nat} : ∀ {v : AVal} {V : Value}, Rep w fx v V → Rep w fx (plainAgg v) V
  | .agg cs, V, h => by
    obtain ⟨Vs, e, hr⟩ := h
    exact ⟨Vs, e, hr.keepNils⟩
  | .bool _, _, h | .int _ _, _, h | .str _, _, h | .nilptr, _, h | .imm _, _, h | .fn _ _, _, h | .nilfunc, _, h | .iface _ _, _, h | .nilIface, _, h | .nilmap, _, h | .slice _ _, _, h | .ptr _ _, _, h | .loc _ _, _, h | .tup _, _, h | .err _, _, h | .mapp _, _, h | .sref _ _ _, _, h | .any, _, h => h
theorem Rep.disown {w : World} {fx : Nat → Nat} : ∀ {v : AVal} {V : Value}, Rep w fx v V → Rep w fx (disown v) V
  | .slice (.row _) elems, V, h => by
    obtain ⟨A, n, c, Vs, e, hn, hnc, hr, hs, ho, hc⟩ := h
    exact ho.elim
  | .slice .no _, _, h | .slice .full _, _, h | .slice .nil _, _, h => h
  | .bool _, _, h | .int _ _, _, h | .str _, _, h | .nilptr, _, h | .imm _, _, h | .fn _ _, _, h | .nilfunc, _, h | .iface _ _, _, h | .nilIface, _, h | .nilmap, _, h | .agg _, _, h | .ptr _ _, _, h | .loc _ _, _, h | .tup _, _, h | .err _, _, h | .mapp _, _, h | .sref _ _ _, _, h | .any, _, h => h
theorem RepL.disowns {w : World} {fx : Nat → Nat} : ∀ {l : List AVal} {Vs : List Value}, RepL w fx l Vs → RepL w fx (l.map Abs.disown) Vs
  | [], _, h => h
  | _ :: r, _, h => by
    obtain ⟨V, Vr, rfl, h1, h2, h3⟩ := h
    exact ⟨V, Vr, rfl, h1.disown, h2, RepL.disowns (l := r) h3⟩
def RepC (w : World) (fx : Nat → Nat) (rho : List Nat) : AVal → Value → Prop
  | .ptr o off, V => ∃ b, rho[o]? = some b ∧ V = .pointer (some ⟨b, off, none⟩)
  | v, V => Rep w fx v V
def RepCL (w : World) (fx : Nat → Nat) (rho : List Nat) : List AVal → List Value → Prop
  | [], Vs => Vs = []
  | v :: r, Vs => ∃ V Vr, Vs = V :: Vr ∧ RepC w fx rho v V ∧ RepCL w fx rho r Vr
def RepO (w : World) (fx : Nat → Nat) (rho : List Nat) : AVal → Value → Prop
  | .ptr o off, V => ∃ b, rho[o]? = some b ∧ V = .pointer (some ⟨b, off, none⟩)
  | .mapp o, V => ∃ b, rho[o]? = some b ∧ V = .map (some b)
  | .sref o off n, V => ∃ b c, rho[o]? = some b ∧ ∃ A, V = .slice A n c ∧ n ≤ c ∧ (n ≠ 0 → A = some ⟨b, off, none⟩)
  | .fn f caps, V => ∃ Vs, V = .func (.func f) #[] Vs.toArray ∧ RepCL w fx rho caps Vs
  | .slice (.row _) es, V => Rep w fx (.slice .no es) V
  | v, V => Rep w fx v V
def RepOL (w : World) (fx : Nat → Nat) (rho : List Nat) : List AVal → List Value → Prop
  | [], Vs => Vs = []
  | v :: r, Vs => ∃ V Vr, Vs = V :: Vr ∧ RepO w fx rho v V ∧ RepOL w fx rho r Vr
def RepT (w : World) (fx : Nat → Nat) (rho lam : List Nat) : AVal → Value → Prop
  | .any, _ => True
  | .loc o off, V => ∃ b, lam[o]? = some b ∧ V = .pointer (some ⟨b, off, none⟩)
  | .tup vs, V => ∃ Vs, V = .tuple Vs.toArray ∧ RepOL w fx rho (vs.map disown) Vs
  | v, V => RepO w fx rho v V
theorem prefix_get {l l' : List Nat} (h : l <+: l') {i b : Nat} (hi : l[i]? = some b) : l'[i]? = some b := by
  obtain ⟨t, rfl⟩ := h
  have : i < l.length := by
    rcases Nat.lt_or_ge i l.length with h | h
    · exact h
    · simp [List.getElem?_eq_none h] at hi
  rw [List.getElem?_append_left this]; exact hi
section
variable {w w' : World} {fx fx' : Nat → Nat} (hx : Ext w fx w' fx') {rho rho' : List Nat} (hp : rho <+: rho')
include hx hp
theorem RepC.ext {v : AVal} {V : Value} (h : RepC w fx rho v V) : RepC w' fx' rho' v V := by
  cases v with
  | ptr o off => obtain ⟨b, h1, h2⟩ := h; exact ⟨b, prefix_get hp h1, h2⟩
  | _ => exact Rep.ext hx _ _ h
theorem RepCL.ext : ∀ {l : List AVal} {Vs : List Value}, RepCL w fx rho l Vs → RepCL w' fx' rho' l Vs
  | [], _, h => h
  | _ :: r, _, h => by
    obtain ⟨V, Vr, e, h1, h2⟩ := h
    exact ⟨V, Vr, e, RepC.ext hx hp h1, RepCL.ext (l := r) h2⟩
theorem RepO.ext {v : AVal} {V : Value} (h : RepO w fx rho v V) : RepO w' fx' rho' v V := by
  cases v with
  | ptr o off => obtain ⟨b, h1, h2⟩ := h; exact ⟨b, prefix_get hp h1, h2⟩
  | mapp o => obtain ⟨b, h1, h2⟩ := h; exact ⟨b, prefix_get hp h1, h2⟩
  | sref o off n => obtain ⟨b, c, h1, h2⟩ := h; exact ⟨b, c, prefix_get hp h1, h2⟩
  | fn f caps => obtain ⟨Vs, h1, h2⟩ := h; exact ⟨Vs, h1, RepCL.ext hx hp h2⟩
  | slice own es => cases own <;> exact Rep.ext hx _ _ h
  | _ => exact Rep.ext hx _ _ h
theorem RepOL.ext : ∀ {l : List AVal} {Vs : List Value}, RepOL w fx rho l Vs → RepOL w' fx' rho' l Vs
  | [], _, h => h
  | _ :: r, _, h => by
    obtain ⟨V, Vr, e, h1, h2⟩ := h
    exact ⟨V, Vr, e, RepO.ext hx hp h1, RepOL.ext (l := r) h2⟩
theorem RepT.ext {lam lam' : List Nat} (hl : lam <+: lam') {v : AVal} {V : Value} (h : RepT w fx rho lam v V) : RepT w' fx' rho' lam' v V := by
  cases v with
  | any => trivial
  | loc o off => obtain ⟨b, h1, h2⟩ := h; exact ⟨b, prefix_get hl h1, h2⟩
  | tup vs => obtain ⟨Vs, h1, h2⟩ := h; exact ⟨Vs, h1, RepOL.ext hx hp h2⟩
  | ptr o off => exact RepO.ext (v := .ptr o off) hx hp h
  | mapp o => exact RepO.ext (v := .mapp o) hx hp h
  | sref o off n => exact RepO.ext (v := .sref o off n) hx hp h
  | fn f caps => exact RepO.ext (v := .fn f caps) hx hp h
  | slice own es => exact RepO.ext (v := .slice own es) hx hp h
  | _ => exact Rep.ext hx _ _ h
end
end Go.Abs
namespace Go.Abs
set_option linter.unusedSectionVars false
theorem tget_eq : ∀ (l : List AVal) (i : Nat), tget l i = l.getD i .any
  | [], _ => by simp [tget]
  | _ :: _, 0 => rfl
  | _ :: r, i + 1 => by rw [tget, tget_eq r i]; simp
theorem tset_eq : ∀ (l : List AVal) (i : Nat) (v : AVal), tset l i v = l.set i v
  | [], _, _ => rfl
  | _ :: _, 0, _ => rfl
  | x :: r, i + 1, v => by rw [tset, tset_eq r i v]; rfl
theorem oget_eq : ∀ (l : List AObj) (i : Nat), oget l i = l[i]?
  | [], _ => by simp [oget]
  | _ :: _, 0 => rfl
  | _ :: r, i + 1 => by rw [oget, oget_eq r i]; simp
theorem oset_eq : ∀ (l : List AObj) (i : Nat) (v : AObj), oset l i v = l.set i v
  | [], _, _ => rfl
  | _ :: _, 0, _ => rfl
  | x :: r, i + 1, v => by rw [oset, oset_eq r i v]; rfl
def ownB : AVal → Value → Nat → Nat
  | .slice (.row _) _, .slice (some a) _ _, b => if a.block = b then 1 else 0
  | _, _, _ => 0
def ownSum : List AVal → List Value → Nat → Nat
  | v :: r, V :: Vr, b => ownB v V b + ownSum r Vr b
  | _, _, _ => 0
def blockVals (w : World) (g : Nat) : List Value :=
  match w.heap[g]? with
  | some (.cells arr _ _) => arr.toList
  | _ => []
def ownObj (w : World) : AObj → Nat → Nat → Nat
  | .cells l, g, b => ownSum l (blockVals w g) b
  | .iter _ _, _, _ => 0
  | .map _ _, _, _ => 0
def ownObjs (w : World) : List AObj → List Nat → Nat → Nat
  | o :: r, g :: gr, b => ownObj w o g b + ownObjs w r gr b
  | _, _, _ => 0
theorem ownB_disown (v : AVal) (V : Value) (b : Nat) : ownB (disown v) V b = 0 := by
  cases v <;> try rfl
  rename_i own es; cases own <;> rfl
theorem ownSum_set : ∀ (l : List AVal) (Vs : List Value) (i : Nat) (v v0 : AVal) (V V0 : Value) (b : Nat), l[i]? = some v0 → Vs[i]? = some V0 →
    ownSum (l.set i v) (Vs.set i V) b + ownB v0 V0 b = ownSum l Vs b + ownB v V b
  | [], _, _, _, _, _, _, _, h, _ => by simp at h
  | _ :: _, [], _, _, _, _, _, _, _, h => by simp at h
  | x :: r, X :: Xr, 0, v, v0, V, V0, b, h, h' => by
    simp at h h'; subst h; subst h'
    simp [ownSum]; omega
  | x :: r, X :: Xr, i + 1, v, v0, V, V0, b, h, h' => by
    simp at h h'
    have := ownSum_set r Xr i v v0 V V0 b h h'
    simp [ownSum]; omega
theorem ownSum_append : ∀ (l l' : List AVal) (Vs Vs' : List Value) (b : Nat), l.length = Vs.length → ownSum (l ++ l') (Vs ++ Vs') b = ownSum l Vs b + ownSum l' Vs' b
  | [], _, [], _, _, _ => by simp [ownSum]
  | [], _, _ :: _, _, _, h => by simp at h
  | _ :: _, _, [], _, _, h => by simp at h
  | x :: r, l', X :: Xr, Vs', b, h => by
    simp [ownSum, ownSum_append r l' Xr Vs' b (by simpa using h)]; omega
theorem ownSum_le_of_get : ∀ (l : List AVal) (Vs : List Value) (i : Nat) (v : AVal) (V : Value) (b : Nat), l[i]? = some v → Vs[i]? = some V → ownB v V b ≤ ownSum l Vs b
  | [], _, _, _, _, _, h, _ => by simp at h
  | _ :: _, [], _, _, _, _, _, h => by simp at h
  | x :: r, X :: Xr, 0, v, V, b, h, h' => by
    simp at h h'; subst h; subst h'
    simp [ownSum]
  | x :: r, X :: Xr, i + 1, v, V, b, h, h' => by
    simp at h h'
    have := ownSum_le_of_get r Xr i v V b h h'
    simp [ownSum]; omega
theorem ownObjs_append (w : World) : ∀ (l l' : List AObj) (gs gs' : List Nat) (b : Nat), l.length = gs.length → ownObjs w (l ++ l') (gs ++ gs') b = ownObjs w l gs b + ownObjs w l' gs' b
  | [], _, [], _, _, _ => by simp [ownObjs]
  | [], _, _ :: _, _, _, h => by simp at h
  | _ :: _, _, [], _, _, h => by simp at h
  | x :: r, l', X :: Xr, Vs', b, h => by
    simp [ownObjs, ownObjs_append w r l' Xr Vs' b (by simpa using h)]; omega
theorem ownObjs_world {w w' : World} : ∀ (l : List AObj) (gs : List Nat) (b : Nat), (∀ g ∈ gs, w'.heap[g]? = w.heap[g]?) → ownObjs w' l gs b = ownObjs w l gs b
  | [], _, _, _ => rfl
  | _ :: _, [], _, _ => rfl
  | x :: r, g :: gr, b, h => by
    have hg : ownObj w' x g b = ownObj w x g b := by
      cases x with
      | cells l => simp [ownObj, blockVals, h g (List.mem_cons_self ..)]
      | iter _ _ => rfl
      | map _ _ => rfl
    simp [ownObjs, hg, ownObjs_world r gr b fun g' hg' => h g' (List.mem_cons_of_mem _ hg')]
def OwnOk (E : Env) (B : Nat) (w : World) (fx : Nat → Nat) (v : AVal) (V : Value) : Prop :=
  match v with
  | .slice (.row e) es => ∃ ei Vs, E.T e = some ei ∧ 0 < ei.size ∧ (∀ c ∈ es, c.length = ei.size) ∧ RepLL w fx es Vs ∧
      w.ownsRow B e ei.size V es.length Vs ∧ (∀ g, V.ownBlock = some g → fx g = es.length * ei.size)
  | _ => True
theorem OwnOk.of_disown {E : Env} {B : Nat} {w : World} {fx : Nat → Nat} (v : AVal) (V : Value) : OwnOk E B w fx (disown v) V := by
  cases v <;> try trivial
  rename_i own es; cases own <;> trivial
theorem ownB_block {v : AVal} {V : Value} {b : Nat} (h : 0 < ownB v V b) : V.ownBlock = some b := by
  unfold ownB at h
  split at h
  · split at h
    · simpa [Value.ownBlock]
    · omega
  · omega
theorem ownB_of_block {e : TypeId} {es : List (List AVal)} {V : Value} {g : Nat} (h : V.ownBlock = some g) : ownB (.slice (.row e) es) V g = 1 := by
  cases V <;> simp [Value.ownBlock] at h
  rename_i a _ _
  cases a <;> simp at h
  simp [ownB, h]
theorem OwnOk.ext {E : Env} {B : Nat} {w w' : World} {fx fx' : Nat → Nat} {v : AVal} {V : Value} (h : OwnOk E B w fx v V) (hx : Ext w fx w' fx')
    (hsame : ∀ g, 0 < ownB v V g → w'.heap[g]? = w.heap[g]? ∧ fx' g = fx g) : OwnOk E B w' fx' v V := by
  cases v <;> try trivial
  rename_i own es
  cases own <;> try trivial
  obtain ⟨ei, Vs, h1, h2, h3, h4, h5, h6⟩ := h
  refine ⟨ei, Vs, h1, h2, h3, RepLL.ext hx _ _ h4, ?_, fun g hg => ?_⟩
  · obtain ⟨hl, hr⟩ := h5
    refine ⟨hl, ?_⟩
    rcases hr with hr | ⟨g, cap, cur, hv, hb, hh, hr⟩
    · exact .inl hr
    · refine .inr ⟨g, cap, cur, hv, hb, ?_, hr⟩
      rw [(hsame g (by rw [ownB_of_block (by rw [hv]; rfl)]; omega)).1]
      exact hh
  · rw [(hsame g (by rw [ownB_of_block hg]; omega)).2]
    exact h6 g hg
def EntsRep (w : World) (fx : Nat → Nat) (kk : KK) : List (AVal × AVal) → List MapEntry → Prop
  | [], [] => True
  | p :: r, q :: s => (keyOk kk p.1 = true ∧ Rep w fx p.1 q.key ∧ Rep w fx p.2 q.val) ∧ EntsRep w fx kk r s
  | _, _ => False
theorem EntsRep.ext {w w' : World} {fx fx' : Nat → Nat} (hx : Ext w fx w' fx') {kk : KK} : ∀ {es : List (AVal × AVal)} {qs : List MapEntry}, EntsRep w fx kk es qs → EntsRep w' fx' kk es qs
  | [], [], _ => trivial
  | p :: r, q :: s, h => ⟨⟨h.1.1, Rep.ext hx _ _ h.1.2.1, Rep.ext hx _ _ h.1.2.2⟩, EntsRep.ext hx (es := r) (qs := s) h.2⟩
  | [], _ :: _, h => h.elim
  | _ :: _, [], h => h.elim
def ObjRep (E : Env) (B : Nat) (w : World) (fx : Nat → Nat) (rho : List Nat) (hold : AVal → Bool) (o : AObj) (g : Nat) : Prop :=
  match o with
  | .cells l => ∃ arr et, w.heap[g]? = some (.cells arr et (0, 0)) ∧ RepOL w fx rho l arr.toList ∧
      (∀ (i : Nat) (v : AVal) (V : Value), l[i]? = some v → arr.toList[i]? = some V → OwnOk E B w fx v V ∧ V.oneCell' = true ∧ hold v = true) ∧ (∀ T, E.bld = some T → isBld l = true → et = T)
  | .iter s pos => w.heap[g]? = some (.stringIter ⟨s.toArray⟩ pos)
  | .map kk es => ∃ arr clock, w.heap[g]? = some (.map arr clock) ∧ EntsRep w fx kk es arr.toList
def ObjsRep (E : Env) (B : Nat) (w : World) (fx : Nat → Nat) (rho : List Nat) (hold : Nat → AVal → Bool) (os : List AObj) (gs : List Nat) : Prop :=
  gs.length = os.length ∧ ∀ (i : Nat) (o : AObj) (g : Nat), os[i]? = some o → gs[i]? = some g → ObjRep E B w fx rho (hold i) o g
theorem RepOL.length {w : World} {fx : Nat → Nat} {rho : List Nat} : ∀ {l : List AVal} {Vs : List Value}, RepOL w fx rho l Vs → Vs.length = l.length
  | [], _, h => by rw [show _ = [] from h]; rfl
  | _ :: r, _, h => by
    obtain ⟨V, Vr, rfl, _, h3⟩ := h
    simp [RepOL.length (l := r) h3]
theorem RepOL.get {w : World} {fx : Nat → Nat} {rho : List Nat} : ∀ {l : List AVal} {Vs : List Value} {i : Nat} {v : AVal}, RepOL w fx rho l Vs → l[i]? = some v →
    ∃ V, Vs[i]? = some V ∧ RepO w fx rho v V
  | [], _, _, _, _, hi => by simp at hi
  | x :: r, Vs, i, v, h, hi => by
    obtain ⟨V, Vr, rfl, h1, h3⟩ := h
    cases i with
    | zero => simp at hi; subst hi; exact ⟨V, rfl, h1⟩
    | succ i => simp at hi ⊢; exact RepOL.get (l := r) h3 hi
theorem RepOL.of_get {w : World} {fx : Nat → Nat} {rho : List Nat} : ∀ {l : List AVal} {Vs : List Value}, Vs.length = l.length →
    (∀ (i : Nat) (v : AVal) (V : Value), l[i]? = some v → Vs[i]? = some V → RepO w fx rho v V) → RepOL w fx rho l Vs
  | [], Vs, hl, _ => by simp at hl; exact hl
  | x :: r, [], hl, _ => by simp at hl
  | x :: r, V :: Vr, hl, h => ⟨V, Vr, rfl, h 0 x V rfl rfl, RepOL.of_get (by simpa using hl) fun i v U hi hU => h (i + 1) v U (by simpa using hi) (by simpa using hU)⟩
theorem ownObj_le (w : World) : ∀ (os : List AObj) (gs : List Nat) (i : Nat) (o : AObj) (g b : Nat), os[i]? = some o → gs[i]? = some g → ownObj w o g b ≤ ownObjs w os gs b
  | [], _, _, _, _, _, h, _ => by simp at h
  | _ :: _, [], _, _, _, _, _, h => by simp at h
  | x :: r, X :: Xr, 0, o, g, b, h, h' => by
    simp at h h'; subst h; subst h'
    simp [ownObjs]
  | x :: r, X :: Xr, i + 1, o, g, b, h, h' => by
    simp at h h'
    have := ownObj_le w r Xr i o g b h h'
    simp [ownObjs]; omega
theorem ObjRep.ext {E : Env} {B : Nat} {w w' : World} {fx fx' : Nat → Nat} {rho rho' : List Nat} {hold : AVal → Bool} {o : AObj} {g : Nat} (h : ObjRep E B w fx rho hold o g)
    (hx : Ext w fx w' fx') (hp : rho <+: rho') (hg : w'.heap[g]? = w.heap[g]?) (hsame : ∀ b, 0 < ownObj w o g b → w'.heap[b]? = w.heap[b]? ∧ fx' b = fx b) : ObjRep E B w' fx' rho' hold o g := by
  cases o with
  | iter s pos => exact hg.trans h
  | map kk es =>
    obtain ⟨arr, clock, h1, h2⟩ := h
    exact ⟨arr, clock, hg.trans h1, h2.ext hx⟩
  | cells l =>
    obtain ⟨arr, et, h1, h2, h3, h5⟩ := h
    refine ⟨arr, et, hg.trans h1, RepOL.ext hx hp h2, fun i v V hi hV => ?_, h5⟩
    obtain ⟨ha, hb, hc⟩ := h3 i v V hi hV
    refine ⟨ha.ext hx fun b hb' => hsame b ?_, hb, hc⟩
    have := ownSum_le_of_get l arr.toList i v V b hi hV
    simp only [ownObj, blockVals, h1]
    omega
theorem ObjsRep.ext {E : Env} {B : Nat} {w w' : World} {fx fx' : Nat → Nat} {rho rho' : List Nat} {hold : Nat → AVal → Bool} {os : List AObj} {gs : List Nat} (h : ObjsRep E B w fx rho hold os gs)
    (hx : Ext w fx w' fx') (hp : rho <+: rho') (hg : ∀ g ∈ gs, w'.heap[g]? = w.heap[g]?) (hsame : ∀ b, 0 < ownObjs w os gs b → w'.heap[b]? = w.heap[b]? ∧ fx' b = fx b) : ObjsRep E B w' fx' rho' hold os gs :=
  ⟨h.1, fun i o g ho hgi => (h.2 i o g ho hgi).ext hx hp (hg g (List.mem_of_getElem? hgi)) fun b hb => hsame b (Nat.lt_of_lt_of_le hb (ownObj_le w os gs i o g b ho hgi))⟩
structure Ctx where
  w0 : World
  fx0 : Nat → Nat
  S0 : Nat → Prop
  rho0 : List Nat
structure Keep (c : Ctx) (w : World) (fx : Nat → Nat) : Prop where
  size : c.w0.heap.size ≤ w.heap.size
  os : w.os = c.w0.os
  tape : w.tape = c.w0.tape
  output : w.output = c.w0.output
  ext : Ext c.w0 c.fx0 w fx
  block : ∀ b, b < c.w0.heap.size → ¬ c.S0 b → w.heap[b]? = c.w0.heap[b]? ∧ fx b = c.fx0 b
def total (w : World) (rho lam : List Nat) (fr : AFrame) (m : Mem) (Vs : List Value) (b : Nat) : Nat :=
  rho.count b + lam.count b + ownSum fr.tmps Vs b + ownObjs w fr.locs lam b + ownObjs w m rho b
def DefRep (w : World) (fx : Nat → Nat) (rho : List Nat) : List (FuncId × List AVal) → List Deferred → Prop
  | [], ds => ds = []
  | (f, l) :: r, ds => ∃ d dr Vs, ds = d :: dr ∧ RepCL w fx rho l Vs ∧ (∃ cap, d.target = .fn (.func f) cap ∧ d.args ++ cap = Vs.toArray) ∧ DefRep w fx rho r dr
theorem DefRep.ext {w w' : World} {fx fx' : Nat → Nat} {rho rho' : List Nat} (hx : Ext w fx w' fx') (hp : rho <+: rho') : ∀ {l : List (FuncId × List AVal)} {ds : List Deferred}, DefRep w fx rho l ds → DefRep w' fx' rho' l ds
  | [], _, h => h
  | (_, _) :: r, _, h => by
    obtain ⟨d, dr, Vs, rfl, h1, h2, h3⟩ := h
    exact ⟨d, dr, Vs, rfl, RepCL.ext hx hp h1, h2, DefRep.ext hx hp h3⟩
structure Good (E : Env) (B : Nat) (c : Ctx) (w : World) (fx : Nat → Nat) (rho lam : List Nat) (fr : AFrame) (m : Mem) (a : Act) : Prop where
  size : a.tmps.size = fr.tmps.length
  tmp : ∀ (i : Nat) (v : AVal) (V : Value), fr.tmps[i]? = some v → a.tmps.toList[i]? = some V → RepT w fx rho lam v V ∧ OwnOk E B w fx v V
  defs : DefRep w fx rho fr.defers a.defers
  locs : ObjsRep E B w fx rho (fun _ => mayHoldL) fr.locs lam
  mem : ObjsRep E B w fx rho mayHold m rho
  fx0 : ∀ b, b ∈ rho ∨ b ∈ lam → fx b = 0
  fxb : ∀ b, w.heap.size ≤ b → fx b = 0
  tot : ∀ b, total w rho lam fr m a.tmps.toList b ≤ 1
  low : ∀ b, 0 < total w rho lam fr m a.tmps.toList b → B ≤ b ∧ b < w.heap.size ∧ (b < c.w0.heap.size → c.S0 b)
  keep : Keep c w fx
  pre : c.rho0 <+: rho
section
variable {E : Env} {B : Nat} {c : Ctx} {w w' : World} {fx fx' : Nat → Nat} {rho lam : List Nat} {fr : AFrame} {m : Mem} {a : Act}
theorem total_pos_rho {b : Nat} {Vs : List Value} (h : b ∈ rho) : 0 < total w rho lam fr m Vs b := by
  have := List.count_pos_iff.2 h
  unfold total; omega
theorem total_pos_lam {b : Nat} {Vs : List Value} (h : b ∈ lam) : 0 < total w rho lam fr m Vs b := by
  have := List.count_pos_iff.2 h
  unfold total; omega
theorem Good.world (h : Good E B c w fx rho lam fr m a) (hx : Ext w fx w' fx') (hsz : w.heap.size ≤ w'.heap.size) (g : Nat)
    (hg0 : total w rho lam fr m a.tmps.toList g = 0) (hg1 : g < c.w0.heap.size → c.S0 g)
    (hsame : ∀ b, b < w.heap.size → b ≠ g → w'.heap[b]? = w.heap[b]? ∧ fx' b = fx b) (hfxb : ∀ b, w'.heap.size ≤ b → fx' b = 0)
    (h1 : w'.os = w.os) (h2 : w'.tape = w.tape) (h3 : w'.output = w.output) : Good E B c w' fx' rho lam fr m a := by
  have hs : ∀ b, 0 < total w rho lam fr m a.tmps.toList b → w'.heap[b]? = w.heap[b]? ∧ fx' b = fx b := fun b hb =>
    hsame b (h.low b hb).2.1 (by rintro rfl; omega)
  have hrho : ∀ g ∈ rho, w'.heap[g]? = w.heap[g]? := fun g hg => (hs g (total_pos_rho hg)).1
  have hlam : ∀ g ∈ lam, w'.heap[g]? = w.heap[g]? := fun g hg => (hs g (total_pos_lam hg)).1
  have htot : ∀ b, total w' rho lam fr m a.tmps.toList b = total w rho lam fr m a.tmps.toList b := fun b => by
    unfold total
    rw [ownObjs_world fr.locs lam b hlam, ownObjs_world m rho b hrho]
  exact {
    size := h.size
    tmp := fun i v V hi hV => by
      obtain ⟨ha, hb⟩ := h.tmp i v V hi hV
      refine ⟨RepT.ext hx (List.prefix_refl _) (List.prefix_refl _) ha, hb.ext hx fun b hb' => hs b ?_⟩
      have := ownSum_le_of_get fr.tmps a.tmps.toList i v V b hi hV
      unfold total; omega
    defs := h.defs.ext hx (List.prefix_refl _)
    locs := h.locs.ext hx (List.prefix_refl _) hlam fun b hb => hs b (by unfold total; omega)
    mem := h.mem.ext hx (List.prefix_refl _) hrho fun b hb => hs b (by unfold total; omega)
    fx0 := fun b hb => by
      have hp : 0 < total w rho lam fr m a.tmps.toList b := hb.elim total_pos_rho total_pos_lam
      rw [(hs b hp).2]; exact h.fx0 b hb
    fxb := hfxb
    tot := fun b => by rw [htot]; exact h.tot b
    low := fun b hb => by
      rw [htot] at hb
      obtain ⟨x, y, z⟩ := h.low b hb
      exact ⟨x, Nat.lt_of_lt_of_le y hsz, z⟩
    keep := {
      size := Nat.le_trans h.keep.size hsz
      os := h1.trans h.keep.os
      tape := h2.trans h.keep.tape
      output := h3.trans h.keep.output
      ext := h.keep.ext.trans hx
      block := fun b hb hS => by
        obtain ⟨x, y⟩ := h.keep.block b hb hS
        obtain ⟨x', y'⟩ := hsame b (Nat.lt_of_lt_of_le hb h.keep.size) (by rintro rfl; exact hS (hg1 hb))
        exact ⟨x'.trans x, y'.trans y⟩ }
    pre := h.pre }
theorem getElem?_set_ite {α : Type} {l : List α} {i j : Nat} {x v : α} (h : (l.set i x)[j]? = some v) : (i = j ∧ v = x ∧ i < l.length) ∨ (i ≠ j ∧ l[j]? = some v) := by
  by_cases e : i = j
  · subst e
    rw [List.getElem?_set] at h
    simp at h
    exact .inl ⟨rfl, h.2.symm, h.1⟩
  · rw [List.getElem?_set_ne e] at h
    exact .inr ⟨e, h⟩
theorem Good.setTmp (h : Good E B c w fx rho lam fr m a) (i : Nat) {v : AVal} {V : Value} (hr : RepT w fx rho lam v V) (ho : OwnOk E B w fx v V)
    (htot : ∀ b, 0 < ownB v V b → total w rho lam fr m a.tmps.toList b + ownB v V b ≤ 1 ∧ B ≤ b ∧ b < w.heap.size ∧ (b < c.w0.heap.size → c.S0 b)) :
    Good E B c w fx rho lam { fr with tmps := fr.tmps.set i v } m { a with tmps := a.tmps.setIfInBounds i V } := by
  have hl : a.tmps.toList.length = fr.tmps.length := by simpa using h.size
  have hle : ∀ b, total w rho lam { fr with tmps := fr.tmps.set i v } m (a.tmps.setIfInBounds i V).toList b ≤ total w rho lam fr m a.tmps.toList b + ownB v V b := fun b => by
    have : ownSum (fr.tmps.set i v) (a.tmps.toList.set i V) b ≤ ownSum fr.tmps a.tmps.toList b + ownB v V b := by
      rcases Nat.lt_or_ge i fr.tmps.length with hi | hi
      · have := ownSum_set fr.tmps a.tmps.toList i v _ V _ b (List.getElem?_eq_getElem hi) (List.getElem?_eq_getElem (by omega))
        omega
      · rw [List.set_eq_of_length_le (by omega), List.set_eq_of_length_le (by omega)]
        omega
    simp only [total, Array.toList_setIfInBounds]
    omega
  exact {
    size := by simpa using h.size
    tmp := fun j x X hj hX => by
      rw [Array.toList_setIfInBounds] at hX
      rcases getElem?_set_ite hj with ⟨rfl, rfl, hlt⟩ | ⟨hne, hj'⟩
      · rw [List.getElem?_set_self (by omega)] at hX
        injection hX with hX; subst hX
        exact ⟨hr, ho⟩
      · rw [List.getElem?_set_ne hne] at hX
        exact h.tmp j x X hj' hX
    defs := h.defs
    locs := h.locs
    mem := h.mem
    fx0 := h.fx0
    fxb := h.fxb
    tot := fun b => by
      show total w rho lam { fr with tmps := fr.tmps.set i v } m (a.tmps.setIfInBounds i V).toList b ≤ 1
      have h1 := hle b
      have h2 := h.tot b
      rcases Nat.eq_zero_or_pos (ownB v V b) with h0 | h0
      · omega
      · have := (htot b h0).1; omega
    low := fun b hb => by
      replace hb : 0 < total w rho lam { fr with tmps := fr.tmps.set i v } m (a.tmps.setIfInBounds i V).toList b := hb
      have h1 := hle b
      rcases Nat.eq_zero_or_pos (ownB v V b) with h0 | h0
      · exact h.low b (by omega)
      · exact (htot b h0).2
    keep := h.keep
    pre := h.pre }
theorem Good.drop (h : Good E B c w fx rho lam fr m a) (i : Nat) {v : AVal} {V : Value} (hv : fr.tmps[i]? = some v) (hV : a.tmps.toList[i]? = some V) :
    Good E B c w fx rho lam { fr with tmps := fr.tmps.set i (disown v) } m a ∧
      ∀ b, total w rho lam { fr with tmps := fr.tmps.set i (disown v) } m a.tmps.toList b + ownB v V b = total w rho lam fr m a.tmps.toList b := by
  have hd : ∀ b, ownSum (fr.tmps.set i (disown v)) a.tmps.toList b + ownB v V b = ownSum fr.tmps a.tmps.toList b := fun b => by
    have := ownSum_set fr.tmps a.tmps.toList i (disown v) v V V b hv hV
    have e : a.tmps.toList.set i V = a.tmps.toList := by
      apply List.ext_getElem?
      intro j
      by_cases hij : i = j
      · subst hij
        rw [List.getElem?_set_self (by
          rcases Nat.lt_or_ge i a.tmps.toList.length with h | h
          · exact h
          · simp [List.getElem?_eq_none h] at hV), hV]
      · rw [List.getElem?_set_ne hij]
    rw [e, ownB_disown] at this
    omega
  have ht : ∀ b, total w rho lam { fr with tmps := fr.tmps.set i (disown v) } m a.tmps.toList b + ownB v V b = total w rho lam fr m a.tmps.toList b := fun b => by
    have := hd b
    simp only [total]
    omega
  refine ⟨{
    size := by simpa using h.size
    tmp := fun j x X hj hX => by
      rcases getElem?_set_ite hj with ⟨rfl, rfl, hlt⟩ | ⟨hne, hj'⟩
      · rw [hV] at hX; injection hX with hX; subst hX
        obtain ⟨ha, _⟩ := h.tmp i v V hv hV
        refine ⟨?_, OwnOk.of_disown _ _⟩
        cases v with
        | slice own es => cases own <;> exact ha
        | _ => exact ha
      · exact h.tmp j x X hj' hX
    defs := h.defs
    locs := h.locs
    mem := h.mem
    fx0 := h.fx0
    fxb := h.fxb
    tot := fun b => by have := ht b; have := h.tot b; omega
    low := fun b hb => h.low b (by have := ht b; omega)
    keep := h.keep
    pre := h.pre }, ht⟩
end
end Go.Abs
namespace Go.Abs
set_option linter.unusedSectionVars false
def aggB (P : Program) (t : TypeId) : Bool :=
  match P.underlying t with
  | some (.struct _) | some (.array _ _) => true
  | _ => false
def kindOk (P : Program) (t : TypeId) : TK → Prop
  | .bool => P.underlying t = some .bool
  | .int k => P.underlying t = some (.int k)
  | .str => P.underlying t = some .string
  | .struct fs => ∃ fields, P.underlying t = some (.struct fields) ∧ fields.toList.map (fun f => (f.offset, P.cellsOf f.type, aggB P f.type)) = fs ∧
      ∀ f ∈ fields.toList, (P.info? f.type).isSome = true ∧ (P.underlying f.type).isSome = true
  | .array n sz agg => ∃ e, P.underlying t = some (.array n e) ∧ P.cellsOf e = sz ∧ aggB P e = agg ∧ (P.info? e).isSome = true ∧ (P.underlying e).isSome = true
  | .slice e => P.underlying t = some (.slice e)
  | .ptr => ∃ e, P.underlying t = some (.pointer e)
  | .iface => ∃ ms, P.underlying t = some (.interface ms)
  | .func => ∃ ps rs v, P.underlying t = some (.func ps rs v)
  | .map k e => P.underlying t = some (.map k e)
structure FitsT (P : Program) (t : TypeId) (ti : TI) : Prop where
  kind : kindOk P t ti.kind
  info : ∃ i z, P.info? t = some i ∧ i.size = ti.size ∧ i.bytes = ti.bytes ∧ i.zero = some z ∧ z.cells.size = ti.size ∧ ofConsts z.cells.toList = some ti.zero ∧
    (ti.isAgg = true → ∃ cs, z = .agg cs) ∧ (ti.isAgg = false → z.oneCell' = true)
def beqC : AVal → AVal → Bool
  | .bool a, .bool b => a == b
  | .int k a, .int j b => k == j && a == b
  | .str a, .str b => a == b
  | .nilptr, .nilptr => true
  | .slice .full [], .slice .full [] => true
  | .slice .nil [], .slice .nil [] => true
  | .nilfunc, .nilfunc => true
  | .nilIface, .nilIface => true
  | .nilmap, .nilmap => true
  | _, _ => false
theorem beqC_eq : ∀ {a b : AVal}, beqC a b = true → a = b := by
  intro a b h
  unfold beqC at h
  split at h <;> simp_all
def beqCs : List AVal → List AVal → Bool
  | [], [] => true
  | a :: r, b :: s => beqC a b && beqCs r s
  | _, _ => false
theorem beqCs_eq : ∀ {a b : List AVal}, beqCs a b = true → a = b
  | [], [], _ => rfl
  | [], _ :: _, h => by simp [beqCs] at h
  | _ :: _, [], h => by simp [beqCs] at h
  | a :: r, b :: s, h => by
    simp [beqCs] at h
    rw [beqC_eq h.1, beqCs_eq h.2]
def beqF : List (Nat × Nat × Bool) → List (Nat × Nat × Bool) → Bool
  | [], [] => true
  | (a, b, c) :: r, (a', b', c') :: s => a == a' && b == b' && c == c' && beqF r s
  | _, _ => false
theorem beqF_eq : ∀ {a b : List (Nat × Nat × Bool)}, beqF a b = true → a = b
  | [], [], _ => rfl
  | [], _ :: _, h => by simp [beqF] at h
  | _ :: _, [], h => by simp [beqF] at h
  | (a, b, c) :: r, (a', b', c') :: s, h => by
    simp [beqF] at h
    obtain ⟨⟨⟨rfl, rfl⟩, rfl⟩, h⟩ := h
    rw [beqF_eq h]
def kindB (P : Program) (t : TypeId) (k : TK) : Bool :=
  match P.underlying t, k with
  | some .bool, .bool => true
  | some (.int j), .int k => j == k
  | some .string, .str => true
  | some (.struct fields), .struct fs => beqF (fields.toList.map (fun f => (f.offset, P.cellsOf f.type, aggB P f.type))) fs && fields.toList.all (fun f => (P.info? f.type).isSome && (P.underlying f.type).isSome)
  | some (.array n e), .array n' sz agg => n == n' && P.cellsOf e == sz && aggB P e == agg && (P.info? e).isSome && (P.underlying e).isSome
  | some (.slice e), .slice e' => e == e'
  | some (.pointer _), .ptr => true
  | some (.interface _), .iface => true
  | some (.func _ _ _), .func => true
  | some (.map k e), .map k' e' => k == k' && e == e'
  | _, _ => false
theorem kindB_ok {P : Program} {t : TypeId} {k : TK} (h : kindB P t k = true) : kindOk P t k := by
  unfold kindB at h
  split at h <;> rename_i hu <;> simp only [kindOk] <;> try exact hu
  · simp at h; subst h; exact hu
  · rw [Bool.and_eq_true] at h
    refine ⟨_, hu, beqF_eq h.1, fun f hf => ?_⟩
    have := List.all_eq_true.1 h.2 f hf
    simpa using this
  · simp at h
    obtain ⟨⟨⟨⟨rfl, h2⟩, h3⟩, h4⟩, h5⟩ := h
    exact ⟨_, hu, h2, h3, h4, h5⟩
  · simp at h; subst h; exact hu
  · exact ⟨_, hu⟩
  · exact ⟨_, hu⟩
  · exact ⟨_, _, _, hu⟩
  · simp at h; obtain ⟨rfl, rfl⟩ := h; exact hu
  · cases h
def oneB (z : Value) : Bool := z.oneCell'
def fitsB (P : Program) (t : TypeId) (ti : TI) : Bool :=
  kindB P t ti.kind &&
  match P.info? t with
  | some i => i.size == ti.size && i.bytes == ti.bytes && (match i.zero with
    | some z => z.cells.size == ti.size && (match ofConsts z.cells.toList with | some l => beqCs l ti.zero | none => false) &&
        (match z with | .agg _ => ti.isAgg | _ => !ti.isAgg && oneB z)
    | none => false)
  | none => false
theorem fitsB_ok {P : Program} {t : TypeId} {ti : TI} (h : fitsB P t ti = true) : FitsT P t ti := by
  unfold fitsB at h
  rw [Bool.and_eq_true] at h
  refine ⟨kindB_ok h.1, ?_⟩
  have h := h.2
  split at h
  · rename_i i hi
    rw [Bool.and_eq_true, Bool.and_eq_true] at h
    obtain ⟨⟨h1, h2⟩, h⟩ := h
    split at h
    · rename_i z hz
      rw [Bool.and_eq_true, Bool.and_eq_true] at h
      obtain ⟨⟨h3, h4⟩, h5⟩ := h
      refine ⟨i, z, hi, by simpa using h1, by simpa using h2, hz, by simpa using h3, ?_, ?_, ?_⟩
      · split at h4
        · rename_i l hl; rw [hl, beqCs_eq h4]
        · cases h4
      · intro ha
        split at h5
        · exact ⟨_, rfl⟩
        · simp [ha] at h5
      · intro ha
        split at h5
        · rw [ha] at h5; cases h5
        · simp at h5; exact h5.2
    · cases h
  · cases h
def Fits (E : Env) (P : Program) : Prop := ∀ t ti, E.T t = some ti → FitsT P t ti
theorem isAgg_run {P : Program} {t : TypeId} (h : (P.underlying t).isSome = true) (w : World) : (isAgg t).run P w = .ok (aggB P t) w := by
  obtain ⟨d, hd⟩ := Option.isSome_iff_exists.1 h
  unfold isAgg
  rw [Sem.run_bind, run_underlying hd w]
  simp only [Result.andThen_ok]
  unfold aggB
  rw [hd]
  cases d <;> rfl
theorem FitsT.under {P : Program} {t : TypeId} {ti : TI} (h : FitsT P t ti) : (P.underlying t).isSome = true := by
  have := h.kind
  cases hk : ti.kind <;> rw [hk] at this <;> simp only [kindOk] at this
  all_goals first
    | (rw [this]; rfl)
    | (obtain ⟨_, h, _⟩ := this; rw [h]; rfl)
    | (obtain ⟨_, h⟩ := this; rw [h]; rfl)
    | (obtain ⟨_, _, h⟩ := this; rw [h]; rfl)
    | (obtain ⟨_, _, _, h⟩ := this; rw [h]; rfl)
theorem FitsT.agg {P : Program} {t : TypeId} {ti : TI} (h : FitsT P t ti) : aggB P t = ti.isAgg := by
  have := h.kind
  cases hk : ti.kind <;> rw [hk] at this <;> simp only [kindOk] at this
  all_goals unfold aggB TI.isAgg; rw [hk]
  all_goals first
    | (rw [this])
    | (obtain ⟨_, h, _⟩ := this; rw [h])
    | (obtain ⟨_, h⟩ := this; rw [h])
    | (obtain ⟨_, _, h⟩ := this; rw [h])
    | (obtain ⟨_, _, _, h⟩ := this; rw [h])
theorem FitsT.sizeOf {P : Program} {t : TypeId} {ti : TI} (h : FitsT P t ti) (w : World) : (sizeOf t).run P w = .ok ti.size w := by
  obtain ⟨i, z, hi, hs, _⟩ := h.info
  simp [Go.sizeOf, typeInfo, hi, hs]
theorem sizeOf_run {P : Program} {t : TypeId} (h : (P.info? t).isSome = true) (w : World) : (sizeOf t).run P w = .ok (P.cellsOf t) w := by
  obtain ⟨i, hi⟩ := Option.isSome_iff_exists.1 h
  simp [Go.sizeOf, typeInfo, hi, Program.cellsOf]
theorem ofConst1_rep {w : World} {fx : Nat → Nat} : ∀ {V : Value} {v : AVal}, ofConst1 V = some v → Rep w fx v V ∧ V.oneCell' = true := by
  intro V v h
  unfold ofConst1 at h
  split at h <;> cases h
  · exact ⟨rfl, rfl⟩
  · exact ⟨rfl, rfl⟩
  · exact ⟨rfl, rfl⟩
  · exact ⟨rfl, rfl⟩
  · exact ⟨⟨none, 0, 0, [], rfl, rfl, Nat.le_refl _, rfl, ⟨0, fun _ h => by cases h⟩, ⟨rfl, rfl⟩, fun h => absurd rfl h⟩, rfl⟩
  · exact ⟨rfl, rfl⟩
  · exact ⟨rfl, rfl⟩
  · exact ⟨rfl, rfl⟩
theorem ofConsts_rep {w : World} {fx : Nat → Nat} : ∀ {Vs : List Value} {l : List AVal}, ofConsts Vs = some l → RepL w fx l Vs
  | [], l, h => by injection h with h; subst h; rfl
  | V :: Vr, l, h => by
    simp only [ofConsts] at h
    split at h
    · rename_i a b ha hb
      injection h with h; subst h
      obtain ⟨h1, h2⟩ := ofConst1_rep (w := w) (fx := fx) ha
      exact ⟨V, Vr, rfl, h1, h2, ofConsts_rep hb⟩
    · cases h
theorem ofConst_rep {w : World} {fx : Nat → Nat} {V : Value} {v : AVal} (h : ofConst V = some v) : Rep w fx v V := by
  unfold ofConst at h
  split at h
  · rename_i cs
    cases hc : ofConsts cs.toList with
    | none => rw [hc] at h; cases h
    | some l =>
      rw [hc] at h
      injection h with h; subst h
      exact ⟨cs.toList, by simp, ofConsts_rep hc⟩
  · exact (ofConst1_rep h).1
end Go.Abs
namespace Go.Abs
set_option linter.unusedSectionVars false
def GlobOk (E : Env) (w : World) (fx : Nat → Nat) : Prop := ∀ g cells, E.glob g = some cells → ∃ Vs, RepL w fx cells Vs ∧ CellsAt w fx g 0 Vs ∧ (E.exact g = true → Vs ≠ [] → w.cell? ⟨g, Vs.length, none⟩ = none) ∧
  (cells = [] → ∃ n, w.cell? ⟨g, 0, none⟩ = some (.int .i64 n) ∧ 0 < fx g)
theorem GlobOk.ext {E : Env} {w w' : World} {fx fx' : Nat → Nat} (h : GlobOk E w fx) (hx : Ext w fx w' fx') : GlobOk E w' fx' := fun g cells hg => by
  obtain ⟨Vs, h1, h2, h3, h4⟩ := h g cells hg
  refine ⟨Vs, RepL.ext hx _ _ h1, h2.ext hx, fun he hne => ?_, fun hc => by
    obtain ⟨n, h5, h6⟩ := h4 hc
    exact ⟨n, (hx.cell g 0 h6).trans h5, Nat.lt_of_lt_of_le h6 (hx.le g)⟩⟩
  cases Vs with
  | nil => exact absurd rfl hne
  | cons V r => exact hx.none g _ (Nat.lt_of_le_of_lt (Nat.zero_le _) (h2 0 V rfl).2) (h3 he hne)
theorem noRow_own {v : AVal} (h : noRow v = true) (V : Value) (b : Nat) : ownB v V b = 0 := by
  cases v <;> try rfl
  rename_i own es; cases own <;> first | rfl | cases h
theorem noRow_ok {E : Env} {B : Nat} {w : World} {fx : Nat → Nat} {v : AVal} (h : noRow v = true) (V : Value) : OwnOk E B w fx v V := by
  cases v <;> try trivial
  rename_i own es; cases own <;> first | trivial | cases h
theorem noRow_disown (v : AVal) : noRow (disown v) = true := by
  cases v <;> try rfl
  rename_i own es; cases own <;> rfl
theorem Rep.noRow {w : World} {fx : Nat → Nat} {v : AVal} {V : Value} (h : Rep w fx v V) : noRow v = true := by
  cases v <;> try rfl
  rename_i own es
  cases own <;> try rfl
  obtain ⟨_, _, _, _, _, _, _, _, _, h, _⟩ := h
  exact h.elim
theorem disown_noRow {v : AVal} (h : Abs.noRow v = true) : disown v = v := by
  cases v <;> try rfl
  rename_i own es; cases own <;> first | rfl | cases h
theorem Rep.toO {w : World} {fx : Nat → Nat} {rho : List Nat} {v : AVal} {V : Value} (h : Rep w fx v V) : RepO w fx rho v V := by
  cases v with
  | fn f caps => obtain ⟨rfl, rfl⟩ := h; exact ⟨[], rfl, rfl⟩
  | ptr _ _ => exact h.elim
  | mapp _ => exact h.elim
  | sref _ _ _ => exact h.elim
  | slice own es => cases own with
    | row e => have := h.noRow; cases this
    | _ => exact h
  | _ => exact h
theorem RepO.toT {w : World} {fx : Nat → Nat} {rho lam : List Nat} {v : AVal} {V : Value} (h : RepO w fx rho v V) : RepT w fx rho lam v V := by
  cases v with
  | loc _ _ => exact h.elim
  | tup _ => exact h.elim
  | any => trivial
  | _ => exact h
theorem Rep.toT {w : World} {fx : Nat → Nat} {rho lam : List Nat} {v : AVal} {V : Value} (h : Rep w fx v V) : RepT w fx rho lam v V := h.toO.toT
theorem RepT.disown {w : World} {fx : Nat → Nat} {rho lam : List Nat} {v : AVal} {V : Value} (h : RepT w fx rho lam v V) : RepT w fx rho lam (disown v) V := by
  cases v with
  | slice own es => cases own <;> exact h
  | _ => exact h
theorem RepO.disown {w : World} {fx : Nat → Nat} {rho : List Nat} {v : AVal} {V : Value} (h : RepO w fx rho v V) : RepO w fx rho (Abs.disown v) V := by
  cases v with
  | slice own es => cases own <;> exact h
  | _ => exact h
theorem RepT.data {w : World} {fx : Nat → Nat} {rho lam : List Nat} {v : AVal} {V : Value} (h : RepT w fx rho lam v V) (hd : isData v = true) : Rep w fx (Abs.disown v) V := by
  cases v with
  | slice own es => cases own <;> exact h
  | fn f caps =>
    cases caps with
    | cons _ _ => cases hd
    | nil => obtain ⟨Vs, h1, h2⟩ := h; rw [show Vs = [] from h2] at h1; exact ⟨rfl, h1⟩
  | ptr _ _ => cases hd
  | mapp _ => cases hd
  | sref _ _ _ => cases hd
  | loc _ _ => cases hd
  | tup _ => cases hd
  | any => cases hd
  | _ => exact h
theorem plainCell_disown (v : AVal) : plainCell (Abs.disown v) = plainCell v := by
  cases v <;> try rfl
  rename_i own es; cases own <;> rfl
theorem RepT.plain {w : World} {fx : Nat → Nat} {rho lam : List Nat} {v : AVal} {V : Value} (h : RepT w fx rho lam v V) (hd : isData v = true) : Rep w fx (plainAgg (plainCell v)) V := by
  have := (h.data hd).plainCell.plainAgg
  rwa [plainCell_disown] at this
theorem noRow_plain (v : AVal) : noRow (plainAgg (plainCell v)) = true := by
  cases v <;> rfl
theorem Rep.data {w : World} {fx : Nat → Nat} {v : AVal} {V : Value} (h : Rep w fx v V) : isData v = true := by
  cases v <;> first | rfl | exact h.elim | skip
  obtain ⟨rfl, _⟩ := h; rfl
section
variable {P : Program} {E : Env} {B : Nat} {c : Ctx} {w w' : World} {fx fx' : Nat → Nat} {rho lam : List Nat} {fr : AFrame} {m : Mem} {a : Act}
theorem Good.put (h : Good E B c w fx rho lam fr m a) (dst : Option Tmp) {v : AVal} {V : Value} (hr : RepT w fx rho lam v V) (hn : noRow v = true) :
    Good E B c w fx rho lam (put fr dst v) m (a.put dst V) := by
  cases dst with
  | none => exact h
  | some d =>
    simp only [Abs.put, Act.put, tset_eq]
    exact h.setTmp d hr (noRow_ok hn V) fun b hb => by rw [noRow_own hn] at hb; omega
theorem tmp_get (h : Good E B c w fx rho lam fr m a) {t : Nat} {v : AVal} (hv : tget fr.tmps t = v) (hne : v ≠ .any) : fr.tmps[t]? = some v ∧ a.tmps.toList[t]? = some (a.tmps.getD t undef) := by
  rw [tget_eq] at hv
  have hlt : t < fr.tmps.length := by
    rcases Nat.lt_or_ge t fr.tmps.length with h | h
    · exact h
    · rw [List.getD_eq_getElem?_getD, List.getElem?_eq_none h] at hv; exact absurd hv.symm hne
  have h2 : t < a.tmps.size := by rw [h.size]; exact hlt
  refine ⟨?_, ?_⟩
  · rw [List.getD_eq_getElem?_getD, List.getElem?_eq_getElem hlt] at hv
    rw [List.getElem?_eq_getElem hlt]; exact congrArg some hv
  · simp [h2]
theorem ev_tmp {t : Tmp} {v : AVal} (h : ev E fr (.tmp t) = some v) : tget fr.tmps t = v ∧ v ≠ .any := by
  simp only [ev] at h
  split at h
  · cases h
  · rename_i v' hne
    injection h with h
    exact ⟨h, fun e => hne (by rw [h, e])⟩
structure EvOk (E : Env) (B : Nat) (w : World) (fx : Nat → Nat) (rho lam : List Nat) (tot : Nat → Nat) (v : AVal) (V : Value) : Prop where
  rep : RepT w fx rho lam v V
  own : OwnOk E B w fx v V
  le : ∀ b, ownB v V b ≤ tot b
  ne : v ≠ .any
theorem ev_sound (hg : Good E B c w fx rho lam fr m a) (hG : GlobOk E w fx) {x : Operand} {v : AVal} (h : ev E fr x = some v) :
    EvOk E B w fx rho lam (total w rho lam fr m a.tmps.toList) v (a.eval x) := by
  cases x with
  | tmp t =>
    obtain ⟨hv, hne⟩ := ev_tmp h
    obtain ⟨h1, h2⟩ := tmp_get hg hv hne
    obtain ⟨h3, h4⟩ := hg.tmp t v _ h1 h2
    refine ⟨h3, h4, fun b => ?_, hne⟩
    have := ownSum_le_of_get fr.tmps a.tmps.toList t v _ b h1 h2
    simp only [Act.eval]
    unfold total; omega
  | const V =>
    have hr : Rep w fx v V := ofConst_rep h
    exact ⟨hr.toT, noRow_ok hr.noRow _, fun b => by rw [noRow_own hr.noRow]; omega, fun e => by subst e; exact hr.elim⟩
  | global g =>
    simp only [ev] at h
    cases hc : E.glob g with
    | none => rw [hc] at h; cases h
    | some cells =>
      rw [hc] at h; injection h with h; subst h
      obtain ⟨Vs, h1, h2, _⟩ := hG g cells hc
      have hr : Rep w fx (.imm cells) (a.eval (.global g)) := ⟨g, 0, Vs, rfl, h1, h2⟩
      exact ⟨hr.toT, noRow_ok rfl _, fun b => by rw [noRow_own rfl]; omega, fun e => by cases e⟩
  | func f =>
    injection h with h; subst h
    exact ⟨Rep.toT (v := .fn f []) ⟨rfl, rfl⟩, noRow_ok rfl _, fun b => by rw [noRow_own rfl]; omega, fun e => by cases e⟩
theorem leave_sound (hg : Good E B c w fx rho lam fr m a) {x : Operand} {v : AVal} (h : ev E fr x = some v) :
    Good E B c w fx rho lam (leave1 fr x) m a ∧ ∀ b, total w rho lam (leave1 fr x) m a.tmps.toList b + ownB v (a.eval x) b = total w rho lam fr m a.tmps.toList b := by
  cases x with
  | tmp t =>
    obtain ⟨hv, hne⟩ := ev_tmp h
    obtain ⟨h1, h2⟩ := tmp_get hg hv hne
    have := hg.drop t h1 h2
    simp only [leave1, tset_eq, hv]
    exact this
  | const V =>
    have hr : Rep w fx v V := ofConst_rep h
    exact ⟨hg, fun b => by rw [noRow_own hr.noRow]; rfl⟩
  | global g =>
    simp only [ev] at h
    cases hc : E.glob g with
    | none => rw [hc] at h; cases h
    | some cells => rw [hc] at h; injection h with h; subst h; exact ⟨hg, fun b => rfl⟩
  | func f => injection h with h; subst h; exact ⟨hg, fun b => rfl⟩
theorem Good.putOwn (h : Good E B c w fx rho lam fr m a) (dst : Option Tmp) {v : AVal} {V : Value} (hr : RepT w fx rho lam v V) (ho : OwnOk E B w fx v V)
    (htot : ∀ b, 0 < ownB v V b → total w rho lam fr m a.tmps.toList b + ownB v V b ≤ 1 ∧ B ≤ b ∧ b < w.heap.size ∧ (b < c.w0.heap.size → c.S0 b)) :
    Good E B c w fx rho lam (Abs.put fr dst v) m (a.put dst V) := by
  cases dst with
  | none => exact h
  | some d =>
    simp only [Abs.put, Act.put, tset_eq]
    exact h.setTmp d hr ho htot
theorem promo_cases (E : Env) (t : Option TypeId) (v : AVal) : promo E t v = v ∨ ∃ e ei, t = some e ∧ v = .slice .nil [] ∧ E.T e = some ei ∧ 0 < ei.size ∧ promo E t v = .slice (.row e) [] := by
  unfold promo
  split
  · exact .inl rfl
  · rename_i e
    split
    · rename_i es
      split
      · split
        · rename_i ei hei
          split
          · exact .inl rfl
          · rename_i k hk
            exact .inr ⟨e, ei, rfl, rfl, hei, by omega, rfl⟩
        · exact .inl rfl
      · exact .inl rfl
    · exact .inl rfl
theorem promo_own {V : Value} (h : Rep w fx (.slice .nil []) V) : V = .slice none 0 0 := by
  obtain ⟨A, n, c, Vs, rfl, hn, _, _, _, ⟨hA, hc⟩, _⟩ := h
  subst hA; subst hc
  rw [show n = 0 from hn]
theorem promo_rep (t : Option TypeId) {v : AVal} {V : Value} (h : RepT w fx rho lam v V) (ho : OwnOk E B w fx v V) :
    RepT w fx rho lam (promo E t v) V ∧ OwnOk E B w fx (promo E t v) V ∧ ∀ b, ownB (promo E t v) V b = ownB v V b := by
  rcases promo_cases E t v with e | ⟨e, ei, rfl, rfl, hei, hp, e1⟩
  · rw [e]; exact ⟨h, ho, fun _ => rfl⟩
  · have hr : Rep w fx (.slice .nil []) V := h
    have hV := promo_own hr
    rw [e1]
    subst hV
    refine ⟨?_, ⟨ei, [], hei, hp, fun c hc => (by cases hc), rfl, ⟨by simp, .inl ⟨rfl, rfl⟩⟩, fun g hg => (by cases hg)⟩, fun b => rfl⟩
    exact Rep.plainCell (v := .slice .nil []) hr
theorem promoS_rep (F : FuncId) (dst : Option Tmp) {v : AVal} {V : Value} (h : RepT w fx rho lam v V) (ho : OwnOk E B w fx v V) :
    RepT w fx rho lam (promoS E F dst v) V ∧ OwnOk E B w fx (promoS E F dst v) V ∧ ∀ b, ownB (promoS E F dst v) V b = ownB v V b := by
  cases dst with
  | none => exact ⟨h, ho, fun _ => rfl⟩
  | some d => exact promo_rep _ h ho
theorem Good.moveOwnP (F : FuncId) (hg : Good E B c w fx rho lam fr m a) (hG : GlobOk E w fx) {x : Operand} {v : AVal} (h : ev E fr x = some v) (dst : Option Tmp) :
    Good E B c w fx rho lam (Abs.put (leave1 fr x) dst (promoS E F dst v)) m (a.put dst (a.eval x)) := by
  obtain ⟨h1, h2⟩ := leave_sound hg h
  have he := ev_sound hg hG h
  obtain ⟨p1, p2, p3⟩ := promoS_rep F dst he.rep he.own
  refine h1.putOwn dst p1 p2 fun b hb => ?_
  rw [p3] at hb ⊢
  have h3 := h2 b
  have h4 := hg.tot b
  have h5 := hg.low b (by have := he.le b; omega)
  exact ⟨by omega, h5⟩
variable {R : Type} {r : R} {o : Oper} {next : Act → World → Prop} {Q : Exit → Act → World → Prop}
def NextOk (E : Env) (B : Nat) (c : Ctx) (r : R) (K : AFrame → Mem → Option R) (next : Act → World → Prop) : Prop :=
  ∀ w fx rho lam fr m a, K fr m = some r → Good E B c w fx rho lam fr m a → GlobOk E w fx → next a w
def PanOk (E : Env) (B : Nat) (c : Ctx) (r : R) (Kp : AVal → AFrame → Mem → Option R) (Q : Exit → Act → World → Prop) : Prop :=
  ∀ w fx rho lam fr m a v V, Kp v fr m = some r → Good E B c w fx rho lam fr m a → GlobOk E w fx → Rep w fx v V → Q (.panic [{ v := V, recovered := false }]) a w
variable {K : AFrame → Mem → Option R}
theorem wp_value {V : Value} (hrun : (execOp a.eval o).run P w = .ok (.value V) w') (h : next (a.put o.dst V) w') : o.wp P a w next Q := by
  unfold Oper.wp
  rw [hrun]
  exact h
theorem wp_skip {V : Value} (hV : V = undef) (hrun : (execOp a.eval o).run P w = .ok .skip w') (h : next (a.put o.dst V) w') : o.wp P a w next Q := by
  subst hV
  unfold Oper.wp
  rw [hrun]
  exact h
def CalmStep (E : Env) (B : Nat) (c : Ctx) (P : Program) (w : World) (fx : Nat → Nat) (rho lam : List Nat) (a : Act) (o : Oper) (r : R) (K : AFrame → Mem → Option R) : Prop :=
  ∃ V fr' m', (∀ w' : World, w'.heap = w.heap → (execOp a.eval o).run P w' = .ok (.value V) w') ∧ Good E B c w fx rho lam fr' m' (a.put o.dst V) ∧ K fr' m' = some r
theorem CalmStep.wp (h : CalmStep E B c P w fx rho lam a o r K) (hG : GlobOk E w fx) (hn : NextOk E B c r K next) : o.wp P a w next Q := by
  obtain ⟨V, fr', m', h1, h2, h3⟩ := h
  exact wp_value (h1 w rfl) (hn _ _ _ _ _ _ _ h3 h2 hG)
theorem fin (hg : Good E B c w fx rho lam fr m a) {v : AVal} {V : Value} (hr : RepT w fx rho lam v V) (hnr : noRow v = true)
    (hrun : ∀ w' : World, w'.heap = w.heap → (execOp a.eval o).run P w' = .ok (.value V) w') (hK : K (Abs.put fr o.dst v) m = some r) : CalmStep E B c P w fx rho lam a o r K :=
  ⟨V, _, _, hrun, hg.put o.dst hr hnr, hK⟩
theorem cell_heap {w w' : World} (h : w'.heap = w.heap) (a : Addr) : w'.cell? a = w.cell? a := by simp only [World.cell?, h]
theorem sound_move (hg : Good E B c w fx rho lam fr m a) (hG : GlobOk E w fx) {x : Operand} (ho : o.op = .move x ∨ o.op = .assign x) {v : AVal} (h : ev E fr x = some v)
    (F : FuncId) (hK : K (Abs.put (leave1 fr x) o.dst (promoS E F o.dst v)) m = some r ∨ K (Abs.put fr o.dst (disown (promoS E F o.dst v))) m = some r) : CalmStep E B c P w fx rho lam a o r K := by
  have hrun : ∀ w' : World, w'.heap = w.heap → (execOp a.eval o).run P w' = .ok (.value (a.eval x)) w' := fun w' _ => by
    rcases ho with ho | ho <;> simp [execOp, ho]
  rcases hK with hK | hK
  · exact ⟨_, _, _, hrun, hg.moveOwnP F hG h o.dst, hK⟩
  · exact fin hg (promoS_rep (B := B) F o.dst (ev_sound hg hG h).rep (ev_sound hg hG h).own).1.disown (noRow_disown _) hrun hK
theorem RepT.bool {b : Bool} {V : Value} (h : RepT w fx rho lam (.bool b) V) : V = .bool b := h
theorem RepT.int {k : IntKind} {n : Int} {V : Value} (h : RepT w fx rho lam (.int k n) V) : V = .int k n := h
theorem RepT.str {s : List UInt8} {V : Value} (h : RepT w fx rho lam (.str s) V) : V = .string ⟨s.toArray⟩ := h
theorem sound_pick (hg : Good E B c w fx rho lam fr m a) (hG : GlobOk E w fx) {x y z : Operand} (ho : o.op = .pick x y z) {t : Bool} (hx : ev E fr x = some (.bool t))
    {v : AVal} (h : ev E fr (if t then y else z) = some v) (hK : K (Abs.put fr o.dst (disown v)) m = some r) : CalmStep E B c P w fx rho lam a o r K := by
  have h1 := (ev_sound hg hG hx).rep.bool
  refine fin hg (ev_sound hg hG h).rep.disown (noRow_disown v) (fun w' hw' => ?_) hK
  simp [execOp, ho, h1, asBool]
  cases t <;> rfl
theorem sound_extract (hg : Good E B c w fx rho lam fr m a) (hG : GlobOk E w fx) {x : Operand} {i : Nat} (ho : o.op = .extract x i) {vs : List AVal} (hx : ev E fr x = some (.tup vs))
    {v : AVal} (hv : vs[i]? = some v) (hK : K (Abs.put fr o.dst (disown v)) m = some r) : CalmStep E B c P w fx rho lam a o r K := by
  obtain ⟨Vs, h1, h2⟩ := (ev_sound hg hG hx).rep
  obtain ⟨V, h3, h4⟩ := RepOL.get h2 (i := i) (v := disown v) (by simp [hv])
  refine fin hg h4.toT (noRow_disown v) (fun w' hw' => ?_) hK
  simp [execOp, ho, h1, Instr.extract, h3]
theorem bytes_eq (s : List UInt8) : (⟨s.toArray⟩ : ByteArray).toList = s := ByteArray.toList_mk s
def EqFits (E : Env) (P : Program) : Prop := ∀ t ks, E.eqT t = some ks → ∀ (w : World) (fx : Nat → Nat) (xs ys : List AVal) (Xs Ys : List Value) (b : Bool), fitCK ks xs = true → sameCells xs ys = some b →
  RepL w fx xs Xs → RepL w fx ys Ys → ∀ x y, (eqGuard .eql t x y (.agg Xs.toArray) (.agg Ys.toArray)).run P w = .ok () w ∧ (eqGuard .neq t x y (.agg Xs.toArray) (.agg Ys.toArray)).run P w = .ok () w ∧
    (Op.equal t (.agg Xs.toArray) (.agg Ys.toArray)).run P w = .ok b w
theorem eqGuard_int (op : BinOp) (t : TypeId) (x y : Operand) (k k' : IntKind) (i j : Int) : (eqGuard op t x y (.int k i) (.int k' j)).run P w = .ok () w := by
  cases op <;> simp [eqGuard]
theorem eqGuard_str (op : BinOp) (t : TypeId) (x y : Operand) (i j : ByteArray) : (eqGuard op t x y (.string i) (.string j)).run P w = .ok () w := by
  cases op <;> simp [eqGuard]
theorem eqGuard_bool (op : BinOp) (t : TypeId) (x y : Operand) (i j : Bool) : (eqGuard op t x y (.bool i) (.bool j)).run P w = .ok () w := by
  cases op <;> simp [eqGuard]
theorem int_bin_run {op : BinOp} {t : TypeId} {k k' : IntKind} {i j : Int} {z : AVal}
    (hz : (if isShift op then shiftBin op k i j else if k = k' then intBin op k i j else none) = some z) :
    ∃ Z, (∀ w' : World, (binOp op t (.int k i) (.int k' j)).run P w' = .ok Z w') ∧ Rep w fx z Z := by
  by_cases hs : isShift op = true
  · rw [if_pos hs] at hz
    unfold shiftBin at hz
    split at hz
    · cases hz
    · rename_i hj
      cases op <;> simp [isShift] at hs <;> (injection hz with hz; subst hz; refine ⟨_, fun w' => ?_, rfl⟩; simp [binOp, Op.shift, hj])
  · rw [if_neg hs] at hz
    split at hz
    · rename_i hk
      subst hk
      cases op <;> simp [isShift] at hs <;> simp only [intBin] at hz
      all_goals first
        | (cases hz; done)
        | (injection hz with hz; subst hz; refine ⟨_, fun w' => ?_, rfl⟩; simp [binOp, Op.intArith, Op.intBits, Op.intCmp]; done)
        | (split at hz; (cases hz); rename_i hj; injection hz with hz; subst hz; refine ⟨_, fun w' => ?_, rfl⟩; simp [binOp, Op.intDiv, hj]; done)
    · cases hz
theorem str_bin_run {op : BinOp} {t : TypeId} {i j : List UInt8} {z : AVal} (hz : strBin op i j = some z) :
    ∃ Z, (∀ w' : World, (binOp op t (.string ⟨i.toArray⟩) (.string ⟨j.toArray⟩)).run P w' = .ok Z w') ∧ Rep w fx z Z := by
  cases op <;> simp only [strBin] at hz
  all_goals first
    | (cases hz; done)
    | (injection hz with hz; subst hz; refine ⟨_, fun w' => ?_, rfl⟩; simp [binOp, Op.stringOp]; done)
    | skip
  split at hz
  · rename_i hle
    injection hz with hz; subst hz
    refine ⟨_, fun w' => ?_, rfl⟩
    have h1 : ¬ (((⟨i.toArray⟩ : ByteArray).size + (⟨j.toArray⟩ : ByteArray).size : Nat) : Int) > IntKind.i64.max := by
      simp [ByteArray.size]; omega
    simp only [binOp, Op.stringOp]
    rw [if_neg h1]
    simp only [Sem.run_pure]
    congr 2
  · cases hz
theorem nilness_run {t : TypeId} {k : TK} (hk : kindOk P t k) {b : Bool} {u v : AVal} {U V : Value} (hb : nilness k u v = some b) (hU : RepT w fx rho lam u U) (hV : RepT w fx rho lam v V) :
    (Op.equal t U V).run P w = .ok b w ∧ (∀ op x y, (isConst x || isConst y) = true → (eqGuard op t x y U V).run P w = .ok () w) ∧
      ((∃ x, U = .bool x) ∨ (∃ x, U = .agg x) ∨ U = .nilIface ∨ (∃ t v, U = .iface t v) ∨ (∃ x, U = .pointer x) ∨ U = .nilFunc ∨ (∃ x y z, U = .func x y z) ∨ (∃ x y z, U = .slice x y z)) := by
  have hnil : ∀ op x y, (isConst x || isConst y) = true → (eqGuard op t x y .nilIface .nilIface).run P w = .ok () w := by
    intro op x y h
    cases x <;> cases y <;> first | (cases h; done) | (cases op <;> simp [eqGuard]; done)
  unfold nilness at hb
  split at hb
  · obtain ⟨ms, hms⟩ := hk
    split at hb <;> cases hb
    · obtain rfl : U = .nilIface := hU
      obtain rfl : V = .nilIface := hV
      have key : ∀ d, (Op.equalIn (d + 1) t .nilIface .nilIface).run P w = .ok true w := fun d => by simp only [Op.equalIn, Sem.run_bind, run_underlying hms, Result.andThen_ok, Sem.run_pure]
      exact ⟨key 9999, hnil, .inr (.inr (.inl rfl))⟩
    · obtain rfl : U = .nilIface := hU
      obtain ⟨V', rfl, _⟩ := hV
      have key : ∀ d u, (Op.equalIn (d + 1) t .nilIface (.iface u V')).run P w = .ok false w := fun d u => by simp only [Op.equalIn, Sem.run_bind, run_underlying hms, Result.andThen_ok, Sem.run_pure]
      exact ⟨key 9999 _, fun op x y h => by cases op <;> simp [eqGuard], .inr (.inr (.inl rfl))⟩
    · obtain ⟨U', rfl, _⟩ := hU
      obtain rfl : V = .nilIface := hV
      have key : ∀ d u, (Op.equalIn (d + 1) t (.iface u U') .nilIface).run P w = .ok false w := fun d u => by simp only [Op.equalIn, Sem.run_bind, run_underlying hms, Result.andThen_ok, Sem.run_pure]
      exact ⟨key 9999 _, fun op x y h => by cases op <;> simp [eqGuard], .inr (.inr (.inr (.inl ⟨_, _, rfl⟩)))⟩
    · obtain rfl : U = .nilIface := hU
      rcases hV with ⟨rfl, rfl⟩ | ⟨rfl, u, V', rfl⟩
      · have key : ∀ d, (Op.equalIn (d + 1) t .nilIface .nilIface).run P w = .ok true w := fun d => by simp only [Op.equalIn, Sem.run_bind, run_underlying hms, Result.andThen_ok, Sem.run_pure]
        exact ⟨key 9999, hnil, .inr (.inr (.inl rfl))⟩
      · have key : ∀ d u, (Op.equalIn (d + 1) t .nilIface (.iface u V')).run P w = .ok false w := fun d u => by simp only [Op.equalIn, Sem.run_bind, run_underlying hms, Result.andThen_ok, Sem.run_pure]
        exact ⟨key 9999 _, fun op x y h => by cases op <;> simp [eqGuard], .inr (.inr (.inl rfl))⟩
    · obtain rfl : V = .nilIface := hV
      rcases hU with ⟨rfl, rfl⟩ | ⟨rfl, u, U', rfl⟩
      · have key : ∀ d, (Op.equalIn (d + 1) t .nilIface .nilIface).run P w = .ok true w := fun d => by simp only [Op.equalIn, Sem.run_bind, run_underlying hms, Result.andThen_ok, Sem.run_pure]
        exact ⟨key 9999, hnil, .inr (.inr (.inl rfl))⟩
      · have key : ∀ d u, (Op.equalIn (d + 1) t (.iface u U') .nilIface).run P w = .ok false w := fun d u => by simp only [Op.equalIn, Sem.run_bind, run_underlying hms, Result.andThen_ok, Sem.run_pure]
        exact ⟨key 9999 _, fun op x y h => by cases op <;> simp [eqGuard], .inr (.inr (.inr (.inl ⟨_, _, rfl⟩)))⟩
  · obtain ⟨ms, hms⟩ := hk
    split at hb <;> cases hb
    · obtain rfl : U = .pointer none := hU
      obtain rfl : V = .pointer none := hV
      have key : ∀ d, (Op.equalIn (d + 1) t (.pointer none) (.pointer none)).run P w = .ok true w := fun d => by simp only [Op.equalIn, Sem.run_bind, run_underlying hms, Result.andThen_ok, Sem.run_pure, Option.isNone]
      exact ⟨key 9999, fun op x y h => by cases op <;> simp [eqGuard], .inr (.inr (.inr (.inr (.inl ⟨_, rfl⟩))))⟩
    · obtain rfl : U = .pointer none := hU
      obtain ⟨g, _, rfl⟩ := hV
      have key : ∀ d x, (Op.equalIn (d + 1) t (.pointer none) (.pointer (some x))).run P w = .ok false w := fun d x => by simp only [Op.equalIn, Sem.run_bind, run_underlying hms, Result.andThen_ok, Sem.run_pure, Option.isNone]
      exact ⟨key 9999 _, fun op x y h => by cases op <;> simp [eqGuard], .inr (.inr (.inr (.inr (.inl ⟨_, rfl⟩))))⟩
    · obtain ⟨g, _, rfl⟩ := hU
      obtain rfl : V = .pointer none := hV
      have key : ∀ d x, (Op.equalIn (d + 1) t (.pointer (some x)) (.pointer none)).run P w = .ok false w := fun d x => by simp only [Op.equalIn, Sem.run_bind, run_underlying hms, Result.andThen_ok, Sem.run_pure, Option.isNone]
      exact ⟨key 9999 _, fun op x y h => by cases op <;> simp [eqGuard], .inr (.inr (.inr (.inr (.inl ⟨_, rfl⟩))))⟩
  · obtain ⟨ps, rs, vr, hms⟩ := hk
    split at hb <;> cases hb
    · obtain rfl : U = .nilFunc := hU
      obtain rfl : V = .nilFunc := hV
      have key : ∀ d, (Op.equalIn (d + 1) t .nilFunc .nilFunc).run P w = .ok true w := fun d => by simp only [Op.equalIn, Sem.run_bind, run_underlying hms, Result.andThen_ok, Sem.run_pure]
      exact ⟨key 9999, fun op x y h => by cases op <;> simp [eqGuard], .inr (.inr (.inr (.inr (.inr (.inl rfl)))))⟩
    · obtain rfl : U = .nilFunc := hU
      obtain ⟨Vs, rfl, _⟩ := hV
      have key : ∀ d f c, (Op.equalIn (d + 1) t .nilFunc (.func f #[] c)).run P w = .ok false w := fun d f c => by simp only [Op.equalIn, Sem.run_bind, run_underlying hms, Result.andThen_ok, Sem.run_pure]
      exact ⟨key 9999 _ _, fun op x y h => by cases op <;> simp [eqGuard], .inr (.inr (.inr (.inr (.inr (.inl rfl)))))⟩
    · obtain ⟨Vs, rfl, _⟩ := hU
      obtain rfl : V = .nilFunc := hV
      have key : ∀ d f c, (Op.equalIn (d + 1) t (.func f #[] c) .nilFunc).run P w = .ok false w := fun d f c => by simp only [Op.equalIn, Sem.run_bind, run_underlying hms, Result.andThen_ok, Sem.run_pure]
      exact ⟨key 9999 _ _, fun op x y h => by cases op <;> simp [eqGuard], .inr (.inr (.inr (.inr (.inr (.inr (.inl ⟨_, _, _, rfl⟩))))))⟩
  · rename_i e
    have hms : P.underlying t = some (.slice e) := hk
    split at hb <;> cases hb
    · obtain ⟨A, n, c, Vs, rfl, _, _, _, _, ⟨rfl, _⟩, _⟩ := hU
      obtain ⟨A', n', c', Vs', rfl, _, _, _, _, ⟨rfl, _⟩, _⟩ := hV
      have key : ∀ d, (Op.equalIn (d + 1) t (.slice none n c) (.slice none n' c')).run P w = .ok true w := fun d => by simp only [Op.equalIn, Sem.run_bind, run_underlying hms, Result.andThen_ok, Sem.run_pure, Option.isNone]
      exact ⟨key 9999, fun op x y h => by cases op <;> simp [eqGuard], .inr (.inr (.inr (.inr (.inr (.inr (.inr ⟨_, _, _, rfl⟩))))))⟩
    · rename_i own x xs r es _
      have hU' : Rep w fx (.slice .no ((x :: xs) :: r)) U := by
        cases own with
        | no => exact hU
        | full => exact Rep.plainCell (v := .slice .full _) hU
        | nil => exact Rep.plainCell (v := .slice .nil _) hU
        | row e => exact hU
      obtain ⟨A, n, c, Vs, rfl, _, _, hr, _, _, hc⟩ := hU'
      obtain ⟨A', n', c', Vs', rfl, _, _, _, _, ⟨rfl, _⟩, _⟩ := hV
      have hne : Vs ≠ [] := by
        obtain ⟨V1, V2, rfl, h1, _⟩ := hr
        obtain ⟨V, Vr, rfl, _⟩ := h1
        simp
      obtain ⟨b, off, rfl, _⟩ := hc hne
      have key : ∀ d, (Op.equalIn (d + 1) t (.slice (some ⟨b, off, none⟩) n c) (.slice none n' c')).run P w = .ok false w := fun d => by simp only [Op.equalIn, Sem.run_bind, run_underlying hms, Result.andThen_ok, Sem.run_pure, Option.isNone]
      exact ⟨key 9999, fun op x y h => by cases op <;> simp [eqGuard], .inr (.inr (.inr (.inr (.inr (.inr (.inr ⟨_, _, _, rfl⟩))))))⟩
  · cases hb
set_option maxHeartbeats 1000000 in
theorem eq_shape {t : TypeId} {op : BinOp} {e b : Bool} (he : isEq op = some e) {U V : Value} (h1 : (Op.equal t U V).run P w = .ok b w)
    (h2 : (∃ x, U = .bool x) ∨ (∃ x, U = .agg x) ∨ U = .nilIface ∨ (∃ t v, U = .iface t v) ∨ (∃ x, U = .pointer x) ∨ U = .nilFunc ∨ (∃ x y z, U = .func x y z) ∨ (∃ x y z, U = .slice x y z)) :
    (binOp op t U V).run P w = .ok (.bool (e == b)) w := by
  cases op <;> simp [isEq] at he <;> subst he
  all_goals rcases h2 with ⟨x, rfl⟩ | ⟨x, rfl⟩ | rfl | ⟨x, y, rfl⟩ | ⟨x, rfl⟩ | rfl | ⟨x, y, z, rfl⟩ | ⟨x, y, z, rfl⟩
  all_goals (simp only [binOp, Sem.run_bind, h1, Result.andThen_ok, Sem.run_pure]; cases b <;> rfl)
theorem sound_int (hg : Good E B c w fx rho lam fr m a) (hG : GlobOk E w fx) {op : BinOp} {t t' : TypeId} {x y : Operand} (ho : o.op = .binOp op t x y t')
    {k k' : IntKind} {i j : Int} (hx : ev E fr x = some (.int k i)) (hy : ev E fr y = some (.int k' j)) {z : AVal}
    (hz : (if isShift op then shiftBin op k i j else if k = k' then intBin op k i j else none) = some z) (hK : K (Abs.put fr o.dst z) m = some r) : CalmStep E B c P w fx rho lam a o r K := by
  obtain ⟨Z, h1, h2⟩ := int_bin_run (P := P) (w := w) (fx := fx) (t := t) hz
  refine fin hg h2.toT h2.noRow (fun w' hw' => ?_) hK
  simp [execOp, ho, (ev_sound hg hG hx).rep.int, (ev_sound hg hG hy).rep.int, eqGuard_int, h1]
theorem sound_str (hg : Good E B c w fx rho lam fr m a) (hG : GlobOk E w fx) {op : BinOp} {t t' : TypeId} {x y : Operand} (ho : o.op = .binOp op t x y t')
    {i j : List UInt8} (hx : ev E fr x = some (.str i)) (hy : ev E fr y = some (.str j)) {z : AVal}
    (hz : strBin op i j = some z) (hK : K (Abs.put fr o.dst z) m = some r) : CalmStep E B c P w fx rho lam a o r K := by
  obtain ⟨Z, h1, h2⟩ := str_bin_run (P := P) (w := w) (fx := fx) (t := t) hz
  refine fin hg h2.toT h2.noRow (fun w' hw' => ?_) hK
  simp [execOp, ho, (ev_sound hg hG hx).rep.str, (ev_sound hg hG hy).rep.str, eqGuard_str, h1]
end
end Go.Abs
namespace Go.Abs
set_option linter.unusedSectionVars false
theorem takeN_eq {α : Type} : ∀ {l : List α} {n : Nat} {x : List α}, takeN l n = some x → ∃ r, l = x ++ r ∧ x.length = n
  | l, 0, x, h => by
    have : x = [] := by cases l <;> (injection h with h; exact h.symm)
    subst this; exact ⟨l, rfl, rfl⟩
  | [], _ + 1, _, h => by cases h
  | y :: r, n + 1, x, h => by
    simp only [takeN] at h
    cases ht : takeN r n with
    | none => rw [ht] at h; cases h
    | some z =>
      rw [ht] at h; injection h with h; subst h
      obtain ⟨q, h1, h2⟩ := takeN_eq ht
      exact ⟨q, by rw [h1]; rfl, by simp [h2]⟩
theorem sub_eq {α : Type} : ∀ {l : List α} {off n : Nat} {x : List α}, sub l off n = some x → ∃ p r, l = p ++ x ++ r ∧ p.length = off ∧ x.length = n
  | l, 0, n, x, h => by
    have h' : takeN l n = some x := by cases l <;> exact h
    obtain ⟨r, h1, h2⟩ := takeN_eq h'
    exact ⟨[], r, by simp [h1], rfl, h2⟩
  | [], _ + 1, _, _, h => by cases h
  | y :: l, off + 1, n, x, h => by
    obtain ⟨p, r, h1, h2, h3⟩ := sub_eq (l := l) (show sub l off n = some x from h)
    exact ⟨y :: p, r, by simp [h1], by simp [h2], h3⟩
theorem RepL.sub {w : World} {fx : Nat → Nat} {l x : List AVal} {off n : Nat} {Vs : List Value} (h : RepL w fx l Vs) (hs : Abs.sub l off n = some x) :
    ∃ V0 V1 V2, Vs = V0 ++ V1 ++ V2 ∧ V0.length = off ∧ V1.length = n ∧ RepL w fx x V1 := by
  obtain ⟨p, r, rfl, h2, h3⟩ := sub_eq hs
  obtain ⟨V01, V2, rfl, ha, hb⟩ := h.split
  obtain ⟨V0, V1, rfl, hc, hd⟩ := ha.split
  exact ⟨V0, V1, V2, rfl, by rw [hc.length, h2], by rw [hd.length, h3], hd⟩
theorem RepL.takeN {w : World} {fx : Nat → Nat} {l x : List AVal} {n : Nat} {Vs : List Value} (h : RepL w fx l Vs) (hs : Abs.takeN l n = some x) :
    ∃ V1 V2, Vs = V1 ++ V2 ∧ V1.length = n ∧ RepL w fx x V1 := by
  obtain ⟨r, rfl, h3⟩ := takeN_eq hs
  obtain ⟨V1, V2, rfl, ha, hb⟩ := h.split
  exact ⟨V1, V2, rfl, by rw [ha.length, h3], ha⟩
theorem CellsAt.part {w : World} {fx : Nat → Nat} {b off : Nat} {V0 V1 V2 : List Value} (h : CellsAt w fx b off (V0 ++ V1 ++ V2)) : CellsAt w fx b (off + V0.length) V1 := fun j V hj => by
  have hlt : j < V1.length := by
    rcases Nat.lt_or_ge j V1.length with h | h
    · exact h
    · simp [List.getElem?_eq_none h] at hj
  have := h (V0.length + j) V (by
    rw [List.append_assoc, List.getElem?_append_right (by omega), Nat.add_sub_cancel_left, List.getElem?_append_left hlt, hj])
  rw [Nat.add_assoc]
  exact this
theorem CellsAt.head {w : World} {fx : Nat → Nat} {b off : Nat} {V1 V2 : List Value} (h : CellsAt w fx b off (V1 ++ V2)) : CellsAt w fx b off V1 := by
  have := CellsAt.part (V0 := []) (V1 := V1) (V2 := V2) (by simpa using h)
  simpa using this
theorem RepOL.split {w : World} {fx : Nat → Nat} {rho : List Nat} : ∀ {l l' : List AVal} {Vs : List Value}, RepOL w fx rho (l ++ l') Vs → ∃ V1 V2, Vs = V1 ++ V2 ∧ RepOL w fx rho l V1 ∧ RepOL w fx rho l' V2
  | [], _, Vs, h => ⟨[], Vs, rfl, rfl, h⟩
  | _ :: r, _, Vs, h => by
    obtain ⟨V, Vr, rfl, h1, h3⟩ := h
    obtain ⟨V1, V2, rfl, ha, hb⟩ := RepOL.split (l := r) h3
    exact ⟨V :: V1, V2, rfl, ⟨V, V1, rfl, h1, ha⟩, hb⟩
theorem RepOL.append {w : World} {fx : Nat → Nat} {rho : List Nat} : ∀ {l l' : List AVal} {Vs Vs' : List Value}, RepOL w fx rho l Vs → RepOL w fx rho l' Vs' → RepOL w fx rho (l ++ l') (Vs ++ Vs')
  | [], _, _, _, h, h' => by rw [show _ = [] from h]; exact h'
  | _ :: r, _, _, _, h, h' => by
    obtain ⟨V, Vr, rfl, h1, h3⟩ := h
    exact ⟨V, _, rfl, h1, RepOL.append (l := r) h3 h'⟩
section
variable {P : Program} {E : Env} {B : Nat} {c : Ctx} {w w' : World} {fx fx' : Nat → Nat} {rho lam : List Nat} {fr : AFrame} {m : Mem} {a : Act}
variable {R : Type} {r : R} {o : Oper} {next : Act → World → Prop} {Q : Exit → Act → World → Prop} {K : AFrame → Mem → Option R}
theorem getCells_sound (hg : Good E B c w fx rho lam fr m a) {p : AVal} {V : Value} (hp : RepT w fx rho lam p V) {n : Nat} {cs : List AVal} (h : getCells fr m p n = some cs) :
    ∃ b off Vs, V = .pointer (some ⟨b, off, none⟩) ∧ Vs.length = n ∧ RepOL w fx rho cs Vs ∧ w.rangeAt b off Vs ∧ (∀ u ∈ Vs, u.oneCell' = true) ∧ cs.length = n := by
  unfold getCells at h
  split at h
  · rename_i o' off
    obtain ⟨b, hb, rfl⟩ := hp
    rw [oget_eq] at h
    split at h
    · rename_i l hl
      obtain ⟨arr, et, h1, h2, h3⟩ := hg.mem.2 _ _ _ hl hb
      obtain ⟨p, r, rfl, h4, h5⟩ := sub_eq h
      obtain ⟨V01, V2, e, ha, hb'⟩ := h2.split
      obtain ⟨V0, V1, rfl, hc, hd⟩ := ha.split
      have hl0 : V0.length = off := by rw [hc.length, h4]
      refine ⟨b, off, V1, rfl, by rw [hd.length, h5], hd, fun j u hj => ?_, fun u hu => ?_, h5⟩
      · have hlt : j < V1.length := by
          rcases Nat.lt_or_ge j V1.length with h | h
          · exact h
          · simp [List.getElem?_eq_none h] at hj
        have : arr.toList[off + j]? = some u := by
          rw [e, List.append_assoc, List.getElem?_append_right (by omega), hl0, Nat.add_sub_cancel_left, List.getElem?_append_left hlt, hj]
        simp only [World.cell?, h1]
        simpa using this
      · obtain ⟨j, hj⟩ := List.getElem?_of_mem hu
        have hlt : j < V1.length := by
          rcases Nat.lt_or_ge j V1.length with h | h
          · exact h
          · simp [List.getElem?_eq_none h] at hj
        have hx : arr.toList[off + j]? = some u := by
          rw [e, List.append_assoc, List.getElem?_append_right (by omega), hl0, Nat.add_sub_cancel_left, List.getElem?_append_left hlt, hj]
        have hlen := h2.length
        have hy : off + j < (p ++ cs ++ r).length := by
          rcases Nat.lt_or_ge (off + j) arr.toList.length with h | h
          · rw [← hlen]; exact h
          · simp [List.getElem?_eq_none h] at hx
        exact (h3.1 _ _ u (List.getElem?_eq_getElem hy) hx).2.1
    · cases h
  · rename_i o' off
    obtain ⟨b, hb, rfl⟩ := hp
    rw [oget_eq] at h
    split at h
    · rename_i l hl
      obtain ⟨arr, et, h1, h2, h3⟩ := hg.locs.2 _ _ _ hl hb
      obtain ⟨p, r, rfl, h4, h5⟩ := sub_eq h
      obtain ⟨V01, V2, e, ha, hb'⟩ := h2.split
      obtain ⟨V0, V1, rfl, hc, hd⟩ := ha.split
      have hl0 : V0.length = off := by rw [hc.length, h4]
      refine ⟨b, off, V1, rfl, by rw [hd.length, h5], hd, fun j u hj => ?_, fun u hu => ?_, h5⟩
      · have hlt : j < V1.length := by
          rcases Nat.lt_or_ge j V1.length with h | h
          · exact h
          · simp [List.getElem?_eq_none h] at hj
        have : arr.toList[off + j]? = some u := by
          rw [e, List.append_assoc, List.getElem?_append_right (by omega), hl0, Nat.add_sub_cancel_left, List.getElem?_append_left hlt, hj]
        simp only [World.cell?, h1]
        simpa using this
      · obtain ⟨j, hj⟩ := List.getElem?_of_mem hu
        have hlt : j < V1.length := by
          rcases Nat.lt_or_ge j V1.length with h | h
          · exact h
          · simp [List.getElem?_eq_none h] at hj
        have hx : arr.toList[off + j]? = some u := by
          rw [e, List.append_assoc, List.getElem?_append_right (by omega), hl0, Nat.add_sub_cancel_left, List.getElem?_append_left hlt, hj]
        have hlen := h2.length
        have hy : off + j < (p ++ cs ++ r).length := by
          rcases Nat.lt_or_ge (off + j) arr.toList.length with h | h
          · rw [← hlen]; exact h
          · simp [List.getElem?_eq_none h] at hx
        exact (h3.1 _ _ u (List.getElem?_eq_getElem hy) hx).2.1
    · cases h
  · rename_i cells
    obtain ⟨b, off, Vs, rfl, h1, h2⟩ := hp
    obtain ⟨V1, V2, rfl, h3, h4⟩ := h1.takeN h
    have hO : ∀ {l : List AVal} {Vs : List Value}, RepL w fx l Vs → RepOL w fx rho l Vs := by
      intro l
      induction l with
      | nil => intro Vs h; exact h
      | cons v r ih => intro Vs h; obtain ⟨V, Vr, e, ha, _, hb⟩ := h; exact ⟨V, Vr, e, ha.toO, ih hb⟩
    exact ⟨b, off, V1, rfl, h3, hO h4, fun j u hj => (h2.head j u hj).1, h4.cells, by rw [← h4.length, h3]⟩
  · cases h
theorem RepOL.toL : ∀ {l : List AVal} {Vs : List Value}, RepOL w fx rho l Vs → (∀ v ∈ l, isData v = true) → (∀ u ∈ Vs, u.oneCell' = true) → RepL w fx (l.map disown) Vs
  | [], _, h, _, _ => h
  | v :: r, _, h, hd, h1 => by
    obtain ⟨V, Vr, rfl, ha, hb⟩ := h
    exact ⟨V, Vr, rfl, RepT.data (lam := []) ha.toT (hd v (List.mem_cons_self ..)), h1 V (List.mem_cons_self ..), RepOL.toL hb (fun v hv => hd v (List.mem_cons_of_mem _ hv)) fun u hu => h1 u (List.mem_cons_of_mem _ hu)⟩
end
end Go.Abs
namespace Go.Abs
set_option linter.unusedSectionVars false
section
variable {P : Program} {E : Env} {B : Nat} {c : Ctx} {w w' : World} {fx fx' : Nat → Nat} {rho lam : List Nat} {fr : AFrame} {m : Mem} {a : Act}
variable {R : Type} {r : R} {o : Oper} {next : Act → World → Prop} {Q : Exit → Act → World → Prop} {K : AFrame → Mem → Option R}
theorem FitsT.infoSize {t : TypeId} {ti : TI} (h : FitsT P t ti) : (P.info? t).map (·.size) = some ti.size := by
  obtain ⟨i, z, hi, hs, _⟩ := h.info
  simp [hi, hs]
theorem loadV_run (hF : Fits E P) (hg : Good E B c w fx rho lam fr m a) {t : TypeId} {p v : AVal} {V : Value} (hp : RepT w fx rho lam p V) (h : loadV E fr m t p = some v) :
    ∃ U b off, V = .pointer (some ⟨b, off, none⟩) ∧ (∀ w' : World, w'.heap = w.heap → (Instr.loadAt t V).run P w' = .ok U w') ∧ RepO w fx rho (disown v) U ∧ (RepO w fx rho v U ∨ noRow v = false) ∧ U.oneCell' = oneC v := by
  unfold loadV at h
  split at h
  · rename_i ti hti
    have ht := hF t ti hti
    split at h
    · rename_i cs hcs
      obtain ⟨b, off, Vs, rfl, hl, hr, hat, h1, hcl⟩ := getCells_sound hg hp hcs
      split at h
      · rename_i hagg
        split at h
        · rename_i hd
          injection h with h; subst h
          have hrl := RepOL.toL hr (by simpa using hd) h1
          have hu := ht.under
          obtain ⟨d, hd'⟩ := Option.isSome_iff_exists.1 hu
          have hrow : d.isRow = true := by
            have := ht.agg
            unfold aggB at this
            rw [hd', hagg] at this
            cases d <;> first | rfl | cases this
          have hrep : Rep w fx (.agg (cs.map disown)) (.agg Vs.toArray) := ⟨Vs, rfl, hrl⟩
          exact ⟨.agg Vs.toArray, b, off, rfl, fun w' hw' =>
            run_loadAt_mid w' b off t Vs d (fun j v hj => (cell_heap hw' _).trans (hat j v hj)) hd' hrow (by rw [ht.infoSize, hl]), hrep.toO, .inl hrep.toO, rfl⟩
        · cases h
      · rename_i hagg
        simp only [ofCells, Bool.false_eq_true, if_false] at h
        · split at h
          · rename_i v0
            injection h with h; subst h
            obtain ⟨U, Ur, rfl, hU, hn⟩ := hr
            have hone : U.oneCell' = true := h1 U (List.mem_cons_self ..)
            have hload : ∀ w' : World, w'.heap = w.heap → (loadVar t ⟨b, off, none⟩).run P w' = .ok U w' := fun w' hw' => by
              have hc : w'.cell? ⟨b, off, none⟩ = some U := by rw [cell_heap hw']; simpa using hat 0 U rfl
              unfold loadVar
              rw [Sem.run_bind, isAgg_run ht.under w', ht.agg]
              simp only [Result.andThen_ok]
              rw [if_neg hagg]
              simp [hc]
            refine ⟨U, b, off, rfl, fun w' hw' => ?_, hU.disown, .inl hU, ?_⟩
            · simp only [Instr.loadAt, Instr.sureAddr, Sem.run_bind, Sem.run_pure, Result.andThen_ok, hload w' hw']
            · cases v0 <;> first | exact hone | skip
              obtain ⟨Ws, rfl, _⟩ := hU
              cases hone
          · cases h
    · cases h
  · cases h
theorem sound_load (hF : Fits E P) (hg : Good E B c w fx rho lam fr m a) (hG : GlobOk E w fx) {t : TypeId} {x : Operand} (ho : o.op = .load t x)
    {p v : AVal} (hx : ev E fr x = some p) (hv : loadV E fr m t p = some v) (hK : K (Abs.put fr o.dst (disown v)) m = some r) : CalmStep E B c P w fx rho lam a o r K := by
  obtain ⟨U, b, off, h1, h2, h3, _⟩ := loadV_run hF hg (ev_sound hg hG hx).rep hv
  exact fin hg h3.toT (noRow_disown v) (fun w' hw' => by simp [execOp, ho, h2 w' hw']) hK
theorem sound_nilCheck (hg : Good E B c w fx rho lam fr m a) (hG : GlobOk E w fx) {x : Operand} (ho : o.op = .nilCheck x)
    {v : AVal} (hx : ev E fr x = some v) (hs : hasTarget v = true) (hK : K (Abs.put fr o.dst v) m = some r) : CalmStep E B c P w fx rho lam a o r K := by
  have hr := (ev_sound hg hG hx).rep
  cases v <;> first | (cases hs; done) | skip
  · have hr' := hr
    obtain ⟨b, _, hV⟩ := hr'
    exact fin hg hr rfl (fun w' hw' => by simp [execOp, ho, hV]) hK
  · have hr' := hr
    obtain ⟨b, _, hV⟩ := hr'
    exact fin hg hr rfl (fun w' hw' => by simp [execOp, ho, hV]) hK
  · have hr' := hr
    obtain ⟨b, _, _, hV, _⟩ := hr'
    exact fin hg hr rfl (fun w' hw' => by simp [execOp, ho, hV]) hK
  · have hr' := hr
    obtain ⟨_, hV, _⟩ := hr'
    exact fin hg hr rfl (fun w' hw' => by simp [execOp, ho, hV]) hK
  · have hr' := hr
    obtain ⟨_, hV, _⟩ := hr'
    exact fin hg hr rfl (fun w' hw' => by simp [execOp, ho, hV]) hK
theorem bool_eq_run {t : TypeId} (hk : P.underlying t = some .bool) (x y : Bool) : (Op.equal t (.bool x) (.bool y)).run P w = .ok (x == y) w := by
  have key : ∀ d, (Op.equalIn (d + 1) t (.bool x) (.bool y)).run P w = .ok (x == y) w := fun d => by
    simp only [Op.equalIn, Sem.run_bind, run_underlying hk, Result.andThen_ok, Sem.run_pure]
  exact key 9999
theorem sound_bin (hF : Fits E P) (hEq : EqFits E P) (hg : Good E B c w fx rho lam fr m a) (hG : GlobOk E w fx) {op : BinOp} {t t' : TypeId} {x y : Operand} (ho : o.op = .binOp op t x y t')
    {u v : AVal} (hx : ev E fr x = some u) (hy : ev E fr y = some v) {z : AVal} (hz : binV E op t (isConst x) (isConst y) u v = some z) (hK : K (Abs.put fr o.dst z) m = some r) : CalmStep E B c P w fx rho lam a o r K := by
  have hU := (ev_sound hg hG hx).rep
  have hV := (ev_sound hg hG hy).rep
  unfold binV at hz
  split at hz
  · exact sound_int hg hG ho hx hy hz hK
  · exact sound_str hg hG ho hx hy hz hK
  · split at hz
    · rename_i hti
      have ht := (hF t _ hti).kind
      cases he : isEq op with
      | none => rw [he] at hz; cases hz
      | some e =>
        rw [he] at hz; injection hz with hz; subst hz
        refine fin hg (v := .bool _) rfl rfl (fun w' hw' => ?_) hK
        have h1 := bool_eq_run (w := w') ht
        have := fun p q => eq_shape he (h1 p q) (.inl ⟨_, rfl⟩)
        simp [execOp, ho, hU.bool, hV.bool, eqGuard_bool, this]
    · cases hz
  · rename_i xs ys
    split at hz
    · rename_i ks hti
      split at hz
      · rename_i hck
        split at hz
        · rename_i e q he hq
          injection hz with hz; subst hz
          obtain ⟨Xs, hX, hXr⟩ := hU
          obtain ⟨Ys, hY, hYr⟩ := hV
          refine fin hg (v := .bool _) rfl rfl (fun w' hw' => ?_) hK
          have hx' : Ext w fx w' fx := ⟨fun _ => Nat.le_refl _, fun b off _ => cell_heap hw' _, fun b off _ hn => by rw [cell_heap hw']; exact hn⟩
          obtain ⟨h1, h2, h3⟩ := hEq t _ hti w' fx xs ys Xs Ys q hck hq (RepL.ext hx' _ _ hXr) (RepL.ext hx' _ _ hYr) x y
          have h4 := eq_shape he h3 (.inr (.inl ⟨_, rfl⟩))
          have h5 : (eqGuard op t x y (.agg Xs.toArray) (.agg Ys.toArray)).run P w' = .ok () w' := by
            cases op <;> simp [isEq] at he <;> assumption
          simp [execOp, ho, hX, hY, h5, h4]
        · cases hz
      · cases hz
    · cases hz
  · split at hz
    · rename_i hc
      split at hz
      · rename_i ti hti
        have ht := (hF t _ hti).kind
        split at hz
        · rename_i e q he hq
          injection hz with hz; subst hz
          refine fin hg (v := .bool _) rfl rfl (fun w' hw' => ?_) hK
          have hx' : Ext w fx w' fx := ⟨fun _ => Nat.le_refl _, fun b off _ => cell_heap hw' _, fun b off _ hn => by rw [cell_heap hw']; exact hn⟩
          obtain ⟨h1, h2, h3⟩ := nilness_run (P := P) (w := w') ht hq (RepT.ext hx' (List.prefix_refl _) (List.prefix_refl _) hU) (RepT.ext hx' (List.prefix_refl _) (List.prefix_refl _) hV)
          have h4 := eq_shape he h1 h3
          have h5 := h2 op x y hc
          simp [execOp, ho, h5, h4]
        · cases hz
      · cases hz
    · cases hz
theorem sound_un (hg : Good E B c w fx rho lam fr m a) (hG : GlobOk E w fx) {op : UnOp} {t : TypeId} {x : Operand} (ho : o.op = .unOp op t x)
    {u : AVal} (hx : ev E fr x = some u) {z : AVal} (hz : unV op u = some z) (hK : K (Abs.put fr o.dst z) m = some r) : CalmStep E B c P w fx rho lam a o r K := by
  have hU := (ev_sound hg hG hx).rep
  unfold unV at hz
  split at hz
  · injection hz with hz; subst hz
    refine fin hg (v := .int _ _) rfl rfl (fun w' hw' => ?_) hK
    simp [execOp, ho, hU.int, Op.unary, Op.intArith]
  · injection hz with hz; subst hz
    refine fin hg (v := .bool _) rfl rfl (fun w' hw' => ?_) hK
    simp [execOp, ho, hU.bool, Op.unary]
  · cases hz
theorem sound_makeInterface (hF : Fits E P) (hg : Good E B c w fx rho lam fr m a) (hG : GlobOk E w fx) {t : TypeId} {x : Operand} (ho : o.op = .makeInterface t x)
    {u : AVal} (hx : ev E fr x = some u) {ti : TI} (hti : E.T t = some ti) (hk : ti.kind ≠ .iface) (hd : isData u = true) (hK : K (Abs.put fr o.dst (.iface t (plainAgg (plainCell u)))) m = some r) : CalmStep E B c P w fx rho lam a o r K := by
  have hU := (ev_sound hg hG hx).rep
  have hr : Rep w fx (.iface t (plainAgg (plainCell u))) (.iface t (a.eval x)) := ⟨_, rfl, hU.plain hd⟩
  refine fin hg hr.toT rfl (fun w' hw' => ?_) hK
  have ht := hF t _ hti
  obtain ⟨d, hdd⟩ := Option.isSome_iff_exists.1 ht.under
  have hni : ∀ ms, d ≠ .interface ms := fun ms e => by
    have := ht.kind
    subst e
    cases hkk : ti.kind <;> rw [hkk] at this <;> simp only [kindOk] at this
    all_goals first
      | (exact hk hkk; done)
      | (rw [hdd] at this; cases this; done)
      | (obtain ⟨_, h, _⟩ := this; rw [hdd] at h; cases h; done)
      | (obtain ⟨_, h⟩ := this; rw [hdd] at h; cases h; done)
      | (obtain ⟨_, _, h⟩ := this; rw [hdd] at h; cases h; done)
      | (obtain ⟨_, _, _, h⟩ := this; rw [hdd] at h; cases h; done)
  simp only [execOp, ho, Instr.makeInterface, Sem.run_bind, run_underlying hdd, Result.andThen_ok]
  cases d <;> first | rfl | (exact absurd rfl (hni _))
theorem RepT.slice {own : Own} {es : List (List AVal)} {V : Value} (h : RepT w fx rho lam (.slice own es) V) : Rep w fx (.slice .no es) V := by
  cases own with
  | no => exact h
  | full => exact Rep.plainCell (v := .slice .full es) h
  | nil => exact Rep.plainCell (v := .slice .nil es) h
  | row e => exact h
theorem sound_len (hF : Fits E P) (hg : Good E B c w fx rho lam fr m a) (hG : GlobOk E w fx) {cl : Call} (ho : o.op = .call cl) (hc : cl.callee = .builtin .len)
    {x : Operand} {t : TypeId} (ha : cl.args[0]? = some x) (hat : cl.argTypes[0]? = some t) {u : AVal} (hx : ev E fr x = some u) {ti : TI} (hti : E.T t = some ti)
    {n : Nat} (hl : lenV ti.kind u = some n)
    (hK : K (Abs.put fr o.dst (.int .i64 n)) m = some r) : CalmStep E B c P w fx rho lam a o r K := by
  have hU := (ev_sound hg hG hx).rep
  have ht := (hF t _ hti).kind
  have hargs : (cl.args.map a.eval)[0]? = some (a.eval x) := by simp [ha]
  refine fin hg (v := .int .i64 n) rfl rfl (fun w' hw' => ?_) hK
  unfold lenV at hl
  split at hl
  · rename_i hk'
    rw [hk'] at ht
    injection hl with hl; subst hl
    have ht' : P.underlying t = some .string := ht
    have hV := hU.str
    simp only [execOp, ho, hc, resolve, invoke, builtin, Builtin.len_, Sem.run_bind, Sem.run_pure, Result.andThen_ok, hargs, hat, hV, run_underlying ht', goInt]
    rfl
  · rename_i e _ _ hk'
    rw [hk'] at ht
    injection hl with hl; subst hl
    obtain ⟨A, k, cp, Vs, hV, hk2, _⟩ := hU.slice
    have ht' : P.underlying t = some (.slice e) := ht
    subst hk2
    simp only [execOp, ho, hc, resolve, invoke, builtin, Builtin.len_, Sem.run_bind, Sem.run_pure, Result.andThen_ok, hargs, hat, hV, run_underlying ht', goInt]
  · rename_i e _ _ _ hk'
    rw [hk'] at ht
    injection hl with hl; subst hl
    obtain ⟨b, cp, h1, A, hV, hnc, _⟩ := hU
    have ht' : P.underlying t = some (.slice e) := ht
    simp only [execOp, ho, hc, resolve, invoke, builtin, Builtin.len_, Sem.run_bind, Sem.run_pure, Result.andThen_ok, hargs, hat, hV, run_underlying ht', goInt]
  · cases hl
end
end Go.Abs
namespace Go.Abs
set_option linter.unusedSectionVars false
set_option linter.unusedSimpArgs false
set_option linter.unusedVariables false
section
variable {P : Program} {E : Env} {B : Nat} {c : Ctx} {w w' : World} {fx fx' : Nat → Nat} {rho lam : List Nat} {fr : AFrame} {m : Mem} {a : Act}
variable {R : Type} {r : R} {o : Oper} {next : Act → World → Prop} {Q : Exit → Act → World → Prop} {K : AFrame → Mem → Option R}
theorem structFields_ok (hF : Fits E P) {t : TypeId} {fs : List (Nat × Nat × Bool)} (h : structFields E t = some fs) {i off size : Nat} {agg : Bool} (hi : fs[i]? = some (off, size, agg)) :
    ∃ fields f, P.underlying t = some (.struct fields) ∧ fields[i]? = some f ∧ f.offset = off ∧ P.cellsOf f.type = size ∧ aggB P f.type = agg ∧ (P.info? f.type).isSome = true ∧ (P.underlying f.type).isSome = true := by
  unfold structFields at h
  split at h
  · rename_i fs' _ _ _ hti
    injection h with h; subst h
    obtain ⟨fields, h1, h2, h3⟩ := (hF t _ hti).kind
    rw [← h2] at hi
    simp only [List.getElem?_map, Option.map_eq_some_iff] at hi
    obtain ⟨f, hf, he⟩ := hi
    injection he with e1 e2
    injection e2 with e2 e3
    have hf' : fields[i]? = some f := by rw [← hf]; simp
    obtain ⟨h4, h5⟩ := h3 f (List.mem_of_getElem? hf)
    exact ⟨fields, f, h1, hf', e1, e2, e3, h4, h5⟩
  · cases h
theorem addrOff_rep {p q : AVal} {n : Nat} {V : Value} (h : addrOff p n = some q) (hp : RepT w fx rho lam p V) :
    ∃ b off, V = .pointer (some ⟨b, off, none⟩) ∧ RepT w fx rho lam q (.pointer (some ⟨b, off + n, none⟩)) ∧ noRow q = true := by
  unfold addrOff at h
  split at h
  · injection h with h; subst h
    obtain ⟨b, h1, rfl⟩ := hp
    exact ⟨b, _, rfl, ⟨b, h1, rfl⟩, rfl⟩
  · injection h with h; subst h
    obtain ⟨b, h1, rfl⟩ := hp
    exact ⟨b, _, rfl, ⟨b, h1, rfl⟩, rfl⟩
  · rename_i cs
    injection h with h; subst h
    obtain ⟨b, off, Vs, rfl, h1, h2⟩ := hp
    refine ⟨b, off, rfl, ?_, rfl⟩
    have h3 : RepL w fx (cs.take n ++ cs.drop n) Vs := by rw [List.take_append_drop]; exact h1
    obtain ⟨V1, V2, rfl, h4, h5⟩ := h3.split
    rcases Nat.lt_or_ge cs.length n with hlt | hge
    · have : cs.drop n = [] := List.drop_eq_nil_of_le (by omega)
      rw [this] at h5 ⊢
      exact Rep.toT (v := .imm []) ⟨b, off + n, [], rfl, rfl, fun j V hj => by simp at hj⟩
    · have hl : V1.length = n := by rw [h4.length, List.length_take]; omega
      refine Rep.toT (v := .imm _) ⟨b, off + n, V2, rfl, h5, ?_⟩
      have := CellsAt.part (V0 := V1) (V1 := V2) (V2 := []) (by simpa using h2)
      rwa [hl] at this
  · cases h
theorem addr_add (b off n : Nat) : (⟨b, off, none⟩ : Addr).add n = ⟨b, off + n, none⟩ := Addr.add_mid b off n
theorem sound_fieldAddr (hF : Fits E P) (hg : Good E B c w fx rho lam fr m a) (hG : GlobOk E w fx) {t : TypeId} {x : Operand} {i : Nat} (ho : o.op = .fieldAddr t x i)
    {fs : List (Nat × Nat × Bool)} (hs : structFields E t = some fs) {p : AVal} (hx : ev E fr x = some p) {off size : Nat} {agg : Bool} (hi : fs[i]? = some (off, size, agg)) (hsz : size ≠ 0) {q : AVal}
    (hq : addrOff p off = some q) (hK : K (Abs.put fr o.dst q) m = some r) : CalmStep E B c P w fx rho lam a o r K := by
  obtain ⟨fields, f, h1, h2, h3, h4, h5, h6, h7⟩ := structFields_ok hF hs hi
  obtain ⟨b, off0, hV, hr, hnr⟩ := addrOff_rep hq (ev_sound hg hG hx).rep
  refine fin hg hr hnr (fun w' hw' => ?_) hK
  simp only [execOp, ho, Instr.fieldAt, Sem.run_bind, run_underlying h1, Result.andThen_ok, h2, hV, Instr.sureAddr, Sem.run_pure, fieldPlace, sizeOf_run h6, h4]
  rw [if_neg hsz]
  simp only [Sem.run_pure, Result.andThen_ok, h3, addr_add]
theorem part_run {t : TypeId} (h1 : (P.info? t).isSome = true) (h2 : (P.underlying t).isSome = true) {V0 V1 V2 : List Value} (hl : V1.length = P.cellsOf t) {l : List AVal} (hr : RepL w fx l V1) {v : AVal}
    (hv : ofCells (aggB P t) l = some v) : ∃ U, (∀ w' : World, (part t (V0 ++ V1 ++ V2).toArray V0.length).run P w' = .ok U w') ∧ Rep w fx v U := by
  unfold ofCells at hv
  split at hv
  · rename_i hagg
    injection hv with hv; subst hv
    refine ⟨.agg V1.toArray, fun w' => ?_, ⟨V1, rfl, hr⟩⟩
    unfold part
    rw [Sem.run_bind, isAgg_run h2]
    simp only [Result.andThen_ok]
    rw [if_pos hagg]
    simp only [Sem.run_bind, sizeOf_run h1, Result.andThen_ok, Sem.run_pure]
    congr 2
    rw [← hl]
    apply Array.ext'
    simp [Array.toList_extract]
  · rename_i hagg
    split at hv
    · injection hv with hv; subst hv
      obtain ⟨U, Ur, rfl, hU, _, hnil⟩ := hr
      rw [show Ur = [] from hnil]
      refine ⟨U, fun w' => ?_, hU⟩
      unfold part
      rw [Sem.run_bind, isAgg_run h2]
      simp only [Result.andThen_ok]
      rw [if_neg hagg]
      simp
    · cases hv
theorem sound_field (hF : Fits E P) (hg : Good E B c w fx rho lam fr m a) (hG : GlobOk E w fx) {t : TypeId} {x : Operand} {i : Nat} (ho : o.op = .field t x i)
    {fs : List (Nat × Nat × Bool)} (hs : structFields E t = some fs) {cs : List AVal} (hx : ev E fr x = some (.agg cs)) {off size : Nat} {agg : Bool} (hi : fs[i]? = some (off, size, agg)) {l : List AVal}
    (hl : sub cs off size = some l) {v : AVal} (hv : ofCells agg l = some v) (hK : K (Abs.put fr o.dst v) m = some r) : CalmStep E B c P w fx rho lam a o r K := by
  obtain ⟨fields, f, h1, h2, h3, h4, h5, h6, h7⟩ := structFields_ok hF hs hi
  obtain ⟨Vs, hV, hVr⟩ := (ev_sound hg hG hx).rep
  obtain ⟨V0, V1, V2, rfl, hl0, hl1, hr1⟩ := RepL.sub hVr hl
  obtain ⟨U, hU, hUr⟩ := part_run (w := w) (V0 := V0) (V2 := V2) h6 h7 (by rw [hl1, h4]) hr1 (by rw [h5]; exact hv)
  refine fin hg hUr.toT hUr.noRow (fun w' hw' => ?_) hK
  simp only [execOp, ho, Instr.field, Sem.run_bind, run_underlying h1, Result.andThen_ok, h2, hV, asAgg, Sem.run_pure]
  rw [h3, ← hl0, hU]
  rfl
theorem sound_index (hF : Fits E P) (hg : Good E B c w fx rho lam fr m a) (hG : GlobOk E w fx) {t : TypeId} {x y : Operand} (ho : o.op = .index t x y)
    {k : IntKind} {i : Int} (hy : ev E fr y = some (.int k i)) {u : AVal} (hx : ev E fr x = some u) {v : AVal} (hv : indexV E t u i = some v) (hK : K (Abs.put fr o.dst v) m = some r) : CalmStep E B c P w fx rho lam a o r K := by
  have hI := (ev_sound hg hG hy).rep.int
  have hU := (ev_sound hg hG hx).rep
  unfold indexV at hv
  split at hv
  · rename_i s
    split at hv
    · rename_i hti
      obtain hk := (hF t _ hti).kind
      split at hv
      · rename_i h0
        split at hv
        · rename_i b hb
          injection hv with hv; subst hv
          refine fin hg (v := .int .u8 b.toNat) rfl rfl (fun w' hw' => ?_) hK
          have hk' : P.underlying t = some .string := hk
          simp only [execOp, ho, Instr.index, hI, asIntOf, Sem.run_bind, Sem.run_pure, Result.andThen_ok, run_underlying hk', hU.str]
          rw [if_pos h0]
          have : (⟨s.toArray⟩ : ByteArray)[i.toNat]? = some b := by
            have hlt : i.toNat < s.length := by
              rcases Nat.lt_or_ge i.toNat s.length with h | h
              · exact h
              · simp [List.getElem?_eq_none h] at hb
            rw [List.getElem?_eq_getElem hlt] at hb
            injection hb with hb
            rw [getElem?_pos _ _ (by simpa [ByteArray.size] using hlt)]
            rw [← hb]
            rfl
          rw [this]
          rfl
        · cases hv
      · cases hv
    · cases hv
  · rename_i cs
    split at hv
    · rename_i n sz agg _ _ _ hti
      obtain ⟨e, h1, h2, h3, h4, h7⟩ := (hF t _ hti).kind
      split at hv
      · rename_i hin
        split at hv
        · rename_i l hl
          obtain ⟨Vs, hV, hVr⟩ := hU
          obtain ⟨V0, V1, V2, rfl, hl0, hl1, hr1⟩ := RepL.sub hVr hl
          obtain ⟨U, hUU, hUr⟩ := part_run (w := w) (V0 := V0) (V2 := V2) h4 h7 (by rw [hl1, h2]) hr1 (by rw [h3]; exact hv)
          refine fin hg hUr.toT hUr.noRow (fun w' hw' => ?_) hK
          simp only [execOp, ho, Instr.index, hI, asIntOf, Sem.run_bind, Sem.run_pure, Result.andThen_ok, run_underlying h1, hV]
          rw [if_pos hin]
          simp only [Sem.run_bind, sizeOf_run h4, Result.andThen_ok, h2]
          rw [← hl0, hUU]
          rfl
        · cases hv
      · cases hv
    · cases hv
  · cases hv
end
end Go.Abs
namespace Go.Abs
set_option linter.unusedSectionVars false
set_option linter.unusedSimpArgs false
set_option linter.unusedVariables false
section
variable {P : Program} {E : Env} {B : Nat} {c : Ctx} {w w' : World} {fx fx' : Nat → Nat} {rho lam : List Nat} {fr : AFrame} {m : Mem} {a : Act}
variable {R : Type} {r : R} {o : Oper} {next : Act → World → Prop} {Q : Exit → Act → World → Prop} {K : AFrame → Mem → Option R}
theorem elemOf_ok {n : Nat} {es : List (List AVal)} {i : Int} {l : List AVal} (h : elemOf n es i = some l) : 0 ≤ i ∧ es[i.toNat]? = some l ∧ l.length = n := by
  unfold elemOf at h
  split at h
  · rename_i h0
    split at h
    · rename_i e he
      split at h
      · rename_i hl
        injection h with h; subst h
        exact ⟨h0, he, hl⟩
      · cases h
    · cases h
  · cases h
theorem sound_indexAddr_slice (hF : Fits E P) (hg : Good E B c w fx rho lam fr m a) (hG : GlobOk E w fx) {t : TypeId} {x y : Operand} (ho : o.op = .indexAddr t x y)
    {k : IntKind} {i : Int} (hy : ev E fr y = some (.int k i)) {own : Own} {es : List (List AVal)} (hx : ev E fr x = some (.slice own es)) {e : TypeId} {ti ei : TI} (hti : E.T t = some ti) (hk : ti.kind = .slice e)
    (hei : E.T e = some ei) (h00 : ei.size ≠ 0) {l : List AVal} (hl : elemOf ei.size es i = some l) (hK : K (Abs.put fr o.dst (.imm l)) m = some r) : CalmStep E B c P w fx rho lam a o r K := by
  have hI := (ev_sound hg hG hy).rep.int
  obtain ⟨A, n, cp, Vs, hV, hn', hnc, hr, ⟨sz, hs⟩, _, hc⟩ := (ev_sound hg hG hx).rep.slice
  have ht := (hF t _ hti).kind
  rw [hk] at ht
  have ht' : P.underlying t = some (.slice e) := ht
  obtain ⟨h0, h1, h2⟩ := elemOf_ok hl
  have hsz : sz = ei.size := by rw [← h2, hs l (List.mem_of_getElem? h1)]
  subst hsz
  obtain ⟨V0, V1, V2, rfl, hl0, hr1⟩ := hr.get hs h1
  have hlt : i.toNat < es.length := by
    rcases Nat.lt_or_ge i.toNat es.length with h | h
    · exact h
    · simp [List.getElem?_eq_none h] at h1
  have hne : V0 ++ V1 ++ V2 ≠ [] := fun hne => by
    have := congrArg List.length hne
    simp at this
    have h3 := hr1.length
    rw [this.2.1] at h3
    rw [h2] at h3
    exact h00 h3.symm
  obtain ⟨b, off, rfl, hat⟩ := hc hne
  have hat1 := hat.part
  rw [hl0] at hat1
  refine fin hg (v := .imm l) (V := .pointer (some ⟨b, off + i.toNat * ei.size, none⟩)) ⟨b, _, V1, rfl, hr1, hat1⟩ rfl (fun w' hw' => ?_) hK
  have hin : 0 ≤ i ∧ i < (n : Int) := ⟨h0, by omega⟩
  simp only [execOp, ho, Instr.indexAt, hI, asIntOf, Sem.run_bind, Sem.run_pure, Result.andThen_ok, run_underlying ht', hV]
  rw [if_pos hin]
  simp only [Sem.run_bind, (hF e _ hei).sizeOf, Result.andThen_ok, Sem.run_pure, addr_add]
theorem sound_indexAddr_ref (hF : Fits E P) (hg : Good E B c w fx rho lam fr m a) (hG : GlobOk E w fx) {t : TypeId} {x y : Operand} (ho : o.op = .indexAddr t x y)
    {k : IntKind} {i : Int} (hy : ev E fr y = some (.int k i)) {q off n : Nat} (hx : ev E fr x = some (.sref q off n)) {e : TypeId} {ti ei : TI} (hti : E.T t = some ti) (hk : ti.kind = .slice e)
    (hei : E.T e = some ei) (hin : 0 ≤ i ∧ i < (n : Int)) (hK : K (Abs.put fr o.dst (.ptr q (off + i.toNat * ei.size))) m = some r) : CalmStep E B c P w fx rho lam a o r K := by
  have hI := (ev_sound hg hG hy).rep.int
  obtain ⟨b, cp, h1, A, hV, hnc, hA⟩ := (ev_sound hg hG hx).rep
  obtain rfl := hA (by omega)
  have ht := (hF t _ hti).kind
  rw [hk] at ht
  have ht' : P.underlying t = some (.slice e) := ht
  refine fin hg (v := .ptr q (off + i.toNat * ei.size)) (V := .pointer (some ⟨b, off + i.toNat * ei.size, none⟩)) ⟨b, h1, rfl⟩ rfl (fun w' hw' => ?_) hK
  simp only [execOp, ho, Instr.indexAt, hI, asIntOf, Sem.run_bind, Sem.run_pure, Result.andThen_ok, run_underlying ht', hV]
  rw [if_pos hin]
  simp only [Sem.run_bind, (hF e _ hei).sizeOf, Result.andThen_ok, Sem.run_pure, addr_add]
theorem sound_indexAddr_array (hF : Fits E P) (hg : Good E B c w fx rho lam fr m a) (hG : GlobOk E w fx) {t : TypeId} {x y : Operand} (ho : o.op = .indexAddr t x y)
    {k : IntKind} {i : Int} (hy : ev E fr y = some (.int k i)) {p : AVal} (hx : ev E fr x = some p) {ti : TI} {n sz : Nat} {agg : Bool} (hti : E.T t = some ti) (hk : ti.kind = .array n sz agg)
    (hin : 0 ≤ i ∧ i < (n : Int)) {q : AVal} (hq : addrOff p (i.toNat * sz) = some q) (hK : K (Abs.put fr o.dst q) m = some r) : CalmStep E B c P w fx rho lam a o r K := by
  have hI := (ev_sound hg hG hy).rep.int
  have ht := (hF t _ hti).kind
  rw [hk] at ht
  obtain ⟨e, h1, h2, h3, h4, h7⟩ := ht
  obtain ⟨b, off, hV, hr, hnr⟩ := addrOff_rep hq (ev_sound hg hG hx).rep
  refine fin hg hr hnr (fun w' hw' => ?_) hK
  simp only [execOp, ho, Instr.indexAt, hI, asIntOf, Sem.run_bind, Sem.run_pure, Result.andThen_ok, run_underlying h1, hV, Instr.sureAddr]
  rw [if_pos hin]
  simp only [Sem.run_bind, sizeOf_run h4, Result.andThen_ok, Sem.run_pure, addr_add, h2]
theorem bound_val {n d i : Nat} {x : Option Operand} (h : bound n (x.map (ev E fr)) d = some i) (hg : Good E B c w fx rho lam fr m a) (hG : GlobOk E w fx) (hd : d ≤ n) :
    i ≤ n ∧ ((x = none ∧ i = d) ∨ ∃ y k, x = some y ∧ a.eval y = .int k (i : Int)) := by
  cases x with
  | none => injection h with h; subst h; exact ⟨hd, .inl ⟨rfl, rfl⟩⟩
  | some y =>
    simp only [Option.map_some, bound] at h
    split at h
    · rename_i heq
      cases heq
    · rename_i k j heq
      injection heq with heq
      split at h
      · rename_i hin
        injection h with h; subst h
        have := (ev_sound hg hG heq).rep.int
        refine ⟨by omega, .inr ⟨y, k, rfl, ?_⟩⟩
        rw [this]
        congr 1
        omega
      · cases h
    · cases h
theorem sliceBounds_run {isS : Bool} {len cap l h : Nat} {lo hi : Option Operand} (hh : h ≤ cap) (hl : l ≤ h) (hlo : (lo = none ∧ l = 0) ∨ ∃ y k, lo = some y ∧ a.eval y = .int k (l : Int))
    (hhi : (hi = none ∧ h = len) ∨ ∃ y k, hi = some y ∧ a.eval y = .int k (h : Int)) : (Instr.sliceBounds isS len cap (lo.map a.eval) (hi.map a.eval) none).run P w' = .ok (l, h, cap) w' := by
  unfold Instr.sliceBounds
  rcases hhi with ⟨rfl, rfl⟩ | ⟨y, k, rfl, hy⟩
  · rcases hlo with ⟨rfl, rfl⟩ | ⟨y', k', rfl, hy'⟩
    · simp
    · have : (0 : Int) ≤ (l : Int) ∧ (l : Int) ≤ (h : Int) := ⟨by omega, by omega⟩
      simp [hy', Instr.sliceBound, asIntOf, hl]
  · rcases hlo with ⟨rfl, rfl⟩ | ⟨y', k', rfl, hy'⟩
    · simp [hy, Instr.sliceBound, asIntOf, hh]
    · simp [hy, hy', Instr.sliceBound, asIntOf, hl, hh]
theorem sound_slice (hF : Fits E P) (hg : Good E B c w fx rho lam fr m a) (hG : GlobOk E w fx) {t : TypeId} {x : Operand} {lo hi : Option Operand} (ho : o.op = .slice t x lo hi none)
    {u : AVal} (hx : ev E fr x = some u) {ti : TI} (hti : E.T t = some ti) {v : AVal} (hv : sliceV E ti.kind u (lo.map (ev E fr)) (hi.map (ev E fr)) = some v) (hK : K (Abs.put fr o.dst v) m = some r) : CalmStep E B c P w fx rho lam a o r K := by
  have hU := (ev_sound hg hG hx).rep
  have ht := (hF t _ hti).kind
  unfold sliceV at hv
  split at hv
  · rename_i s
    split at hv
    · rename_i hk
      rw [hk] at ht
      have ht' : P.underlying t = some .string := ht
      split at hv
      · rename_i h hh
        obtain ⟨h1, h2⟩ := bound_val (a := a) hh hg hG (Nat.le_refl _)
        split at hv
        · rename_i l hl
          obtain ⟨h3, h4⟩ := bound_val (a := a) hl hg hG (Nat.zero_le _)
          injection hv with hv; subst hv
          have hs : (⟨s.toArray⟩ : ByteArray).size = s.length := by simp [ByteArray.size]
          have hrun : ∀ w' : World, (Instr.sliceBounds false (⟨s.toArray⟩ : ByteArray).size (⟨s.toArray⟩ : ByteArray).size (lo.map a.eval) (hi.map a.eval) none).run P w' = .ok (l, h, (⟨s.toArray⟩ : ByteArray).size) w' :=
            fun _ => sliceBounds_run (by rw [hs]; exact h1) h3 h4 (by rw [hs]; exact h2)
          refine fin hg (v := .str ((s.take h).drop l)) rfl rfl (fun w' hw' => ?_) hK
          simp only [execOp, ho, Instr.sliceAt, Sem.run_bind, run_underlying ht', Result.andThen_ok, hU.str, Instr.slice, Option.isSome]
          simp only [Option.map_none, Bool.false_eq_true, if_false, Sem.run_bind, Sem.run_pure, Result.andThen_ok, hrun]
          congr 3
          apply ByteArray.ext
          rw [ByteArray.data_extract]
          apply Array.ext'
          simp [List.drop_take]
        · cases hv
      · cases hv
    · cases hv
  · rename_i own es
    split at hv
    · rename_i e hk
      rw [hk] at ht
      have ht' : P.underlying t = some (.slice e) := ht
      split at hv
      · rename_i ei hei
        split at hv
        · rename_i huni
          split at hv
          · rename_i h hh
            obtain ⟨h1, h2⟩ := bound_val (a := a) hh hg hG (Nat.le_refl _)
            split at hv
            · rename_i l hl
              obtain ⟨h3, h4⟩ := bound_val (a := a) hl hg hG (Nat.zero_le _)
              injection hv with hv; subst hv
              obtain ⟨A, n, cp, Vs, hV, hn', hnc, hr, hs, _, hc⟩ := hU.slice
              subst hn'
              have hrun : ∀ w' : World, (Instr.sliceBounds true es.length cp (lo.map a.eval) (hi.map a.eval) none).run P w' = .ok (l, h, cp) w' :=
                fun _ => sliceBounds_run (by omega) h3 h4 h2
              have hel : es = (es.take h).take l ++ (es.take h).drop l ++ es.drop h := by rw [List.take_append_drop, List.take_append_drop]
              rw [hel] at hr
              obtain ⟨V01, V2, rfl, hr01, hr2⟩ := hr.split
              obtain ⟨V0, V1, rfl, hr0, hr1⟩ := hr01.split
              have hsz : ∀ x ∈ es, x.length = ei.size := by simpa [uni] using huni
              have hl0 : V0.length = l * ei.size := by
                rw [hr0.length fun x hx => hsz x (List.mem_of_mem_take (List.mem_of_mem_take hx))]
                simp only [List.length_take]
                congr 1
                omega
              have hcnt : ((es.take h).drop l).length = h - l := by simp; omega
              refine fin hg (v := .slice .no ((es.take h).drop l)) (V := .slice (if cp = l then A else A.map (·.add (l * ei.size))) (h - l) (cp - l)) ?_ rfl (fun w' hw' => ?_) hK
              · refine ⟨_, _, _, V1, rfl, by rw [hcnt], by omega, hr1, ⟨ei.size, fun x hx => hsz x (List.mem_of_mem_take (List.mem_of_mem_drop hx))⟩, trivial, fun hne => ?_⟩
                obtain ⟨b, off, rfl, hat⟩ := hc (by
                  intro hnil
                  have := congrArg List.length hnil
                  simp at this
                  exact hne this.2.1)
                have hat1 := hat.part
                rw [hl0] at hat1
                have hcl : cp ≠ l := by
                  intro hcl
                  have : (es.take h).drop l = [] := by
                    apply List.length_eq_zero_iff.1
                    rw [hcnt]; omega
                  rw [this] at hr1
                  exact hne hr1
                exact ⟨b, off + l * ei.size, by rw [if_neg hcl]; simp [addr_add], hat1⟩
              · simp only [execOp, ho, Instr.sliceAt, Sem.run_bind, run_underlying ht', Result.andThen_ok, hV, Instr.slice]
                simp only [Option.map_none, Sem.run_bind, Sem.run_pure, Result.andThen_ok, hrun, (hF e _ hei).sizeOf]
            · cases hv
          · cases hv
        · cases hv
      · cases hv
    · cases hv
  · rename_i q off n
    split at hv
    · rename_i e hk
      rw [hk] at ht
      have ht' : P.underlying t = some (.slice e) := ht
      split at hv
      · rename_i ei hei
        split at hv
        · rename_i h hh
          obtain ⟨h1, h2⟩ := bound_val (a := a) hh hg hG (Nat.le_refl _)
          split at hv
          · rename_i l hl
            obtain ⟨h3, h4⟩ := bound_val (a := a) hl hg hG (Nat.zero_le _)
            injection hv with hv; subst hv
            obtain ⟨b, cp, hb, A, hV, hnc, hA⟩ := hU
            have hrun : ∀ w' : World, (Instr.sliceBounds true n cp (lo.map a.eval) (hi.map a.eval) none).run P w' = .ok (l, h, cp) w' :=
              fun _ => sliceBounds_run (by omega) h3 h4 h2
            refine fin hg (v := .sref q (off + l * ei.size) (h - l)) (V := .slice (if cp = l then A else A.map (·.add (l * ei.size))) (h - l) (cp - l)) ⟨b, cp - l, hb, _, rfl, by omega, fun hne => ?_⟩ rfl (fun w' hw' => ?_) hK
            · obtain rfl := hA (by omega)
              rw [if_neg (by omega)]; simp [addr_add]
            · simp only [execOp, ho, Instr.sliceAt, Sem.run_bind, run_underlying ht', Result.andThen_ok, hV, Instr.slice]
              simp only [Option.map_none, Sem.run_bind, Sem.run_pure, Result.andThen_ok, hrun, (hF e _ hei).sizeOf]
          · cases hv
        · cases hv
      · cases hv
    · cases hv
  · cases hv
theorem capOk_ok : ∀ {l l' : List AVal}, capOk l = some l' → ∀ {Vs : List Value}, Vs.length = l.length → (∀ (i : Nat) (v : AVal) (V : Value), l[i]? = some v → Vs[i]? = some V → RepT w fx rho lam v V) → RepCL w fx rho l' Vs
  | [], l', h, Vs, hl, _ => by
    injection h with h; subst h
    exact List.length_eq_zero_iff.1 hl
  | v :: r, l', h, [], hl, _ => by simp at hl
  | v :: r, l', h, V :: Vr, hl, hr => by
    simp only [capOk] at h
    split at h
    · rename_i l0 hl0
      have hrest : RepCL w fx rho l0 Vr := capOk_ok hl0 (by simpa using hl) fun i x X hi hX => hr (i + 1) x X (by simpa using hi) (by simpa using hX)
      have hv := hr 0 v V rfl rfl
      split at h
      · injection h with h; subst h
        exact ⟨V, Vr, rfl, hv, hrest⟩
      · split at h
        · rename_i hd
          injection h with h; subst h
          refine ⟨V, Vr, rfl, ?_, hrest⟩
          have := hv.plain hd
          cases hq : plainAgg (plainCell v) <;> rw [hq] at this <;> first | exact this | exact this.elim
        · cases h
    · cases h
theorem evs_sound (hg : Good E B c w fx rho lam fr m a) (hG : GlobOk E w fx) : ∀ {xs : List Operand} {vs : List AVal}, evs E fr xs = some vs →
    (xs.map a.eval).length = vs.length ∧ ∀ (i : Nat) (v : AVal) (V : Value), vs[i]? = some v → (xs.map a.eval)[i]? = some V → RepT w fx rho lam v V
  | [], vs, h => by injection h with h; subst h; exact ⟨rfl, fun i v V hi => by simp at hi⟩
  | x :: xr, vs, h => by
    simp only [evs] at h
    split at h
    · rename_i v l hv hl
      injection h with h; subst h
      obtain ⟨h1, h2⟩ := evs_sound hg hG hl
      refine ⟨by simpa using h1, fun i u U hi hU => ?_⟩
      cases i with
      | zero =>
        simp at hi hU; subst hi; subst hU
        exact (ev_sound hg hG hv).rep
      | succ i => exact h2 i u U (by simpa using hi) (by simpa using hU)
    · cases h
theorem sound_makeFunc (hg : Good E B c w fx rho lam fr m a) (hG : GlobOk E w fx) {f : FuncId} {first captured : Array Operand} (ho : o.op = .makeFunc (.func f) first captured)
    (h0 : first.size = 0) {vs l : List AVal} (hx : evs E fr captured.toList = some vs) (hl : capOk vs = some l) (hK : K (Abs.put fr o.dst (.fn f l)) m = some r) : CalmStep E B c P w fx rho lam a o r K := by
  obtain ⟨h1, h2⟩ := evs_sound hg hG hx
  have hr := capOk_ok hl h1 h2
  refine fin hg (v := .fn f l) ⟨_, rfl, hr⟩ rfl (fun w' hw' => ?_) hK
  have : first = #[] := Array.eq_empty_of_size_eq_zero h0
  subst this
  have e : captured.map a.eval = (captured.toList.map a.eval).toArray := by apply Array.ext'; simp
  simp [execOp, ho, Instr.makeFunc, e]
theorem sound_typeAssert (hF : Fits E P) (hg : Good E B c w fx rho lam fr m a) (hG : GlobOk E w fx) {x : Operand} {xt t : TypeId} {ok : Bool} (ho : o.op = .typeAssert x xt t ok)
    {v : AVal} (hx : ev E fr x = some v) {ti : TI} (hti : E.T t = some ti) (hk : ti.kind ≠ .iface) {z : AVal}
    (hz : (∃ y, v = .iface t y ∧ z = if ok then .tup [y, .bool true] else y) ∨ (∃ q, (v = .nilIface ∨ ∃ u y, v = .iface u y ∧ u ≠ t) ∧ ok = true ∧ ofCells ti.isAgg ti.zero = some q ∧ z = .tup [q, .bool false]))
    (hK : K (Abs.put fr o.dst z) m = some r) : CalmStep E B c P w fx rho lam a o r K := by
  have hU := (ev_sound hg hG hx).rep
  have ht := hF t _ hti
  obtain ⟨d, hdd⟩ := Option.isSome_iff_exists.1 ht.under
  have hni : ∀ ms, d ≠ .interface ms := fun ms e => by
    have := ht.kind
    subst e
    cases hkk : ti.kind <;> rw [hkk] at this <;> simp only [kindOk] at this
    all_goals first
      | (exact hk hkk; done)
      | (rw [hdd] at this; cases this; done)
      | (obtain ⟨_, h, _⟩ := this; rw [hdd] at h; cases h; done)
      | (obtain ⟨_, h⟩ := this; rw [hdd] at h; cases h; done)
      | (obtain ⟨_, _, h⟩ := this; rw [hdd] at h; cases h; done)
      | (obtain ⟨_, _, _, h⟩ := this; rw [hdd] at h; cases h; done)
  rcases hz with ⟨y, rfl, rfl⟩ | ⟨q, hv, rfl, hq, rfl⟩
  · obtain ⟨V', hV, hr⟩ := hU
    cases ok with
    | false =>
      refine fin hg (V := V') hr.toT hr.noRow (fun w' hw' => ?_) hK
      simp only [execOp, ho, Instr.typeAssert, Sem.run_bind, run_underlying hdd, Result.andThen_ok, hV]
      cases d <;> first | (exact absurd rfl (hni _)) | simp
    | true =>
      refine fin hg (v := .tup [y, .bool true]) (V := .tuple #[V', .bool true]) ?_ rfl (fun w' hw' => ?_) hK
      · exact ⟨[V', .bool true], rfl, ⟨V', _, rfl, hr.disown.toO, ⟨_, _, rfl, rfl, rfl⟩⟩⟩
      · simp only [execOp, ho, Instr.typeAssert, Sem.run_bind, run_underlying hdd, Result.andThen_ok, hV]
        cases d <;> first | (exact absurd rfl (hni _)) | simp
  · obtain ⟨i, zv, hi, hs, hb, hz0, hzs, hzc, hza, hzo⟩ := ht.info
    have hzr : Rep w fx q zv := by
      have hrl := ofConsts_rep (w := w) (fx := fx) hzc
      unfold ofCells at hq
      split at hq
      · rename_i ha
        injection hq with hq; subst hq
        obtain ⟨cs, rfl⟩ := hza ha
        exact ⟨cs.toList, by simp, hrl⟩
      · rename_i ha
        split at hq
        · rename_i q' heq
          injection hq with hq; subst hq
          rw [heq] at hrl
          obtain ⟨V0, Vr, he, h1, h2, h3⟩ := hrl
          have hone := hzo (by simpa using ha)
          have : zv.cells = #[zv] := by cases zv <;> first | rfl | cases hone
          rw [this] at he
          injection he with he _
          subst he; exact h1
        · cases hq
    refine fin hg (v := .tup [q, .bool false]) (V := .tuple #[zv, .bool false]) ?_ rfl (fun w' hw' => ?_) hK
    · exact ⟨[zv, .bool false], rfl, ⟨zv, _, rfl, hzr.disown.toO, ⟨_, _, rfl, rfl, rfl⟩⟩⟩
    · rcases hv with rfl | ⟨u, y, rfl, hne⟩
      · have hV : a.eval x = .nilIface := hU
        simp only [execOp, ho, Instr.typeAssert, Sem.run_bind, run_underlying hdd, Result.andThen_ok, hV]
        cases d <;> first | (exact absurd rfl (hni _)) | simp [zeroValue, typeInfo, hi, hz0]
      · obtain ⟨V', hV, hr⟩ := hU
        simp only [execOp, ho, Instr.typeAssert, Sem.run_bind, run_underlying hdd, Result.andThen_ok, hV]
        cases d <;> first | (exact absurd rfl (hni _)) | simp [zeroValue, typeInfo, hi, hz0, hne]
theorem isByte_ok (hF : Fits E P) {e : TypeId} (h : isByte E e = true) : P.underlying e = some (.int .u8) ∧ ∃ i z, P.info? e = some i ∧ i.size = 1 ∧ i.zero = some z ∧ z.cells.size = 1 := by
  unfold isByte at h
  split at h
  · rename_i hti
    have ht := hF e _ hti
    obtain ⟨i, z, h1, h2, h3, h4, h5, _⟩ := ht.info
    exact ⟨ht.kind, i, z, h1, h2, h4, h5⟩
  · cases h
theorem bytesOf_ok : ∀ {es : List (List AVal)} {l : List UInt8} {Vs : List Value}, bytesOf es = some l → RepLL w fx es Vs → ∃ ns : List Int, Vs = ns.map (Value.int .u8) ∧ l = ns.map (fun n => UInt8.ofNat n.toNat) ∧ ns.length = es.length
  | [], l, Vs, h, hr => by
    injection h with h; subst h
    exact ⟨[], hr, rfl, rfl⟩
  | e :: r, l, Vs, h, hr => by
    unfold bytesOf at h
    split at h
    · rename_i heq; cases heq
    · rename_i n r' heq
      injection heq with e1 e2
      subst e1; subst e2
      obtain ⟨V1, V2, rfl, h1, h2⟩ := hr
      cases hb : bytesOf r with
      | none => rw [hb] at h; cases h
      | some l0 =>
        rw [hb] at h; injection h with h; subst h
        obtain ⟨ns, rfl, rfl, hl⟩ := bytesOf_ok hb h2
        obtain ⟨V, Vr, rfl, hV, _, hnil⟩ := h1
        obtain rfl : V = .int .u8 n := hV
        obtain rfl : Vr = [] := hnil
        exact ⟨n :: ns, rfl, rfl, by simp [hl]⟩
    · cases h
theorem foldl_push (ns : List Int) : ∀ (b : ByteArray), ns.foldl (fun r n => r.push (UInt8.ofNat n.toNat)) b = ⟨b.data ++ (ns.map fun n => UInt8.ofNat n.toNat).toArray⟩ := by
  induction ns with
  | nil => intro b; simp
  | cons n r ih =>
    intro b
    rw [List.foldl_cons, ih]
    apply ByteArray.ext
    simp [ByteArray.push]
theorem sound_convert (hF : Fits E P) (hg : Good E B c w fx rho lam fr m a) (hG : GlobOk E w fx) {x : Operand} {src dst : TypeId} (ho : o.op = .convert src dst x)
    {u : AVal} (hx : ev E fr x = some u) {v : AVal} (hv : convV E src dst u = some v) (hK : K (Abs.put fr o.dst v) m = some r) : CalmStep E B c P w fx rho lam a o r K := by
  have hU := (ev_sound hg hG hx).rep
  unfold convV at hv
  split at hv
  · rename_i si k _ _ _ hsi hdi
    obtain ⟨sd, hsd⟩ := Option.isSome_iff_exists.1 (hF _ _ hsi).under
    have hk : P.underlying dst = some (.int k) := (hF _ _ hdi).kind
    split at hv
    · injection hv with hv; subst hv
      refine fin hg (v := .int _ _) rfl rfl (fun w' hw' => ?_) hK
      simp [execOp, ho, convert, run_underlying hsd, run_underlying hk, hU.int, Conv.intToInt]
    · cases hv
  · rename_i si _ _ _ hsi hdi
    obtain ⟨sd, hsd⟩ := Option.isSome_iff_exists.1 (hF _ _ hsi).under
    have hk : P.underlying dst = some .string := (hF _ _ hdi).kind
    split at hv
    · injection hv with hv; subst hv
      refine fin hg (v := .str _) rfl rfl (fun w' hw' => ?_) hK
      simp [execOp, ho, convert, run_underlying hsd, run_underlying hk, hU.str]
    · injection hv with hv; subst hv
      refine fin hg (v := .str _) rfl rfl (fun w' hw' => ?_) hK
      simp [execOp, ho, convert, run_underlying hsd, run_underlying hk, hU.int, Conv.intToString]
    · split at hv
      · rename_i e he
        split at hv
        · rename_i hby
          obtain ⟨hbe, _⟩ := isByte_ok hF hby
          have hs' := (hF _ _ hsi).kind
          rw [he] at hs'
          have hse : P.underlying src = some (.slice e) := hs'
          rename_i es _ _
          unfold allByte bytesL at hv
          cases hbo : bytesOf es with
          | none => rw [hbo] at hv; cases hv
          | some l =>
            rw [hbo] at hv; injection hv with hv; subst hv
            obtain ⟨A, n, cp, Vs, hV, hn', hnc, hr, hs, _, hc⟩ := hU.slice
            obtain ⟨ns, rfl, rfl, hl⟩ := bytesOf_ok hbo hr
            refine fin hg (v := .str _) rfl rfl (fun w' hw' => ?_) hK
            simp only [execOp, ho, convert, Sem.run_bind, run_underlying hse, run_underlying hk, run_underlying hbe, Result.andThen_ok, hV]
            cases A with
            | none =>
              have : ns = [] := by
                cases ns with
                | nil => rfl
                | cons n0 nr => obtain ⟨b, off, h, _⟩ := hc (by simp); cases h
              subst this
              simp [Conv.bytesToString]
              rfl
            | some ad =>
              have hload : (loadCells ad n).run P w' = .ok (ns.map (Value.int .u8)).toArray w' := by
                cases ns with
                | nil =>
                  simp at hl
                  have : n = 0 := by rw [hn', ← hl]
                  subst this
                  simp [loadCells, loadCellsFrom]
                | cons n0 nr =>
                  obtain ⟨b, off, h, hat⟩ := hc (by simp)
                  injection h with h; subst h
                  have h9 : n = ((n0 :: nr).map (Value.int .u8)).length := by rw [hn', List.length_map, hl]
                  rw [h9]
                  exact run_loadCells_list w' _ _ fun j V hj => by rw [addr_add, cell_heap hw']; exact (hat j V hj).1
              rw [run_bytesToString w' ad n cp ns hload]
              simp only [Sem.run_pure, Result.andThen_ok]
              rw [foldl_push]
              have e0 : (ByteArray.empty.data ++ (ns.map fun n => UInt8.ofNat n.toNat).toArray) = (ns.map fun n => UInt8.ofNat n.toNat).toArray := by
                apply Array.ext'
                simp [ByteArray.empty, ByteArray.emptyWithCapacity]
                try rfl
              rw [e0]
        · cases hv
      · cases hv
    · cases hv
  · cases hv
theorem evs_two (hg : Good E B c w fx rho lam fr m a) (hG : GlobOk E w fx) {cl : Call} {k k' : IntKind} {i j : Int} (h : evs E fr cl.args.toList = some [.int k i, .int k' j]) : cl.args.map a.eval = #[.int k i, .int k' j] := by
  obtain ⟨h1, h2⟩ := evs_sound hg hG h
  have e0 := h2 0 _ _ rfl (List.getElem?_eq_getElem (by rw [h1]; simp))
  have e1 := h2 1 _ _ rfl (List.getElem?_eq_getElem (by rw [h1]; simp))
  apply Array.ext'
  rw [Array.toList_map]
  apply List.ext_getElem (by rw [h1]; rfl)
  intro n hn1 hn2
  match n, hn2 with
  | 0, _ => exact e0.int
  | 1, _ => exact e1.int
theorem sound_max (hg : Good E B c w fx rho lam fr m a) (hG : GlobOk E w fx) {cl : Call} (ho : o.op = .call cl) {k k' : IntKind} {i j : Int}
    (h : evs E fr cl.args.toList = some [.int k i, .int k' j]) {v : AVal} (hc : (cl.callee = .builtin .max ∧ v = .int k (if j > i then j else i)) ∨ (cl.callee = .builtin .min ∧ v = .int k (if j < i then j else i)))
    (hK : K (Abs.put fr o.dst v) m = some r) : CalmStep E B c P w fx rho lam a o r K := by
  have hargs := evs_two hg hG h
  rcases hc with ⟨hc, rfl⟩ | ⟨hc, rfl⟩
  · refine fin hg (v := .int _ _) rfl rfl (fun w' hw' => ?_) hK
    simp [execOp, ho, hc, resolve, invoke, builtin, Builtin.max_, Builtin.max2, hargs]
  · refine fin hg (v := .int _ _) rfl rfl (fun w' hw' => ?_) hK
    simp [execOp, ho, hc, resolve, invoke, builtin, Builtin.min_, Builtin.min2, hargs]
theorem repLL_nil {sz : Nat} (hz : sz ≠ 0) : ∀ {es : List (List AVal)}, RepLL w fx es [] → (∀ x ∈ es, x.length = sz) → es = []
  | [], _, _ => rfl
  | e :: r, h, hs => by
    have := RepLL.length h hs
    simp only [List.length_nil, List.length_cons, Nat.add_mul] at this
    omega
theorem sound_slice3 (hF : Fits E P) (hg : Good E B c w fx rho lam fr m a) (hG : GlobOk E w fx) {t : TypeId} {x : Operand} {lo hi mx : Option Operand} (ho : o.op = .slice t x lo hi mx)
    {u : AVal} (hx : ev E fr x = some u) {ti : TI} (hti : E.T t = some ti) (hK : slice3C E ti.kind u (lo.map (ev E fr)) (hi.map (ev E fr)) (mx.map (ev E fr)) (fun v => K (Abs.put fr o.dst v) m) = some r) : CalmStep E B c P w fx rho lam a o r K := by
  have hU := (ev_sound hg hG hx).rep
  have ht := (hF t _ hti).kind
  unfold slice3C at hK
  split at hK
  · rename_i own es
    split at hK
    · rename_i e hk
      rw [hk] at ht
      have ht' : P.underlying t = some (.slice e) := ht
      split at hK
      · rename_i ei hei
        split at hK
        · rename_i hcu
          rw [Bool.and_eq_true] at hcu
          have hz : ei.size ≠ 0 := by simpa using hcu.1
          have hsz : ∀ x ∈ es, x.length = ei.size := by simpa [uni] using hcu.2
          split at hK
          · rename_i h1 h2 h3 k1 h k2 q hlo hhi hmx
            split at hK
            · rename_i hin
              split at hK
              · rename_i heq
                subst heq
                have hlo' : lo = none := by cases lo <;> first | rfl | cases hlo
                subst hlo'
                obtain ⟨y, rfl, hy⟩ : ∃ y, hi = some y ∧ ev E fr y = some (.int k1 h) := by
                  cases hi with
                  | none => cases hhi
                  | some y => exact ⟨y, rfl, by simpa using hhi⟩
                obtain ⟨z, rfl, hzz⟩ : ∃ y, mx = some y ∧ ev E fr y = some (.int k2 h) := by
                  cases mx with
                  | none => cases hmx
                  | some y => exact ⟨y, rfl, by simpa using hmx⟩
                have hY := (ev_sound hg hG hy).rep.int
                have hZ := (ev_sound hg hG hzz).rep.int
                obtain ⟨A, n, cp, Vs, hV, hn', hnc, hr, hs, _, hc⟩ := hU.slice
                subst hn'
                obtain ⟨k, rfl⟩ : ∃ k : Nat, h = (k : Int) := ⟨h.toNat, by omega⟩
                have hkl : k ≤ es.length := by omega
                rw [Int.toNat_natCast] at hK
                have hrun : ∀ w' : World, (Instr.sliceBounds true es.length cp none (some (a.eval y)) (some (a.eval z))).run P w' = .ok (0, k, k) w' := fun w' => by
                  unfold Instr.sliceBounds
                  have h9 : k ≤ cp := by omega
                  simp [hY, hZ, Instr.sliceBound, asIntOf, h9]
                have hel : es = es.take k ++ es.drop k := by rw [List.take_append_drop]
                have hr' := hr
                rw [hel] at hr'
                obtain ⟨V0, V1, rfl, hr0, hr1⟩ := hr'.split
                have hnone : A = none → k = 0 := fun hA => by
                  have h8 : V0 ++ V1 = [] := by
                    rcases Classical.em (V0 ++ V1 = []) with h | h
                    · exact h
                    · obtain ⟨b, off, hb, _⟩ := hc h
                      rw [hA] at hb; cases hb
                  rw [h8] at hr
                  have := repLL_nil hz hr hsz
                  rw [this] at hkl
                  simpa using hkl
                refine fin hg (v := .slice .full (es.take k)) (V := .slice (if k = 0 then A else A.map (·.add (0 * ei.size))) (k - 0) (k - 0)) ?_ rfl (fun w' hw' => ?_) hK
                · refine ⟨_, _, _, V0, rfl, by simp; omega, Nat.le_refl _, hr0, ⟨ei.size, fun x hx => hsz x (List.mem_of_mem_take hx)⟩, ⟨rfl, fun hA => ?_⟩, fun hne => ?_⟩
                  · by_cases h0 : k = 0
                    · omega
                    · rw [if_neg h0] at hA
                      have : A = none := by cases A <;> first | rfl | cases hA
                      have := hnone this
                      omega
                  · obtain ⟨b, off, rfl, hat⟩ := hc (by
                      intro hnil
                      have := congrArg List.length hnil
                      simp at this
                      exact hne this.1)
                    refine ⟨b, off, ?_, hat.head⟩
                    split
                    · rfl
                    · simp [addr_add]
                · simp only [execOp, ho, Instr.sliceAt, Sem.run_bind, run_underlying ht', Result.andThen_ok, hV, Instr.slice]
                  simp only [Option.map_none, Option.map_some, Sem.run_bind, Sem.run_pure, Result.andThen_ok, hrun, (hF e _ hei).sizeOf]
              · cases hK
            · cases hK
          · cases hK
        · cases hK
      · cases hK
    · cases hK
  · cases hK
end
end Go.Abs
namespace Go.Abs
set_option linter.unusedSectionVars false
theorem overlay_eq {α : Type} : ∀ {l vs l' : List α}, overlay l vs = some l' → ∃ q r, l = q ++ r ∧ q.length = vs.length ∧ l' = vs ++ r
  | l, [], l', h => by
    have : l' = l := by cases l <;> (injection h with h; exact h.symm)
    subst this; exact ⟨[], _, rfl, rfl, rfl⟩
  | [], _ :: _, _, h => by cases h
  | x :: r, v :: vs, l', h => by
    simp only [overlay] at h
    cases ho : overlay r vs with
    | none => rw [ho] at h; cases h
    | some z =>
      rw [ho] at h; injection h with h; subst h
      obtain ⟨q, r', rfl, h2, rfl⟩ := overlay_eq ho
      exact ⟨x :: q, r', rfl, by simp [h2], rfl⟩
theorem lput_eq {α : Type} : ∀ {l : List α} {off : Nat} {vs l' : List α}, lput l off vs = some l' → ∃ p q r, l = p ++ q ++ r ∧ p.length = off ∧ q.length = vs.length ∧ l' = p ++ vs ++ r
  | l, 0, vs, l', h => by
    have h' : overlay l vs = some l' := by cases l <;> exact h
    obtain ⟨q, r, h1, h2, h3⟩ := overlay_eq h'
    exact ⟨[], q, r, by simp [h1], rfl, h2, by simp [h3]⟩
  | [], _ + 1, _, _, h => by cases h
  | x :: r, off + 1, vs, l', h => by
    simp only [lput] at h
    cases ho : lput r off vs with
    | none => rw [ho] at h; cases h
    | some z =>
      rw [ho] at h; injection h with h; subst h
      obtain ⟨p, q, r', rfl, h2, h3, rfl⟩ := lput_eq ho
      exact ⟨x :: p, q, r', rfl, by simp [h2], h3, rfl⟩
theorem foldl_sets (off : Nat) : ∀ (V : List Value) (k : Nat) (p q r : List Value) , p.length = off + k → q.length = V.length →
    (V.zipIdx k).foldl (fun (cs : Array Value) (x : Value × Nat) => cs.setIfInBounds (off + x.2) x.1) (p ++ q ++ r).toArray = (p ++ V ++ r).toArray
  | [], k, p, q, r, _, hq => by
    have : q = [] := List.length_eq_zero_iff.1 (by simpa using hq)
    subst this; simp
  | v :: V, k, p, [], r, _, hq => by simp at hq
  | v :: V, k, p, u :: q, r, hp, hq => by
    rw [List.zipIdx_cons, List.foldl_cons]
    have e : (p ++ u :: q ++ r).toArray.setIfInBounds (off + k) v = ((p ++ [v]) ++ q ++ r).toArray := by
      apply Array.ext'
      rw [Array.toList_setIfInBounds]
      simp only [List.append_assoc, List.cons_append]
      rw [← hp]
      rw [List.set_append_right _ _ (Nat.le_refl _)]
      simp
    rw [e, foldl_sets off V (k + 1) (p ++ [v]) q r (by simp [hp]; omega) (by simpa using hq)]
    simp
theorem fill_ok {w : World} {fx : Nat → Nat} {place : Nat → Option (Nat × Nat)} : ∀ {ps : List (Nat × AVal)} {Ps : List (Nat × Value)} {cells cells' : List AVal} {Cs : List Value}, fill place cells ps = some cells' →
    RepL w fx cells Cs → Ps.length = ps.length → (∀ (i : Nat) (p : Nat × AVal) (q : Nat × Value), ps[i]? = some p → Ps[i]? = some q → p.1 = q.1 ∧ RepL w fx (cellsOf p.2) q.2.cells.toList) →
    ∃ Cs', Instr.fill place Cs.toArray Ps = some Cs'.toArray ∧ RepL w fx cells' Cs'
  | [], Ps, cells, cells', Cs, h, hr, hl, _ => by
    have : Ps = [] := List.length_eq_zero_iff.1 hl
    subst this
    have : cells' = cells := by unfold fill at h; injection h with h; exact h.symm
    subst this
    exact ⟨Cs, rfl, hr⟩
  | (i, v) :: ps, [], _, _, _, _, _, hl, _ => by simp at hl
  | (i, v) :: ps, (j, V) :: Ps, cells, cells', Cs, h, hr, hl, hp => by
    obtain ⟨e, hv⟩ := hp 0 _ _ rfl rfl
    simp only at e hv
    subst e
    unfold fill at h
    split at h
    · cases h
    · rename_i off size hpl
      split at h
      · rename_i hsz
        split at h
        · rename_i c1 hc1
          obtain ⟨p, q, r, rfl, h1, h2, rfl⟩ := lput_eq hc1
          obtain ⟨V01, V2, rfl, ha, hb⟩ := hr.split
          obtain ⟨V0, V1, rfl, hc, hd⟩ := ha.split
          have hVl : V.cells.size = size := by
            have := hv.length
            rw [Array.length_toList, hsz] at this
            exact this
          have hr1 : RepL w fx (p ++ cellsOf v ++ r) (V0 ++ V.cells.toList ++ V2) := (hc.append hv).append hb
          obtain ⟨Cs', hf, hr'⟩ := fill_ok (Ps := Ps) h hr1 (by simpa using hl) fun i x y hx hy => hp (i + 1) x y (by simpa using hx) (by simpa using hy)
          refine ⟨Cs', ?_, hr'⟩
          rw [← hf]
          conv => lhs; unfold Instr.fill
          simp only [hpl]
          have hb1 : ¬ ((decide (V.cells.size ≠ size) || decide (off + V.cells.size > (V0 ++ V1 ++ V2).toArray.size)) = true) := by
            rw [Bool.or_eq_true, decide_eq_true_eq, decide_eq_true_eq]
            rintro (h | h)
            · exact h hVl
            · simp only [List.size_toArray, List.length_append, hc.length, hd.length, h1, h2, hsz, hVl] at h
              omega
          rw [if_neg hb1]
          congr 1
          have := foldl_sets off V.cells.toList 0 V0 V1 V2 (by rw [hc.length, h1]; rfl) (by rw [hd.length, h2, hsz, Array.length_toList, hVl])
          rw [← this, ← Array.foldl_toList, Array.toList_zipIdx]
        · cases h
      · cases h
theorem plainCell_cellsOf_rep {w : World} {fx : Nat → Nat} {v : AVal} {V : Value} (h : Rep w fx v V) : RepL w fx (cellsOf v) V.cells.toList := by
  cases v with
  | agg cs => obtain ⟨Vs, rfl, hr⟩ := h; exact hr
  | bool _ => obtain rfl := h; exact ⟨_, _, rfl, rfl, rfl, rfl⟩
  | int _ _ => obtain rfl := h; exact ⟨_, _, rfl, rfl, rfl, rfl⟩
  | str _ => obtain rfl := h; exact ⟨_, _, rfl, rfl, rfl, rfl⟩
  | nilptr => obtain rfl := h; exact ⟨_, _, rfl, rfl, rfl, rfl⟩
  | imm _ => have h' := h; obtain ⟨b, off, Vs, rfl, _⟩ := h'; exact ⟨_, _, rfl, h, rfl, rfl⟩
  | slice _ _ => have h' := h; obtain ⟨A, n, cp, Vs, rfl, _⟩ := h'; exact ⟨_, _, rfl, h, rfl, rfl⟩
  | fn _ _ => have h' := h; obtain ⟨_, rfl⟩ := h'; exact ⟨_, _, rfl, h, rfl, rfl⟩
  | nilfunc => obtain rfl := h; exact ⟨_, _, rfl, rfl, rfl, rfl⟩
  | iface _ _ => have h' := h; obtain ⟨_, rfl, _⟩ := h'; exact ⟨_, _, rfl, h, rfl, rfl⟩
  | nilIface => obtain rfl := h; exact ⟨_, _, rfl, rfl, rfl, rfl⟩
  | nilmap => obtain rfl := h; exact ⟨_, _, rfl, rfl, rfl, rfl⟩
  | ptr _ _ => exact h.elim
  | loc _ _ => exact h.elim
  | tup _ => exact h.elim
  | err _ =>
    have h' := h
    rcases h' with ⟨_, rfl⟩ | ⟨_, _, _, rfl⟩
    · exact ⟨_, _, rfl, h, rfl, rfl⟩
    · exact ⟨_, _, rfl, h, rfl, rfl⟩
  | mapp _ => exact h.elim
  | sref _ _ _ => exact h.elim
  | any => exact h.elim
section
variable {P : Program} {E : Env} {B : Nat} {c : Ctx} {w w' : World} {fx fx' : Nat → Nat} {rho lam : List Nat} {fr : AFrame} {m : Mem} {a : Act}
variable {R : Type} {r : R} {o : Oper} {next : Act → World → Prop} {Q : Exit → Act → World → Prop} {K : AFrame → Mem → Option R}
def fxSet (fx : Nat → Nat) (g n : Nat) : Nat → Nat := fun b => if b = g then n else fx b
theorem heap_alloc_get (w : World) (ob : Obj) (b : Nat) (hb : b < w.heap.size) : (w.alloc ob).heap[b]? = w.heap[b]? := by
  simp only [World.alloc]
  rw [Array.getElem?_push, if_neg (by omega)]
theorem heap_alloc_at (w : World) (ob : Obj) : (w.alloc ob).heap[w.heap.size]? = some ob := by
  simp only [World.alloc]
  rw [Array.getElem?_push, if_pos rfl]
theorem heap_alloc_size (w : World) (ob : Obj) : (w.alloc ob).heap.size = w.heap.size + 1 := by simp [World.alloc, -World.alloc_eq]
theorem cell_same {w w' : World} {b off : Nat} (h : w'.heap[b]? = w.heap[b]?) : w'.cell? ⟨b, off, none⟩ = w.cell? ⟨b, off, none⟩ := by
  simp only [World.cell?, h]
theorem Good.grow (h : Good E B c w fx rho lam fr m a) (n : Nat) (hsz : w'.heap.size = w.heap.size + 1) (hold : ∀ b, b < w.heap.size → w'.heap[b]? = w.heap[b]?)
    (h1 : w'.os = w.os) (h2 : w'.tape = w.tape) (h3 : w'.output = w.output) :
    Good E B c w' (fxSet fx w.heap.size n) rho lam fr m a ∧ Ext w fx w' (fxSet fx w.heap.size n) := by
  have hx : Ext w fx w' (fxSet fx w.heap.size n) := {
    le := fun b => by
      unfold fxSet
      split
      · rename_i e; rw [e, h.fxb _ (Nat.le_refl _)]; omega
      · exact Nat.le_refl _
    cell := fun b off ho => by
      have hb : b < w.heap.size := by
        rcases Nat.lt_or_ge b w.heap.size with h' | h'
        · exact h'
        · rw [h.fxb b h'] at ho; omega
      exact cell_same (hold b hb)
    none := fun b off h0 hn => by
      have hb : b < w.heap.size := by
        rcases Nat.lt_or_ge b w.heap.size with h' | h'
        · exact h'
        · rw [h.fxb b h'] at h0; omega
      rw [cell_same (hold b hb)]; exact hn }
  refine ⟨h.world hx (by omega) w.heap.size ?_ ?_ ?_ ?_ h1 h2 h3, hx⟩
  · rcases Nat.eq_zero_or_pos (total w rho lam fr m a.tmps.toList w.heap.size) with h0 | h0
    · exact h0
    · have := (h.low _ h0).2.1; omega
  · intro hlt; have := h.keep.size; omega
  · intro b hb hne
    exact ⟨hold b hb, by unfold fxSet; rw [if_neg hne]⟩
  · intro b hb
    unfold fxSet
    rw [if_neg (by omega)]
    exact h.fxb b (by omega)
theorem Good.alloc (h : Good E B c w fx rho lam fr m a) (ob : Obj) (n : Nat) :
    Good E B c (w.alloc ob) (fxSet fx w.heap.size n) rho lam fr m a ∧ Ext w fx (w.alloc ob) (fxSet fx w.heap.size n) :=
  h.grow n (heap_alloc_size w ob) (fun b hb => heap_alloc_get w ob b hb) rfl rfl rfl
theorem cellsAt_new (Vs : List Value) (e : TypeId) : CellsAt (w.alloc (.cells Vs.toArray e)) (fxSet fx w.heap.size Vs.length) w.heap.size 0 Vs := fun j V hj => by
  have hlt : j < Vs.length := by
    rcases Nat.lt_or_ge j Vs.length with h | h
    · exact h
    · simp [List.getElem?_eq_none h] at hj
  refine ⟨?_, by unfold fxSet; rw [if_pos rfl]; omega⟩
  simp only [World.cell?, heap_alloc_at, Nat.zero_add]
  simpa using hj
def MayOwn (B : Nat) (c : Ctx) (w : World) (tot : Nat → Nat) (own : Nat → Nat) : Prop :=
  ∀ b, 0 < own b → tot b + own b ≤ 1 ∧ B ≤ b ∧ b < w.heap.size ∧ (b < c.w0.heap.size → c.S0 b)
theorem total_alloc (h : Good E B c w fx rho lam fr m a) (ob : Obj) (b : Nat) : total (w.alloc ob) rho lam fr m a.tmps.toList b = total w rho lam fr m a.tmps.toList b := by
  have hrho : ∀ g ∈ rho, (w.alloc ob).heap[g]? = w.heap[g]? := fun g hg' => heap_alloc_get w ob g (h.low g (total_pos_rho hg')).2.1
  have hlam : ∀ g ∈ lam, (w.alloc ob).heap[g]? = w.heap[g]? := fun g hg' => heap_alloc_get w ob g (h.low g (total_pos_lam hg')).2.1
  unfold total
  rw [ownObjs_world fr.locs lam _ hlam, ownObjs_world m rho _ hrho]
theorem total_new (h : Good E B c w fx rho lam fr m a) : total w rho lam fr m a.tmps.toList w.heap.size = 0 := by
  rcases Nat.eq_zero_or_pos (total w rho lam fr m a.tmps.toList w.heap.size) with h0 | h0
  · exact h0
  · have := (h.low _ h0).2.1; omega
theorem count_snoc (l : List Nat) (g b : Nat) : (l ++ [g]).count b = l.count b + (if b = g then 1 else 0) := by
  rw [List.count_append, List.count_singleton]
  congr 1
  by_cases e : g = b
  · simp [e]
  · simp [e, Ne.symm e]
theorem Good.newLoc (h : Good E B c w fx rho lam fr m a) (ob : Obj) (ao : AObj) (hob : ∀ w' fx', Ext w fx w' fx' → w'.heap[w.heap.size]? = some ob → (∀ b, b < w.heap.size → w'.heap[b]? = w.heap[b]? ∧ fx' b = fx b) → ObjRep E B w' fx' rho mayHoldL ao w.heap.size)
    (hown : MayOwn B c w (total w rho lam fr m a.tmps.toList) (ownObj (w.alloc ob) ao w.heap.size)) (hlow : B ≤ w.heap.size) :
    Good E B c (w.alloc ob) fx rho (lam ++ [w.heap.size]) { fr with locs := fr.locs ++ [ao] } m a := by
  obtain ⟨hg, hx⟩ := h.alloc ob 0
  have hfx : fxSet fx w.heap.size 0 = fx := by
    funext b; unfold fxSet; split
    · rename_i e; rw [e, h.fxb _ (Nat.le_refl _)]
    · rfl
  rw [hfx] at hg hx
  have ht : ∀ b, total (w.alloc ob) rho (lam ++ [w.heap.size]) { fr with locs := fr.locs ++ [ao] } m a.tmps.toList b = total w rho lam fr m a.tmps.toList b + (if b = w.heap.size then 1 else 0) + ownObj (w.alloc ob) ao w.heap.size b := fun b => by
    have ho : ownObjs (w.alloc ob) (fr.locs ++ [ao]) (lam ++ [w.heap.size]) b = ownObjs (w.alloc ob) fr.locs lam b + ownObj (w.alloc ob) ao w.heap.size b := by
      rw [ownObjs_append _ _ _ _ _ _ h.locs.1.symm]
      simp [ownObjs]
    have := total_alloc h ob b
    simp only [total, count_snoc, ho] at this ⊢
    omega
  have hz := total_new h
  exact {
    size := hg.size
    tmp := fun i v V hi hV => by
      obtain ⟨h1, h2⟩ := hg.tmp i v V hi hV
      exact ⟨RepT.ext (Ext.refl _ _) (List.prefix_refl _) (List.prefix_append _ _) h1, h2⟩
    defs := hg.defs
    locs := by
      refine ⟨by simp [h.locs.1], fun i ob' g hi hgi => ?_⟩
      rcases Nat.lt_or_ge i fr.locs.length with hlt | hge
      · rw [List.getElem?_append_left hlt] at hi
        rw [List.getElem?_append_left (by rw [h.locs.1]; exact hlt)] at hgi
        exact hg.locs.2 i ob' g hi hgi
      · rw [List.getElem?_append_right hge] at hi
        rw [List.getElem?_append_right (by rw [h.locs.1]; exact hge), h.locs.1] at hgi
        cases hk : i - fr.locs.length with
        | zero =>
          rw [hk] at hi hgi
          simp at hi hgi; subst hi; subst hgi
          exact hob _ _ hx (heap_alloc_at w ob) fun b hb => ⟨heap_alloc_get w ob b hb, rfl⟩
        | succ k => rw [hk] at hi; simp at hi
    mem := hg.mem
    fx0 := fun b hb => by
      rcases hb with hb | hb
      · exact hg.fx0 b (.inl hb)
      · rcases List.mem_append.1 hb with hb | hb
        · exact hg.fx0 b (.inr hb)
        · simp at hb; subst hb; exact h.fxb _ (Nat.le_refl _)
    fxb := hg.fxb
    tot := fun b => by
      show total (w.alloc ob) rho (lam ++ [w.heap.size]) { fr with locs := fr.locs ++ [ao] } m a.tmps.toList b ≤ 1
      rw [ht]
      have := h.tot b
      rcases Nat.eq_zero_or_pos (ownObj (w.alloc ob) ao w.heap.size b) with h0 | h0
      · split
        · rename_i e; subst e; omega
        · omega
      · obtain ⟨h1, _, h2, _⟩ := hown b h0
        rw [if_neg (by omega)]
        omega
    low := fun b hb => by
      replace hb : 0 < total (w.alloc ob) rho (lam ++ [w.heap.size]) { fr with locs := fr.locs ++ [ao] } m a.tmps.toList b := hb
      rw [ht] at hb
      by_cases e : b = w.heap.size
      · subst e
        refine ⟨hlow, by rw [heap_alloc_size]; omega, fun hlt => ?_⟩
        have := h.keep.size; omega
      · rw [if_neg e] at hb
        rcases Nat.eq_zero_or_pos (ownObj (w.alloc ob) ao w.heap.size b) with h0 | h0
        · obtain ⟨x, y, z⟩ := h.low b (by omega)
          exact ⟨x, by rw [heap_alloc_size]; omega, z⟩
        · obtain ⟨_, x, y, z⟩ := hown b h0
          exact ⟨x, by rw [heap_alloc_size]; omega, z⟩
    keep := hg.keep
    pre := hg.pre }
theorem Good.newPtr (h : Good E B c w fx rho lam fr m a) (ob : Obj) (ao : AObj) (hob : ∀ w' fx' rho', Ext w fx w' fx' → rho <+: rho' → w'.heap[w.heap.size]? = some ob → (∀ b, b < w.heap.size → w'.heap[b]? = w.heap[b]? ∧ fx' b = fx b) → ObjRep E B w' fx' rho' (mayHold m.length) ao w.heap.size)
    (hown : MayOwn B c w (total w rho lam fr m a.tmps.toList) (ownObj (w.alloc ob) ao w.heap.size)) (hlow : B ≤ w.heap.size) :
    Good E B c (w.alloc ob) fx (rho ++ [w.heap.size]) lam fr (m ++ [ao]) a := by
  obtain ⟨hg, hx⟩ := h.alloc ob 0
  have hfx : fxSet fx w.heap.size 0 = fx := by
    funext b; unfold fxSet; split
    · rename_i e; rw [e, h.fxb _ (Nat.le_refl _)]
    · rfl
  rw [hfx] at hg hx
  have ht : ∀ b, total (w.alloc ob) (rho ++ [w.heap.size]) lam fr (m ++ [ao]) a.tmps.toList b = total w rho lam fr m a.tmps.toList b + (if b = w.heap.size then 1 else 0) + ownObj (w.alloc ob) ao w.heap.size b := fun b => by
    have ho : ownObjs (w.alloc ob) (m ++ [ao]) (rho ++ [w.heap.size]) b = ownObjs (w.alloc ob) m rho b + ownObj (w.alloc ob) ao w.heap.size b := by
      rw [ownObjs_append _ _ _ _ _ _ h.mem.1.symm]
      simp [ownObjs]
    have := total_alloc h ob b
    simp only [total, count_snoc, ho] at this ⊢
    omega
  have hz := total_new h
  have hp : rho <+: rho ++ [w.heap.size] := List.prefix_append _ _
  have hgrow : ∀ g ∈ rho, (w.alloc ob).heap[g]? = w.heap[g]? := fun g hg' => heap_alloc_get w ob g (h.low g (total_pos_rho hg')).2.1
  exact {
    size := hg.size
    tmp := fun i v V hi hV => by
      obtain ⟨h1, h2⟩ := hg.tmp i v V hi hV
      exact ⟨RepT.ext (Ext.refl _ _) hp (List.prefix_refl _) h1, h2⟩
    defs := hg.defs.ext (Ext.refl _ _) hp
    locs := hg.locs.ext (Ext.refl _ _) hp (fun _ _ => rfl) fun _ _ => ⟨rfl, rfl⟩
    mem := by
      refine ⟨by simp [h.mem.1], fun i ob' g hi hgi => ?_⟩
      rcases Nat.lt_or_ge i m.length with hlt | hge
      · rw [List.getElem?_append_left hlt] at hi
        rw [List.getElem?_append_left (by rw [h.mem.1]; exact hlt)] at hgi
        exact (hg.mem.2 i ob' g hi hgi).ext (Ext.refl _ _) hp rfl fun _ _ => ⟨rfl, rfl⟩
      · rw [List.getElem?_append_right hge] at hi
        rw [List.getElem?_append_right (by rw [h.mem.1]; exact hge), h.mem.1] at hgi
        cases hk : i - m.length with
        | zero =>
          rw [hk] at hi hgi
          simp at hi hgi; subst hi; subst hgi
          have : i = m.length := by omega
          subst this
          exact hob _ _ _ hx hp (heap_alloc_at w ob) fun b hb => ⟨heap_alloc_get w ob b hb, rfl⟩
        | succ k => rw [hk] at hi; simp at hi
    fx0 := fun b hb => by
      rcases hb with hb | hb
      · rcases List.mem_append.1 hb with hb | hb
        · exact hg.fx0 b (.inl hb)
        · simp at hb; subst hb; exact h.fxb _ (Nat.le_refl _)
      · exact hg.fx0 b (.inr hb)
    fxb := hg.fxb
    tot := fun b => by
      show total (w.alloc ob) (rho ++ [w.heap.size]) lam fr (m ++ [ao]) a.tmps.toList b ≤ 1
      rw [ht]
      have := h.tot b
      rcases Nat.eq_zero_or_pos (ownObj (w.alloc ob) ao w.heap.size b) with h0 | h0
      · split
        · rename_i e; subst e; omega
        · omega
      · obtain ⟨h1, _, h2, _⟩ := hown b h0
        rw [if_neg (by omega)]
        omega
    low := fun b hb => by
      replace hb : 0 < total (w.alloc ob) (rho ++ [w.heap.size]) lam fr (m ++ [ao]) a.tmps.toList b := hb
      rw [ht] at hb
      by_cases e : b = w.heap.size
      · subst e
        refine ⟨hlow, by rw [heap_alloc_size]; omega, fun hlt => ?_⟩
        have := h.keep.size; omega
      · rw [if_neg e] at hb
        rcases Nat.eq_zero_or_pos (ownObj (w.alloc ob) ao w.heap.size b) with h0 | h0
        · obtain ⟨x, y, z⟩ := h.low b (by omega)
          exact ⟨x, by rw [heap_alloc_size]; omega, z⟩
        · obtain ⟨_, x, y, z⟩ := hown b h0
          exact ⟨x, by rw [heap_alloc_size]; omega, z⟩
    keep := hg.keep
    pre := h.pre.trans hp }
end
end Go.Abs
namespace Go.Abs
set_option linter.unusedSectionVars false
section
variable {P : Program} {E : Env} {B : Nat} {c : Ctx} {w w' : World} {fx fx' : Nat → Nat} {rho lam : List Nat} {fr : AFrame} {m : Mem} {a : Act}
variable {R : Type} {r : R} {o : Oper} {next : Act → World → Prop} {Q : Exit → Act → World → Prop} {K : AFrame → Mem → Option R}
theorem RepL.toOL : ∀ {l : List AVal} {Vs : List Value}, RepL w fx l Vs → RepOL w fx rho l Vs
  | [], _, h => h
  | v :: r, _, h => by
    obtain ⟨V, Vr, e, h1, _, h3⟩ := h
    exact ⟨V, Vr, e, h1.toO, RepL.toOL h3⟩
def Holds (hold : AVal → Bool) : Prop := ∀ v, hold v = true → (∀ cs, v ≠ .agg cs) ∧ (∀ i j, v ≠ .loc i j) ∧ (∀ vs, v ≠ .tup vs) ∧ v ≠ .any ∧ (∀ o, v ≠ .mapp o) ∧ (∀ o f n, v ≠ .sref o f n)
theorem holdsL : Holds mayHoldL := fun v h => by
  cases v <;> first | (cases h; done) | (refine ⟨?_, ?_, ?_, ?_, ?_, ?_⟩ <;> (intros; intro e; cases e))
theorem holds (n : Nat) : Holds (mayHold n) := fun v h => by
  cases v <;> first | (cases h; done) | (refine ⟨?_, ?_, ?_, ?_, ?_, ?_⟩ <;> (intros; intro e; cases e))
theorem RepT.one {hold : AVal → Bool} (hh : Holds hold) {v : AVal} {V : Value} (h : RepT w fx rho lam v V) (hv : hold v = true) : RepO w fx rho v V ∧ V.oneCell' = true := by
  obtain ⟨h1, h2, h3, h4, h5, h6⟩ := hh v hv
  cases v with
  | agg cs => exact absurd rfl (h1 cs)
  | loc i j => exact absurd rfl (h2 i j)
  | tup vs => exact absurd rfl (h3 vs)
  | any => exact absurd rfl h4
  | bool _ => obtain rfl := h; exact ⟨rfl, rfl⟩
  | int _ _ => obtain rfl := h; exact ⟨rfl, rfl⟩
  | str _ => obtain rfl := h; exact ⟨rfl, rfl⟩
  | nilptr => obtain rfl := h; exact ⟨rfl, rfl⟩
  | nilfunc => obtain rfl := h; exact ⟨rfl, rfl⟩
  | nilIface => obtain rfl := h; exact ⟨rfl, rfl⟩
  | nilmap => obtain rfl := h; exact ⟨rfl, rfl⟩
  | mapp o => exact absurd rfl (h5 o)
  | sref o f n => exact absurd rfl (h6 o f n)
  | err b =>
    have h' := h
    rcases h' with ⟨_, rfl⟩ | ⟨_, _, _, rfl⟩
    · exact ⟨h, rfl⟩
    · exact ⟨h, rfl⟩
  | ptr i j => have h' := h; obtain ⟨b, hb, rfl⟩ := h'; exact ⟨h, rfl⟩
  | imm cs => have h' := h; obtain ⟨b, off, Vs, rfl, _⟩ := h'; exact ⟨h, rfl⟩
  | fn f cs => have h' := h; obtain ⟨Vs, rfl, _⟩ := h'; exact ⟨h, rfl⟩
  | iface t v => have h' := h; obtain ⟨V', rfl, _⟩ := h'; exact ⟨h, rfl⟩
  | slice own es =>
    obtain ⟨A, n, cp, Vs, hV, _⟩ := RepT.slice h
    refine ⟨?_, by rw [hV]; rfl⟩
    cases own <;> exact h
theorem cellsOf_obj {hold : AVal → Bool} (hh : Holds hold) {v : AVal} {V : Value} (h : RepT w fx rho lam v V) (ho : OwnOk E B w fx v V) (hv : (cellsOf v).all hold = true) :
    RepOL w fx rho (cellsOf v) V.cells.toList ∧ (∀ (i : Nat) (x : AVal) (X : Value), (cellsOf v)[i]? = some x → V.cells.toList[i]? = some X → OwnOk E B w fx x X ∧ X.oneCell' = true ∧ hold x = true ∧ ∀ b, ownB x X b ≤ ownB v V b) ∧
      ∀ b, ownSum (cellsOf v) V.cells.toList b = ownB v V b := by
  have hone : (∀ cs, v ≠ .agg cs) → V.oneCell' = true → RepO w fx rho v V → cellsOf v = [v] → V.cells.toList = [V] →
      RepOL w fx rho (cellsOf v) V.cells.toList ∧ (∀ (i : Nat) (x : AVal) (X : Value), (cellsOf v)[i]? = some x → V.cells.toList[i]? = some X → OwnOk E B w fx x X ∧ X.oneCell' = true ∧ hold x = true ∧ ∀ b, ownB x X b ≤ ownB v V b) ∧
      ∀ b, ownSum (cellsOf v) V.cells.toList b = ownB v V b := by
    intro _ h1 h2 h3 h4
    rw [h3] at hv
    rw [h3, h4]
    refine ⟨⟨V, [], rfl, h2, rfl⟩, fun i x X hi hX => ?_, fun b => by simp [ownSum]⟩
    cases i with
    | zero => simp at hi hX; subst hi; subst hX; exact ⟨ho, h1, by simpa using hv, fun b => Nat.le_refl _⟩
    | succ i => simp at hi
  have hcell : ∀ V : Value, V.oneCell' = true → V.cells.toList = [V] := fun V h => by cases V <;> first | rfl | cases h
  cases v with
  | agg cs =>
    obtain ⟨Vs, rfl, hr⟩ := h
    have hnr : ∀ x ∈ cs, ∀ X, Rep w fx x X → noRow x = true := fun x _ X hX => hX.noRow
    refine ⟨hr.toOL, fun i x X hi hX => ?_, fun b => ?_⟩
    · obtain ⟨X', hX', hrep, hone'⟩ := hr.get hi
      have : X' = X := by
        have hX2 : Vs[i]? = some X := hX
        rw [hX'] at hX2; injection hX2
      subst this
      exact ⟨noRow_ok hrep.noRow _, hone', List.all_eq_true.1 hv x (List.mem_of_getElem? hi), fun b => by rw [noRow_own hrep.noRow]; omega⟩
    · show ownSum cs Vs b = 0
      clear hone hcell hv ho hnr
      induction cs generalizing Vs with
      | nil => rfl
      | cons x r ih =>
        obtain ⟨X, Xr, rfl, h1, _, h3⟩ := hr
        simp only [ownSum]
        rw [noRow_own h1.noRow, ih Xr h3]
  | _ =>
    obtain ⟨h1, h2⟩ := RepT.one hh h (by simpa [cellsOf] using hv)
    exact hone (fun cs e => by cases e) h2 h1 rfl (hcell _ h2)
theorem promoO {t : Option TypeId} {v : AVal} {V : Value} (h : RepO w fx rho v V) : RepO w fx rho (promo E t v) V := by
  rcases promo_cases E t v with e | ⟨e, ei, rfl, rfl, hei, hp, e1⟩
  · rw [e]; exact h
  · rw [e1]; exact Rep.plainCell (v := .slice .nil []) h
theorem promoL_ok : ∀ {ts : List (Option TypeId)} {l : List AVal} {Vs : List Value}, RepOL w fx rho l Vs → (∀ (i : Nat) (v : AVal) (V : Value), l[i]? = some v → Vs[i]? = some V → OwnOk E B w fx v V) →
    RepOL w fx rho (promoL E ts l) Vs ∧ (∀ (i : Nat) (x : AVal) (X : Value), (promoL E ts l)[i]? = some x → Vs[i]? = some X → ∃ v, l[i]? = some v ∧ OwnOk E B w fx x X ∧ (x = v ∨ ∃ e, x = .slice (.row e) []) ∧ ∀ b, ownB x X b = ownB v X b) ∧
      ∀ b, ownSum (promoL E ts l) Vs b = ownSum l Vs b
  | [], l, Vs, h, ho => ⟨h, fun i x X hi hX => ⟨x, hi, ho i x X hi hX, .inl rfl, fun _ => rfl⟩, fun _ => rfl⟩
  | _ :: _, [], Vs, h, ho => ⟨h, fun i x X hi hX => ⟨x, hi, ho i x X hi hX, .inl rfl, fun _ => rfl⟩, fun _ => rfl⟩
  | t :: ts, v :: l, Vs, h, ho => by
    obtain ⟨V, Vr, rfl, h1, h3⟩ := h
    obtain ⟨a1, a2, a3⟩ := promoL_ok (ts := ts) h3 fun i v V hi hV => ho (i + 1) v V (by simpa using hi) (by simpa using hV)
    have hov := ho 0 v V rfl rfl
    obtain ⟨b1, b2, b3⟩ := promo_rep (E := E) (lam := []) t h1.toT hov
    refine ⟨⟨V, Vr, rfl, promoO h1, a1⟩, fun i x X hi hX => ?_, fun b => ?_⟩
    · cases i with
      | zero =>
        simp [promoL] at hi hX; subst hi; subst hX
        refine ⟨v, rfl, b2, ?_, b3⟩
        rcases promo_cases E t v with e | ⟨e, ei, rfl, rfl, hei, hp, e1⟩
        · exact .inl e
        · exact .inr ⟨e, e1⟩
      | succ i =>
        simp [promoL] at hi hX
        exact a2 i x X hi hX
    · simp only [promoL, ownSum, a3 b, b3 b]
theorem sound_box (hB : B ≤ c.w0.heap.size) (hg : Good E B c w fx rho lam fr m a) (hG : GlobOk E w fx) (hn : NextOk E B c r K next) {t : TypeId} {x : Operand} (ho : o.op = .box t x)
    {v : AVal} (hx : ev E fr x = some v)
    (ts : List (Option TypeId)) (hbld : okBld E t (promoL E ts (cellsOf v)) = true) (hK : ((cellsOf v).all mayHoldL = true ∧ K (Abs.put { (leave1 fr x) with locs := fr.locs ++ [.cells (promoL E ts (cellsOf v))] } o.dst (.loc fr.locs.length 0)) m = some r) ∨
      ((cellsOf v).all (mayHold m.length) = true ∧ K (Abs.put (leave1 fr x) o.dst (.ptr m.length 0)) (m ++ [.cells (promoL E ts (cellsOf v))]) = some r)) : o.wp P a w next Q := by
  have hlow : B ≤ w.heap.size := Nat.le_trans hB hg.keep.size
  obtain ⟨h1, h2⟩ := leave_sound hg hx
  have he := ev_sound hg hG hx
  have hloc : (leave1 fr x).locs = fr.locs := by cases x <;> rfl
  have hrun : (execOp a.eval o).run P w = .ok (.value (.pointer (some ⟨w.heap.size, 0, none⟩))) (w.alloc (.cells (a.eval x).cells t)) := by
    simp [execOp, ho, Instr.box, newVar, newRow]
  have hxx : Ext w fx (w.alloc (.cells (a.eval x).cells t)) fx := by
    have := (hg.alloc (.cells (a.eval x).cells t) 0).2
    have hfx : fxSet fx w.heap.size 0 = fx := by
      funext b; unfold fxSet; split
      · rename_i e; rw [e, hg.fxb _ (Nat.le_refl _)]
      · rfl
    rwa [hfx] at this
  have hbv : blockVals (w.alloc (.cells (a.eval x).cells t)) w.heap.size = (a.eval x).cells.toList := by
    simp only [blockVals, heap_alloc_at]
  rcases hK with ⟨hall, hK⟩ | ⟨hall, hK⟩
  · obtain ⟨q1, q2, q3⟩ := cellsOf_obj holdsL he.rep he.own hall
    obtain ⟨p1, p2, p3⟩ := promoL_ok (E := E) (B := B) (ts := ts) q1 fun i y Y hi hY => (q2 i y Y hi hY).1
    have hgd := h1.newLoc (.cells (a.eval x).cells t) (.cells (promoL E ts (cellsOf v))) (fun w' fx' hx' hh hsame => by
        refine ⟨_, _, hh, RepOL.ext hx' (List.prefix_refl _) p1, fun i y Y hi hY => ?_, okBld_of hbld⟩
        obtain ⟨y0, e1, e2, e3, e4⟩ := p2 i y Y hi hY
        obtain ⟨z1, z2, z3, z4⟩ := q2 i y0 Y e1 hY
        refine ⟨e2.ext hx' fun g hg' => hsame g ?_, z2, ?_⟩
        · have := he.le g
          have := z4 g
          have := e4 g
          exact (hg.low g (by omega)).2.1
        · rcases e3 with rfl | ⟨e, rfl⟩
          · exact z3
          · rfl)
      (fun b hb => by
        simp only [ownObj, hbv, p3, q3] at hb ⊢
        have h3 := h2 b
        have h4 := hg.tot b
        have h5 := hg.low b (by have := he.le b; omega)
        exact ⟨by omega, h5⟩) hlow
    rw [hloc] at hgd
    refine wp_value hrun (hn _ _ _ _ _ _ _ hK (hgd.put o.dst (v := .loc fr.locs.length 0) (V := .pointer (some ⟨w.heap.size, 0, none⟩)) ?_ rfl) (hG.ext hxx))
    exact ⟨w.heap.size, by rw [← hg.locs.1]; simp, rfl⟩
  · obtain ⟨q1, q2, q3⟩ := cellsOf_obj (holds m.length) he.rep he.own hall
    obtain ⟨p1, p2, p3⟩ := promoL_ok (E := E) (B := B) (ts := ts) q1 fun i y Y hi hY => (q2 i y Y hi hY).1
    have hgd := h1.newPtr (.cells (a.eval x).cells t) (.cells (promoL E ts (cellsOf v))) (fun w' fx' rho' hx' hp hh hsame => by
        refine ⟨_, _, hh, RepOL.ext hx' hp p1, fun i y Y hi hY => ?_, okBld_of hbld⟩
        obtain ⟨y0, e1, e2, e3, e4⟩ := p2 i y Y hi hY
        obtain ⟨z1, z2, z3, z4⟩ := q2 i y0 Y e1 hY
        refine ⟨e2.ext hx' fun g hg' => hsame g ?_, z2, ?_⟩
        · have := he.le g
          have := z4 g
          have := e4 g
          exact (hg.low g (by omega)).2.1
        · rcases e3 with rfl | ⟨e, rfl⟩
          · exact z3
          · rfl)
      (fun b hb => by
        simp only [ownObj, hbv, p3, q3] at hb ⊢
        have h3 := h2 b
        have h4 := hg.tot b
        have h5 := hg.low b (by have := he.le b; omega)
        exact ⟨by omega, h5⟩) hlow
    refine wp_value hrun (hn _ _ _ _ _ _ _ hK (hgd.put o.dst (v := .ptr m.length 0) (V := .pointer (some ⟨w.heap.size, 0, none⟩)) ?_ rfl) (hG.ext hxx))
    exact ⟨w.heap.size, by rw [← hg.mem.1]; simp, rfl⟩
theorem ofConst1_hold {V : Value} {v : AVal} (h : ofConst1 V = some v) : mayHoldL v = true ∧ ∀ n, mayHold n v = true := by
  unfold ofConst1 at h
  split at h <;> cases h <;> exact ⟨rfl, fun _ => rfl⟩
theorem ofConsts_hold : ∀ {Vs : List Value} {l : List AVal}, ofConsts Vs = some l → l.all mayHoldL = true ∧ ∀ n, l.all (mayHold n) = true
  | [], l, h => by injection h with h; subst h; exact ⟨rfl, fun _ => rfl⟩
  | V :: Vr, l, h => by
    simp only [ofConsts] at h
    split at h
    · rename_i x y ha hb
      injection h with h; subst h
      obtain ⟨h1, h2⟩ := ofConst1_hold ha
      obtain ⟨h3, h4⟩ := ofConsts_hold hb
      exact ⟨by simp [h1]; simpa using h3, fun n => by simp [h2 n]; simpa using h4 n⟩
    · cases h
theorem sound_alloc (hB : B ≤ c.w0.heap.size) (hF : Fits E P) (hg : Good E B c w fx rho lam fr m a) (hG : GlobOk E w fx) (hn : NextOk E B c r K next) {t : TypeId} (ho : o.op = .alloc t)
    {ti : TI} (hti : E.T t = some ti)
    (ts : List (Option TypeId)) (hbld : okBld E t (promoL E ts ti.zero) = true) (hK : K (Abs.put { fr with locs := fr.locs ++ [.cells (promoL E ts ti.zero)] } o.dst (.loc fr.locs.length 0)) m = some r ∨
      K (Abs.put fr o.dst (.ptr m.length 0)) (m ++ [.cells (promoL E ts ti.zero)]) = some r) : o.wp P a w next Q := by
  have hlow : B ≤ w.heap.size := Nat.le_trans hB hg.keep.size
  obtain ⟨i, z, hi, hs, hb, hz0, hzs, hzc, hza, hzo⟩ := (hF t _ hti).info
  have hrun : (execOp a.eval o).run P w = .ok (.value (.pointer (some ⟨w.heap.size, 0, none⟩))) (w.alloc (.cells z.cells t)) := by
    simp [execOp, ho, Instr.alloc, newVar, newRow, zeroValue, typeInfo, hi, hz0]
  have hxx : Ext w fx (w.alloc (.cells z.cells t)) fx := by
    have := (hg.alloc (.cells z.cells t) 0).2
    have hfx : fxSet fx w.heap.size 0 = fx := by
      funext b; unfold fxSet; split
      · rename_i e; rw [e, hg.fxb _ (Nat.le_refl _)]
      · rfl
    rwa [hfx] at this
  have hbv : blockVals (w.alloc (.cells z.cells t)) w.heap.size = z.cells.toList := by
    simp only [blockVals, heap_alloc_at]
  obtain ⟨k1, k2⟩ := ofConsts_hold hzc
  have hprom : ∀ (w' : World) (fx' : Nat → Nat) (rho' : List Nat), _ := fun w' fx' rho' => promoL_ok (E := E) (B := B) (ts := ts) (w := w') (fx := fx') (rho := rho') (ofConsts_rep hzc).toOL fun i y Y hi' hY => by
    obtain ⟨Y', e1, e2, e3⟩ := (ofConsts_rep (w := w') (fx := fx') hzc).get hi'
    rw [hY] at e1; injection e1 with e1; subst e1
    exact noRow_ok e2.noRow _
  have hown : ∀ b, ownSum (promoL E ts ti.zero) z.cells.toList b = 0 := fun b => by
    rw [(hprom w fx rho).2.2 b]
    clear hprom
    have hr := ofConsts_rep (w := w) (fx := fx) hzc
    clear hzc k1 k2
    generalize ti.zero = l at hr
    generalize z.cells.toList = Vs at hr
    induction l generalizing Vs with
    | nil => rfl
    | cons x r ih =>
      obtain ⟨X, Xr, rfl, h1, _, h3⟩ := hr
      simp only [ownSum]
      rw [noRow_own h1.noRow, ih Xr h3]
  rcases hK with hK | hK
  · have hgd := hg.newLoc (.cells z.cells t) (.cells (promoL E ts ti.zero)) (fun w' fx' hx' hh hsame => by
        refine ⟨_, _, hh, (hprom w' fx' rho).1, fun i y Y hi' hY => ?_, okBld_of hbld⟩
        obtain ⟨y0, q1, q2, q3, _⟩ := (hprom w' fx' rho).2.1 i y Y hi' hY
        obtain ⟨Y', e1, e2, e3⟩ := (ofConsts_rep (w := w') (fx := fx') hzc).get q1
        rw [hY] at e1; injection e1 with e1; subst e1
        refine ⟨q2, e3, ?_⟩
        rcases q3 with rfl | ⟨e, rfl⟩
        · exact List.all_eq_true.1 k1 y (List.mem_of_getElem? q1)
        · rfl)
      (fun b hb => by simp only [ownObj, hbv, hown] at hb; omega) hlow
    refine wp_value hrun (hn _ _ _ _ _ _ _ hK (hgd.put o.dst (v := .loc fr.locs.length 0) (V := .pointer (some ⟨w.heap.size, 0, none⟩)) ?_ rfl) (hG.ext hxx))
    exact ⟨w.heap.size, by rw [← hg.locs.1]; simp, rfl⟩
  · have hgd := hg.newPtr (.cells z.cells t) (.cells (promoL E ts ti.zero)) (fun w' fx' rho' hx' hp hh hsame => by
        refine ⟨_, _, hh, (hprom w' fx' rho').1, fun i y Y hi' hY => ?_, okBld_of hbld⟩
        obtain ⟨y0, q1, q2, q3, _⟩ := (hprom w' fx' rho').2.1 i y Y hi' hY
        obtain ⟨Y', e1, e2, e3⟩ := (ofConsts_rep (w := w') (fx := fx') hzc).get q1
        rw [hY] at e1; injection e1 with e1; subst e1
        refine ⟨q2, e3, ?_⟩
        rcases q3 with rfl | ⟨e, rfl⟩
        · exact List.all_eq_true.1 (k2 _) y (List.mem_of_getElem? q1)
        · rfl)
      (fun b hb => by simp only [ownObj, hbv, hown] at hb; omega) hlow
    refine wp_value hrun (hn _ _ _ _ _ _ _ hK (hgd.put o.dst (v := .ptr m.length 0) (V := .pointer (some ⟨w.heap.size, 0, none⟩)) ?_ rfl) (hG.ext hxx))
    exact ⟨w.heap.size, by rw [← hg.mem.1]; simp, rfl⟩
theorem sound_range (hB : B ≤ c.w0.heap.size) (hF : Fits E P) (hg : Good E B c w fx rho lam fr m a) (hG : GlobOk E w fx) (hn : NextOk E B c r K next) {t : TypeId} {x : Operand} (ho : o.op = .range t x)
    {s : List UInt8} (hx : ev E fr x = some (.str s)) {ti : TI} (hti : E.T t = some ti) (hk : ti.kind = .str)
    (hK : K (Abs.put { fr with locs := fr.locs ++ [.iter s 0] } o.dst (.loc fr.locs.length 0)) m = some r) : o.wp P a w next Q := by
  have hlow : B ≤ w.heap.size := Nat.le_trans hB hg.keep.size
  have ht := (hF t _ hti).kind
  rw [hk] at ht
  have ht' : P.underlying t = some .string := ht
  have hX := (ev_sound hg hG hx).rep.str
  have hrun : (execOp a.eval o).run P w = .ok (.value (.pointer (some ⟨w.heap.size, 0, none⟩))) (w.alloc (.stringIter ⟨s.toArray⟩ 0)) := by
    simp [execOp, ho, Instr.range, run_underlying ht', hX]
  have hxx : Ext w fx (w.alloc (.stringIter ⟨s.toArray⟩ 0)) fx := by
    have := (hg.alloc (.stringIter ⟨s.toArray⟩ 0) 0).2
    have hfx : fxSet fx w.heap.size 0 = fx := by
      funext b; unfold fxSet; split
      · rename_i e; rw [e, hg.fxb _ (Nat.le_refl _)]
      · rfl
    rwa [hfx] at this
  have hgd := hg.newLoc (.stringIter ⟨s.toArray⟩ 0) (.iter s 0) (fun w' fx' hx' hh hsame => hh) (fun b hb => by simp [ownObj] at hb) hlow
  refine wp_value hrun (hn _ _ _ _ _ _ _ hK (hgd.put o.dst (v := .loc fr.locs.length 0) (V := .pointer (some ⟨w.heap.size, 0, none⟩)) ?_ rfl) (hG.ext hxx))
  exact ⟨w.heap.size, by rw [← hg.locs.1]; simp, rfl⟩
theorem evParts_ok (hg : Good E B c w fx rho lam fr m a) (hG : GlobOk E w fx) : ∀ {xs : List (Nat × Operand)} {ps : List (Nat × AVal)}, evParts E fr xs = some ps →
    (xs.map fun (i, x) => (i, a.eval x)).length = ps.length ∧ ∀ (i : Nat) (p : Nat × AVal) (q : Nat × Value), ps[i]? = some p → (xs.map fun (i, x) => (i, a.eval x))[i]? = some q → p.1 = q.1 ∧ Rep w fx p.2 q.2
  | [], ps, h => by injection h with h; subst h; exact ⟨rfl, fun i p q hi => by simp at hi⟩
  | (j, x) :: xr, ps, h => by
    simp only [evParts] at h
    split at h
    · rename_i v l hv hl
      split at h
      · rename_i hd
        injection h with h; subst h
        obtain ⟨h1, h2⟩ := evParts_ok hg hG hl
        refine ⟨by simpa using h1, fun i p q hi hq => ?_⟩
        cases i with
        | zero =>
          simp at hi hq; subst hi; subst hq
          exact ⟨rfl, (ev_sound hg hG hv).rep.data hd⟩
        | succ i => exact h2 i p q (by simpa using hi) (by simpa using hq)
      · cases h
    · cases h
end
end Go.Abs
namespace Go.Abs
set_option linter.unusedSectionVars false
section
variable {P : Program} {E : Env} {B : Nat} {c : Ctx} {w w' : World} {fx fx' : Nat → Nat} {rho lam : List Nat} {fr : AFrame} {m : Mem} {a : Act}
variable {R : Type} {r : R} {o : Oper} {next : Act → World → Prop} {Q : Exit → Act → World → Prop} {K : AFrame → Mem → Option R}
theorem mapM_places : ∀ (l : List Field), (∀ f ∈ l, (P.info? f.type).isSome = true) → l.mapM (fun f => (P.info? f.type).map fun i => (f.offset, i.size)) = some (l.map fun f => (f.offset, P.cellsOf f.type))
  | [], _ => by simp
  | f :: r, h => by
    obtain ⟨i, hi⟩ := Option.isSome_iff_exists.1 (h f (List.mem_cons_self ..))
    have := mapM_places r fun f hf => h f (List.mem_cons_of_mem _ hf)
    simp [List.mapM_cons, hi, this, Program.cellsOf]
theorem zeroRep {t : TypeId} {ti : TI} (ht : FitsT P t ti) : ∃ i z, P.info? t = some i ∧ i.zero = some z ∧ z.cells.size = ti.size ∧ i.size = ti.size ∧ RepL w fx ti.zero z.cells.toList := by
  obtain ⟨i, z, hi, hs, hb, hz0, hzs, hzc, hza, hzo⟩ := ht.info
  exact ⟨i, z, hi, hz0, hzs, hs, ofConsts_rep hzc⟩
theorem sound_build_struct (hF : Fits E P) (hg : Good E B c w fx rho lam fr m a) (hG : GlobOk E w fx) {t : TypeId} {parts : Array (Nat × Operand)} (ho : o.op = .build t parts)
    {ti : TI} (hti : E.T t = some ti) {fs : List (Nat × Nat × Bool)} (hk : ti.kind = .struct fs) {ps : List (Nat × AVal)} (hps : evParts E fr parts.toList = some ps) {cs : List AVal}
    (hcs : fill (fun i => (fs[i]?).map fun f => (f.1, f.2.1)) ti.zero ps = some cs) (hK : K (Abs.put fr o.dst (.agg cs)) m = some r) : CalmStep E B c P w fx rho lam a o r K := by
  have ht := hF t _ hti
  obtain ⟨i, z, hi, hz, hzs, his, hzr⟩ := zeroRep (w := w) (fx := fx) ht
  have hkk := ht.kind
  rw [hk] at hkk
  obtain ⟨fields, h1, h2, h3⟩ := hkk
  obtain ⟨q1, q2⟩ := evParts_ok hg hG hps
  obtain ⟨Cs, hf, hr⟩ := fill_ok hcs hzr q1 fun i p q hp hq => by
    obtain ⟨e1, e2⟩ := q2 i p q hp hq
    exact ⟨e1, plainCell_cellsOf_rep e2⟩
  have hplace : (fun i : Nat => (fs[i]?).map fun f : Nat × Nat × Bool => (f.1, f.2.1)) = (fun i : Nat => (fields.toList.map fun f => (f.offset, P.cellsOf f.type)).toArray[i]?) := by
    funext i
    rw [← h2]
    simp [List.getElem?_map]
    cases fields[i]? <;> rfl
  rw [hplace] at hf
  have hb : P.built t (parts.map fun (i, x) => (i, a.eval x)).toList = some Cs.toArray := by
    unfold Program.built
    rw [hi, h1]
    simp only [hz, mapM_places _ fun f hf => (h3 f hf).1]
    simpa using hf
  have hrep : Rep w fx (.agg cs) (.agg Cs.toArray) := ⟨Cs, rfl, hr⟩
  refine fin hg hrep.toT rfl (fun w' hw' => ?_) hK
  simp only [execOp, ho, Sem.run_bind, run_build w' t _ _ hb, Result.andThen_ok, Sem.run_pure]
theorem sound_build_array (hF : Fits E P) (hg : Good E B c w fx rho lam fr m a) (hG : GlobOk E w fx) {t : TypeId} {parts : Array (Nat × Operand)} (ho : o.op = .build t parts)
    {ti : TI} (hti : E.T t = some ti) {n sz : Nat} {agg : Bool} (hk : ti.kind = .array n sz agg) {ps : List (Nat × AVal)} (hps : evParts E fr parts.toList = some ps) {cs : List AVal}
    (hcs : fill (fun i => some (i * sz, sz)) ti.zero ps = some cs) (hK : K (Abs.put fr o.dst (.agg cs)) m = some r) : CalmStep E B c P w fx rho lam a o r K := by
  have ht := hF t _ hti
  obtain ⟨i, z, hi, hz, hzs, his, hzr⟩ := zeroRep (w := w) (fx := fx) ht
  have hkk := ht.kind
  rw [hk] at hkk
  obtain ⟨e, h1, h2, h3, h4, h7⟩ := hkk
  obtain ⟨q1, q2⟩ := evParts_ok hg hG hps
  obtain ⟨Cs, hf, hr⟩ := fill_ok hcs hzr q1 fun i p q hp hq => by
    obtain ⟨e1, e2⟩ := q2 i p q hp hq
    exact ⟨e1, plainCell_cellsOf_rep e2⟩
  obtain ⟨ie, hie⟩ := Option.isSome_iff_exists.1 h4
  have hsz : ie.size = sz := by rw [← h2]; simp [Program.cellsOf, hie]
  have hb : P.built t (parts.map fun (i, x) => (i, a.eval x)).toList = some Cs.toArray := by
    unfold Program.built
    rw [hi, h1]
    simp only [hz, hie, hsz]
    simpa using hf
  have hrep : Rep w fx (.agg cs) (.agg Cs.toArray) := ⟨Cs, rfl, hr⟩
  refine fin hg hrep.toT rfl (fun w' hw' => ?_) hK
  simp only [execOp, ho, Sem.run_bind, run_build w' t _ _ hb, Result.andThen_ok, Sem.run_pure]
theorem repl_length (n : Nat) (z : List AVal) : (repl n z).length = n * z.length := by
  induction n with
  | zero => simp [repl]
  | succ n ih => simp [repl, ih, Nat.add_mul]; omega
theorem repl_get (z : List AVal) (hz : 0 < z.length) : ∀ (n i : Nat), i < n * z.length → (repl n z)[i]? = z[i % z.length]?
  | 0, i, h => by simp at h
  | n + 1, i, h => by
    simp only [repl]
    rcases Nat.lt_or_ge i z.length with hlt | hge
    · rw [List.getElem?_append_left hlt, Nat.mod_eq_of_lt hlt]
    · rw [List.getElem?_append_right hge, repl_get z hz n (i - z.length) (by rw [Nat.add_mul] at h; omega)]
      congr 1
      rw [Nat.mod_eq_sub_mod hge]
theorem RepL.of_get : ∀ {l : List AVal} {Vs : List Value}, Vs.length = l.length → (∀ (i : Nat) (v : AVal) (V : Value), l[i]? = some v → Vs[i]? = some V → Rep w fx v V ∧ V.oneCell' = true) → RepL w fx l Vs
  | [], Vs, hl, _ => List.length_eq_zero_iff.1 hl
  | x :: r, [], hl, _ => by simp at hl
  | x :: r, V :: Vr, hl, h => by
    obtain ⟨h1, h2⟩ := h 0 x V rfl rfl
    exact ⟨V, Vr, rfl, h1, h2, RepL.of_get (by simpa using hl) fun i v U hi hU => h (i + 1) v U (by simpa using hi) (by simpa using hU)⟩
theorem chunks_rep {sz : Nat} : ∀ (n : Nat) {cs : List AVal} {Cs : List Value}, cs.length = n * sz → RepL w fx cs Cs → RepLL w fx (chunks sz n cs) Cs
  | 0, cs, Cs, hl, hr => by
    have : cs = [] := List.length_eq_zero_iff.1 (by simpa using hl)
    subst this
    exact hr
  | n + 1, cs, Cs, hl, hr => by
    have e : cs = cs.take sz ++ cs.drop sz := (List.take_append_drop sz cs).symm
    rw [e] at hr
    obtain ⟨V1, V2, rfl, h1, h2⟩ := hr.split
    exact ⟨V1, V2, rfl, h1, chunks_rep n (by simp [hl, Nat.add_mul]) h2⟩
theorem chunks_length (sz : Nat) : ∀ (n : Nat) (cs : List AVal), (chunks sz n cs).length = n
  | 0, _ => rfl
  | n + 1, cs => by simp [chunks, chunks_length sz n]
theorem chunks_uni {sz : Nat} : ∀ (n : Nat) {cs : List AVal}, cs.length = n * sz → ∀ e ∈ chunks sz n cs, e.length = sz
  | 0, _, _, e, he => by simp [chunks] at he
  | n + 1, cs, hl, e, he => by
    simp only [chunks, List.mem_cons] at he
    rcases he with rfl | he
    · rw [List.length_take, hl, Nat.add_mul]; omega
    · exact chunks_uni n (by simp [hl, Nat.add_mul]) e he
theorem fill_length {place : Nat → Option (Nat × Nat)} : ∀ {ps : List (Nat × AVal)} {cells cells' : List AVal}, fill place cells ps = some cells' → cells'.length = cells.length
  | [], cells, cells', h => by unfold fill at h; injection h with h; rw [h]
  | (i, v) :: ps, cells, cells', h => by
    unfold fill at h
    split at h
    · cases h
    · split at h
      · split at h
        · rename_i c1 hc1
          obtain ⟨p, q, r, rfl, h1, h2, rfl⟩ := lput_eq hc1
          rw [fill_length h]
          simp [h2]
        · cases h
      · cases h
theorem rep_plain {v : AVal} {V : Value} (h : Rep w fx v V) : Rep w fx (plainAgg (plainCell v)) V := h.plainCell.plainAgg
theorem buildSlice_run (hF : Fits E P) (hg : Good E B c w fx rho lam fr m a) (hG : GlobOk E w fx) {t : TypeId} {len : Nat} {parts : Array (Nat × Operand)} (ho : o.op = .buildSlice t len parts)
    {ti ei : TI} (hti : E.T t = some ti) {e : TypeId} (hk : ti.kind = .slice e) (hei : E.T e = some ei) {ps : List (Nat × AVal)} (hps : evParts E fr parts.toList = some ps)
    (hsz : ei.size ≠ 0) (hlen : len ≠ 0) (hsmall : len * ei.size ≤ 16777216) {cs : List AVal}
    (hcs : fill (fun i => some (i * ei.size, ei.size)) (repl len ei.zero) (ps.map fun p : Nat × AVal => (p.1, plainAgg (plainCell p.2))) = some cs) :
    ∃ Cs : List Value, (execOp a.eval o).run P w = .ok (.value (.slice (some ⟨w.heap.size, 0, none⟩) len len)) (w.alloc (.cells Cs.toArray e)) ∧ Cs.length = len * ei.size ∧ RepLL w fx (chunks ei.size len cs) Cs ∧ (∀ x ∈ chunks ei.size len cs, x.length = ei.size) := by
  have ht := hF t _ hti
  have het := hF e _ hei
  obtain ⟨ie, z, hie, hz, hzs, his, hzr⟩ := zeroRep (w := w) (fx := fx) het
  have hkk := ht.kind
  rw [hk] at hkk
  have hu : P.underlying t = some (.slice e) := hkk
  obtain ⟨q1, q2⟩ := evParts_ok hg hG hps
  have hzl : ei.zero.length = ei.size := by rw [← hzr.length, Array.length_toList, hzs]
  have hzero : RepL w fx (repl len ei.zero) ((List.range (len * ei.size)).map fun i => z.cells[i % ei.size]!) := by
    refine RepL.of_get (by simp [repl_length, hzl]) fun i v V hi hV => ?_
    have hlt : i < len * ei.zero.length := by
      rw [← repl_length]
      rcases Nat.lt_or_ge i (repl len ei.zero).length with h | h
      · exact h
      · rw [List.getElem?_eq_none h] at hi; cases hi
    rw [repl_get _ (by omega) _ _ hlt, hzl] at hi
    obtain ⟨V', h1, h2, h3⟩ := hzr.get hi
    rw [hzl] at hlt
    simp [hlt] at hV
    have hm : i % ei.size < z.cells.size := by rw [hzs]; exact Nat.mod_lt _ (by omega)
    have e1 : z.cells[i % ei.size]! = V' := by
      rw [getElem!_pos z.cells _ hm]
      rw [Array.getElem?_toList, Array.getElem?_eq_getElem hm] at h1
      injection h1
    rw [e1] at hV
    subst hV
    exact ⟨h2, h3⟩
  obtain ⟨Cs, hf, hr⟩ := fill_ok (Ps := parts.toList.map fun (i, x) => (i, a.eval x)) hcs hzero (by simpa using q1) fun i p q hp hq => by
    simp only [List.getElem?_map, Option.map_eq_some_iff] at hp
    obtain ⟨p0, hp0, rfl⟩ := hp
    obtain ⟨e1, e2⟩ := q2 i p0 q hp0 hq
    exact ⟨e1, plainCell_cellsOf_rep (rep_plain e2)⟩
  have hcl : cs.length = len * ei.size := by rw [fill_length hcs, repl_length, hzl]
  have hCl : Cs.length = len * ei.size := by rw [hr.length, hcl]
  have hrun := run_buildSlice w t e len (parts.map fun (i, x) => (i, a.eval x)) Cs.toArray ie z hu hie hz (by rw [his]; omega) (by rw [his]; exact Nat.mul_ne_zero hlen hsz) (by
    rw [his, hzs]
    have : ((Array.range (len * ei.size)).map fun i => z.cells[i % ei.size]!) = ((List.range (len * ei.size)).map fun i => z.cells[i % ei.size]!).toArray := by
      apply Array.ext'
      simp
    rw [this]
    simpa using hf)
  refine ⟨Cs, ?_, hCl, chunks_rep len hcl hr, chunks_uni len hcl⟩
  simp only [execOp, ho, Sem.run_bind, hrun, Result.andThen_ok, Sem.run_pure]
theorem sound_buildSlice (hF : Fits E P) (hg : Good E B c w fx rho lam fr m a) (hG : GlobOk E w fx) (hn : NextOk E B c r K next) {t : TypeId} {len : Nat} {parts : Array (Nat × Operand)} (ho : o.op = .buildSlice t len parts)
    {ti ei : TI} (hti : E.T t = some ti) {e : TypeId} (hk : ti.kind = .slice e) (hei : E.T e = some ei) {ps : List (Nat × AVal)} (hps : evParts E fr parts.toList = some ps)
    (hsz : ei.size ≠ 0) (hlen : len ≠ 0) (hsmall : len * ei.size ≤ 16777216) {cs : List AVal}
    (hcs : fill (fun i => some (i * ei.size, ei.size)) (repl len ei.zero) (ps.map fun p : Nat × AVal => (p.1, plainAgg (plainCell p.2))) = some cs)
    (hK : K (Abs.put fr o.dst (.slice .full (chunks ei.size len cs))) m = some r) : o.wp P a w next Q := by
  obtain ⟨Cs, hrun, hCl, hr, hu⟩ := buildSlice_run hF hg hG ho hti hk hei hps hsz hlen hsmall hcs
  obtain ⟨hg1, hx1⟩ := hg.alloc (.cells Cs.toArray e) Cs.length
  refine wp_value (V := .slice (some ⟨w.heap.size, 0, none⟩) len len) (w' := w.alloc (.cells Cs.toArray e)) hrun (hn _ _ _ _ _ _ _ hK (hg1.put o.dst (v := .slice .full (chunks ei.size len cs)) ?_ rfl) (hG.ext hx1))
  exact ⟨_, _, _, Cs, rfl, (chunks_length _ _ _).symm, Nat.le_refl _, RepLL.ext hx1 _ _ hr, ⟨ei.size, hu⟩, ⟨rfl, fun h => by cases h⟩, fun _ => ⟨_, 0, rfl, cellsAt_new Cs e⟩⟩
theorem sound_bytes (hF : Fits E P) (hg : Good E B c w fx rho lam fr m a) (hG : GlobOk E w fx) (hn : NextOk E B c r K next) {src dst : TypeId} {x : Operand} (ho : o.op = .convert src dst x)
    {s : List UInt8} (hx : ev E fr x = some (.str s)) {si ti : TI} (hsi : E.T src = some si) (hti : E.T dst = some ti) {e : TypeId} (hk : ti.kind = .slice e) (hby : isByte E e = true)
    (hK : K (Abs.put fr o.dst (.slice .no (s.map fun b => [.int .u8 b.toNat]))) m = some r) : o.wp P a w next Q := by
  obtain ⟨hbe, _⟩ := isByte_ok hF hby
  have hkk := (hF dst _ hti).kind
  rw [hk] at hkk
  have hu : P.underlying dst = some (.slice e) := hkk
  obtain ⟨sd, hsd⟩ := Option.isSome_iff_exists.1 (hF _ _ hsi).under
  have hX := (ev_sound hg hG hx).rep.str
  have hrun := Lib.run_convert_string_bytes w src dst e ⟨s.toArray⟩ hsd hu hbe
  have hss : (⟨s.toArray⟩ : ByteArray).size = s.length := by simp [ByteArray.size]
  obtain ⟨hg1, hx1⟩ := hg.grow (w' := Lib.bytesWorld w e ⟨s.toArray⟩) s.length (Lib.bytesWorld_size _ _ _) (fun b hb => Lib.bytesWorld_at_old _ _ _ _ hb) rfl rfl rfl
  have hat : CellsAt (Lib.bytesWorld w e ⟨s.toArray⟩) (fxSet fx w.heap.size s.length) w.heap.size 0 (s.map fun b => Value.int .u8 b.toNat) := fun j V hj => by
    have hlt : j < s.length := by
      rcases Nat.lt_or_ge j s.length with h | h
      · exact h
      · simp [List.getElem?_eq_none h] at hj
    have := Lib.bytesWorld_cell w e ⟨s.toArray⟩ j (by rw [hss]; exact hlt)
    refine ⟨?_, by unfold fxSet; rw [if_pos rfl]; omega⟩
    rw [Nat.zero_add, this]
    simp [hlt] at hj
    rw [← hj]
    simp [hlt]
  have hrl : ∀ (l : List UInt8), RepLL (Lib.bytesWorld w e ⟨s.toArray⟩) (fxSet fx w.heap.size s.length) (l.map fun b => [AVal.int .u8 b.toNat]) (l.map fun b => Value.int .u8 b.toNat) := fun l => by
    induction l with
    | nil => rfl
    | cons b l ih => exact ⟨[Value.int .u8 b.toNat], _, rfl, ⟨_, [], rfl, rfl, rfl, rfl⟩, ih⟩
  refine wp_value (V := .slice (some ⟨w.heap.size, 0, none⟩) (⟨s.toArray⟩ : ByteArray).size (grownCap w (⟨s.toArray⟩ : ByteArray).size 0 e)) (w' := Lib.bytesWorld w e ⟨s.toArray⟩) ?_
    (hn _ _ _ _ _ _ _ hK (hg1.put o.dst (v := .slice .no (s.map fun b => [.int .u8 b.toNat])) ?_ rfl) (hG.ext hx1))
  · simp only [execOp, ho, Sem.run_bind, hX, hrun, Result.andThen_ok, Sem.run_pure]
  · refine ⟨_, _, _, _, rfl, by simp [hss], ?_, hrl s, ⟨1, fun e he => ?_⟩, trivial, fun _ => ⟨_, 0, rfl, hat⟩⟩
    · unfold grownCap
      simp only [Question.cut]
      omega
    · obtain ⟨b, _, rfl⟩ := List.mem_map.1 he
      rfl
theorem sound_fuse (hF : Fits E P) (hg : Good E B c w fx rho lam fr m a) (hG : GlobOk E w fx) {o o' : Oper} {x : Tmp × List (List AVal)} (h : fuse E fr o o' = some x) :
    ∃ V w1 w2 fx2, o.guard = none ∧ o'.guard = none ∧ o.dst = some x.1 ∧ (execOp a.eval o).run P w = .ok (.value V) w1 ∧ (execOp (a.put o.dst V).eval o').run P w1 = .ok (.value V) w2 ∧
      Good E B c w2 fx2 rho lam (Abs.put (Abs.put fr (some x.1) (.slice .no x.2)) o'.dst (.slice .no x.2)) m ((a.put o.dst V).put o'.dst V) ∧ GlobOk E w2 fx2 := by
  unfold fuse at h
  split at h
  · rename_i t len parts ho
    split at h
    · rename_i t1 t2 xx ho'
      split at h
      · rename_i d'
        split at h
        · rename_i d hgo hgo' hd
          split at h
          · rename_i hc
            simp only [Bool.and_eq_true] at hc
            obtain ⟨c1, c2, c3, c4⟩ := hc
            obtain rfl := Nat.eq_of_beq_eq_true c1
            obtain rfl := Nat.eq_of_beq_eq_true c2
            obtain rfl := Nat.eq_of_beq_eq_true c3
            split at h
            · rename_i e _ _ _ ps hti hps
              split at h
              · rename_i ei hei
                split at h
                · rename_i hcc
                  simp only [Bool.and_eq_true, decide_eq_true_eq, Bool.not_eq_true', decide_eq_false_iff_not] at hcc
                  obtain ⟨hby, ⟨hsz, hlen⟩, hsmall⟩ := hcc
                  cases hf : fill (fun i => some (i * ei.size, ei.size)) (repl len ei.zero) (ps.map fun p => (p.1, plainAgg (plainCell p.2))) with
                  | none => rw [hf] at h; cases h
                  | some cs =>
                    rw [hf] at h
                    injection h with h; subst h
                    obtain ⟨hbe, _⟩ := isByte_ok hF hby
                    obtain ⟨Cs, hrun, hCl, hr, hu⟩ := buildSlice_run hF hg hG ho hti rfl hei hps hsz hlen hsmall hf
                    have hkk : P.underlying t2 = some (.slice e) := (hF t2 _ hti).kind
                    have hconv := Lib.run_convert_bytes_const w t2 e Cs.toArray len len hkk hbe
                    obtain ⟨hg1, hx1⟩ := hg.grow (w' := w.alloc (.cells Cs.toArray e (Cs.toArray.size, Cs.toArray.size + 1))) Cs.length (Array.size_push ..) (fun b hb => by
                      show (w.heap.push _)[b]? = _
                      rw [Array.getElem?_push, if_neg (Nat.ne_of_lt hb)]) rfl rfl rfl
                    have hat : CellsAt (w.alloc (.cells Cs.toArray e (Cs.toArray.size, Cs.toArray.size + 1))) (fxSet fx w.heap.size Cs.length) w.heap.size 0 Cs := fun j V hj => by
                      have hlt : j < Cs.length := (List.getElem?_eq_some_iff.1 hj).1
                      refine ⟨?_, by unfold fxSet; rw [if_pos rfl]; omega⟩
                      rw [Nat.zero_add]
                      unfold World.cell? World.alloc
                      simp only [Array.getElem?_push_size]
                      simpa using hj
                    have hrep : RepT (w.alloc (.cells Cs.toArray e (Cs.toArray.size, Cs.toArray.size + 1))) (fxSet fx w.heap.size Cs.length) rho lam (.slice .no (chunks ei.size len cs)) (.slice (some ⟨w.heap.size, 0, none⟩) len len) :=
                      ⟨_, _, _, Cs, rfl, (chunks_length _ _ _).symm, Nat.le_refl _, RepLL.ext hx1 _ _ hr, ⟨ei.size, hu⟩, trivial, fun _ => ⟨_, 0, rfl, hat⟩⟩
                    refine ⟨_, _, _, _, hgo, hgo', hd, hrun, ?_, ?_, hG.ext hx1⟩
                    · have hlt : d' < a.tmps.size := by
                        have h4 : Nat.lt d' fr.tmps.length := Nat.le_of_ble_eq_true c4
                        have h5 := hg.size
                        exact Nat.lt_of_lt_of_le h4 (by omega)
                      have hev : (a.put o.dst (.slice (some ⟨w.heap.size, 0, none⟩) len len)).eval (.tmp d') = .slice (some ⟨w.heap.size, 0, none⟩) len len := by
                        rw [hd]
                        show (a.tmps.setIfInBounds d' _).getD d' undef = _
                        rw [Array.getD_eq_getD_getElem?, Array.getElem?_setIfInBounds_self_of_lt hlt]
                        rfl
                      simp only [execOp, ho', Sem.run_bind, hev, hconv, Result.andThen_ok, Sem.run_pure]
                    · rw [hd]
                      exact (hg1.put (some d') hrep rfl).put o'.dst hrep rfl
                · cases h
              · cases h
            · cases h
          · cases h
        · cases h
      · cases h
    · cases h
  · cases h
end
end Go.Abs
namespace Go.Abs
set_option linter.unusedSectionVars false
set_option linter.unusedSimpArgs false
set_option linter.unusedVariables false
theorem setCell_heap {w : World} {g : Nat} {p r : List Value} {u v : Value} {et : TypeId} {fz : Nat × Nat} (h : w.heap[g]? = some (.cells (p ++ u :: r).toArray et fz)) :
    (w.setCell ⟨g, p.length, none⟩ v).heap[g]? = some (.cells (p ++ v :: r).toArray et fz) := by
  simp only [World.setCell, Array.getElem?_modify, h]
  simp
theorem setCell_other {w : World} {g off b : Nat} {v : Value} (hb : b ≠ g) : (w.setCell ⟨g, off, none⟩ v).heap[b]? = w.heap[b]? := by
  simp only [World.setCell, Array.getElem?_modify]
  rw [if_neg (Ne.symm hb)]
theorem setCells_heap : ∀ (Vs : List Value) {w : World} {g : Nat} {p q r : List Value} {et : TypeId} {fz : Nat × Nat}, w.heap[g]? = some (.cells (p ++ q ++ r).toArray et fz) → q.length = Vs.length →
    (w.setCells g p.length Vs).heap[g]? = some (.cells (p ++ Vs ++ r).toArray et fz)
  | [], w, g, p, q, r, et, fz, h, hq => by
    have : q = [] := List.length_eq_zero_iff.1 (by simpa using hq)
    subst this; exact h
  | v :: Vs, w, g, p, [], r, et, fz, h, hq => by simp at hq
  | v :: Vs, w, g, p, u :: q, r, et, fz, h, hq => by
    rw [World.setCells]
    have h1 := setCell_heap (v := v) (p := p) (u := u) (r := q ++ r) (w := w) (g := g) (et := et) (fz := fz) (by simpa using h)
    have h2 := setCells_heap Vs (p := p ++ [v]) (q := q) (r := r) (w := w.setCell ⟨g, p.length, none⟩ v) (g := g) (et := et) (fz := fz) (by simpa using h1) (by simpa using hq)
    simpa using h2
theorem setCells_other : ∀ (Vs : List Value) {w : World} {g off b : Nat}, b ≠ g → (w.setCells g off Vs).heap[b]? = w.heap[b]?
  | [], _, _, _, _, _ => rfl
  | v :: Vs, w, g, off, b, hb => by rw [World.setCells, setCells_other Vs hb, setCell_other hb]
theorem setCell_none {w : World} {g off b i : Nat} {v : Value} (h : w.cell? ⟨b, i, none⟩ = none) : (w.setCell ⟨g, off, none⟩ v).cell? ⟨b, i, none⟩ = none := by
  simp only [World.cell?, World.setCell, Array.getElem?_modify] at h ⊢
  cases hb : w.heap[b]? with
  | none => simp
  | some o =>
    rw [hb] at h
    by_cases hgb : g = b
    · simp only [hgb, if_true, Option.map_some]
      cases o <;> simp_all
    · simp only [hgb, if_false]
      exact h
theorem setCells_none : ∀ (Vs : List Value) {w : World} {g off b i : Nat}, w.cell? ⟨b, i, none⟩ = none → (w.setCells g off Vs).cell? ⟨b, i, none⟩ = none
  | [], _, _, _, _, _, h => h
  | v :: Vs, w, g, off, b, i, h => by rw [World.setCells]; exact setCells_none Vs (setCell_none h)
theorem setCells_rest : ∀ (Vs : List Value) {w : World} {g off : Nat}, (w.setCells g off Vs).heap.size = w.heap.size ∧ (w.setCells g off Vs).os = w.os ∧ (w.setCells g off Vs).tape = w.tape ∧ (w.setCells g off Vs).output = w.output
  | [], _, _, _ => ⟨rfl, rfl, rfl, rfl⟩
  | v :: Vs, w, g, off => by
    obtain ⟨h1, h2, h3, h4⟩ := setCells_rest Vs (w := w.setCell ⟨g, off, none⟩ v) (g := g) (off := off + 1)
    rw [World.setCells]
    exact ⟨h1.trans (by simp [World.setCell]), h2, h3, h4⟩
theorem two_count {l : List Nat} {i j g : Nat} (hi : l[i]? = some g) (hj : l[j]? = some g) (hne : i ≠ j) : 2 ≤ l.count g := by
  induction l generalizing i j with
  | nil => simp at hi
  | cons x r ih =>
    cases i with
    | zero =>
      cases j with
      | zero => exact absurd rfl hne
      | succ j =>
        simp at hi hj; subst hi
        have := List.count_pos_iff.2 (List.mem_of_getElem? hj)
        rw [List.count_cons_self]; omega
    | succ i =>
      cases j with
      | zero =>
        simp at hi hj; subst hj
        have := List.count_pos_iff.2 (List.mem_of_getElem? hi)
        rw [List.count_cons_self]; omega
      | succ j =>
        simp at hi hj
        have := ih hi hj (by omega)
        rw [List.count_cons]; omega
theorem ownSum_mid {w : World} {fx : Nat → Nat} {rho : List Nat} {p q r vs : List AVal} {P0 Q0 R0 Vs : List Value} (hp : P0.length = p.length) (hq : Q0.length = q.length) (hv : Vs.length = vs.length) (b : Nat) :
    ownSum (p ++ vs ++ r) (P0 ++ Vs ++ R0) b ≤ ownSum (p ++ q ++ r) (P0 ++ Q0 ++ R0) b + ownSum vs Vs b := by
  rw [ownSum_append _ _ _ _ _ (by simp [hp, hv]), ownSum_append _ _ _ _ _ hp.symm, ownSum_append _ _ _ _ _ (by simp [hp, hq]), ownSum_append _ _ _ _ _ hp.symm]
  omega
section
variable {P : Program} {E : Env} {B : Nat} {c : Ctx} {w w' : World} {fx fx' : Nat → Nat} {rho lam : List Nat} {fr : AFrame} {m : Mem} {a : Act}
theorem ext_one {g : Nat} (h0 : fx g = 0) (hsame : ∀ b, b ≠ g → w'.heap[b]? = w.heap[b]?) : Ext w fx w' fx :=
  ⟨fun _ => Nat.le_refl _, fun b off ho => cell_same (hsame b (by rintro rfl; omega)), fun b off ho hn => by rw [cell_same (hsame b (by rintro rfl; omega))]; exact hn⟩
theorem Good.setMem (h : Good E B c w fx rho lam fr m a) {i g : Nat} {ao ao' : AObj} (hi : m[i]? = some ao) (hgi : rho[i]? = some g)
    (hsz : w'.heap.size = w.heap.size) (hsame : ∀ b, b ≠ g → w'.heap[b]? = w.heap[b]?) (h1 : w'.os = w.os) (h2 : w'.tape = w.tape) (h3 : w'.output = w.output)
    (hnew : Ext w fx w' fx → ObjRep E B w' fx rho (mayHold i) ao' g) (own : Nat → Nat) (hle : ∀ b, ownObj w' ao' g b ≤ ownObj w ao g b + own b)
    (hown : MayOwn B c w (total w rho lam fr m a.tmps.toList) own) :
    Good E B c w' fx rho lam fr (m.set i ao') a ∧ Ext w fx w' fx ∧ ∀ b, total w' rho lam fr (m.set i ao') a.tmps.toList b + ownObj w ao g b = total w rho lam fr m a.tmps.toList b + ownObj w' ao' g b := by
  have hmem : g ∈ rho := List.mem_of_getElem? hgi
  have hg1 : 1 ≤ rho.count g := List.count_pos_iff.2 hmem
  have htg := h.tot g
  have hx : Ext w fx w' fx := ext_one (h.fx0 g (.inl hmem)) hsame
  have hne : ∀ b, (0 < lam.count b ∨ 0 < ownSum fr.tmps a.tmps.toList b ∨ 0 < ownObjs w fr.locs lam b ∨ 0 < ownObjs w m rho b) → b ≠ g := by
    rintro b hb rfl
    unfold total at htg
    omega
  have hlam : ∀ g' ∈ lam, w'.heap[g']? = w.heap[g']? := fun g' hg' => hsame g' (hne g' (.inl (List.count_pos_iff.2 hg')))
  have hloc : ∀ b, ownObjs w' fr.locs lam b = ownObjs w fr.locs lam b := fun b => ownObjs_world _ _ _ hlam
  have hrho1 : ∀ j g', j ≠ i → rho[j]? = some g' → g' ≠ g := by
    rintro j g' hj hjg rfl
    have := two_count hjg hgi hj
    unfold total at htg
    omega
  have hobj : ∀ (b : Nat), ownObjs w' (m.set i ao') rho b + ownObj w ao g b = ownObjs w m rho b + ownObj w' ao' g b := by
    intro b
    have key : ∀ (l : List AObj) (gs : List Nat) (i : Nat), l[i]? = some ao → gs[i]? = some g → (∀ j g', j ≠ i → gs[j]? = some g' → g' ≠ g) →
        ownObjs w' (l.set i ao') gs b + ownObj w ao g b = ownObjs w l gs b + ownObj w' ao' g b := by
      intro l
      induction l with
      | nil => intro gs i h; simp at h
      | cons x r ih =>
        intro gs i hl hgs hd
        cases gs with
        | nil => simp at hgs
        | cons y ys =>
          cases i with
          | zero =>
            simp at hl hgs; subst hl; subst hgs
            have : ownObjs w' r ys b = ownObjs w r ys b := ownObjs_world _ _ _ fun g' hg' => by
              obtain ⟨j, hj⟩ := List.getElem?_of_mem hg'
              exact hsame g' (hd (j + 1) g' (by omega) (by simpa using hj))
            simp [ownObjs, this]; omega
          | succ i =>
            simp at hl hgs
            have hy : y ≠ g := hd 0 y (by omega) rfl
            have hxo : ownObj w' x y b = ownObj w x y b := by
              cases x with
              | cells l => simp only [ownObj, blockVals, hsame y hy]
              | iter _ _ => rfl
              | map _ _ => rfl
            have := ih ys i hl hgs fun j g' hj hjg => hd (j + 1) g' (by omega) (by simpa using hjg)
            simp [ownObjs, hxo]; omega
    exact key m rho i hi hgi hrho1
  have hte : ∀ b, total w' rho lam fr (m.set i ao') a.tmps.toList b + ownObj w ao g b = total w rho lam fr m a.tmps.toList b + ownObj w' ao' g b := fun b => by
    have := hobj b
    unfold total
    rw [hloc]
    omega
  have ht : ∀ b, total w' rho lam fr (m.set i ao') a.tmps.toList b ≤ total w rho lam fr m a.tmps.toList b + own b := fun b => by
    have := hobj b
    have := hle b
    have := ownObj_le w m rho i ao g b hi hgi
    unfold total
    rw [hloc]
    omega
  refine ⟨{
    size := h.size
    tmp := fun j v V hj hV => by
      obtain ⟨x, y⟩ := h.tmp j v V hj hV
      refine ⟨RepT.ext hx (List.prefix_refl _) (List.prefix_refl _) x, y.ext hx fun b hb => ⟨hsame b (hne b (.inr (.inl ?_))), rfl⟩⟩
      have := ownSum_le_of_get fr.tmps a.tmps.toList j v V b hj hV
      omega
    defs := h.defs.ext hx (List.prefix_refl _)
    locs := h.locs.ext hx (List.prefix_refl _) hlam fun b hb => ⟨hsame b (hne b (.inr (.inr (.inl hb)))), rfl⟩
    mem := by
      refine ⟨by simp [h.mem.1], fun j o g' hj hjg => ?_⟩
      by_cases e : j = i
      · subst e
        have hlt : j < m.length := by
          rcases Nat.lt_or_ge j m.length with h | h
          · exact h
          · simp [List.getElem?_eq_none h] at hi
        rw [List.getElem?_set_self hlt] at hj
        injection hj with hj; subst hj
        rw [hgi] at hjg; injection hjg with hjg; subst hjg
        exact hnew hx
      · rw [List.getElem?_set_ne (Ne.symm e)] at hj
        have hng := hrho1 j g' e hjg
        refine (h.mem.2 j o g' hj hjg).ext hx (List.prefix_refl _) (hsame g' hng) fun b hb => ⟨hsame b (hne b (.inr (.inr (.inr ?_)))), rfl⟩
        exact Nat.lt_of_lt_of_le hb (ownObj_le w m rho j o g' b hj hjg)
    fx0 := h.fx0
    fxb := fun b hb => h.fxb b (by omega)
    tot := fun b => by
      have h4 := ht b
      have h5 := h.tot b
      rcases Nat.eq_zero_or_pos (own b) with h0 | h0
      · omega
      · have := (hown b h0).1; omega
    low := fun b hb => by
      have h4 := ht b
      rcases Nat.eq_zero_or_pos (own b) with h0 | h0
      · obtain ⟨x, y, z⟩ := h.low b (by omega)
        exact ⟨x, by omega, z⟩
      · obtain ⟨_, x, y, z⟩ := hown b h0
        exact ⟨x, by omega, z⟩
    keep := {
      size := by rw [hsz]; exact h.keep.size
      os := h1.trans h.keep.os
      tape := h2.trans h.keep.tape
      output := h3.trans h.keep.output
      ext := h.keep.ext.trans hx
      block := fun b hb hS => by
        obtain ⟨x, y⟩ := h.keep.block b hb hS
        have hbg : b ≠ g := by
          rintro rfl
          exact hS ((h.low b (total_pos_rho hmem)).2.2 hb)
        exact ⟨(hsame b hbg).trans x, y⟩ }
    pre := h.pre }, hx, hte⟩
theorem Good.setLoc (h : Good E B c w fx rho lam fr m a) {i g : Nat} {ao ao' : AObj} (hi : fr.locs[i]? = some ao) (hgi : lam[i]? = some g)
    (hsz : w'.heap.size = w.heap.size) (hsame : ∀ b, b ≠ g → w'.heap[b]? = w.heap[b]?) (h1 : w'.os = w.os) (h2 : w'.tape = w.tape) (h3 : w'.output = w.output)
    (hnew : Ext w fx w' fx → ObjRep E B w' fx rho mayHoldL ao' g) (own : Nat → Nat) (hle : ∀ b, ownObj w' ao' g b ≤ ownObj w ao g b + own b)
    (hown : MayOwn B c w (total w rho lam fr m a.tmps.toList) own) :
    Good E B c w' fx rho lam { fr with locs := fr.locs.set i ao' } m a ∧ Ext w fx w' fx ∧ ∀ b, total w' rho lam { fr with locs := fr.locs.set i ao' } m a.tmps.toList b + ownObj w ao g b = total w rho lam fr m a.tmps.toList b + ownObj w' ao' g b := by
  have hmem : g ∈ lam := List.mem_of_getElem? hgi
  have hg1 : 1 ≤ lam.count g := List.count_pos_iff.2 hmem
  have htg := h.tot g
  have hx : Ext w fx w' fx := ext_one (h.fx0 g (.inr hmem)) hsame
  have hne : ∀ b, (0 < rho.count b ∨ 0 < ownSum fr.tmps a.tmps.toList b ∨ 0 < ownObjs w fr.locs lam b ∨ 0 < ownObjs w m rho b) → b ≠ g := by
    rintro b hb rfl
    unfold total at htg
    omega
  have hrho : ∀ g' ∈ rho, w'.heap[g']? = w.heap[g']? := fun g' hg' => hsame g' (hne g' (.inl (List.count_pos_iff.2 hg')))
  have hloc : ∀ b, ownObjs w' m rho b = ownObjs w m rho b := fun b => ownObjs_world _ _ _ hrho
  have hrho1 : ∀ j g', j ≠ i → lam[j]? = some g' → g' ≠ g := by
    rintro j g' hj hjg rfl
    have := two_count hjg hgi hj
    unfold total at htg
    omega
  have hobj : ∀ (b : Nat), ownObjs w' (fr.locs.set i ao') lam b + ownObj w ao g b = ownObjs w fr.locs lam b + ownObj w' ao' g b := by
    intro b
    have key : ∀ (l : List AObj) (gs : List Nat) (i : Nat), l[i]? = some ao → gs[i]? = some g → (∀ j g', j ≠ i → gs[j]? = some g' → g' ≠ g) →
        ownObjs w' (l.set i ao') gs b + ownObj w ao g b = ownObjs w l gs b + ownObj w' ao' g b := by
      intro l
      induction l with
      | nil => intro gs i h; simp at h
      | cons x r ih =>
        intro gs i hl hgs hd
        cases gs with
        | nil => simp at hgs
        | cons y ys =>
          cases i with
          | zero =>
            simp at hl hgs; subst hl; subst hgs
            have : ownObjs w' r ys b = ownObjs w r ys b := ownObjs_world _ _ _ fun g' hg' => by
              obtain ⟨j, hj⟩ := List.getElem?_of_mem hg'
              exact hsame g' (hd (j + 1) g' (by omega) (by simpa using hj))
            simp [ownObjs, this]; omega
          | succ i =>
            simp at hl hgs
            have hy : y ≠ g := hd 0 y (by omega) rfl
            have hxo : ownObj w' x y b = ownObj w x y b := by
              cases x with
              | cells l => simp only [ownObj, blockVals, hsame y hy]
              | iter _ _ => rfl
              | map _ _ => rfl
            have := ih ys i hl hgs fun j g' hj hjg => hd (j + 1) g' (by omega) (by simpa using hjg)
            simp [ownObjs, hxo]; omega
    exact key fr.locs lam i hi hgi hrho1
  have hte : ∀ b, total w' rho lam { fr with locs := fr.locs.set i ao' } m a.tmps.toList b + ownObj w ao g b = total w rho lam fr m a.tmps.toList b + ownObj w' ao' g b := fun b => by
    have := hobj b
    unfold total
    rw [hloc]
    simp only
    omega
  have ht : ∀ b, total w' rho lam { fr with locs := fr.locs.set i ao' } m a.tmps.toList b ≤ total w rho lam fr m a.tmps.toList b + own b := fun b => by
    have := hobj b
    have := hle b
    have := ownObj_le w fr.locs lam i ao g b hi hgi
    unfold total
    rw [hloc]
    simp only
    omega
  refine ⟨{
    size := h.size
    tmp := fun j v V hj hV => by
      obtain ⟨x, y⟩ := h.tmp j v V hj hV
      refine ⟨RepT.ext hx (List.prefix_refl _) (List.prefix_refl _) x, y.ext hx fun b hb => ⟨hsame b (hne b (.inr (.inl ?_))), rfl⟩⟩
      have := ownSum_le_of_get fr.tmps a.tmps.toList j v V b hj hV
      omega
    defs := h.defs.ext hx (List.prefix_refl _)
    mem := h.mem.ext hx (List.prefix_refl _) hrho fun b hb => ⟨hsame b (hne b (.inr (.inr (.inr hb)))), rfl⟩
    locs := by
      refine ⟨by simp [h.locs.1], fun j o g' hj hjg => ?_⟩
      by_cases e : j = i
      · subst e
        have hlt : j < fr.locs.length := by
          rcases Nat.lt_or_ge j fr.locs.length with h | h
          · exact h
          · simp [List.getElem?_eq_none h] at hi
        replace hj : (fr.locs.set j ao')[j]? = some o := hj
        rw [List.getElem?_set_self hlt] at hj
        injection hj with hj; subst hj
        rw [hgi] at hjg; injection hjg with hjg; subst hjg
        exact hnew hx
      · replace hj : (fr.locs.set i ao')[j]? = some o := hj
        rw [List.getElem?_set_ne (Ne.symm e)] at hj
        have hng := hrho1 j g' e hjg
        refine (h.locs.2 j o g' hj hjg).ext hx (List.prefix_refl _) (hsame g' hng) fun b hb => ⟨hsame b (hne b (.inr (.inr (.inl ?_)))), rfl⟩
        exact Nat.lt_of_lt_of_le hb (ownObj_le w fr.locs lam j o g' b hj hjg)
    fx0 := h.fx0
    fxb := fun b hb => h.fxb b (by omega)
    tot := fun b => by
      have h4 := ht b
      have h5 := h.tot b
      rcases Nat.eq_zero_or_pos (own b) with h0 | h0
      · omega
      · have := (hown b h0).1; omega
    low := fun b hb => by
      have h4 := ht b
      rcases Nat.eq_zero_or_pos (own b) with h0 | h0
      · obtain ⟨x, y, z⟩ := h.low b (by omega)
        exact ⟨x, by omega, z⟩
      · obtain ⟨_, x, y, z⟩ := hown b h0
        exact ⟨x, by omega, z⟩
    keep := {
      size := by rw [hsz]; exact h.keep.size
      os := h1.trans h.keep.os
      tape := h2.trans h.keep.tape
      output := h3.trans h.keep.output
      ext := h.keep.ext.trans hx
      block := fun b hb hS => by
        obtain ⟨x, y⟩ := h.keep.block b hb hS
        have hbg : b ≠ g := by
          rintro rfl
          exact hS ((h.low b (total_pos_lam hmem)).2.2 hb)
        exact ⟨(hsame b hbg).trans x, y⟩ }
    pre := h.pre }, hx, hte⟩
end
end Go.Abs
