/- The abstract interpreter, second part: operations, regions, code, calls. Definitions only. -/
import Derived.Test.YtlklpdifcpjlpaaDoorAbsCore
namespace Go.Abs

section
variable {R : Type}

def asB (v : Option AVal) (k : Bool → Option R) : Option R :=
  match v with
  | some (.bool b) => k b
  | _ => none
def asI (v : Option AVal) (k : IntKind → Int → Option R) : Option R :=
  match v with
  | some (.int i n) => k i n
  | _ => none

def structFields (E : Env) (t : TypeId) : Option (List (Nat × Nat × Bool)) :=
  match E.T t with
  | some { kind := .struct fs, .. } => some fs
  | _ => none

/-- the value of a part: its cells, or its one cell -/
def ofCells (agg : Bool) (cs : List AVal) : Option AVal :=
  if agg then some (.agg cs) else
  match cs with
  | [v] => some v
  | _ => none

def loadV (E : Env) (fr : AFrame) (m : Mem) (t : TypeId) (p : AVal) : Option AVal :=
  match E.T t with
  | some ti => match getCells fr m p ti.size with
    | some cs => if ti.isAgg then (if cs.all isData then some (.agg (cs.map disown)) else none) else ofCells false cs
    | none => none
  | none => none

/-- parts laid over cells -/
def fill (place : Nat → Option (Nat × Nat)) : List AVal → List (Nat × AVal) → Option (List AVal)
  | cells, [] => some cells
  | cells, (i, v) :: rest =>
    match place i with
    | none => none
    | some (off, size) =>
      if (cellsOf v).length = size then
        match lput cells off (cellsOf v) with
        | some cells' => fill place cells' rest
        | none => none
      else none

def evParts (E : Env) (fr : AFrame) : List (Nat × Operand) → Option (List (Nat × AVal))
  | [] => some []
  | (i, x) :: r => match ev E fr x, evParts E fr r with
    | some v, some l => if isData v then some ((i, disown v) :: l) else none
    | _, _ => none

def chunks (size : Nat) : Nat → List AVal → List (List AVal)
  | 0, _ => []
  | n + 1, l => l.take size :: chunks size n (l.drop size)

def repl : Nat → List AVal → List AVal
  | 0, _ => []
  | n + 1, z => z ++ repl n z

/-- what is held against nil -/
def nilness (k : TK) (a b : AVal) : Option Bool :=
  match k with
  | .iface => match a, b with
    | .nilIface, .nilIface => some true
    | .nilIface, .iface .. => some false
    | .iface .., .nilIface => some false
    | .nilIface, .err b => some b
    | .err b, .nilIface => some b
    | _, _ => none
  | .ptr => match a, b with
    | .nilptr, .nilptr => some true
    | .nilptr, .ptr .. => some false
    | .ptr .., .nilptr => some false
    | _, _ => none
  | .func => match a, b with
    | .nilfunc, .nilfunc => some true
    | .nilfunc, .fn .. => some false
    | .fn .., .nilfunc => some false
    | _, _ => none
  | _ => none

def bytesOf : List (List AVal) → Option (List UInt8)
  | [] => some []
  | [.int .u8 n] :: r => (bytesOf r).map (UInt8.ofNat n.toNat :: ·)
  | _ => none

/-- bytes, written out, and whether they are -/
def bytesL (es : List (List AVal)) : List UInt8 := match bytesOf es with
  | some l => l
  | none => []
def allByte (es : List (List AVal)) : Bool := match bytesOf es with
  | some _ => true
  | none => false
def isByte (E : Env) (e : TypeId) : Bool :=
  match E.T e with
  | some { kind := .int .u8, size := 1, .. } => true
  | _ => false

/-- conversions that make no memory -/
def convV (E : Env) (src dst : TypeId) (v : AVal) : Option AVal :=
  match E.T src, E.T dst with
  | some _, some { kind := .int k, .. } => match v with
    | .int _ n => some (.int k (k.wrap n))
    | _ => none
  | some si, some { kind := .str, .. } => match v with
    | .str s => some (.str s)
    | .int _ n => some (.str (Utf8.encode n).data.toList)
    | .slice _ es => (match si.kind with
      | .slice e => if isByte E e then (match allByte es with
        | true => some (.str (bytesL es))
        | false => none) else none
      | _ => none)
    | _ => none
  | _, _ => none

def binV (E : Env) (op : BinOp) (t : TypeId) (cx cy : Bool) (a b : AVal) : Option AVal :=
  match a, b with
  | .int k x, .int k' y => if isShift op then shiftBin op k x y else if k = k' then intBin op k x y else none
  | .str x, .str y => strBin op x y
  | .bool x, .bool y => match E.T t with
    | some { kind := .bool, .. } => (isEq op).map fun e => .bool (e == (x == y))
    | _ => none
  | .agg xs, .agg ys => if E.eqT t = some xs.length then match isEq op, sameCells xs ys with
      | some e, some r => some (.bool (e == r))
      | _, _ => none
    else none
  | a, b => if cx || cy then match E.T t with
      | some ti => match isEq op, nilness ti.kind a b with
        | some e, some r => some (.bool (e == r))
        | _, _ => none
      | none => none
    else none

def isConst : Operand → Bool
  | .const _ => true
  | _ => false

def unV (op : UnOp) (a : AVal) : Option AVal :=
  match op, a with
  | .neg, .int k n => some (.int k (k.wrap (0 - n)))
  | .not, .bool b => some (.bool !b)
  | _, _ => none

def bound (n : Nat) : Option (Option AVal) → Nat → Option Nat
  | none, d => some d
  | some (some (.int _ i)), _ => if 0 ≤ i ∧ i ≤ n then some i.toNat else none
  | _, _ => none

/-- all elements have one number of cells -/
def uni (n : Nat) (es : List (List AVal)) : Bool := es.all fun e => e.length == n
def sliceV (E : Env) (k : TK) (v : AVal) (lo hi : Option (Option AVal)) : Option AVal :=
  match v with
  | .str s => match k with
   | .str => match bound s.length hi s.length with
    | some h => match bound h lo 0 with
      | some l => some (.str ((s.take h).drop l))
      | none => none
    | none => none
   | _ => none
  | .slice _ es => match k with
    | .slice e => match E.T e with
      | some ei => if uni ei.size es then match bound es.length hi es.length with
          | some h => match bound h lo 0 with
            | some l => some (.slice .no ((es.take h).drop l))
            | none => none
          | none => none
        else none
      | none => none
    | _ => none
  | _ => none
/-- x[lo:hi:hi] -/
def slice3C (E : Env) (k : TK) (v : AVal) (lo hi mx : Option (Option AVal)) (kk : AVal → Option R) : Option R :=
  match v with
  | .slice _ es => match k with
    | .slice e => match E.T e with
      | some ei => if ei.size ≠ 0 && uni ei.size es then (match lo, hi, mx with
          | none, some (some (.int _ h)), some (some (.int _ x)) => if 0 ≤ h ∧ h ≤ es.length then (if h = x then kk (.slice .full (es.take h.toNat)) else none) else none
          | _, _, _ => none) else none
      | none => none
    | _ => none
  | _ => none

def indexV (E : Env) (t : TypeId) (v : AVal) (i : Int) : Option AVal :=
  match v with
  | .str s => match E.T t with
    | some { kind := .str, .. } => if 0 ≤ i then match s[i.toNat]? with
        | some b => some (.int .u8 b.toNat)
        | none => none
      else none
    | _ => none
  | .agg cs => match E.T t with
    | some { kind := .array n sz agg, .. } => if 0 ≤ i ∧ i < n then match sub cs (i.toNat * sz) sz with
        | some l => ofCells agg l
        | none => none
      else none
    | _ => none
  | _ => none

def addrOff (p : AVal) (n : Nat) : Option AVal :=
  match p with
  | .ptr o off => some (.ptr o (off + n))
  | .loc o off => some (.loc o (off + n))
  | .imm cs => some (.imm (cs.drop n))
  | _ => none

def elemOf (n : Nat) (es : List (List AVal)) (i : Int) : Option (List AVal) :=
  if 0 ≤ i then match es[i.toNat]? with
    | some e => if e.length = n then some e else none
    | none => none
  else none

def lenV : TK → AVal → Option Nat
  | .str, .str s => some s.length
  | .slice _, .slice _ es => some es.length
  | _, _ => none

/-- the bound up to which a slice may grow -/
def roomOk (n bytes : Nat) : Bool := n ≤ 9223372036854775807 && n * bytes ≤ 140737488355328

/-- what is appended, element by element -/
def appendSrc (E : Env) (e : TypeId) (size : Nat) (k : TK) (x : AVal) : Option (List (List AVal)) :=
  match k, x with
  | .slice _, .slice _ xs => if uni size xs then some xs else none
  | .str, .str b => if isByte E e then some (b.map fun c => [.int .u8 c.toNat]) else none
  | _, _ => none
def isCons {α : Type} : List α → Bool
  | [] => false
  | _ :: _ => true
def appendTo (e : TypeId) (ei : TI) (own : Own) (es xs : List (List AVal)) : Option AVal :=
  if ei.size ≠ 0 && roomOk (es.length + xs.length) ei.bytes then
    match own with
    | .no => none
    | .full => bif isCons xs then (if uni ei.size es then some (.slice (.row e) (es ++ xs)) else none) else some (.slice .full es)
    | .nil => some (.slice (.row e) (es ++ xs))
    | .row e' => if e' = e then some (.slice (.row e) (es ++ xs)) else none
  else none
def appendV (E : Env) (t t' : TypeId) (s x : AVal) : Option AVal :=
  match E.T t, E.T t', s with
  | some { kind := .slice e, .. }, some ti', .slice own es => match E.T e with
    | some ei => match appendSrc E e ei.size ti'.kind x with
      | some xs => appendTo e ei own es xs
      | none => none
    | none => none
  | _, _, _ => none

/-! ### The same, with what follows inside: a test stands outside -/
def toK (o : Option AVal) (k : AVal → Option R) : Option R :=
  match o with
  | some v => k v
  | none => none
def intBinC (op : BinOp) (k : IntKind) (a b : Int) (kk : AVal → Option R) : Option R :=
  match op with
  | .quo => if b = 0 then none else kk (.int k (k.wrap (a.tdiv b)))
  | .rem => if b = 0 then none else kk (.int k (a.tmod b))
  | op => toK (intBin op k a b) kk
def shiftBinC (op : BinOp) (k : IntKind) (a b : Int) (kk : AVal → Option R) : Option R :=
  if b < 0 then none else
  match op with
  | .shl => kk (.int k (k.wrap (a * 2 ^ (min b.toNat k.bits))))
  | .shr => kk (.int k (a.fdiv (2 ^ (min b.toNat k.bits))))
  | _ => none
def strBinC (op : BinOp) (a b : List UInt8) (kk : AVal → Option R) : Option R :=
  match op with
  | .add => if a.length + b.length ≤ 9223372036854775807 then kk (.str (a ++ b)) else none
  | op => toK (strBin op a b) kk
def binC (E : Env) (op : BinOp) (t : TypeId) (cx cy : Bool) (a b : AVal) (kk : AVal → Option R) : Option R :=
  match a, b with
  | .int k x, .int k' y => if isShift op then shiftBinC op k x y kk else if k = k' then intBinC op k x y kk else none
  | .str x, .str y => strBinC op x y kk
  | a, b => toK (binV E op t cx cy a b) kk
def boundC (n : Nat) (o : Option (Option AVal)) (d : Nat) (kk : Nat → Option R) : Option R :=
  match o with
  | none => kk d
  | some (some (.int _ i)) => if 0 ≤ i ∧ i ≤ n then kk i.toNat else none
  | _ => none
def sliceC (E : Env) (k : TK) (v : AVal) (lo hi : Option (Option AVal)) (kk : AVal → Option R) : Option R :=
  match v with
  | .str s => match k with
   | .str => boundC s.length hi s.length fun h => boundC h lo 0 fun l => kk (.str ((s.take h).drop l))
   | _ => none
  | .slice _ es => match k with
    | .slice e => match E.T e with
      | some ei => if uni ei.size es then boundC es.length hi es.length fun h => boundC h lo 0 fun l => kk (.slice .no ((es.take h).drop l)) else none
      | none => none
    | _ => none
  | _ => none
/-- conversions that make no memory, with what follows: the test stands outside -/
def convC (E : Env) (src dst : TypeId) (v : AVal) (kk : AVal → Option R) : Option R :=
  match v with
  | .slice own es => (match E.T src, E.T dst with
    | some si, some di => (match si.kind with
      | .slice e => (match di.kind with
        | .str => if isByte E e then (match allByte es with
          | true => kk (.str (bytesL es))
          | false => none) else none
        | _ => toK (convV E src dst (.slice own es)) kk)
      | _ => toK (convV E src dst (.slice own es)) kk)
    | _, _ => toK (convV E src dst (.slice own es)) kk)
  | v => toK (convV E src dst v) kk
def byteAt (s : List UInt8) (n : Nat) : Int := (s.getD n 0).toNat
def nthL (es : List (List AVal)) (n : Nat) : List AVal := es.getD n []
def indexC (E : Env) (t : TypeId) (v : AVal) (i : Int) (kk : AVal → Option R) : Option R :=
  match v with
  | .str s => match E.T t with
    | some { kind := .str, .. } => if 0 ≤ i ∧ i < s.length then kk (.int .u8 (byteAt s i.toNat)) else none
    | _ => none
  | .agg cs => match E.T t with
    | some { kind := .array n sz agg, .. } => if 0 ≤ i ∧ i < n then match sub cs (i.toNat * sz) sz with
        | some l => toK (ofCells agg l) kk
        | none => none
      else none
    | _ => none
  | _ => none
def elemC (n : Nat) (es : List (List AVal)) (i : Int) (kk : AVal → Option R) : Option R :=
  if 0 ≤ i ∧ i < es.length then (bif Nat.beq (nthL es i.toNat).length n then kk (.imm (nthL es i.toNat)) else none) else none

/-! ### A cell of a known type is written out, though the cell is not known -/
def isI (k : IntKind) : AVal → Bool
  | .int j _ => decide (j = k)
  | _ => false
def getI : AVal → Int
  | .int _ n => n
  | _ => 0
def isS : AVal → Bool
  | .str _ => true
  | _ => false
def getS : AVal → List UInt8
  | .str s => s
  | _ => []
def isB : AVal → Bool
  | .bool _ => true
  | _ => false
def getB : AVal → Bool
  | .bool b => b
  | _ => false
def isSl : AVal → Bool
  | .slice .no _ => true
  | _ => false
def getSl : AVal → List (List AVal)
  | .slice _ l => l
  | _ => []
def etaC (z v : AVal) (kk : AVal → Option R) : Option R :=
  match z with
  | .int k _ => bif isI k v then kk (.int k (getI v)) else none
  | .str _ => bif isS v then kk (.str (getS v)) else none
  | .bool _ => bif isB v then kk (.bool (getB v)) else none
  | .slice _ _ => bif isSl v then kk (.slice .no (getSl v)) else none
  | _ => kk v
def cellAt (l : List AVal) (n : Nat) : AVal := tget l n
def etaCs : List AVal → List AVal → Nat → (List AVal → Option R) → Option R
  | [], _, _, kk => kk []
  | z :: zs, e, j, kk => etaC z (cellAt e j) fun v => etaCs zs e (j + 1) fun vs => kk (v :: vs)
/-- a load out of cells that nobody writes -/
def loadC (E : Env) (t : TypeId) (cells : List AVal) (kk : AVal → Option R) : Option R :=
  match E.T t with
  | some ti => bif Nat.ble ti.size cells.length && Nat.beq ti.size ti.zero.length then
      (if ti.isAgg then etaCs ti.zero cells 0 fun cs => if cs.all isData then kk (.agg (cs.map disown)) else none
       else match ti.zero with
        | [z] => etaC z (cellAt cells 0) kk
        | _ => none)
    else none
  | none => none
def appendToC (e : TypeId) (ei : TI) (own : Own) (es xs : List (List AVal)) (kk : AVal → Option R) : Option R :=
  if ei.size ≠ 0 && roomOk (es.length + xs.length) ei.bytes then
    match own with
    | .no => none
    | .full => bif isCons xs then (if uni ei.size es then kk (.slice (.row e) (es ++ xs)) else none) else kk (.slice .full es)
    | .nil => kk (.slice (.row e) (es ++ xs))
    | .row e' => if e' = e then kk (.slice (.row e) (es ++ xs)) else none
  else none
def appendC (E : Env) (t t' : TypeId) (s x : AVal) (kk : AVal → Option R) : Option R :=
  match E.T t, E.T t', s with
  | some { kind := .slice e, .. }, some ti', .slice own es => match E.T e with
    | some ei => match ti'.kind, x with
      | .slice _, .slice _ xs => if uni ei.size xs then appendToC e ei own es xs kk else none
      | .str, .str b => if isByte E e then appendToC e ei own es (b.map fun c => [.int .u8 c.toNat]) kk else none
      | _, _ => none
    | none => none
  | _, _, _ => none

theorem intBinC_eq (op : BinOp) (k : IntKind) (a b : Int) (kk : AVal → Option R) : intBinC op k a b kk = toK (intBin op k a b) kk := by
  cases op <;> try rfl
  all_goals (simp only [intBinC, intBin]; split <;> rfl)
theorem shiftBinC_eq (op : BinOp) (k : IntKind) (a b : Int) (kk : AVal → Option R) : shiftBinC op k a b kk = toK (shiftBin op k a b) kk := by
  unfold shiftBinC shiftBin
  split
  · rfl
  · cases op <;> rfl
theorem strBinC_eq (op : BinOp) (a b : List UInt8) (kk : AVal → Option R) : strBinC op a b kk = toK (strBin op a b) kk := by
  cases op <;> try rfl
  simp only [strBinC, strBin]; split <;> rfl
theorem convC_eq (E : Env) (src dst : TypeId) (v : AVal) (kk : AVal → Option R) : convC E src dst v kk = toK (convV E src dst v) kk := by
  unfold convC
  split
  · rename_i own es
    split
    · rename_i si di h1 h2
      split
      · rename_i e he
        split
        · rename_i hd
          obtain ⟨dk, d1, d2, d3⟩ := di
          obtain rfl : dk = .str := hd
          simp only [convV, h1, h2, he]
          split
          · cases allByte es <;> rfl
          · rfl
        · rfl
      · rfl
    · rfl
  · rfl
theorem binC_eq (E : Env) (op : BinOp) (t : TypeId) (cx cy : Bool) (a b : AVal) (kk : AVal → Option R) : binC E op t cx cy a b kk = toK (binV E op t cx cy a b) kk := by
  unfold binC
  split
  · simp only [binV]
    split
    · exact shiftBinC_eq ..
    · split
      · exact intBinC_eq ..
      · rfl
  · simp only [binV]; exact strBinC_eq ..
  · rfl
theorem boundC_eq (n : Nat) (o : Option (Option AVal)) (d : Nat) (kk : Nat → Option R) : boundC n o d kk = (match bound n o d with | some h => kk h | none => none) := by
  cases o with
  | none => rfl
  | some o =>
    cases o with
    | none => rfl
    | some v =>
      cases v <;> try rfl
      simp only [boundC, bound]
      split <;> rfl
theorem sliceC_eq (E : Env) (k : TK) (v : AVal) (lo hi : Option (Option AVal)) (kk : AVal → Option R) : sliceC E k v lo hi kk = toK (sliceV E k v lo hi) kk := by
  unfold sliceC sliceV
  split
  · split
    · simp only [boundC_eq]
      cases bound _ hi _ with
      | none => rfl
      | some h =>
        simp only
        cases bound h lo 0 <;> rfl
    · rfl
  · split
    · split
      · split
        · simp only [boundC_eq]
          cases bound _ hi _ with
          | none => rfl
          | some h =>
            simp only
            cases bound h lo 0 <;> rfl
        · rfl
      · rfl
    · rfl
  · rfl
theorem indexC_eq (E : Env) (t : TypeId) (v : AVal) (i : Int) (kk : AVal → Option R) : indexC E t v i kk = toK (indexV E t v i) kk := by
  unfold indexC indexV
  split
  · rename_i s
    split
    · by_cases h0 : 0 ≤ i
      · rw [if_pos h0]
        by_cases h1 : i < s.length
        · rw [if_pos ⟨h0, h1⟩]
          have : i.toNat < s.length := by omega
          simp [byteAt, List.getElem?_eq_getElem this, List.getD_eq_getElem?_getD, toK]
        · rw [if_neg (fun h => h1 h.2)]
          rw [List.getElem?_eq_none (by omega)]
          rfl
      · rw [if_neg h0, if_neg (fun h => h0 h.1)]; rfl
    · rfl
  · split
    · split
      · split <;> rfl
      · rfl
    · rfl
  · rfl
theorem elemC_eq (n : Nat) (es : List (List AVal)) (i : Int) (kk : AVal → Option R) : elemC n es i kk = toK ((elemOf n es i).map .imm) kk := by
  unfold elemC elemOf
  by_cases h0 : 0 ≤ i
  · rw [if_pos h0]
    by_cases h1 : i < es.length
    · rw [if_pos ⟨h0, h1⟩]
      have h2 : i.toNat < es.length := by omega
      have h3 : nthL es i.toNat = es[i.toNat] := by simp [nthL, List.getD_eq_getElem?_getD, List.getElem?_eq_getElem h2]
      rw [List.getElem?_eq_getElem h2, h3]
      simp only
      by_cases h4 : es[i.toNat].length = n
      · rw [if_pos h4]
        have : Nat.beq es[i.toNat].length n = true := by rw [Nat.beq_eq]; exact h4
        rw [this]; rfl
      · rw [if_neg h4]
        have : Nat.beq es[i.toNat].length n = false := by
          cases hb : Nat.beq es[i.toNat].length n with
          | false => rfl
          | true => exact absurd (Nat.eq_of_beq_eq_true hb) h4
        rw [this]; rfl
    · rw [if_neg (fun h => h1 h.2), List.getElem?_eq_none (by omega)]
      rfl
  · rw [if_neg h0, if_neg (fun h => h0 h.1)]; rfl
theorem etaC_some {z v : AVal} {kk : AVal → Option R} {r : R} (h : etaC z v kk = some r) : kk v = some r := by
  unfold etaC at h
  split at h
  · cases v <;> simp [isI, cond] at h
    split at h
    · rename_i hk; simp at hk; subst hk; exact h
    · cases h
  · cases v <;> simp [isS] at h
    exact h
  · cases v <;> simp [isB] at h
    exact h
  · cases v <;> simp [isSl] at h
    rename_i own es
    cases own <;> simp at h
    exact h
  · exact h
theorem tget_drop : ∀ (l : List AVal) (j : Nat), j < l.length → l.drop j = tget l j :: l.drop (j + 1)
  | [], _, h => by simp at h
  | x :: r, 0, _ => rfl
  | x :: r, j + 1, h => by simpa [tget] using tget_drop r j (by simpa using h)
theorem takeN_succ {α : Type} (x : α) (r : List α) (n : Nat) : takeN (x :: r) (n + 1) = (takeN r n).map (x :: ·) := rfl
theorem takeN_zero {α : Type} (l : List α) : takeN l 0 = some [] := by cases l <;> rfl
theorem etaCs_some : ∀ {zs e : List AVal} {j : Nat} {kk : List AVal → Option R} {r : R}, etaCs zs e j kk = some r → j + zs.length ≤ e.length → ∃ vs, takeN (e.drop j) zs.length = some vs ∧ kk vs = some r
  | [], e, j, kk, r, h, _ => ⟨[], takeN_zero _, h⟩
  | z :: zs, e, j, kk, r, h, hl => by
    simp only [List.length_cons] at hl
    have h1 := etaC_some h
    obtain ⟨vs, h2, h3⟩ := etaCs_some h1 (by omega)
    refine ⟨_, ?_, h3⟩
    rw [tget_drop e j (by omega), List.length_cons, takeN_succ, h2]; rfl
theorem loadC_some {E : Env} {fr : AFrame} {m : Mem} {t : TypeId} {cells : List AVal} {kk : AVal → Option R} {r : R} (h : loadC E t cells kk = some r) : ∃ v, loadV E fr m t (.imm cells) = some v ∧ kk v = some r := by
  unfold loadC at h
  unfold loadV
  split at h
  · rename_i ti hti
    cases hb : (Nat.ble ti.size cells.length && Nat.beq ti.size ti.zero.length) with
    | false => rw [hb] at h; cases h
    | true =>
      rw [hb] at h
      simp only [cond_true] at h
      rw [Bool.and_eq_true] at hb
      have h1 := Nat.le_of_ble_eq_true hb.1
      have h2 := Nat.eq_of_beq_eq_true hb.2
      simp only [getCells]
      split at h
      · rename_i ha
        obtain ⟨vs, h3, h4⟩ := etaCs_some h (by omega)
        rw [List.drop_zero, ← h2] at h3
        rw [h3]
        simp only [ha, if_true]
        split at h4
        · rename_i hd; rw [if_pos hd]; exact ⟨_, rfl, h4⟩
        · cases h4
      · rename_i ha
        split at h
        · rename_i z hz
          have h3 := etaC_some h
          rw [hz] at h2
          simp only [List.length_cons, List.length_nil, Nat.zero_add] at h2
          have h4 : takeN cells ti.size = some [cellAt cells 0] := by
            rw [h2]
            have := tget_drop cells 0 (by omega)
            rw [List.drop_zero] at this
            rw [this, takeN_succ, takeN_zero]; rfl
          rw [h4]
          simp only [ha, Bool.false_eq_true, if_false]
          exact ⟨_, rfl, h3⟩
        · cases h
  · cases h
theorem etaC_nat (z v : AVal) (kk : AVal → Option R) : etaC z v kk = toK (etaC z v some) kk := by
  unfold etaC
  split
  · cases isI _ v <;> rfl
  · cases isS v <;> rfl
  · cases isB v <;> rfl
  · cases isSl v <;> rfl
  · rfl
theorem etaCs_nat : ∀ (zs e : List AVal) (j : Nat) (kk : List AVal → Option AVal) (f : AVal → Option R), toK (etaCs zs e j kk) f = etaCs zs e j fun vs => toK (kk vs) f
  | [], e, j, kk, f => rfl
  | z :: zs, e, j, kk, f => by
    simp only [etaCs]
    rw [etaC_nat, etaC_nat (kk := fun v => etaCs zs e (j + 1) fun vs => toK (kk (v :: vs)) f)]
    cases etaC z (cellAt e j) some with
    | none => rfl
    | some v => exact etaCs_nat zs e (j + 1) (fun vs => kk (v :: vs)) f
theorem loadC_nat (E : Env) (t : TypeId) (cells : List AVal) (kk : AVal → Option R) : loadC E t cells kk = toK (loadC E t cells some) kk := by
  unfold loadC
  split
  · cases (Nat.ble _ _ && Nat.beq _ _) with
    | false => rfl
    | true =>
      simp only [cond_true]
      split
      · rw [etaCs_nat]
        congr 1
        funext vs
        split <;> rfl
      · split
        · exact etaC_nat _ _ _
        · rfl
  · rfl
theorem appendTo_eq (e : TypeId) (ei : TI) (own : Own) (es xs : List (List AVal)) (kk : AVal → Option R) : appendToC e ei own es xs kk = toK (appendTo e ei own es xs) kk := by
  unfold appendTo appendToC
  split
  · cases own with
    | no => rfl
    | full =>
      simp only
      cases isCons xs
      · rfl
      · simp only [cond_true]; split <;> rfl
    | nil => rfl
    | row e' => simp only; split <;> rfl
  · rfl
theorem appendC_eq (E : Env) (t t' : TypeId) (s x : AVal) (kk : AVal → Option R) : appendC E t t' s x kk = toK (appendV E t t' s x) kk := by
  unfold appendC appendV
  split
  · split
    · split
      · rename_i hk
        simp only [hk, appendSrc]
        split
        · exact appendTo_eq ..
        · rfl
      · rename_i hk
        simp only [hk, appendSrc]
        split
        · exact appendTo_eq ..
        · rfl
      · rename_i h1 h2
        have : ∀ k : TK, ∀ x : AVal, (∀ e own xs, k = .slice e → x = .slice own xs → False) → (∀ b, k = .str → x = .str b → False) → ∀ (e : TypeId) (n : Nat), appendSrc E e n k x = none := by
          intro k x h1 h2 e n
          cases k <;> cases x <;> first | rfl | exact (h1 _ _ _ rfl rfl).elim | exact (h2 _ rfl rfl).elim
        rw [this _ _ h1 h2]; rfl
    · rfl
  · rfl

/-- is a slot's row handed on by an operation of this region? -/
def usesRow (E : Env) (d : Tmp) (o : Oper) : Bool :=
  match o.op with
  | .assign (.tmp t) => t == d
  | .store _ _ (.tmp t) => t == d
  | .call c => match c.callee with
    | .builtin .append => match (c.args[0]? : Option Operand) with
      | some (.tmp t) => t == d
      | _ => false
    | .value (.func f) => (List.range c.args.size).any fun i => E.mv f i && (match (c.args[i]? : Option Operand) with | some (.tmp t) => t == d | _ => false)
    | _ => false
  | _ => false
def xfer (E : Env) (ops : List Oper) (dst : Option Tmp) : Bool :=
  match dst with
  | some d => ops.any (usesRow E d)
  | none => false

def argsOf (E : Env) (f : FuncId) : Nat → List Operand → AFrame → Option (List AVal × AFrame)
  | _, [], fr => some ([], fr)
  | i, x :: r, fr => match argsOf E f (i + 1) r fr with
    | some (vs, fr') => match ev E fr' x with
      | some v =>
        match v with
        | .loc .. => none
        | _ => if E.mv f i then some (v :: vs, leave1 fr' x) else some (plainAgg (plainCell v) :: vs, fr')
      | none => none
    | none => none

def capOk : List AVal → Option (List AVal)
  | [] => some []
  | v :: r => match capOk r with
    | some l => match v with
      | .ptr .. => some (v :: l)
      | _ => if isData v then some (plainAgg (plainCell v) :: l) else none
    | none => none

/-- behind a call -/
def callK (o : Oper) (fr : AFrame) (K : AFrame → Mem → Option R) (Kp : AVal → AFrame → Mem → Option R) : Out × Mem → Option R := fun x =>
  match x.1 with
  | .ret v => K (put fr o.dst v) x.2
  | .pan v => Kp v fr x.2
def absCall (E : Env) (D : Ora) (o : Oper) (f : FuncId) (args : List AVal) (fr : AFrame) (m : Mem) (K : AFrame → Mem → Option R) (Kp : AVal → AFrame → Mem → Option R) : Option R :=
  match E.fn f with
  | none => none
  | some _ => (D.call f args m).run (callK o fr K Kp)

/-! ### Maps -/
def keyOk : KK → AVal → Bool
  | .int k, .int j _ => k == j
  | .str, .str _ => true
  | _, _ => false
def keyEq : AVal → AVal → Bool
  | .int _ a, .int _ b => a == b
  | .str a, .str b => a == b
  | _, _ => false
def mhas (k : AVal) : List (AVal × AVal) → Bool
  | [] => false
  | e :: r => keyEq k e.1 || mhas k r
def mget (k : AVal) : List (AVal × AVal) → AVal
  | [] => .any
  | e :: r => bif keyEq k e.1 then e.2 else mget k r
def mput (k v : AVal) : List (AVal × AVal) → List (AVal × AVal)
  | [] => [(k, v)]
  | e :: r => bif keyEq k e.1 then (k, v) :: r else e :: mput k v r
/-- a value's cells, written out by those of the type's zero -/
def outC (ti : TI) (v : AVal) (kk : AVal → Option R) : Option R :=
  if ti.isAgg then (match v with
    | .agg cs => bif Nat.beq cs.length ti.zero.length then etaCs ti.zero cs 0 fun cs => if cs.all isData then kk (.agg (cs.map disown)) else none else none
    | _ => none)
  else (match ti.zero with
    | [z] => etaC z v fun v => if isData v then kk (disown v) else none
    | _ => none)
def zeroV (ti : TI) : AVal := if ti.isAgg then .agg ti.zero else ti.zero.headD .any
def lookK (ok : Bool) (b : Bool) (v : AVal) : AVal := bif ok then .tup [v, .bool b] else v
def kindK : TK → Option KK
  | .int k => some (.int k)
  | .str => some .str
  | _ => none
def kkB : KK → KK → Bool
  | .int k, .int j => k == j
  | .str, .str => true
  | _, _ => false
/-- are a type's values keys of this kind? -/
def keyT (E : Env) (t : TypeId) (kk : KK) : Bool :=
  match E.T t with
  | some ti => (match kindK ti.kind with
    | some kk' => kkB kk' kk
    | none => false)
  | none => false

def absOp (E : Env) (D : Ora) (F : FuncId) (ops : List Oper) (o : Oper) (fr : AFrame) (m : Mem) (K : AFrame → Mem → Option R) (Kp : AVal → AFrame → Mem → Option R) : Option R :=
  let val (v : Option AVal) : Option R := match v with
    | some v => K (put fr o.dst v) m
    | none => none
  match o.op with
  | .move x => match ev E fr x with
    | some v => if xfer E ops o.dst then K (put (leave1 fr x) o.dst (promoS E F o.dst v)) m else K (put fr o.dst (disown (promoS E F o.dst v))) m
    | none => none
  | .assign x => match ev E fr x with
    | some v => K (put (leave1 fr x) o.dst (promoS E F o.dst v)) m
    | none => none
  | .pick c a b => asB (ev E fr c) fun t => val ((ev E fr (if t then a else b)).map disown)
  | .alloc e => match E.T e, o.dst with
    | some ti, some d => if okBld E e (promoL E (E.rowT e) ti.zero) then (if E.loc F d then K (put { fr with locs := fr.locs ++ [.cells (promoL E (E.rowT e) ti.zero)] } o.dst (.loc fr.locs.length 0)) m
        else K (put fr o.dst (.ptr m.length 0)) (m ++ [.cells (promoL E (E.rowT e) ti.zero)])) else none
    | _, _ => none
  | .box t x => match ev E fr x, o.dst with
    | some v, some d => if okBld E t (promoL E (E.rowT t) (cellsOf v)) then (if E.loc F d then
          (if (cellsOf v).all mayHoldL then K (put { (leave1 fr x) with locs := fr.locs ++ [.cells (promoL E (E.rowT t) (cellsOf v))] } o.dst (.loc fr.locs.length 0)) m else none)
        else if (cellsOf v).all (mayHold m.length) then K (put (leave1 fr x) o.dst (.ptr m.length 0)) (m ++ [.cells (promoL E (E.rowT t) (cellsOf v))]) else none) else none
    | _, _ => none
  | .build t parts => match E.T t, evParts E fr parts.toList with
    | some { kind := .struct fs, zero := z, .. }, some ps => val ((fill (fun i => (fs[i]?).map fun f => (f.1, f.2.1)) z ps).map .agg)
    | some { kind := .array _ sz _, zero := z, .. }, some ps => val ((fill (fun i => some (i * sz, sz)) z ps).map .agg)
    | _, _ => none
  | .buildSlice t len parts => match E.T t, evParts E fr parts.toList with
    | some { kind := .slice e, .. }, some ps => match E.T e with
      | some ei => if ei.size ≠ 0 && len ≠ 0 && len * ei.size ≤ 16777216 then
          val ((fill (fun i => some (i * ei.size, ei.size)) (repl len ei.zero) (ps.map fun p => (p.1, plainAgg (plainCell p.2)))).map fun cs => .slice .full (chunks ei.size len cs))
        else none
      | none => none
    | _, _ => none
  | .load t a => match ev E fr a with
    | some p => match p with
      | .imm cells => loadC E t cells fun v => K (put fr o.dst (disown v)) m
      | p => match loadV E fr m t p with
        | some v => if xfer E ops o.dst && !noRow v then
            (match setCells fr m p [disown v] with
             | some (fr', m') => K (put fr' o.dst v) m'
             | none => K (put fr o.dst (disown v)) m)
          else K (put fr o.dst (disown v)) m
        | none => none
    | none => none
  | .store t a x => match ev E fr a, ev E fr x, E.T t with
    | some p, some v, some ti => if (cellsOf v).length = ti.size then
        match setCells (leave1 fr x) m p (promoL E (E.rowT t) (cellsOf v)) with
        | some (fr', m') => K (put fr' o.dst (.tup [])) m'
        | none => none
      else none
    | _, _, _ => none
  | .nilCheck x => match ev E fr x with
    | some v => if hasTarget v then K (put fr o.dst v) m else none
    | none => none
  | .binOp op t x y _ => match ev E fr x, ev E fr y with
    | some a, some b => binC E op t (isConst x) (isConst y) a b fun v => K (put fr o.dst v) m
    | _, _ => none
  | .unOp op _ x => match ev E fr x with
    | some a => val (unV op a)
    | none => none
  | .convert src dst x => match ev E fr x with
    | some a => (match a, E.T src, E.T dst with
      | .str s, some _, some { kind := .slice e, .. } => if isByte E e && s.length ≤ 140737488355328 then val (some (.slice .no (s.map fun b => [.int .u8 b.toNat]))) else none
      | _, _, _ => convC E src dst a fun v => K (put fr o.dst v) m)
    | none => none
  | .makeInterface t x => match ev E fr x, E.T t with
    | some v, some ti => (match ti.kind with
      | .iface => none
      | _ => if isData v then val (some (.iface t (plainAgg (plainCell v)))) else none)
    | _, _ => none
  | .makeFunc (.func f) first captured => if first.size = 0 then match evs E fr captured.toList with
      | some vs => val ((capOk vs).map (.fn f))
      | none => none
    else none
  | .slice t x lo hi mx => match ev E fr x, E.T t with
    | some v, some ti => if mx.isSome then slice3C E ti.kind v (lo.map (ev E fr)) (hi.map (ev E fr)) (mx.map (ev E fr)) fun v => K (put fr o.dst v) m
      else sliceC E ti.kind v (lo.map (ev E fr)) (hi.map (ev E fr)) fun v => K (put fr o.dst v) m
    | _, _ => none
  | .fieldAddr s x f => match structFields E s, ev E fr x with
    | some fs, some p => match fs[f]? with
      | some (off, size, _) => if size = 0 then none else val (addrOff p off)
      | none => none
    | _, _ => none
  | .field s x f => match structFields E s, ev E fr x with
    | some fs, some (.agg cs) => match fs[f]? with
      | some (off, size, agg) => match sub cs off size with
        | some l => val (ofCells agg l)
        | none => none
      | none => none
    | _, _ => none
  | .indexAddr t x i => asI (ev E fr i) fun _ i => match ev E fr x, E.T t with
    | some (.slice _ es), some { kind := .slice e, .. } => (match E.T e with
      | some ei => if ei.size = 0 then none else elemC ei.size es i fun v => K (put fr o.dst v) m
      | none => none)
    | some p, some { kind := .array n sz _, .. } => if 0 ≤ i ∧ i < n then val (addrOff p (i.toNat * sz)) else none
    | _, _ => none
  | .index t x i => asI (ev E fr i) fun _ i => match ev E fr x with
    | some v => indexC E t v i fun v => K (put fr o.dst v) m
    | none => none
  | .range t x => match ev E fr x, E.T t, o.dst with
    | some (.str s), some { kind := .str, .. }, some d => if E.loc F d then K (put { fr with locs := fr.locs ++ [.iter s 0] } o.dst (.loc fr.locs.length 0)) m else none
    | _, _, _ => none
  | .next it true => match ev E fr it with
    | some (.loc j off) => match off with
      | 0 => match oget fr.locs j with
        | some (.iter s pos) => if pos < s.length then
            K (put { fr with locs := oset fr.locs j (.iter s (pos + (Utf8.decode ⟨s.toArray⟩ pos).2)) } o.dst (.tup [.bool true, .int .i64 pos, .int .i32 (Utf8.decode ⟨s.toArray⟩ pos).1])) m
          else K (put fr o.dst (.tup [.bool false])) m
        | _ => none
      | _ + 1 => none
    | _ => none
  | .typeAssert x _ t ok => match ev E fr x, E.T t with
    | some v, some ti => (match ti.kind with
      | .iface => none
      | _ => match v with
        | .iface u y => if u = t then K (put fr o.dst (if ok then .tup [y, .bool true] else y)) m
            else if ok then (match ofCells ti.isAgg ti.zero with
              | some z => K (put fr o.dst (.tup [z, .bool false])) m
              | none => none) else none
        | .nilIface => if ok then (match ofCells ti.isAgg ti.zero with
            | some z => K (put fr o.dst (.tup [z, .bool false])) m
            | none => none) else none
        | _ => none)
    | _, _ => none
  | .extract t i => match ev E fr t with
    | some (.tup vs) => match vs[i]? with
      | some v => K (put fr o.dst (disown v)) m
      | none => none
    | _ => none
  | .call c => match c.callee with
    | .value x => match ev E fr x with
      | some (.fn f caps) => match argsOf E f 0 c.args.toList fr with
        | some (vs, fr') => absCall E D o f (vs ++ caps) fr' m K Kp
        | none => none
      | _ => none
    | .builtin .len => match c.args[0]?, c.argTypes[0]? with
      | some x, some t => match ev E fr x, E.T t with
        | some v, some ti => val ((lenV ti.kind v).map fun n => .int .i64 n)
        | _, _ => none
      | _, _ => none
    | .builtin .append => match c.args[0]?, c.args[1]?, c.argTypes[0]?, c.argTypes[1]? with
      | some s, some x, some t, some t' => if c.args.size = 2 && c.argTypes.size = 2 then match ev E fr s, ev E fr x with
          | some v, some u => appendC E t t' v u fun r => K (put (leave1 fr s) o.dst r) m
          | _, _ => none
        else none
      | _, _, _, _ => none
    | .builtin .max => match evs E fr c.args.toList with
      | some [.int k a, .int _ b] => val (some (.int k (if b > a then b else a)))
      | _ => none
    | .builtin .min => match evs E fr c.args.toList with
      | some [.int k a, .int _ b] => val (some (.int k (if b < a then b else a)))
      | _ => none
    | _ => none
  | .makeMap t rs => match rs, E.T t, o.dst with
    | none, some { kind := .map k _, .. }, some _ => match E.T k with
      | some kt => match kindK kt.kind with
        | some kk => K (put fr o.dst (.mapp m.length)) (m ++ [.map kk []])
        | none => none
      | none => none
    | _, _, _ => none
  | .lookup t x ix ok => match ev E fr x, ev E fr ix, E.T t with
    | some (.mapp j), some k, some { kind := .map kt e, .. } => match oget m j, E.T e with
      | some (.map kk es), some ti => if keyOk kk k && keyT E kt kk then
          (bif mhas k es then outC ti (mget k es) fun v => K (put fr o.dst (lookK ok true v)) m
           else K (put fr o.dst (lookK ok false (zeroV ti))) m) else none
      | _, _ => none
    | _, _, _ => none
  | .mapUpdate t x k v | .insert t x k v => match ev E fr x, ev E fr k, ev E fr v, E.T t with
    | some (.mapp j), some k, some v, some { kind := .map kt _, .. } => match oget m j with
      | some (.map kk es) => if keyOk kk k && keyT E kt kk && isData v then K (put fr o.dst (.tup [])) (oset m j (.map kk (mput k (plainAgg (plainCell v)) es))) else none
      | _ => none
    | _, _, _, _ => none
  | .panic x => match ev E fr x with
    | some (.iface t v) => Kp (.iface t v) fr m
    | _ => none
  | .defer c => match c.callee with
    | .value x => match ev E fr x with
      | some (.fn f caps) => match argsOf E f 0 c.args.toList fr with
        | some (vs, fr') => match capOk (vs ++ caps) with
          | some l => K (put { fr' with defers := (f, l) :: fr'.defers } o.dst (.tup [])) m
          | none => none
        | none => none
      | _ => none
    | _ => none
  | _ => none

/-- does the guard let the operation run? where it is not known yet the way parts, and the slot keeps what it is on each way -/
def withGuard (ops : List Oper) (o : Oper) (fr : AFrame) (yes no : AFrame → Option R) : Option R :=
  match o.guard with
  | none => yes fr
  | some (j, want) => match (ops[j]?).bind (·.dst) with
    | none => none
    | some d => match tget fr.tmps d with
      | .bool b => (match b with
        | true => (if want then yes else no) { fr with tmps := tset fr.tmps d (.bool true) }
        | false => (if want then no else yes) { fr with tmps := tset fr.tmps d (.bool false) })
      | .tup [] => no fr
      | _ => none

def runOps (E : Env) (D : Ora) (F : FuncId) (ops : List Oper) : List Oper → AFrame → Mem → (AFrame → Mem → Option R) → (AVal → AFrame → Mem → Option R) → Option R
  | [], fr, m, K, _ => K fr m
  | o :: rest, fr, m, K, Kp =>
    withGuard ops o fr (fun fr => absOp E D F ops o fr m (fun fr m => runOps E D F ops rest fr m K Kp) Kp)
      (fun fr => runOps E D F ops rest (put fr o.dst (.tup [])) m K Kp)

/-- the slots that a loop doesn't keep are forgotten -/
def normL (keep : List Nat) : Nat → List AVal → List AVal
  | _, [] => []
  | i, v :: r => (if keep.contains i then v else .any) :: normL keep (i + 1) r
def weakL (k : Nat → WK) : Nat → List AVal → List AVal
  | _, [] => []
  | i, v :: r => weakV (k i) v :: weakL k (i + 1) r
/-- how many objects of the frame's own are still named -/
def nLocs : List AVal → Nat
  | [] => 0
  | v :: r => match v with
    | .loc o _ => (match Nat.ble (nLocs r) o with
      | true => o + 1
      | false => nLocs r)
    | _ => nLocs r
def normT (E : Env) (F : FuncId) (l : List AVal) : List AVal := weakL (E.wk F) 0 (normL (E.keep F) 0 l)
def norm (E : Env) (F : FuncId) (fr : AFrame) : AFrame := { fr with tmps := normT E F fr.tmps, locs := fr.locs.take (nLocs (normT E F fr.tmps)) }

def calmB : Callee → Bool
  | .builtin .len | .builtin .max | .builtin .min => true
  | _ => false
/-- operations of a region that draws its order: all of them read alone, and none calls -/
def calm (E : Env) : Op → Bool
  | .move _ | .assign _ | .pick .. | .load .. | .binOp .. | .unOp .. | .fieldAddr .. | .field .. | .indexAddr .. | .index .. | .slice .. | .extract .. | .nilCheck _ | .makeInterface .. | .build .. => true
  | .convert _ dst _ => match E.T dst with
    | some { kind := .slice _, .. } => false
    | _ => true
  | .call c => calmB c.callee
  | _ => false

/-! ### A region that draws its order and calls: every operation but the calls reads alone, and reads what no call can turn -/
def argD (E : Env) (f : FuncId) (i : Nat) (v : AVal) : Option AVal :=
  match v with
  | .loc .. => none
  | _ => if E.mv f i then (if noRow v then some v else none) else some (plainAgg (plainCell v))
def argsD (E : Env) (f : FuncId) (fr : AFrame) : Nat → List Operand → Option (List AVal)
  | _, [] => some []
  | i, x :: r => match argsD E f fr (i + 1) r with
    | some vs => match ev E fr x with
      | some v => match argD E f i v with
        | some v => some (v :: vs)
        | none => none
      | none => none
    | none => none
/-- a place that no call turns -/
def stillPlace : AVal → Bool
  | .loc .. | .imm _ => true
  | _ => false
/-- behind a call in a region that draws its order -/
def callD (k : AVal → Mem → Option R) : Out × Mem → Option R := fun x =>
  match x.1 with
  | .ret v => k v x.2
  | .pan _ => none
/-- a value that a slot may be given in any order -/
def plainMove : AVal → Bool
  | .slice (.row _) _ => false
  | .slice .nil _ => false
  | _ => true
def drawOp (E : Env) (D : Ora) (o : Oper) (fr : AFrame) (m : Mem) (k : AVal → Mem → Option R) : Option R :=
  match o.op with
  | .move x | .assign x => match ev E fr x with
    | some v => if plainMove v then k v m else none
    | none => none
  | .pick c a b => asB (ev E fr c) fun t => toK ((ev E fr (if t then a else b)).map disown) fun v => k v m
  | .build t parts => match E.T t, evParts E fr parts.toList with
    | some { kind := .struct fs, zero := z, .. }, some ps => toK ((fill (fun i => (fs[i]?).map fun f => (f.1, f.2.1)) z ps).map .agg) fun v => k v m
    | some { kind := .array _ sz _, zero := z, .. }, some ps => toK ((fill (fun i => some (i * sz, sz)) z ps).map .agg) fun v => k v m
    | _, _ => none
  | .load t a => match ev E fr a with
    | some p => match p with
      | .imm cells => loadC E t cells fun v => k (disown v) m
      | p => if stillPlace p then (match loadV E fr m t p with
        | some v => if noRow v then k v m else none
        | none => none) else none
    | none => none
  | .nilCheck x => match ev E fr x with
    | some v => if hasTarget v then k v m else none
    | none => none
  | .binOp op t x y _ => match ev E fr x, ev E fr y with
    | some a, some b => binC E op t (isConst x) (isConst y) a b fun v => k v m
    | _, _ => none
  | .unOp op _ x => match ev E fr x with
    | some a => toK (unV op a) fun v => k v m
    | none => none
  | .convert src dst x => match ev E fr x with
    | some a => (match a, E.T src, E.T dst with
      | .str _, some _, some { kind := .slice _, .. } => none
      | _, _, _ => convC E src dst a fun v => k v m)
    | none => none
  | .makeInterface t x => match ev E fr x, E.T t with
    | some v, some ti => (match ti.kind with
      | .iface => none
      | _ => if isData v then k (.iface t (plainAgg (plainCell v))) m else none)
    | _, _ => none
  | .slice t x lo hi mx => if mx.isSome then none else match ev E fr x, E.T t with
    | some v, some ti => sliceC E ti.kind v (lo.map (ev E fr)) (hi.map (ev E fr)) fun v => k v m
    | _, _ => none
  | .fieldAddr s x f => match structFields E s, ev E fr x with
    | some fs, some p => match fs[f]? with
      | some (off, size, _) => if size = 0 then none else toK (addrOff p off) fun v => k v m
      | none => none
    | _, _ => none
  | .field s x f => match structFields E s, ev E fr x with
    | some fs, some (.agg cs) => match fs[f]? with
      | some (off, size, agg) => match sub cs off size with
        | some l => toK (ofCells agg l) fun v => k v m
        | none => none
      | none => none
    | _, _ => none
  | .indexAddr t x i => asI (ev E fr i) fun _ i => match ev E fr x, E.T t with
    | some (.slice _ es), some { kind := .slice e, .. } => (match E.T e with
      | some ei => if ei.size = 0 then none else elemC ei.size es i fun v => k v m
      | none => none)
    | some p, some { kind := .array n sz _, .. } => if 0 ≤ i ∧ i < n then toK (addrOff p (i.toNat * sz)) fun v => k v m else none
    | _, _ => none
  | .index t x i => asI (ev E fr i) fun _ i => match ev E fr x with
    | some v => indexC E t v i fun v => k v m
    | none => none
  | .extract t i => match ev E fr t with
    | some (.tup vs) => match vs[i]? with
      | some v => k (disown v) m
      | none => none
    | _ => none
  | .call c => match c.callee with
    | .value x => match ev E fr x with
      | some (.fn f caps) => match argsD E f fr 0 c.args.toList with
        | some vs => match E.fn f with
          | none => none
          | some _ => (D.call f (vs ++ caps) m).run (callD k)
        | none => none
      | _ => none
    | .builtin .len => match c.args[0]?, c.argTypes[0]? with
      | some x, some t => match ev E fr x, E.T t with
        | some v, some ti => toK ((lenV ti.kind v).map fun n => .int .i64 n) fun v => k v m
        | _, _ => none
      | _, _ => none
    | .builtin .max => match evs E fr c.args.toList with
      | some [.int j a, .int _ b] => k (.int j (if b > a then b else a)) m
      | _ => none
    | .builtin .min => match evs E fr c.args.toList with
      | some [.int j a, .int _ b] => k (.int j (if b < a then b else a)) m
      | _ => none
    | _ => none
  | _ => none
def runDraw (E : Env) (D : Ora) (ops : List Oper) : List Oper → AFrame → Mem → (AFrame → Mem → Option R) → Option R
  | [], fr, m, K => K fr m
  | o :: rest, fr, m, K =>
    withGuard ops o fr (fun fr => drawOp E D o fr m fun v m => runDraw E D ops rest (put fr o.dst v) m K)
      (fun fr => runDraw E D ops rest (put fr o.dst (.tup [])) m K)

def exec (E : Env) (D : Ora) (F : FuncId) : Code → AFrame → Mem → (AExit → AFrame → Mem → Option R) → Option R
  | .skip, fr, m, K => K .normal fr m
  | .region _ ops draw, fr, m, K =>
    if draw && !(ops.toList.all fun o => calm E o.op) then runDraw E D ops.toList ops.toList fr m (K .normal) else
    runOps E D F ops.toList ops.toList fr m (K .normal) (fun v => K (.pan v))
  | .seq a b, fr, m, K => exec E D F a fr m fun ex fr m => match ex with
    | .normal => exec E D F b fr m K
    | ex => K ex fr m
  | .cond c a b, fr, m, K => match ev E fr c with
    | some (.bool t) => (match t with
      | true => exec E D F a fr m K
      | false => exec E D F b fr m K)
    | _ => none
  | .block id body, fr, m, K => exec E D F body fr m fun ex fr m => match ex with
    | .exit i => if i = id then K .normal fr m else K (.exit i) fr m
    | ex => K ex fr m
  | .loop body, fr, m, K => (D.loop F body (norm E F fr) m).run fun x => K x.1 x.2.1 x.2.2
  | .exit id, fr, m, K => K (.exit id) fr m
  | .ret, fr, m, K => K .ret fr m
  | _, _, _, _ => none

def resultOf (E : Env) (fr : AFrame) (m : Mem) : ResultVar → Option AVal
  | .tmp t => match tget fr.tmps t with
    | .any | .loc .. | .tup _ => none
    | v => some v
  | .cell a t => match tget fr.tmps a with
    | .any => none
    | p => (loadV E fr m t p).map disown

def resultsOf (E : Env) (wk : Nat → WK) (fr : AFrame) (m : Mem) : Nat → List ResultVar → Option (List AVal)
  | _, [] => some []
  | i, x :: r => match resultOf E fr m x, resultsOf E wk fr m (i + 1) r with
    | some v, some l => some (weakV (wk i) v :: l)
    | _, _ => none

def packResults : List AVal → AVal
  | [v] => plainAgg v
  | vs => .tup (vs.map fun v => plainAgg (disown v))

/-- a value that leads to no object with a number from base on -/
def within (base : Nat) : AVal → Bool
  | .ptr o _ => o < base
  | .mapp _ => false
  | .fn _ cs => cs.all fun | .ptr o _ => o < base | v => isData v
  | .tup vs => vs.all fun | .ptr o _ => o < base | .mapp _ => false | .fn _ (_ :: _) => false | _ => true
  | _ => true

def cutMem (base : Nat) (v : AVal) (m : Mem) : Mem := if within base v then m.take base else m

def leaving (E : Env) (wk : Nat → WK) (fn : Func) (base : Nat) (fr : AFrame) : List (FuncId × List AVal) → Option AVal → Mem → Option (Out × Mem)
  | [], none, m => match resultsOf E wk fr m 0 fn.results.toList with
    | some vs => some (.ret (packResults vs), cutMem base (packResults vs) m)
    | none => none
  | [], some v, m => some (.pan v, cutMem base v m)
  | (f, args) :: ds, u, m => match E.fn f, E.dfr f with
    | some _, some g => match g args u m with
      | some (u', m') => leaving E wk fn base fr ds u' m'
      | none => none
    | _, _ => none

def undefs : Nat → List AVal
  | 0 => []
  | n + 1 => .tup [] :: undefs n

def execFunc (E : Env) (D : Ora) (F : FuncId) (args : List AVal) (m : Mem) : Option (Out × Mem) :=
  match E.fn F with
  | none => none
  | some fn => match fn.body with
    | none => none
    | some c => exec E D F c { tmps := args ++ undefs (fn.ntmps - args.length), locs := [], defers := [] } m fun ex fr m' =>
      match ex with
      | .normal | .ret => leaving E (E.res F) fn m.length fr fr.defers none m'
      | .pan v => leaving E (E.res F) fn m.length fr fr.defers (some v) m'
      | .exit _ => none

end

/-- the first region of a loop's body: it tells the loops of a function apart -/
def keyOf : Code → Option Nat
  | .region id _ _ => some id
  | .seq a b => match keyOf a with
    | some k => some k
    | none => keyOf b
  | .cond _ a b => match keyOf a with
    | some k => some k
    | none => keyOf b
  | .block _ b => keyOf b
  | .loop b => keyOf b
  | _ => none
def subLoops : Code → List Code
  | .seq a b => subLoops a ++ subLoops b
  | .cond _ a b => subLoops a ++ subLoops b
  | .block _ b => subLoops b
  | .loop b => b :: subLoops b
  | _ => []
/-- summaries of calls -/
abbrev CNats := FuncId → Option (List AVal → Mem → CT (Out × Mem))
/-- summaries of loops -/
abbrev LNats := FuncId → Option Nat → Option (AFrame → Mem → CT (AExit × AFrame × Mem))
def noLoops : LNats := fun _ _ => none
def noCalls : CNats := fun _ => none
/-- calls and loops by their summaries -/
def ora (N : CNats) (L : LNats) : Ora :=
  { call := fun f args m => match N f with
      | some g => g args m
      | none => .fail
    loop := fun F body fr m => match L F (keyOf body) with
      | some g => g fr m
      | none => .fail }
/-- behind a loop's round -/
def loopK (E : Env) (F : FuncId) (C : AFrame → Mem → Option (AExit × AFrame × Mem)) : AExit → AFrame → Mem → Option (AExit × AFrame × Mem) := fun ex fr m =>
  match ex with
  | .normal => C (norm E F fr) m
  | ex => some (ex, norm E F fr, m)
/-- with fuel, and with functions whose summary is given: for concrete runs -/
def denN (E : Env) (N : CNats) : Nat → Ora
  | 0 => { call := fun _ _ _ => .fail, loop := fun _ _ _ _ => .fail }
  | n + 1 => {
      call := fun f args m => match N f with
        | some g => g args m
        | none => .raw (execFunc E (denN E N n) f args m)
      loop := fun F body fr m => .raw (exec E (denN E N n) F body fr m (loopK E F fun fr m => ((denN E N n).loop F body fr m).eval)) }
/-- the n-th loop of a function -/
def loopAt (fn : Func) (n : Nat) : Code :=
  match fn.body with
  | some c => match (subLoops c)[n]? with
    | some b => b
    | none => .skip
  | none => .skip
end Go.Abs
