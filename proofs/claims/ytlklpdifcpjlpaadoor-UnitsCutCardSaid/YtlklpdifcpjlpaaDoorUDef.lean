import Derived.Test.YtlklpdifcpjlpaaDoorUEnv
import Derived.Test.YtlklpdifcpjlpaaDoorAbsUni2
namespace Go.Proofs.YtlklpdifcpjlpaaDoor.U
open Go.Abs Go.Uni
set_option maxRecDepth 100000

/-- a frame of which only some slots are known -/
def slots : Nat → Nat → List (Nat × AVal) → List AVal
  | 0, _, _ => []
  | n + 1, i, l => match l with
    | [] => .any :: slots n (i + 1) []
    | (j, v) :: r => match Nat.beq i j with
      | true => v :: slots n (i + 1) r
      | false => .any :: slots n (i + 1) ((j, v) :: r)
def byte (b : UInt8) : List AVal := [.int .u8 b.toNat]
def unit (n : Nat) : List AVal := [.int .u16 n]
def cp (n : Nat) : List AVal := [.int .i64 n]

/-! ### Summaries -/
def decS (s : List UInt8) : Nat × Nat := match s with
  | [] => (65533, 0)
  | _ => dec s
/-- the half code point that a text begins with -/
def halfB (s : List UInt8) : Bool := (pt s).2 == 3 && isHalf (pt s).1
def halfV (s : List UInt8) : Int := bif halfB s then (pt s).1 else 0
abbrev Nat1 := List AVal → Mem → Option (Bool × Out × Mem)
def decodeG : Nat1
  | [.str s], m => some (true, .ret (.tup [.int .i32 (decS s).1, .int .i64 (decS s).2]), m)
  | _, _ => none
def halfG : Nat1
  | [.str s], m => some (true, .ret (.tup [.int .i64 (halfV s), .bool (halfB s)]), m)
  | _, _ => none
def yesG : Nat1
  | [.int .i64 _], m => some (true, .ret (.bool true), m)
  | _, _ => none
/-- a slice that was appended to, or not yet -/
def rowOf (e : Nat) (l : List (List AVal)) : AVal := match l with
  | [] => .slice .full []
  | _ => .slice (.row e) l
def encL (c : Int) : List (List AVal) := (enc c.toNat).map byte
/-- bytes behind a slice of bytes that may be appended to -/
def onRow (own : Own) (es xs : List (List AVal)) (b : Bool) (m : Mem) : Option (Bool × Out × Mem) :=
  match own with
  | .full => (match es with
    | [] => some (b, .ret (.slice (.row 5) xs), m)
    | _ => none)
  | .row e => (match Nat.beq e 5 with
    | true => some (b && decide (es.length ≤ 1000000), .ret (.slice (.row 5) (es ++ xs)), m)
    | false => none)
  | .no => none
def isCp (c : Int) : Bool := decide (0 ≤ c) && decide (c ≤ 1114111)
def putG : Nat1
  | [.slice own es, .int .i64 c], m => onRow own es (encL c) (isCp c) m
  | _, _ => none
def putG32 : Nat1
  | [.slice own es, .int .i32 c], m => onRow own es (encL c) (isCp c && !isHalf c.toNat) m
  | _, _ => none
def putG59 : Nat1
  | [.slice own es, .int .i32 c], m => onRow own es (encL c) (isCp c && !isHalf c.toNat && decide (128 ≤ c)) m
  | _, _ => none
def uL (c : Int) : List (List AVal) := (u16 c.toNat).map unit
/-- the closure of Of: a code point's units behind those that are there -/
def ofG : Nat1
  | [.int .i64 c, .ptr o off], m => (match m with
    | [.cells [.slice own es]] => (match own with
      | .full => (match es with
        | [] => some (isCp c && (Nat.beq o 0 && Nat.beq off 0), .ret (.bool true), [.cells [.slice (.row 23) (uL c)]])
        | _ => none)
      | .row e => (match Nat.beq e 23 with
        | true => some (isCp c && (Nat.beq o 0 && Nat.beq off 0 && decide (es.length ≤ 1000000)), .ret (.bool true), [.cells [.slice (.row 23) (es ++ uL c)]])
        | false => none)
      | .no => none)
    | _ => none)
  | _, _ => none
def pointG : Nat1
  | [.str s, .int .i64 i], m => some (decide (0 ≤ i) && decide (i < s.length), .ret (.tup [.int .i64 (pt (s.drop i.toNat)).1, .int .i64 (pt (s.drop i.toNat)).2]), m)
  | _, _ => none
noncomputable def N59 : Nats := addN 59 putG59 noNats
noncomputable def N48 : Nats := addN 48 putG32 noNats
noncomputable def N1 : Nats := addN 40 ofG <| addN 49 decodeG (addN 50 halfG (addN 39 yesG (addN 37 putG (addN 42 putG noNats))))
noncomputable def N2 : Nats := addN 51 pointG N1
def frEach (s : List UInt8) (f : AVal) (skip : Int) (ahead : Bool) (pos : Nat) : AFrame :=
  { tmps := slots 64 0 [(0, .str s), (1, f), (4, .bool false), (5, .int .i64 skip), (6, .bool ahead), (15, .loc 0 0)], locs := [.iter s pos], defers := [] }
def frText (n : Nat) (u : List (List AVal)) (b : AVal) (i : Int) : AFrame :=
  { tmps := slots n 0 [(0, .slice .no u), (2, .str []), (3, b), (4, .int .i64 i)], locs := [], defers := [] }
def frPts (s : List UInt8) (out : AVal) (i : Int) : AFrame :=
  { tmps := slots 57 0 [(0, .str s), (2, .slice .full []), (3, .bool false), (4, out), (5, .int .i64 i)], locs := [], defers := [] }
def frUnits (l : List (List AVal)) (b : Bool) (out : AVal) (i : Int) : AFrame :=
  { tmps := slots 52 0 [(2, .slice .full []), (3, .slice .no l), (4, .bool b), (5, out), (6, .int .i64 i)], locs := [], defers := [] }
def frSame (a b : List (List AVal)) (i : Int) : AFrame :=
  { tmps := slots 26 0 [(0, .slice .no a), (1, .slice .no b), (4, .bool false), (5, .int .i64 i)], locs := [], defers := [] }
def frPoint (s : List UInt8) (i c n low j : Int) : AFrame :=
  { tmps := slots 82 0 [(0, .str s), (1, .int .i64 i), (4, .int .i64 0), (5, .int .i64 0), (6, .int .i64 c), (7, .int .i64 n), (8, .int .i64 low), (9, .int .i64 j)], locs := [], defers := [] }
end Go.Proofs.YtlklpdifcpjlpaaDoor.U
