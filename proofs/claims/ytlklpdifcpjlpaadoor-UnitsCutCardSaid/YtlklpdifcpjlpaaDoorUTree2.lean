/- Calls as trees of decisions (printed by a program of mine out of the interpreter). -/
import Derived.Test.YtlklpdifcpjlpaaDoorUDef
import Derived.KernelRfl
namespace Go.Proofs.YtlklpdifcpjlpaaDoor.U
open Go.Abs Go.Uni
set_option maxRecDepth 100000

theorem of40f (D : Ora) (c : Int) : execFunc env D 40 [.int .i64 c, .ptr 0 0] [.cells [.slice .full []]]  =
  bif decide (c ≥ 65536) then
  some
  (Out.ret (AVal.bool true),
  [AObj.cells
  [AVal.slice (Own.row 23)
  [[AVal.int IntKind.u16
  (IntKind.wrap IntKind.u16
  (IntKind.wrap IntKind.i64
  (55296 +
  Int.fdiv (IntKind.wrap IntKind.i64 (c - 65536))
  (2 ^ min (Int.toNat 10) (IntKind.bits IntKind.i64)))))],
  [AVal.int IntKind.u16
  (IntKind.wrap IntKind.u16
  (IntKind.wrap IntKind.i64
  (56320 +
  IntKind.wrap IntKind.i64
  (↑(BitVec.toNat
  (BitVec.ofInt (IntKind.bits IntKind.i64) (IntKind.wrap IntKind.i64 (c - 65536)) &&&
  BitVec.ofInt (IntKind.bits IntKind.i64) 1023)) :
  Int))))]]]])
  else
  some
  (Out.ret (AVal.bool true),
  [AObj.cells [AVal.slice (Own.row 23) [[AVal.int IntKind.u16 (IntKind.wrap IntKind.u16 c)]]]]) := by kernel_rfl
theorem of40r (D : Ora) (c : Int) (es : List (List AVal)) : execFunc env D 40 [.int .i64 c, .ptr 0 0] [.cells [.slice (.row 23) es]]  =
  bif decide (c ≥ 65536) then
  if
  (decide (1 ≠ 0) &&
  roomOk
  (List.length es +
  List.length
  [[AVal.int IntKind.u16
  (IntKind.wrap IntKind.u16
  (IntKind.wrap IntKind.i64
  (55296 +
  Int.fdiv (IntKind.wrap IntKind.i64 (c - 65536))
  (2 ^ min (Int.toNat 10) (IntKind.bits IntKind.i64)))))],
  [AVal.int IntKind.u16
  (IntKind.wrap IntKind.u16
  (IntKind.wrap IntKind.i64
  (56320 +
  IntKind.wrap IntKind.i64
  (↑(BitVec.toNat
  (BitVec.ofInt (IntKind.bits IntKind.i64) (IntKind.wrap IntKind.i64 (c - 65536)) &&&
  BitVec.ofInt (IntKind.bits IntKind.i64) 1023)) :
  Int))))]])
  2) =
  true then
  some
  (Out.ret (AVal.bool true),
  [AObj.cells
  [AVal.slice (Own.row 23)
  (List.append es
  [[AVal.int IntKind.u16
  (IntKind.wrap IntKind.u16
  (IntKind.wrap IntKind.i64
  (55296 +
  Int.fdiv (IntKind.wrap IntKind.i64 (c - 65536))
  (2 ^ min (Int.toNat 10) (IntKind.bits IntKind.i64)))))],
  [AVal.int IntKind.u16
  (IntKind.wrap IntKind.u16
  (IntKind.wrap IntKind.i64
  (56320 +
  IntKind.wrap IntKind.i64
  (↑(BitVec.toNat
  (BitVec.ofInt (IntKind.bits IntKind.i64)
  (IntKind.wrap IntKind.i64 (c - 65536)) &&&
  BitVec.ofInt (IntKind.bits IntKind.i64) 1023)) :
  Int))))]])]])
  else none
  else
  if
  (decide (1 ≠ 0) &&
  roomOk (List.length es + List.length [[AVal.int IntKind.u16 (IntKind.wrap IntKind.u16 c)]]) 2) =
  true then
  some
  (Out.ret (AVal.bool true),
  [AObj.cells [AVal.slice (Own.row 23) (List.append es [[AVal.int IntKind.u16 (IntKind.wrap IntKind.u16 c)]])]])
  else none := by kernel_rfl
theorem each39 (k : Nat) (s : List UInt8) (skip : Int) (ahead : Bool) (pos : Nat) (m : Mem) (R : Type) (K : AExit → AFrame → Mem → Option R) : exec env (denL env N1 noLoops (Nat.succ k)) 38 (loopAt Tryd.f38 0) (frEach s (.fn 39 []) skip ahead pos) m (fun ex fr m => K ex (norm env 38 fr) m)  =
  if pos < List.length s then
  bif decide (skip > 0) then
  K AExit.normal
  {
  tmps :=
  slots 64 0 [(0, AVal.str s), (1, AVal.fn 39 []), (4, AVal.bool false), (5, AVal.int IntKind.i64 (IntKind.wrap IntKind.i64 (skip - 1))), (6, AVal.bool ahead), (15, AVal.loc 0 0)],
  locs := [AObj.iter s (pos + Prod.snd (Utf8.decode { data := List.toArray s } pos))], defers := [] }
  m
  else
  bif (↑(Prod.fst (Utf8.decode { data := List.toArray s } pos)) : Int) == 65533 then
  if 0 ≤ (↑pos : Int) ∧ (↑pos : Int) ≤ (↑(List.length s) : Int) then
  bif (↑(Prod.snd (decS (List.drop (Int.toNat (↑pos : Int)) (List.take (List.length s) s)))) : Int) == 1 then
  if 0 ≤ (↑pos : Int) ∧ (↑pos : Int) ≤ (↑(List.length s) : Int) then
  bif !halfB (List.drop (Int.toNat (↑pos : Int)) (List.take (List.length s) s)) then
  K AExit.ret
  {
  tmps :=
  slots 64 0 [(0, AVal.str s), (1, AVal.fn 39 []), (4, AVal.bool false), (5, AVal.int IntKind.i64 skip), (6, AVal.bool ahead), (15, AVal.loc 0 0)],
  locs := [AObj.iter s (pos + Prod.snd (Utf8.decode { data := List.toArray s } pos))], defers := [] }
  m
  else
  bif ahead then
  bif decide (halfV (List.drop (Int.toNat (↑pos : Int)) (List.take (List.length s) s)) ≥ 56320) then
  K AExit.ret
  {
  tmps :=
  slots 64 0 [(0, AVal.str s), (1, AVal.fn 39 []), (4, AVal.bool false), (5, AVal.int IntKind.i64 skip), (6, AVal.bool ahead), (15, AVal.loc 0 0)],
  locs := [AObj.iter s (pos + Prod.snd (Utf8.decode { data := List.toArray s } pos))],
  defers := [] }
  m
  else
  bif decide (halfV (List.drop (Int.toNat (↑pos : Int)) (List.take (List.length s) s)) ≥ 55296) then
  K AExit.normal
  {
  tmps :=
  slots 64 0 [(0, AVal.str s), (1, AVal.fn 39 []), (4, AVal.bool false), (5, AVal.int IntKind.i64 2), (6, AVal.bool (decide (halfV (List.drop (Int.toNat (↑pos : Int)) (List.take (List.length s) s)) < 56320))), (15, AVal.loc 0 0)],
  locs := [AObj.iter s (pos + Prod.snd (Utf8.decode { data := List.toArray s } pos))],
  defers := [] }
  m
  else
  K AExit.normal
  {
  tmps :=
  slots 64 0 [(0, AVal.str s), (1, AVal.fn 39 []), (4, AVal.bool false), (5, AVal.int IntKind.i64 2), (6, AVal.bool false), (15, AVal.loc 0 0)],
  locs := [AObj.iter s (pos + Prod.snd (Utf8.decode { data := List.toArray s } pos))],
  defers := [] }
  m
  else
  bif decide (halfV (List.drop (Int.toNat (↑pos : Int)) (List.take (List.length s) s)) ≥ 55296) then
  K AExit.normal
  {
  tmps :=
  slots 64 0 [(0, AVal.str s), (1, AVal.fn 39 []), (4, AVal.bool false), (5, AVal.int IntKind.i64 2), (6, AVal.bool (decide (halfV (List.drop (Int.toNat (↑pos : Int)) (List.take (List.length s) s)) < 56320))), (15, AVal.loc 0 0)],
  locs := [AObj.iter s (pos + Prod.snd (Utf8.decode { data := List.toArray s } pos))],
  defers := [] }
  m
  else
  K AExit.normal
  {
  tmps :=
  slots 64 0 [(0, AVal.str s), (1, AVal.fn 39 []), (4, AVal.bool false), (5, AVal.int IntKind.i64 2), (6, AVal.bool false), (15, AVal.loc 0 0)],
  locs := [AObj.iter s (pos + Prod.snd (Utf8.decode { data := List.toArray s } pos))],
  defers := [] }
  m
  else none
  else
  bif
  decide
  (IntKind.wrap IntKind.i64 (↑(Prod.fst (Utf8.decode { data := List.toArray s } pos)) : Int) ≥ 55296) then
  K AExit.normal
  {
  tmps :=
  slots 64 0 [(0, AVal.str s), (1, AVal.fn 39 []), (4, AVal.bool false), (5, AVal.int IntKind.i64 skip), (6, AVal.bool (decide (IntKind.wrap IntKind.i64 (↑(Prod.fst (Utf8.decode { data := List.toArray s } pos)) : Int) < 56320))), (15, AVal.loc 0 0)],
  locs := [AObj.iter s (pos + Prod.snd (Utf8.decode { data := List.toArray s } pos))], defers := [] }
  m
  else
  K AExit.normal
  {
  tmps :=
  slots 64 0 [(0, AVal.str s), (1, AVal.fn 39 []), (4, AVal.bool false), (5, AVal.int IntKind.i64 skip), (6, AVal.bool false), (15, AVal.loc 0 0)],
  locs := [AObj.iter s (pos + Prod.snd (Utf8.decode { data := List.toArray s } pos))], defers := [] }
  m
  else none
  else
  bif
  decide
  (IntKind.wrap IntKind.i64 (↑(Prod.fst (Utf8.decode { data := List.toArray s } pos)) : Int) ≥ 55296) then
  K AExit.normal
  {
  tmps :=
  slots 64 0 [(0, AVal.str s), (1, AVal.fn 39 []), (4, AVal.bool false), (5, AVal.int IntKind.i64 skip), (6, AVal.bool (decide (IntKind.wrap IntKind.i64 (↑(Prod.fst (Utf8.decode { data := List.toArray s } pos)) : Int) < 56320))), (15, AVal.loc 0 0)],
  locs := [AObj.iter s (pos + Prod.snd (Utf8.decode { data := List.toArray s } pos))], defers := [] }
  m
  else
  K AExit.normal
  {
  tmps :=
  slots 64 0 [(0, AVal.str s), (1, AVal.fn 39 []), (4, AVal.bool false), (5, AVal.int IntKind.i64 skip), (6, AVal.bool false), (15, AVal.loc 0 0)],
  locs := [AObj.iter s (pos + Prod.snd (Utf8.decode { data := List.toArray s } pos))], defers := [] }
  m
  else
  K (AExit.exit 0)
  {
  tmps :=
  slots 64 0 [(0, AVal.str s), (1, AVal.fn 39 []), (4, AVal.bool false), (5, AVal.int IntKind.i64 skip), (6, AVal.bool ahead), (15, AVal.loc 0 0)],
  locs := [AObj.iter s pos], defers := [] }
  m := by kernel_rfl
theorem each40f (k : Nat) (s : List UInt8) (skip : Int) (ahead : Bool) (pos : Nat) (R : Type) (K : AExit → AFrame → Mem → Option R) : exec env (denL env N1 noLoops (Nat.succ k)) 38 (loopAt Tryd.f38 0) (frEach s (.fn 40 [.ptr 0 0]) skip ahead pos) [.cells [.slice .full []]] (fun ex fr m => K ex (norm env 38 fr) m)  =
  if pos < List.length s then
  bif decide (skip > 0) then
  K AExit.normal
  {
  tmps :=
  slots 64 0 [(0, AVal.str s), (1, AVal.fn 40 [AVal.ptr 0 0]), (4, AVal.bool false), (5, AVal.int IntKind.i64 (IntKind.wrap IntKind.i64 (skip - 1))), (6, AVal.bool ahead), (15, AVal.loc 0 0)],
  locs := [AObj.iter s (pos + Prod.snd (Utf8.decode { data := List.toArray s } pos))], defers := [] }
  [AObj.cells [AVal.slice Own.full []]]
  else
  bif (↑(Prod.fst (Utf8.decode { data := List.toArray s } pos)) : Int) == 65533 then
  if 0 ≤ (↑pos : Int) ∧ (↑pos : Int) ≤ (↑(List.length s) : Int) then
  bif (↑(Prod.snd (decS (List.drop (Int.toNat (↑pos : Int)) (List.take (List.length s) s)))) : Int) == 1 then
  if 0 ≤ (↑pos : Int) ∧ (↑pos : Int) ≤ (↑(List.length s) : Int) then
  bif !halfB (List.drop (Int.toNat (↑pos : Int)) (List.take (List.length s) s)) then
  K AExit.ret
  {
  tmps :=
  slots 64 0 [(0, AVal.str s), (1, AVal.fn 40 [AVal.ptr 0 0]), (4, AVal.bool false), (5, AVal.int IntKind.i64 skip), (6, AVal.bool ahead), (15, AVal.loc 0 0)],
  locs := [AObj.iter s (pos + Prod.snd (Utf8.decode { data := List.toArray s } pos))], defers := [] }
  [AObj.cells [AVal.slice Own.full []]]
  else
  bif ahead then
  bif decide (halfV (List.drop (Int.toNat (↑pos : Int)) (List.take (List.length s) s)) ≥ 56320) then
  K AExit.ret
  {
  tmps :=
  slots 64 0 [(0, AVal.str s), (1, AVal.fn 40 [AVal.ptr 0 0]), (4, AVal.bool false), (5, AVal.int IntKind.i64 skip), (6, AVal.bool ahead), (15, AVal.loc 0 0)],
  locs := [AObj.iter s (pos + Prod.snd (Utf8.decode { data := List.toArray s } pos))],
  defers := [] }
  [AObj.cells [AVal.slice Own.full []]]
  else
  bif decide (halfV (List.drop (Int.toNat (↑pos : Int)) (List.take (List.length s) s)) ≥ 55296) then
  bif
  isCp (halfV (List.drop (Int.toNat (↑pos : Int)) (List.take (List.length s) s))) &&
  (Nat.beq 0 0 && Nat.beq 0 0) then
  K AExit.normal
  {
  tmps :=
  slots 64 0 [(0, AVal.str s), (1, AVal.fn 40 [AVal.ptr 0 0]), (4, AVal.bool false), (5, AVal.int IntKind.i64 2), (6, AVal.bool (decide (halfV (List.drop (Int.toNat (↑pos : Int)) (List.take (List.length s) s)) < 56320))), (15, AVal.loc 0 0)],
  locs := [AObj.iter s (pos + Prod.snd (Utf8.decode { data := List.toArray s } pos))],
  defers := [] }
  [AObj.cells
  [AVal.slice (Own.row 23)
  (uL (halfV (List.drop (Int.toNat (↑pos : Int)) (List.take (List.length s) s))))]]
  else none
  else
  bif
  isCp (halfV (List.drop (Int.toNat (↑pos : Int)) (List.take (List.length s) s))) &&
  (Nat.beq 0 0 && Nat.beq 0 0) then
  K AExit.normal
  {
  tmps :=
  slots 64 0 [(0, AVal.str s), (1, AVal.fn 40 [AVal.ptr 0 0]), (4, AVal.bool false), (5, AVal.int IntKind.i64 2), (6, AVal.bool false), (15, AVal.loc 0 0)],
  locs := [AObj.iter s (pos + Prod.snd (Utf8.decode { data := List.toArray s } pos))],
  defers := [] }
  [AObj.cells
  [AVal.slice (Own.row 23)
  (uL (halfV (List.drop (Int.toNat (↑pos : Int)) (List.take (List.length s) s))))]]
  else none
  else
  bif decide (halfV (List.drop (Int.toNat (↑pos : Int)) (List.take (List.length s) s)) ≥ 55296) then
  bif
  isCp (halfV (List.drop (Int.toNat (↑pos : Int)) (List.take (List.length s) s))) &&
  (Nat.beq 0 0 && Nat.beq 0 0) then
  K AExit.normal
  {
  tmps :=
  slots 64 0 [(0, AVal.str s), (1, AVal.fn 40 [AVal.ptr 0 0]), (4, AVal.bool false), (5, AVal.int IntKind.i64 2), (6, AVal.bool (decide (halfV (List.drop (Int.toNat (↑pos : Int)) (List.take (List.length s) s)) < 56320))), (15, AVal.loc 0 0)],
  locs := [AObj.iter s (pos + Prod.snd (Utf8.decode { data := List.toArray s } pos))],
  defers := [] }
  [AObj.cells
  [AVal.slice (Own.row 23)
  (uL (halfV (List.drop (Int.toNat (↑pos : Int)) (List.take (List.length s) s))))]]
  else none
  else
  bif
  isCp (halfV (List.drop (Int.toNat (↑pos : Int)) (List.take (List.length s) s))) &&
  (Nat.beq 0 0 && Nat.beq 0 0) then
  K AExit.normal
  {
  tmps :=
  slots 64 0 [(0, AVal.str s), (1, AVal.fn 40 [AVal.ptr 0 0]), (4, AVal.bool false), (5, AVal.int IntKind.i64 2), (6, AVal.bool false), (15, AVal.loc 0 0)],
  locs := [AObj.iter s (pos + Prod.snd (Utf8.decode { data := List.toArray s } pos))],
  defers := [] }
  [AObj.cells
  [AVal.slice (Own.row 23)
  (uL (halfV (List.drop (Int.toNat (↑pos : Int)) (List.take (List.length s) s))))]]
  else none
  else none
  else
  bif
  decide
  (IntKind.wrap IntKind.i64 (↑(Prod.fst (Utf8.decode { data := List.toArray s } pos)) : Int) ≥ 55296) then
  bif
  isCp (IntKind.wrap IntKind.i64 (↑(Prod.fst (Utf8.decode { data := List.toArray s } pos)) : Int)) &&
  (Nat.beq 0 0 && Nat.beq 0 0) then
  K AExit.normal
  {
  tmps :=
  slots 64 0 [(0, AVal.str s), (1, AVal.fn 40 [AVal.ptr 0 0]), (4, AVal.bool false), (5, AVal.int IntKind.i64 skip), (6, AVal.bool (decide (IntKind.wrap IntKind.i64 (↑(Prod.fst (Utf8.decode { data := List.toArray s } pos)) : Int) < 56320))), (15, AVal.loc 0 0)],
  locs := [AObj.iter s (pos + Prod.snd (Utf8.decode { data := List.toArray s } pos))], defers := [] }
  [AObj.cells
  [AVal.slice (Own.row 23)
  (uL
  (IntKind.wrap IntKind.i64 (↑(Prod.fst (Utf8.decode { data := List.toArray s } pos)) : Int)))]]
  else none
  else
  bif
  isCp (IntKind.wrap IntKind.i64 (↑(Prod.fst (Utf8.decode { data := List.toArray s } pos)) : Int)) &&
  (Nat.beq 0 0 && Nat.beq 0 0) then
  K AExit.normal
  {
  tmps :=
  slots 64 0 [(0, AVal.str s), (1, AVal.fn 40 [AVal.ptr 0 0]), (4, AVal.bool false), (5, AVal.int IntKind.i64 skip), (6, AVal.bool false), (15, AVal.loc 0 0)],
  locs := [AObj.iter s (pos + Prod.snd (Utf8.decode { data := List.toArray s } pos))], defers := [] }
  [AObj.cells
  [AVal.slice (Own.row 23)
  (uL
  (IntKind.wrap IntKind.i64 (↑(Prod.fst (Utf8.decode { data := List.toArray s } pos)) : Int)))]]
  else none
  else none
  else
  bif
  decide
  (IntKind.wrap IntKind.i64 (↑(Prod.fst (Utf8.decode { data := List.toArray s } pos)) : Int) ≥ 55296) then
  bif
  isCp (IntKind.wrap IntKind.i64 (↑(Prod.fst (Utf8.decode { data := List.toArray s } pos)) : Int)) &&
  (Nat.beq 0 0 && Nat.beq 0 0) then
  K AExit.normal
  {
  tmps :=
  slots 64 0 [(0, AVal.str s), (1, AVal.fn 40 [AVal.ptr 0 0]), (4, AVal.bool false), (5, AVal.int IntKind.i64 skip), (6, AVal.bool (decide (IntKind.wrap IntKind.i64 (↑(Prod.fst (Utf8.decode { data := List.toArray s } pos)) : Int) < 56320))), (15, AVal.loc 0 0)],
  locs := [AObj.iter s (pos + Prod.snd (Utf8.decode { data := List.toArray s } pos))], defers := [] }
  [AObj.cells
  [AVal.slice (Own.row 23)
  (uL (IntKind.wrap IntKind.i64 (↑(Prod.fst (Utf8.decode { data := List.toArray s } pos)) : Int)))]]
  else none
  else
  bif
  isCp (IntKind.wrap IntKind.i64 (↑(Prod.fst (Utf8.decode { data := List.toArray s } pos)) : Int)) &&
  (Nat.beq 0 0 && Nat.beq 0 0) then
  K AExit.normal
  {
  tmps :=
  slots 64 0 [(0, AVal.str s), (1, AVal.fn 40 [AVal.ptr 0 0]), (4, AVal.bool false), (5, AVal.int IntKind.i64 skip), (6, AVal.bool false), (15, AVal.loc 0 0)],
  locs := [AObj.iter s (pos + Prod.snd (Utf8.decode { data := List.toArray s } pos))], defers := [] }
  [AObj.cells
  [AVal.slice (Own.row 23)
  (uL (IntKind.wrap IntKind.i64 (↑(Prod.fst (Utf8.decode { data := List.toArray s } pos)) : Int)))]]
  else none
  else
  K (AExit.exit 0)
  {
  tmps :=
  slots 64 0 [(0, AVal.str s), (1, AVal.fn 40 [AVal.ptr 0 0]), (4, AVal.bool false), (5, AVal.int IntKind.i64 skip), (6, AVal.bool ahead), (15, AVal.loc 0 0)],
  locs := [AObj.iter s pos], defers := [] }
  [AObj.cells [AVal.slice Own.full []]] := by kernel_rfl
theorem each40r (k : Nat) (s : List UInt8) (skip : Int) (ahead : Bool) (pos : Nat) (es : List (List AVal)) (R : Type) (K : AExit → AFrame → Mem → Option R) : exec env (denL env N1 noLoops (Nat.succ k)) 38 (loopAt Tryd.f38 0) (frEach s (.fn 40 [.ptr 0 0]) skip ahead pos) [.cells [.slice (.row 23) es]] (fun ex fr m => K ex (norm env 38 fr) m)  =
  if pos < List.length s then
  bif decide (skip > 0) then
  K AExit.normal
  {
  tmps :=
  slots 64 0 [(0, AVal.str s), (1, AVal.fn 40 [AVal.ptr 0 0]), (4, AVal.bool false), (5, AVal.int IntKind.i64 (IntKind.wrap IntKind.i64 (skip - 1))), (6, AVal.bool ahead), (15, AVal.loc 0 0)],
  locs := [AObj.iter s (pos + Prod.snd (Utf8.decode { data := List.toArray s } pos))], defers := [] }
  [AObj.cells [AVal.slice (Own.row 23) es]]
  else
  bif (↑(Prod.fst (Utf8.decode { data := List.toArray s } pos)) : Int) == 65533 then
  if 0 ≤ (↑pos : Int) ∧ (↑pos : Int) ≤ (↑(List.length s) : Int) then
  bif (↑(Prod.snd (decS (List.drop (Int.toNat (↑pos : Int)) (List.take (List.length s) s)))) : Int) == 1 then
  if 0 ≤ (↑pos : Int) ∧ (↑pos : Int) ≤ (↑(List.length s) : Int) then
  bif !halfB (List.drop (Int.toNat (↑pos : Int)) (List.take (List.length s) s)) then
  K AExit.ret
  {
  tmps :=
  slots 64 0 [(0, AVal.str s), (1, AVal.fn 40 [AVal.ptr 0 0]), (4, AVal.bool false), (5, AVal.int IntKind.i64 skip), (6, AVal.bool ahead), (15, AVal.loc 0 0)],
  locs := [AObj.iter s (pos + Prod.snd (Utf8.decode { data := List.toArray s } pos))], defers := [] }
  [AObj.cells [AVal.slice (Own.row 23) es]]
  else
  bif ahead then
  bif decide (halfV (List.drop (Int.toNat (↑pos : Int)) (List.take (List.length s) s)) ≥ 56320) then
  K AExit.ret
  {
  tmps :=
  slots 64 0 [(0, AVal.str s), (1, AVal.fn 40 [AVal.ptr 0 0]), (4, AVal.bool false), (5, AVal.int IntKind.i64 skip), (6, AVal.bool ahead), (15, AVal.loc 0 0)],
  locs := [AObj.iter s (pos + Prod.snd (Utf8.decode { data := List.toArray s } pos))],
  defers := [] }
  [AObj.cells [AVal.slice (Own.row 23) es]]
  else
  bif decide (halfV (List.drop (Int.toNat (↑pos : Int)) (List.take (List.length s) s)) ≥ 55296) then
  bif
  isCp (halfV (List.drop (Int.toNat (↑pos : Int)) (List.take (List.length s) s))) &&
  (Nat.beq 0 0 && Nat.beq 0 0 && decide (List.length es ≤ 1000000)) then
  K AExit.normal
  {
  tmps :=
  slots 64 0 [(0, AVal.str s), (1, AVal.fn 40 [AVal.ptr 0 0]), (4, AVal.bool false), (5, AVal.int IntKind.i64 2), (6, AVal.bool (decide (halfV (List.drop (Int.toNat (↑pos : Int)) (List.take (List.length s) s)) < 56320))), (15, AVal.loc 0 0)],
  locs := [AObj.iter s (pos + Prod.snd (Utf8.decode { data := List.toArray s } pos))],
  defers := [] }
  [AObj.cells
  [AVal.slice (Own.row 23)
  (List.append es
  (uL (halfV (List.drop (Int.toNat (↑pos : Int)) (List.take (List.length s) s)))))]]
  else none
  else
  bif
  isCp (halfV (List.drop (Int.toNat (↑pos : Int)) (List.take (List.length s) s))) &&
  (Nat.beq 0 0 && Nat.beq 0 0 && decide (List.length es ≤ 1000000)) then
  K AExit.normal
  {
  tmps :=
  slots 64 0 [(0, AVal.str s), (1, AVal.fn 40 [AVal.ptr 0 0]), (4, AVal.bool false), (5, AVal.int IntKind.i64 2), (6, AVal.bool false), (15, AVal.loc 0 0)],
  locs := [AObj.iter s (pos + Prod.snd (Utf8.decode { data := List.toArray s } pos))],
  defers := [] }
  [AObj.cells
  [AVal.slice (Own.row 23)
  (List.append es
  (uL (halfV (List.drop (Int.toNat (↑pos : Int)) (List.take (List.length s) s)))))]]
  else none
  else
  bif decide (halfV (List.drop (Int.toNat (↑pos : Int)) (List.take (List.length s) s)) ≥ 55296) then
  bif
  isCp (halfV (List.drop (Int.toNat (↑pos : Int)) (List.take (List.length s) s))) &&
  (Nat.beq 0 0 && Nat.beq 0 0 && decide (List.length es ≤ 1000000)) then
  K AExit.normal
  {
  tmps :=
  slots 64 0 [(0, AVal.str s), (1, AVal.fn 40 [AVal.ptr 0 0]), (4, AVal.bool false), (5, AVal.int IntKind.i64 2), (6, AVal.bool (decide (halfV (List.drop (Int.toNat (↑pos : Int)) (List.take (List.length s) s)) < 56320))), (15, AVal.loc 0 0)],
  locs := [AObj.iter s (pos + Prod.snd (Utf8.decode { data := List.toArray s } pos))],
  defers := [] }
  [AObj.cells
  [AVal.slice (Own.row 23)
  (List.append es
  (uL (halfV (List.drop (Int.toNat (↑pos : Int)) (List.take (List.length s) s)))))]]
  else none
  else
  bif
  isCp (halfV (List.drop (Int.toNat (↑pos : Int)) (List.take (List.length s) s))) &&
  (Nat.beq 0 0 && Nat.beq 0 0 && decide (List.length es ≤ 1000000)) then
  K AExit.normal
  {
  tmps :=
  slots 64 0 [(0, AVal.str s), (1, AVal.fn 40 [AVal.ptr 0 0]), (4, AVal.bool false), (5, AVal.int IntKind.i64 2), (6, AVal.bool false), (15, AVal.loc 0 0)],
  locs := [AObj.iter s (pos + Prod.snd (Utf8.decode { data := List.toArray s } pos))],
  defers := [] }
  [AObj.cells
  [AVal.slice (Own.row 23)
  (List.append es
  (uL (halfV (List.drop (Int.toNat (↑pos : Int)) (List.take (List.length s) s)))))]]
  else none
  else none
  else
  bif
  decide
  (IntKind.wrap IntKind.i64 (↑(Prod.fst (Utf8.decode { data := List.toArray s } pos)) : Int) ≥ 55296) then
  bif
  isCp (IntKind.wrap IntKind.i64 (↑(Prod.fst (Utf8.decode { data := List.toArray s } pos)) : Int)) &&
  (Nat.beq 0 0 && Nat.beq 0 0 && decide (List.length es ≤ 1000000)) then
  K AExit.normal
  {
  tmps :=
  slots 64 0 [(0, AVal.str s), (1, AVal.fn 40 [AVal.ptr 0 0]), (4, AVal.bool false), (5, AVal.int IntKind.i64 skip), (6, AVal.bool (decide (IntKind.wrap IntKind.i64 (↑(Prod.fst (Utf8.decode { data := List.toArray s } pos)) : Int) < 56320))), (15, AVal.loc 0 0)],
  locs := [AObj.iter s (pos + Prod.snd (Utf8.decode { data := List.toArray s } pos))], defers := [] }
  [AObj.cells
  [AVal.slice (Own.row 23)
  (List.append es
  (uL
  (IntKind.wrap IntKind.i64
  (↑(Prod.fst (Utf8.decode { data := List.toArray s } pos)) : Int))))]]
  else none
  else
  bif
  isCp (IntKind.wrap IntKind.i64 (↑(Prod.fst (Utf8.decode { data := List.toArray s } pos)) : Int)) &&
  (Nat.beq 0 0 && Nat.beq 0 0 && decide (List.length es ≤ 1000000)) then
  K AExit.normal
  {
  tmps :=
  slots 64 0 [(0, AVal.str s), (1, AVal.fn 40 [AVal.ptr 0 0]), (4, AVal.bool false), (5, AVal.int IntKind.i64 skip), (6, AVal.bool false), (15, AVal.loc 0 0)],
  locs := [AObj.iter s (pos + Prod.snd (Utf8.decode { data := List.toArray s } pos))], defers := [] }
  [AObj.cells
  [AVal.slice (Own.row 23)
  (List.append es
  (uL
  (IntKind.wrap IntKind.i64
  (↑(Prod.fst (Utf8.decode { data := List.toArray s } pos)) : Int))))]]
  else none
  else none
  else
  bif
  decide
  (IntKind.wrap IntKind.i64 (↑(Prod.fst (Utf8.decode { data := List.toArray s } pos)) : Int) ≥ 55296) then
  bif
  isCp (IntKind.wrap IntKind.i64 (↑(Prod.fst (Utf8.decode { data := List.toArray s } pos)) : Int)) &&
  (Nat.beq 0 0 && Nat.beq 0 0 && decide (List.length es ≤ 1000000)) then
  K AExit.normal
  {
  tmps :=
  slots 64 0 [(0, AVal.str s), (1, AVal.fn 40 [AVal.ptr 0 0]), (4, AVal.bool false), (5, AVal.int IntKind.i64 skip), (6, AVal.bool (decide (IntKind.wrap IntKind.i64 (↑(Prod.fst (Utf8.decode { data := List.toArray s } pos)) : Int) < 56320))), (15, AVal.loc 0 0)],
  locs := [AObj.iter s (pos + Prod.snd (Utf8.decode { data := List.toArray s } pos))], defers := [] }
  [AObj.cells
  [AVal.slice (Own.row 23)
  (List.append es
  (uL
  (IntKind.wrap IntKind.i64 (↑(Prod.fst (Utf8.decode { data := List.toArray s } pos)) : Int))))]]
  else none
  else
  bif
  isCp (IntKind.wrap IntKind.i64 (↑(Prod.fst (Utf8.decode { data := List.toArray s } pos)) : Int)) &&
  (Nat.beq 0 0 && Nat.beq 0 0 && decide (List.length es ≤ 1000000)) then
  K AExit.normal
  {
  tmps :=
  slots 64 0 [(0, AVal.str s), (1, AVal.fn 40 [AVal.ptr 0 0]), (4, AVal.bool false), (5, AVal.int IntKind.i64 skip), (6, AVal.bool false), (15, AVal.loc 0 0)],
  locs := [AObj.iter s (pos + Prod.snd (Utf8.decode { data := List.toArray s } pos))], defers := [] }
  [AObj.cells
  [AVal.slice (Own.row 23)
  (List.append es
  (uL
  (IntKind.wrap IntKind.i64 (↑(Prod.fst (Utf8.decode { data := List.toArray s } pos)) : Int))))]]
  else none
  else
  K (AExit.exit 0)
  {
  tmps :=
  slots 64 0 [(0, AVal.str s), (1, AVal.fn 40 [AVal.ptr 0 0]), (4, AVal.bool false), (5, AVal.int IntKind.i64 skip), (6, AVal.bool ahead), (15, AVal.loc 0 0)],
  locs := [AObj.iter s pos], defers := [] }
  [AObj.cells [AVal.slice (Own.row 23) es]] := by kernel_rfl
theorem text14f (k : Nat) (u : List (List AVal)) (i : Int) (R : Type) (K : AExit → AFrame → Mem → Option R) : exec env (denL env N1 noLoops (Nat.succ k)) 14 (loopAt Tryd.f14 0) (frText 64 u (.slice .full []) i) [] (fun ex fr m => K ex (norm env 14 fr) m)  =
  bif decide (i < (↑(List.length u) : Int)) then
  if 0 ≤ i ∧ i < (↑(List.length u) : Int) then
  bif Nat.beq (List.length (nthL u (Int.toNat i))) 1 then
  bif Nat.ble 1 (List.length (nthL u (Int.toNat i))) && Nat.beq 1 (List.length [AVal.int IntKind.u16 0]) then
  bif isI IntKind.u16 (cellAt (nthL u (Int.toNat i)) 0) then
  bif decide (IntKind.wrap IntKind.i64 (getI (cellAt (nthL u (Int.toNat i)) 0)) ≥ 55296) then
  bif decide (IntKind.wrap IntKind.i64 (getI (cellAt (nthL u (Int.toNat i)) 0)) < 56320) then
  bif decide (IntKind.wrap IntKind.i64 (i + 1) < (↑(List.length u) : Int)) then
  if
  0 ≤ IntKind.wrap IntKind.i64 (i + 1) ∧
  IntKind.wrap IntKind.i64 (i + 1) < (↑(List.length u) : Int) then
  bif Nat.beq (List.length (nthL u (Int.toNat (IntKind.wrap IntKind.i64 (i + 1))))) 1 then
  bif
  Nat.ble 1 (List.length (nthL u (Int.toNat (IntKind.wrap IntKind.i64 (i + 1))))) &&
  Nat.beq 1 (List.length [AVal.int IntKind.u16 0]) then
  bif isI IntKind.u16 (cellAt (nthL u (Int.toNat (IntKind.wrap IntKind.i64 (i + 1)))) 0) then
  bif
  decide
  (getI (cellAt (nthL u (Int.toNat (IntKind.wrap IntKind.i64 (i + 1)))) 0) ≥ 56320) then
  if
  0 ≤ IntKind.wrap IntKind.i64 (i + 1) ∧
  IntKind.wrap IntKind.i64 (i + 1) < (↑(List.length u) : Int) then
  bif Nat.beq (List.length (nthL u (Int.toNat (IntKind.wrap IntKind.i64 (i + 1))))) 1 then
  bif
  Nat.ble 1 (List.length (nthL u (Int.toNat (IntKind.wrap IntKind.i64 (i + 1))))) &&
  Nat.beq 1 (List.length [AVal.int IntKind.u16 0]) then
  bif
  isI IntKind.u16
  (cellAt (nthL u (Int.toNat (IntKind.wrap IntKind.i64 (i + 1)))) 0) then
  bif
  decide
  (getI (cellAt (nthL u (Int.toNat (IntKind.wrap IntKind.i64 (i + 1)))) 0) <
  57344) then
  if
  0 ≤ IntKind.wrap IntKind.i64 (i + 1) ∧
  IntKind.wrap IntKind.i64 (i + 1) < (↑(List.length u) : Int) then
  bif
  Nat.beq (List.length (nthL u (Int.toNat (IntKind.wrap IntKind.i64 (i + 1)))))
  1 then
  bif
  Nat.ble 1
  (List.length (nthL u (Int.toNat (IntKind.wrap IntKind.i64 (i + 1))))) &&
  Nat.beq 1 (List.length [AVal.int IntKind.u16 0]) then
  bif
  isI IntKind.u16
  (cellAt (nthL u (Int.toNat (IntKind.wrap IntKind.i64 (i + 1)))) 0) then
  bif
  isCp
  (IntKind.wrap IntKind.i64
  (IntKind.wrap IntKind.i64
  (IntKind.wrap IntKind.i64
  (65536 +
  IntKind.wrap IntKind.i64
  (IntKind.wrap IntKind.i64
  (IntKind.wrap IntKind.i64
  (getI (cellAt (nthL u (Int.toNat i)) 0)) -
  55296) *
  2 ^ min (Int.toNat 10) (IntKind.bits IntKind.i64))) +
  IntKind.wrap IntKind.i64
  (getI
  (cellAt
  (nthL u (Int.toNat (IntKind.wrap IntKind.i64 (i + 1))))
  0))) -
  56320)) then
  K AExit.normal
  {
  tmps :=
  slots 64 0 [(0, AVal.slice Own.no u), (2, AVal.str []), (3, AVal.slice (Own.row 5) (encL (IntKind.wrap IntKind.i64 (IntKind.wrap IntKind.i64 (IntKind.wrap IntKind.i64 (65536 + IntKind.wrap IntKind.i64 (IntKind.wrap IntKind.i64 (IntKind.wrap IntKind.i64 (getI (cellAt (nthL u (Int.toNat i)) 0)) - 55296) * 2 ^ min (Int.toNat 10) (IntKind.bits IntKind.i64))) + IntKind.wrap IntKind.i64 (getI (cellAt (nthL u (Int.toNat (IntKind.wrap IntKind.i64 (i + 1)))) 0))) - 56320)))), (4, AVal.int IntKind.i64 (IntKind.wrap IntKind.i64 (IntKind.wrap IntKind.i64 (i + 1) + 1)))],
  locs := [], defers := [] }
  []
  else none
  else none
  else none
  else none
  else none
  else
  bif isCp (IntKind.wrap IntKind.i64 (getI (cellAt (nthL u (Int.toNat i)) 0))) then
  K AExit.normal
  {
  tmps :=
  slots 64 0 [(0, AVal.slice Own.no u), (2, AVal.str []), (3, AVal.slice (Own.row 5) (encL (IntKind.wrap IntKind.i64 (getI (cellAt (nthL u (Int.toNat i)) 0))))), (4, AVal.int IntKind.i64 (IntKind.wrap IntKind.i64 (i + 1)))],
  locs := [], defers := [] }
  []
  else none
  else none
  else none
  else none
  else none
  else
  bif isCp (IntKind.wrap IntKind.i64 (getI (cellAt (nthL u (Int.toNat i)) 0))) then
  K AExit.normal
  {
  tmps :=
  slots 64 0 [(0, AVal.slice Own.no u), (2, AVal.str []), (3, AVal.slice (Own.row 5) (encL (IntKind.wrap IntKind.i64 (getI (cellAt (nthL u (Int.toNat i)) 0))))), (4, AVal.int IntKind.i64 (IntKind.wrap IntKind.i64 (i + 1)))],
  locs := [], defers := [] }
  []
  else none
  else none
  else none
  else none
  else none
  else
  bif isCp (IntKind.wrap IntKind.i64 (getI (cellAt (nthL u (Int.toNat i)) 0))) then
  K AExit.normal
  {
  tmps :=
  slots 64 0 [(0, AVal.slice Own.no u), (2, AVal.str []), (3, AVal.slice (Own.row 5) (encL (IntKind.wrap IntKind.i64 (getI (cellAt (nthL u (Int.toNat i)) 0))))), (4, AVal.int IntKind.i64 (IntKind.wrap IntKind.i64 (i + 1)))],
  locs := [], defers := [] }
  []
  else none
  else
  bif isCp (IntKind.wrap IntKind.i64 (getI (cellAt (nthL u (Int.toNat i)) 0))) then
  K AExit.normal
  {
  tmps :=
  slots 64 0 [(0, AVal.slice Own.no u), (2, AVal.str []), (3, AVal.slice (Own.row 5) (encL (IntKind.wrap IntKind.i64 (getI (cellAt (nthL u (Int.toNat i)) 0))))), (4, AVal.int IntKind.i64 (IntKind.wrap IntKind.i64 (i + 1)))],
  locs := [], defers := [] }
  []
  else none
  else
  bif isCp (IntKind.wrap IntKind.i64 (getI (cellAt (nthL u (Int.toNat i)) 0))) then
  K AExit.normal
  {
  tmps :=
  slots 64 0 [(0, AVal.slice Own.no u), (2, AVal.str []), (3, AVal.slice (Own.row 5) (encL (IntKind.wrap IntKind.i64 (getI (cellAt (nthL u (Int.toNat i)) 0))))), (4, AVal.int IntKind.i64 (IntKind.wrap IntKind.i64 (i + 1)))],
  locs := [], defers := [] }
  []
  else none
  else none
  else none
  else none
  else none
  else
  K (AExit.exit 0)
  {
  tmps :=
  slots 64 0 [(0, AVal.slice Own.no u), (2, AVal.str []), (3, AVal.slice Own.full []), (4, AVal.int IntKind.i64 i)],
  locs := [], defers := [] }
  [] := by kernel_rfl
theorem text14r (k : Nat) (u b : List (List AVal)) (i : Int) (R : Type) (K : AExit → AFrame → Mem → Option R) : exec env (denL env N1 noLoops (Nat.succ k)) 14 (loopAt Tryd.f14 0) (frText 64 u (.slice (.row 5) b) i) [] (fun ex fr m => K ex (norm env 14 fr) m)  =
  bif decide (i < (↑(List.length u) : Int)) then
  if 0 ≤ i ∧ i < (↑(List.length u) : Int) then
  bif Nat.beq (List.length (nthL u (Int.toNat i))) 1 then
  bif Nat.ble 1 (List.length (nthL u (Int.toNat i))) && Nat.beq 1 (List.length [AVal.int IntKind.u16 0]) then
  bif isI IntKind.u16 (cellAt (nthL u (Int.toNat i)) 0) then
  bif decide (IntKind.wrap IntKind.i64 (getI (cellAt (nthL u (Int.toNat i)) 0)) ≥ 55296) then
  bif decide (IntKind.wrap IntKind.i64 (getI (cellAt (nthL u (Int.toNat i)) 0)) < 56320) then
  bif decide (IntKind.wrap IntKind.i64 (i + 1) < (↑(List.length u) : Int)) then
  if
  0 ≤ IntKind.wrap IntKind.i64 (i + 1) ∧
  IntKind.wrap IntKind.i64 (i + 1) < (↑(List.length u) : Int) then
  bif Nat.beq (List.length (nthL u (Int.toNat (IntKind.wrap IntKind.i64 (i + 1))))) 1 then
  bif
  Nat.ble 1 (List.length (nthL u (Int.toNat (IntKind.wrap IntKind.i64 (i + 1))))) &&
  Nat.beq 1 (List.length [AVal.int IntKind.u16 0]) then
  bif isI IntKind.u16 (cellAt (nthL u (Int.toNat (IntKind.wrap IntKind.i64 (i + 1)))) 0) then
  bif
  decide
  (getI (cellAt (nthL u (Int.toNat (IntKind.wrap IntKind.i64 (i + 1)))) 0) ≥ 56320) then
  if
  0 ≤ IntKind.wrap IntKind.i64 (i + 1) ∧
  IntKind.wrap IntKind.i64 (i + 1) < (↑(List.length u) : Int) then
  bif Nat.beq (List.length (nthL u (Int.toNat (IntKind.wrap IntKind.i64 (i + 1))))) 1 then
  bif
  Nat.ble 1 (List.length (nthL u (Int.toNat (IntKind.wrap IntKind.i64 (i + 1))))) &&
  Nat.beq 1 (List.length [AVal.int IntKind.u16 0]) then
  bif
  isI IntKind.u16
  (cellAt (nthL u (Int.toNat (IntKind.wrap IntKind.i64 (i + 1)))) 0) then
  bif
  decide
  (getI (cellAt (nthL u (Int.toNat (IntKind.wrap IntKind.i64 (i + 1)))) 0) <
  57344) then
  if
  0 ≤ IntKind.wrap IntKind.i64 (i + 1) ∧
  IntKind.wrap IntKind.i64 (i + 1) < (↑(List.length u) : Int) then
  bif
  Nat.beq (List.length (nthL u (Int.toNat (IntKind.wrap IntKind.i64 (i + 1)))))
  1 then
  bif
  Nat.ble 1
  (List.length (nthL u (Int.toNat (IntKind.wrap IntKind.i64 (i + 1))))) &&
  Nat.beq 1 (List.length [AVal.int IntKind.u16 0]) then
  bif
  isI IntKind.u16
  (cellAt (nthL u (Int.toNat (IntKind.wrap IntKind.i64 (i + 1)))) 0) then
  bif
  isCp
  (IntKind.wrap IntKind.i64
  (IntKind.wrap IntKind.i64
  (IntKind.wrap IntKind.i64
  (65536 +
  IntKind.wrap IntKind.i64
  (IntKind.wrap IntKind.i64
  (IntKind.wrap IntKind.i64
  (getI (cellAt (nthL u (Int.toNat i)) 0)) -
  55296) *
  2 ^
  min (Int.toNat 10) (IntKind.bits IntKind.i64))) +
  IntKind.wrap IntKind.i64
  (getI
  (cellAt
  (nthL u
  (Int.toNat (IntKind.wrap IntKind.i64 (i + 1))))
  0))) -
  56320)) &&
  decide (List.length b ≤ 1000000) then
  K AExit.normal
  {
  tmps :=
  slots 64 0 [(0, AVal.slice Own.no u), (2, AVal.str []), (3, AVal.slice (Own.row 5) (List.append b (encL (IntKind.wrap IntKind.i64 (IntKind.wrap IntKind.i64 (IntKind.wrap IntKind.i64 (65536 + IntKind.wrap IntKind.i64 (IntKind.wrap IntKind.i64 (IntKind.wrap IntKind.i64 (getI (cellAt (nthL u (Int.toNat i)) 0)) - 55296) * 2 ^ min (Int.toNat 10) (IntKind.bits IntKind.i64))) + IntKind.wrap IntKind.i64 (getI (cellAt (nthL u (Int.toNat (IntKind.wrap IntKind.i64 (i + 1)))) 0))) - 56320))))), (4, AVal.int IntKind.i64 (IntKind.wrap IntKind.i64 (IntKind.wrap IntKind.i64 (i + 1) + 1)))],
  locs := [], defers := [] }
  []
  else none
  else none
  else none
  else none
  else none
  else
  bif
  isCp (IntKind.wrap IntKind.i64 (getI (cellAt (nthL u (Int.toNat i)) 0))) &&
  decide (List.length b ≤ 1000000) then
  K AExit.normal
  {
  tmps :=
  slots 64 0 [(0, AVal.slice Own.no u), (2, AVal.str []), (3, AVal.slice (Own.row 5) (List.append b (encL (IntKind.wrap IntKind.i64 (getI (cellAt (nthL u (Int.toNat i)) 0)))))), (4, AVal.int IntKind.i64 (IntKind.wrap IntKind.i64 (i + 1)))],
  locs := [], defers := [] }
  []
  else none
  else none
  else none
  else none
  else none
  else
  bif
  isCp (IntKind.wrap IntKind.i64 (getI (cellAt (nthL u (Int.toNat i)) 0))) &&
  decide (List.length b ≤ 1000000) then
  K AExit.normal
  {
  tmps :=
  slots 64 0 [(0, AVal.slice Own.no u), (2, AVal.str []), (3, AVal.slice (Own.row 5) (List.append b (encL (IntKind.wrap IntKind.i64 (getI (cellAt (nthL u (Int.toNat i)) 0)))))), (4, AVal.int IntKind.i64 (IntKind.wrap IntKind.i64 (i + 1)))],
  locs := [], defers := [] }
  []
  else none
  else none
  else none
  else none
  else none
  else
  bif
  isCp (IntKind.wrap IntKind.i64 (getI (cellAt (nthL u (Int.toNat i)) 0))) &&
  decide (List.length b ≤ 1000000) then
  K AExit.normal
  {
  tmps :=
  slots 64 0 [(0, AVal.slice Own.no u), (2, AVal.str []), (3, AVal.slice (Own.row 5) (List.append b (encL (IntKind.wrap IntKind.i64 (getI (cellAt (nthL u (Int.toNat i)) 0)))))), (4, AVal.int IntKind.i64 (IntKind.wrap IntKind.i64 (i + 1)))],
  locs := [], defers := [] }
  []
  else none
  else
  bif
  isCp (IntKind.wrap IntKind.i64 (getI (cellAt (nthL u (Int.toNat i)) 0))) &&
  decide (List.length b ≤ 1000000) then
  K AExit.normal
  {
  tmps :=
  slots 64 0 [(0, AVal.slice Own.no u), (2, AVal.str []), (3, AVal.slice (Own.row 5) (List.append b (encL (IntKind.wrap IntKind.i64 (getI (cellAt (nthL u (Int.toNat i)) 0)))))), (4, AVal.int IntKind.i64 (IntKind.wrap IntKind.i64 (i + 1)))],
  locs := [], defers := [] }
  []
  else none
  else
  bif
  isCp (IntKind.wrap IntKind.i64 (getI (cellAt (nthL u (Int.toNat i)) 0))) &&
  decide (List.length b ≤ 1000000) then
  K AExit.normal
  {
  tmps :=
  slots 64 0 [(0, AVal.slice Own.no u), (2, AVal.str []), (3, AVal.slice (Own.row 5) (List.append b (encL (IntKind.wrap IntKind.i64 (getI (cellAt (nthL u (Int.toNat i)) 0)))))), (4, AVal.int IntKind.i64 (IntKind.wrap IntKind.i64 (i + 1)))],
  locs := [], defers := [] }
  []
  else none
  else none
  else none
  else none
  else none
  else
  K (AExit.exit 0)
  {
  tmps :=
  slots 64 0 [(0, AVal.slice Own.no u), (2, AVal.str []), (3, AVal.slice (Own.row 5) b), (4, AVal.int IntKind.i64 i)],
  locs := [], defers := [] }
  [] := by kernel_rfl
theorem text21f (k : Nat) (u : List (List AVal)) (i : Int) (R : Type) (K : AExit → AFrame → Mem → Option R) : exec env (denL env N1 noLoops (Nat.succ k)) 21 (loopAt Tryd.f21 0) (frText 65 u (.slice .full []) i) [] (fun ex fr m => K ex (norm env 21 fr) m)  =
  bif decide (i < (↑(List.length u) : Int)) then
  if 0 ≤ i ∧ i < (↑(List.length u) : Int) then
  bif Nat.beq (List.length (nthL u (Int.toNat i))) 1 then
  bif Nat.ble 1 (List.length (nthL u (Int.toNat i))) && Nat.beq 1 (List.length [AVal.int IntKind.u16 0]) then
  bif isI IntKind.u16 (cellAt (nthL u (Int.toNat i)) 0) then
  bif decide (IntKind.wrap IntKind.i64 (getI (cellAt (nthL u (Int.toNat i)) 0)) ≥ 55296) then
  bif decide (IntKind.wrap IntKind.i64 (getI (cellAt (nthL u (Int.toNat i)) 0)) ≤ 56319) then
  bif decide (IntKind.wrap IntKind.i64 (i + 1) < (↑(List.length u) : Int)) then
  if
  0 ≤ IntKind.wrap IntKind.i64 (i + 1) ∧
  IntKind.wrap IntKind.i64 (i + 1) < (↑(List.length u) : Int) then
  bif Nat.beq (List.length (nthL u (Int.toNat (IntKind.wrap IntKind.i64 (i + 1))))) 1 then
  bif
  Nat.ble 1 (List.length (nthL u (Int.toNat (IntKind.wrap IntKind.i64 (i + 1))))) &&
  Nat.beq 1 (List.length [AVal.int IntKind.u16 0]) then
  bif isI IntKind.u16 (cellAt (nthL u (Int.toNat (IntKind.wrap IntKind.i64 (i + 1)))) 0) then
  bif
  decide
  (getI (cellAt (nthL u (Int.toNat (IntKind.wrap IntKind.i64 (i + 1)))) 0) ≥ 56320) then
  if
  0 ≤ IntKind.wrap IntKind.i64 (i + 1) ∧
  IntKind.wrap IntKind.i64 (i + 1) < (↑(List.length u) : Int) then
  bif Nat.beq (List.length (nthL u (Int.toNat (IntKind.wrap IntKind.i64 (i + 1))))) 1 then
  bif
  Nat.ble 1 (List.length (nthL u (Int.toNat (IntKind.wrap IntKind.i64 (i + 1))))) &&
  Nat.beq 1 (List.length [AVal.int IntKind.u16 0]) then
  bif
  isI IntKind.u16
  (cellAt (nthL u (Int.toNat (IntKind.wrap IntKind.i64 (i + 1)))) 0) then
  bif
  decide
  (getI (cellAt (nthL u (Int.toNat (IntKind.wrap IntKind.i64 (i + 1)))) 0) ≤
  57343) then
  if
  0 ≤ IntKind.wrap IntKind.i64 (i + 1) ∧
  IntKind.wrap IntKind.i64 (i + 1) < (↑(List.length u) : Int) then
  bif
  Nat.beq (List.length (nthL u (Int.toNat (IntKind.wrap IntKind.i64 (i + 1)))))
  1 then
  bif
  Nat.ble 1
  (List.length (nthL u (Int.toNat (IntKind.wrap IntKind.i64 (i + 1))))) &&
  Nat.beq 1 (List.length [AVal.int IntKind.u16 0]) then
  bif
  isI IntKind.u16
  (cellAt (nthL u (Int.toNat (IntKind.wrap IntKind.i64 (i + 1)))) 0) then
  bif
  isCp
  (IntKind.wrap IntKind.i64
  (IntKind.wrap IntKind.i64
  (IntKind.wrap IntKind.i64
  (65536 +
  IntKind.wrap IntKind.i64
  (IntKind.wrap IntKind.i64
  (IntKind.wrap IntKind.i64
  (getI (cellAt (nthL u (Int.toNat i)) 0)) -
  55296) *
  2 ^ min (Int.toNat 10) (IntKind.bits IntKind.i64))) +
  IntKind.wrap IntKind.i64
  (getI
  (cellAt
  (nthL u (Int.toNat (IntKind.wrap IntKind.i64 (i + 1))))
  0))) -
  56320)) then
  K AExit.normal
  {
  tmps :=
  slots 65 0 [(0, AVal.slice Own.no u), (2, AVal.str []), (3, AVal.slice (Own.row 5) (encL (IntKind.wrap IntKind.i64 (IntKind.wrap IntKind.i64 (IntKind.wrap IntKind.i64 (65536 + IntKind.wrap IntKind.i64 (IntKind.wrap IntKind.i64 (IntKind.wrap IntKind.i64 (getI (cellAt (nthL u (Int.toNat i)) 0)) - 55296) * 2 ^ min (Int.toNat 10) (IntKind.bits IntKind.i64))) + IntKind.wrap IntKind.i64 (getI (cellAt (nthL u (Int.toNat (IntKind.wrap IntKind.i64 (i + 1)))) 0))) - 56320)))), (4, AVal.int IntKind.i64 (IntKind.wrap IntKind.i64 (IntKind.wrap IntKind.i64 (i + 1) + 1)))],
  locs := [], defers := [] }
  []
  else none
  else none
  else none
  else none
  else none
  else
  bif isCp (IntKind.wrap IntKind.i64 (getI (cellAt (nthL u (Int.toNat i)) 0))) then
  K AExit.normal
  {
  tmps :=
  slots 65 0 [(0, AVal.slice Own.no u), (2, AVal.str []), (3, AVal.slice (Own.row 5) (encL (IntKind.wrap IntKind.i64 (getI (cellAt (nthL u (Int.toNat i)) 0))))), (4, AVal.int IntKind.i64 (IntKind.wrap IntKind.i64 (i + 1)))],
  locs := [], defers := [] }
  []
  else none
  else none
  else none
  else none
  else none
  else
  bif isCp (IntKind.wrap IntKind.i64 (getI (cellAt (nthL u (Int.toNat i)) 0))) then
  K AExit.normal
  {
  tmps :=
  slots 65 0 [(0, AVal.slice Own.no u), (2, AVal.str []), (3, AVal.slice (Own.row 5) (encL (IntKind.wrap IntKind.i64 (getI (cellAt (nthL u (Int.toNat i)) 0))))), (4, AVal.int IntKind.i64 (IntKind.wrap IntKind.i64 (i + 1)))],
  locs := [], defers := [] }
  []
  else none
  else none
  else none
  else none
  else none
  else
  bif isCp (IntKind.wrap IntKind.i64 (getI (cellAt (nthL u (Int.toNat i)) 0))) then
  K AExit.normal
  {
  tmps :=
  slots 65 0 [(0, AVal.slice Own.no u), (2, AVal.str []), (3, AVal.slice (Own.row 5) (encL (IntKind.wrap IntKind.i64 (getI (cellAt (nthL u (Int.toNat i)) 0))))), (4, AVal.int IntKind.i64 (IntKind.wrap IntKind.i64 (i + 1)))],
  locs := [], defers := [] }
  []
  else none
  else
  bif isCp (IntKind.wrap IntKind.i64 (getI (cellAt (nthL u (Int.toNat i)) 0))) then
  K AExit.normal
  {
  tmps :=
  slots 65 0 [(0, AVal.slice Own.no u), (2, AVal.str []), (3, AVal.slice (Own.row 5) (encL (IntKind.wrap IntKind.i64 (getI (cellAt (nthL u (Int.toNat i)) 0))))), (4, AVal.int IntKind.i64 (IntKind.wrap IntKind.i64 (i + 1)))],
  locs := [], defers := [] }
  []
  else none
  else
  bif isCp (IntKind.wrap IntKind.i64 (getI (cellAt (nthL u (Int.toNat i)) 0))) then
  K AExit.normal
  {
  tmps :=
  slots 65 0 [(0, AVal.slice Own.no u), (2, AVal.str []), (3, AVal.slice (Own.row 5) (encL (IntKind.wrap IntKind.i64 (getI (cellAt (nthL u (Int.toNat i)) 0))))), (4, AVal.int IntKind.i64 (IntKind.wrap IntKind.i64 (i + 1)))],
  locs := [], defers := [] }
  []
  else none
  else none
  else none
  else none
  else none
  else
  K (AExit.exit 0)
  {
  tmps :=
  slots 65 0 [(0, AVal.slice Own.no u), (2, AVal.str []), (3, AVal.slice Own.full []), (4, AVal.int IntKind.i64 i)],
  locs := [], defers := [] }
  [] := by kernel_rfl
theorem text21r (k : Nat) (u b : List (List AVal)) (i : Int) (R : Type) (K : AExit → AFrame → Mem → Option R) : exec env (denL env N1 noLoops (Nat.succ k)) 21 (loopAt Tryd.f21 0) (frText 65 u (.slice (.row 5) b) i) [] (fun ex fr m => K ex (norm env 21 fr) m)  =
  bif decide (i < (↑(List.length u) : Int)) then
  if 0 ≤ i ∧ i < (↑(List.length u) : Int) then
  bif Nat.beq (List.length (nthL u (Int.toNat i))) 1 then
  bif Nat.ble 1 (List.length (nthL u (Int.toNat i))) && Nat.beq 1 (List.length [AVal.int IntKind.u16 0]) then
  bif isI IntKind.u16 (cellAt (nthL u (Int.toNat i)) 0) then
  bif decide (IntKind.wrap IntKind.i64 (getI (cellAt (nthL u (Int.toNat i)) 0)) ≥ 55296) then
  bif decide (IntKind.wrap IntKind.i64 (getI (cellAt (nthL u (Int.toNat i)) 0)) ≤ 56319) then
  bif decide (IntKind.wrap IntKind.i64 (i + 1) < (↑(List.length u) : Int)) then
  if
  0 ≤ IntKind.wrap IntKind.i64 (i + 1) ∧
  IntKind.wrap IntKind.i64 (i + 1) < (↑(List.length u) : Int) then
  bif Nat.beq (List.length (nthL u (Int.toNat (IntKind.wrap IntKind.i64 (i + 1))))) 1 then
  bif
  Nat.ble 1 (List.length (nthL u (Int.toNat (IntKind.wrap IntKind.i64 (i + 1))))) &&
  Nat.beq 1 (List.length [AVal.int IntKind.u16 0]) then
  bif isI IntKind.u16 (cellAt (nthL u (Int.toNat (IntKind.wrap IntKind.i64 (i + 1)))) 0) then
  bif
  decide
  (getI (cellAt (nthL u (Int.toNat (IntKind.wrap IntKind.i64 (i + 1)))) 0) ≥ 56320) then
  if
  0 ≤ IntKind.wrap IntKind.i64 (i + 1) ∧
  IntKind.wrap IntKind.i64 (i + 1) < (↑(List.length u) : Int) then
  bif Nat.beq (List.length (nthL u (Int.toNat (IntKind.wrap IntKind.i64 (i + 1))))) 1 then
  bif
  Nat.ble 1 (List.length (nthL u (Int.toNat (IntKind.wrap IntKind.i64 (i + 1))))) &&
  Nat.beq 1 (List.length [AVal.int IntKind.u16 0]) then
  bif
  isI IntKind.u16
  (cellAt (nthL u (Int.toNat (IntKind.wrap IntKind.i64 (i + 1)))) 0) then
  bif
  decide
  (getI (cellAt (nthL u (Int.toNat (IntKind.wrap IntKind.i64 (i + 1)))) 0) ≤
  57343) then
  if
  0 ≤ IntKind.wrap IntKind.i64 (i + 1) ∧
  IntKind.wrap IntKind.i64 (i + 1) < (↑(List.length u) : Int) then
  bif
  Nat.beq (List.length (nthL u (Int.toNat (IntKind.wrap IntKind.i64 (i + 1)))))
  1 then
  bif
  Nat.ble 1
  (List.length (nthL u (Int.toNat (IntKind.wrap IntKind.i64 (i + 1))))) &&
  Nat.beq 1 (List.length [AVal.int IntKind.u16 0]) then
  bif
  isI IntKind.u16
  (cellAt (nthL u (Int.toNat (IntKind.wrap IntKind.i64 (i + 1)))) 0) then
  bif
  isCp
  (IntKind.wrap IntKind.i64
  (IntKind.wrap IntKind.i64
  (IntKind.wrap IntKind.i64
  (65536 +
  IntKind.wrap IntKind.i64
  (IntKind.wrap IntKind.i64
  (IntKind.wrap IntKind.i64
  (getI (cellAt (nthL u (Int.toNat i)) 0)) -
  55296) *
  2 ^
  min (Int.toNat 10) (IntKind.bits IntKind.i64))) +
  IntKind.wrap IntKind.i64
  (getI
  (cellAt
  (nthL u
  (Int.toNat (IntKind.wrap IntKind.i64 (i + 1))))
  0))) -
  56320)) &&
  decide (List.length b ≤ 1000000) then
  K AExit.normal
  {
  tmps :=
  slots 65 0 [(0, AVal.slice Own.no u), (2, AVal.str []), (3, AVal.slice (Own.row 5) (List.append b (encL (IntKind.wrap IntKind.i64 (IntKind.wrap IntKind.i64 (IntKind.wrap IntKind.i64 (65536 + IntKind.wrap IntKind.i64 (IntKind.wrap IntKind.i64 (IntKind.wrap IntKind.i64 (getI (cellAt (nthL u (Int.toNat i)) 0)) - 55296) * 2 ^ min (Int.toNat 10) (IntKind.bits IntKind.i64))) + IntKind.wrap IntKind.i64 (getI (cellAt (nthL u (Int.toNat (IntKind.wrap IntKind.i64 (i + 1)))) 0))) - 56320))))), (4, AVal.int IntKind.i64 (IntKind.wrap IntKind.i64 (IntKind.wrap IntKind.i64 (i + 1) + 1)))],
  locs := [], defers := [] }
  []
  else none
  else none
  else none
  else none
  else none
  else
  bif
  isCp (IntKind.wrap IntKind.i64 (getI (cellAt (nthL u (Int.toNat i)) 0))) &&
  decide (List.length b ≤ 1000000) then
  K AExit.normal
  {
  tmps :=
  slots 65 0 [(0, AVal.slice Own.no u), (2, AVal.str []), (3, AVal.slice (Own.row 5) (List.append b (encL (IntKind.wrap IntKind.i64 (getI (cellAt (nthL u (Int.toNat i)) 0)))))), (4, AVal.int IntKind.i64 (IntKind.wrap IntKind.i64 (i + 1)))],
  locs := [], defers := [] }
  []
  else none
  else none
  else none
  else none
  else none
  else
  bif
  isCp (IntKind.wrap IntKind.i64 (getI (cellAt (nthL u (Int.toNat i)) 0))) &&
  decide (List.length b ≤ 1000000) then
  K AExit.normal
  {
  tmps :=
  slots 65 0 [(0, AVal.slice Own.no u), (2, AVal.str []), (3, AVal.slice (Own.row 5) (List.append b (encL (IntKind.wrap IntKind.i64 (getI (cellAt (nthL u (Int.toNat i)) 0)))))), (4, AVal.int IntKind.i64 (IntKind.wrap IntKind.i64 (i + 1)))],
  locs := [], defers := [] }
  []
  else none
  else none
  else none
  else none
  else none
  else
  bif
  isCp (IntKind.wrap IntKind.i64 (getI (cellAt (nthL u (Int.toNat i)) 0))) &&
  decide (List.length b ≤ 1000000) then
  K AExit.normal
  {
  tmps :=
  slots 65 0 [(0, AVal.slice Own.no u), (2, AVal.str []), (3, AVal.slice (Own.row 5) (List.append b (encL (IntKind.wrap IntKind.i64 (getI (cellAt (nthL u (Int.toNat i)) 0)))))), (4, AVal.int IntKind.i64 (IntKind.wrap IntKind.i64 (i + 1)))],
  locs := [], defers := [] }
  []
  else none
  else
  bif
  isCp (IntKind.wrap IntKind.i64 (getI (cellAt (nthL u (Int.toNat i)) 0))) &&
  decide (List.length b ≤ 1000000) then
  K AExit.normal
  {
  tmps :=
  slots 65 0 [(0, AVal.slice Own.no u), (2, AVal.str []), (3, AVal.slice (Own.row 5) (List.append b (encL (IntKind.wrap IntKind.i64 (getI (cellAt (nthL u (Int.toNat i)) 0)))))), (4, AVal.int IntKind.i64 (IntKind.wrap IntKind.i64 (i + 1)))],
  locs := [], defers := [] }
  []
  else none
  else
  bif
  isCp (IntKind.wrap IntKind.i64 (getI (cellAt (nthL u (Int.toNat i)) 0))) &&
  decide (List.length b ≤ 1000000) then
  K AExit.normal
  {
  tmps :=
  slots 65 0 [(0, AVal.slice Own.no u), (2, AVal.str []), (3, AVal.slice (Own.row 5) (List.append b (encL (IntKind.wrap IntKind.i64 (getI (cellAt (nthL u (Int.toNat i)) 0)))))), (4, AVal.int IntKind.i64 (IntKind.wrap IntKind.i64 (i + 1)))],
  locs := [], defers := [] }
  []
  else none
  else none
  else none
  else none
  else none
  else
  K (AExit.exit 0)
  {
  tmps :=
  slots 65 0 [(0, AVal.slice Own.no u), (2, AVal.str []), (3, AVal.slice (Own.row 5) b), (4, AVal.int IntKind.i64 i)],
  locs := [], defers := [] }
  [] := by kernel_rfl
theorem points41f (k : Nat) (s : List UInt8) (i : Int) (R : Type) (K : AExit → AFrame → Mem → Option R) : exec env (denL env N2 noLoops (Nat.succ k)) 41 (loopAt Tryd.f41 0) (frPts s (.slice .full []) i) [] (fun ex fr m => K ex (norm env 41 fr) m)  =
  bif decide (i < (↑(List.length s) : Int)) then
  bif decide (0 ≤ i) && decide (i < (↑(List.length s) : Int)) then
  bif (↑(Prod.snd (pt (List.drop (Int.toNat i) s))) : Int) == 0 then
  K AExit.ret
  {
  tmps :=
  slots 57 0 [(0, AVal.str s), (2, AVal.slice Own.full []), (3, AVal.bool false), (4, AVal.slice Own.full []), (5, AVal.int IntKind.i64 i)],
  locs := [], defers := [] }
  []
  else
  bif decide ((↑(Prod.fst (pt (List.drop (Int.toNat i) s))) : Int) ≥ 56320) then
  bif decide ((↑(Prod.fst (pt (List.drop (Int.toNat i) s))) : Int) ≤ 57343) then
  K AExit.normal
  {
  tmps :=
  slots 57 0 [(0, AVal.str s), (2, AVal.slice Own.full []), (3, AVal.bool false), (4, AVal.slice (Own.row 3) [[AVal.int IntKind.i64 (↑(Prod.fst (pt (List.drop (Int.toNat i) s))) : Int)]]), (5, AVal.int IntKind.i64 (IntKind.wrap IntKind.i64 (i + (↑(Prod.snd (pt (List.drop (Int.toNat i) s))) : Int))))],
  locs := [], defers := [] }
  []
  else
  K AExit.normal
  {
  tmps :=
  slots 57 0 [(0, AVal.str s), (2, AVal.slice Own.full []), (3, AVal.bool false), (4, AVal.slice (Own.row 3) [[AVal.int IntKind.i64 (↑(Prod.fst (pt (List.drop (Int.toNat i) s))) : Int)]]), (5, AVal.int IntKind.i64 (IntKind.wrap IntKind.i64 (i + (↑(Prod.snd (pt (List.drop (Int.toNat i) s))) : Int))))],
  locs := [], defers := [] }
  []
  else
  K AExit.normal
  {
  tmps :=
  slots 57 0 [(0, AVal.str s), (2, AVal.slice Own.full []), (3, AVal.bool false), (4, AVal.slice (Own.row 3) [[AVal.int IntKind.i64 (↑(Prod.fst (pt (List.drop (Int.toNat i) s))) : Int)]]), (5, AVal.int IntKind.i64 (IntKind.wrap IntKind.i64 (i + (↑(Prod.snd (pt (List.drop (Int.toNat i) s))) : Int))))],
  locs := [], defers := [] }
  []
  else none
  else
  K (AExit.exit 0)
  {
  tmps :=
  slots 57 0 [(0, AVal.str s), (2, AVal.slice Own.full []), (3, AVal.bool false), (4, AVal.slice Own.full []), (5, AVal.int IntKind.i64 i)],
  locs := [], defers := [] }
  [] := by kernel_rfl
theorem points41r (k : Nat) (s : List UInt8) (out : List (List AVal)) (i : Int) (R : Type) (K : AExit → AFrame → Mem → Option R) : exec env (denL env N2 noLoops (Nat.succ k)) 41 (loopAt Tryd.f41 0) (frPts s (.slice (.row 3) out) i) [] (fun ex fr m => K ex (norm env 41 fr) m)  =
  bif decide (i < (↑(List.length s) : Int)) then
  bif decide (0 ≤ i) && decide (i < (↑(List.length s) : Int)) then
  bif (↑(Prod.snd (pt (List.drop (Int.toNat i) s))) : Int) == 0 then
  K AExit.ret
  {
  tmps :=
  slots 57 0 [(0, AVal.str s), (2, AVal.slice Own.full []), (3, AVal.bool false), (4, AVal.slice (Own.row 3) out), (5, AVal.int IntKind.i64 i)],
  locs := [], defers := [] }
  []
  else
  bif decide ((↑(Prod.fst (pt (List.drop (Int.toNat i) s))) : Int) ≥ 56320) then
  bif decide ((↑(Prod.fst (pt (List.drop (Int.toNat i) s))) : Int) ≤ 57343) then
  bif decide ((↑(List.length out) : Int) > 0) then
  if
  0 ≤ IntKind.wrap IntKind.i64 ((↑(List.length out) : Int) - 1) ∧
  IntKind.wrap IntKind.i64 ((↑(List.length out) : Int) - 1) < (↑(List.length out) : Int) then
  bif
  Nat.beq
  (List.length (nthL out (Int.toNat (IntKind.wrap IntKind.i64 ((↑(List.length out) : Int) - 1)))))
  1 then
  bif
  Nat.ble 1
  (List.length
  (nthL out (Int.toNat (IntKind.wrap IntKind.i64 ((↑(List.length out) : Int) - 1))))) &&
  Nat.beq 1 (List.length [AVal.int IntKind.i64 0]) then
  bif
  isI IntKind.i64
  (cellAt (nthL out (Int.toNat (IntKind.wrap IntKind.i64 ((↑(List.length out) : Int) - 1))))
  0) then
  bif
  decide
  (getI
  (cellAt (nthL out (Int.toNat (IntKind.wrap IntKind.i64 ((↑(List.length out) : Int) - 1))))
  0) ≥
  55296) then
  if
  0 ≤ IntKind.wrap IntKind.i64 ((↑(List.length out) : Int) - 1) ∧
  IntKind.wrap IntKind.i64 ((↑(List.length out) : Int) - 1) < (↑(List.length out) : Int) then
  bif
  Nat.beq
  (List.length
  (nthL out (Int.toNat (IntKind.wrap IntKind.i64 ((↑(List.length out) : Int) - 1)))))
  1 then
  bif
  Nat.ble 1
  (List.length
  (nthL out
  (Int.toNat (IntKind.wrap IntKind.i64 ((↑(List.length out) : Int) - 1))))) &&
  Nat.beq 1 (List.length [AVal.int IntKind.i64 0]) then
  bif
  isI IntKind.i64
  (cellAt
  (nthL out (Int.toNat (IntKind.wrap IntKind.i64 ((↑(List.length out) : Int) - 1))))
  0) then
  bif
  decide
  (getI
  (cellAt
  (nthL out
  (Int.toNat (IntKind.wrap IntKind.i64 ((↑(List.length out) : Int) - 1))))
  0) ≤
  56319) then
  K AExit.ret
  {
  tmps :=
  slots 57 0 [(0, AVal.str s), (2, AVal.slice Own.full []), (3, AVal.bool false), (4, AVal.slice (Own.row 3) out), (5, AVal.int IntKind.i64 i)],
  locs := [], defers := [] }
  []
  else
  if
  (decide (1 ≠ 0) &&
  roomOk
  (List.length out +
  List.length
  [[AVal.int IntKind.i64
  (↑(Prod.fst (pt (List.drop (Int.toNat i) s))) : Int)]])
  8) =
  true then
  K AExit.normal
  {
  tmps :=
  slots 57 0 [(0, AVal.str s), (2, AVal.slice Own.full []), (3, AVal.bool false), (4, AVal.slice (Own.row 3) (List.append out [[AVal.int IntKind.i64 (↑(Prod.fst (pt (List.drop (Int.toNat i) s))) : Int)]])), (5, AVal.int IntKind.i64 (IntKind.wrap IntKind.i64 (i + (↑(Prod.snd (pt (List.drop (Int.toNat i) s))) : Int))))],
  locs := [], defers := [] }
  []
  else none
  else none
  else none
  else none
  else none
  else
  if
  (decide (1 ≠ 0) &&
  roomOk
  (List.length out +
  List.length
  [[AVal.int IntKind.i64 (↑(Prod.fst (pt (List.drop (Int.toNat i) s))) : Int)]])
  8) =
  true then
  K AExit.normal
  {
  tmps :=
  slots 57 0 [(0, AVal.str s), (2, AVal.slice Own.full []), (3, AVal.bool false), (4, AVal.slice (Own.row 3) (List.append out [[AVal.int IntKind.i64 (↑(Prod.fst (pt (List.drop (Int.toNat i) s))) : Int)]])), (5, AVal.int IntKind.i64 (IntKind.wrap IntKind.i64 (i + (↑(Prod.snd (pt (List.drop (Int.toNat i) s))) : Int))))],
  locs := [], defers := [] }
  []
  else none
  else none
  else none
  else none
  else none
  else
  if
  (decide (1 ≠ 0) &&
  roomOk
  (List.length out +
  List.length [[AVal.int IntKind.i64 (↑(Prod.fst (pt (List.drop (Int.toNat i) s))) : Int)]])
  8) =
  true then
  K AExit.normal
  {
  tmps :=
  slots 57 0 [(0, AVal.str s), (2, AVal.slice Own.full []), (3, AVal.bool false), (4, AVal.slice (Own.row 3) (List.append out [[AVal.int IntKind.i64 (↑(Prod.fst (pt (List.drop (Int.toNat i) s))) : Int)]])), (5, AVal.int IntKind.i64 (IntKind.wrap IntKind.i64 (i + (↑(Prod.snd (pt (List.drop (Int.toNat i) s))) : Int))))],
  locs := [], defers := [] }
  []
  else none
  else
  if
  (decide (1 ≠ 0) &&
  roomOk
  (List.length out +
  List.length [[AVal.int IntKind.i64 (↑(Prod.fst (pt (List.drop (Int.toNat i) s))) : Int)]])
  8) =
  true then
  K AExit.normal
  {
  tmps :=
  slots 57 0 [(0, AVal.str s), (2, AVal.slice Own.full []), (3, AVal.bool false), (4, AVal.slice (Own.row 3) (List.append out [[AVal.int IntKind.i64 (↑(Prod.fst (pt (List.drop (Int.toNat i) s))) : Int)]])), (5, AVal.int IntKind.i64 (IntKind.wrap IntKind.i64 (i + (↑(Prod.snd (pt (List.drop (Int.toNat i) s))) : Int))))],
  locs := [], defers := [] }
  []
  else none
  else
  if
  (decide (1 ≠ 0) &&
  roomOk
  (List.length out +
  List.length [[AVal.int IntKind.i64 (↑(Prod.fst (pt (List.drop (Int.toNat i) s))) : Int)]])
  8) =
  true then
  K AExit.normal
  {
  tmps :=
  slots 57 0 [(0, AVal.str s), (2, AVal.slice Own.full []), (3, AVal.bool false), (4, AVal.slice (Own.row 3) (List.append out [[AVal.int IntKind.i64 (↑(Prod.fst (pt (List.drop (Int.toNat i) s))) : Int)]])), (5, AVal.int IntKind.i64 (IntKind.wrap IntKind.i64 (i + (↑(Prod.snd (pt (List.drop (Int.toNat i) s))) : Int))))],
  locs := [], defers := [] }
  []
  else none
  else none
  else
  K (AExit.exit 0)
  {
  tmps :=
  slots 57 0 [(0, AVal.str s), (2, AVal.slice Own.full []), (3, AVal.bool false), (4, AVal.slice (Own.row 3) out), (5, AVal.int IntKind.i64 i)],
  locs := [], defers := [] }
  [] := by kernel_rfl
theorem units19f (k : Nat) (l : List (List AVal)) (b : Bool) (i : Int) (R : Type) (K : AExit → AFrame → Mem → Option R) : exec env (denL env N1 noLoops (Nat.succ k)) 19 (loopAt Tryd.f19 0) (frUnits l b (.slice .full []) i) [] (fun ex fr m => K ex (norm env 19 fr) m)  =
  bif b then
  bif decide (i < (↑(List.length l) : Int)) then
  if 0 ≤ i ∧ i < (↑(List.length l) : Int) then
  bif Nat.beq (List.length (nthL l (Int.toNat i))) 1 then
  bif Nat.ble 1 (List.length (nthL l (Int.toNat i))) && Nat.beq 1 (List.length [AVal.int IntKind.i64 0]) then
  bif isI IntKind.i64 (cellAt (nthL l (Int.toNat i)) 0) then
  bif decide (getI (cellAt (nthL l (Int.toNat i)) 0) > 65535) then
  if 0 ≤ i ∧ i < (↑(List.length l) : Int) then
  bif Nat.beq (List.length (nthL l (Int.toNat i))) 1 then
  bif
  Nat.ble 1 (List.length (nthL l (Int.toNat i))) &&
  Nat.beq 1 (List.length [AVal.int IntKind.i64 0]) then
  bif isI IntKind.i64 (cellAt (nthL l (Int.toNat i)) 0) then
  K AExit.normal
  {
  tmps :=
  slots 52 0 [(2, AVal.slice Own.full []), (3, AVal.slice Own.no l), (4, AVal.bool b), (5, AVal.slice (Own.row 23) [[AVal.int IntKind.u16 (IntKind.wrap IntKind.u16 (IntKind.wrap IntKind.i64 (55296 + Int.fdiv (IntKind.wrap IntKind.i64 (getI (cellAt (nthL l (Int.toNat i)) 0) - 65536)) (2 ^ min (Int.toNat 10) (IntKind.bits IntKind.i64)))))], [AVal.int IntKind.u16 (IntKind.wrap IntKind.u16 (IntKind.wrap IntKind.i64 (56320 + IntKind.wrap IntKind.i64 (↑(BitVec.toNat (BitVec.ofInt (IntKind.bits IntKind.i64) (IntKind.wrap IntKind.i64 (getI (cellAt (nthL l (Int.toNat i)) 0) - 65536)) &&& BitVec.ofInt (IntKind.bits IntKind.i64) 1023)) : Int))))]]), (6, AVal.int IntKind.i64 (IntKind.wrap IntKind.i64 (i + 1)))],
  locs := [], defers := [] }
  []
  else none
  else none
  else none
  else none
  else
  if 0 ≤ i ∧ i < (↑(List.length l) : Int) then
  bif Nat.beq (List.length (nthL l (Int.toNat i))) 1 then
  bif
  Nat.ble 1 (List.length (nthL l (Int.toNat i))) &&
  Nat.beq 1 (List.length [AVal.int IntKind.i64 0]) then
  bif isI IntKind.i64 (cellAt (nthL l (Int.toNat i)) 0) then
  K AExit.normal
  {
  tmps :=
  slots 52 0 [(2, AVal.slice Own.full []), (3, AVal.slice Own.no l), (4, AVal.bool b), (5, AVal.slice (Own.row 23) [[AVal.int IntKind.u16 (IntKind.wrap IntKind.u16 (getI (cellAt (nthL l (Int.toNat i)) 0)))]]), (6, AVal.int IntKind.i64 (IntKind.wrap IntKind.i64 (i + 1)))],
  locs := [], defers := [] }
  []
  else none
  else none
  else none
  else none
  else none
  else none
  else none
  else none
  else
  K (AExit.exit 0)
  {
  tmps :=
  slots 52 0 [(2, AVal.slice Own.full []), (3, AVal.slice Own.no l), (4, AVal.bool b), (5, AVal.slice Own.full []), (6, AVal.int IntKind.i64 i)],
  locs := [], defers := [] }
  []
  else
  K (AExit.exit 0)
  {
  tmps :=
  slots 52 0 [(2, AVal.slice Own.full []), (3, AVal.slice Own.no l), (4, AVal.bool b), (5, AVal.slice Own.full []), (6, AVal.int IntKind.i64 i)],
  locs := [], defers := [] }
  [] := by kernel_rfl
theorem units19r (k : Nat) (l out : List (List AVal)) (b : Bool) (i : Int) (R : Type) (K : AExit → AFrame → Mem → Option R) : exec env (denL env N1 noLoops (Nat.succ k)) 19 (loopAt Tryd.f19 0) (frUnits l b (.slice (.row 23) out) i) [] (fun ex fr m => K ex (norm env 19 fr) m)  =
  bif b then
  bif decide (i < (↑(List.length l) : Int)) then
  if 0 ≤ i ∧ i < (↑(List.length l) : Int) then
  bif Nat.beq (List.length (nthL l (Int.toNat i))) 1 then
  bif Nat.ble 1 (List.length (nthL l (Int.toNat i))) && Nat.beq 1 (List.length [AVal.int IntKind.i64 0]) then
  bif isI IntKind.i64 (cellAt (nthL l (Int.toNat i)) 0) then
  bif decide (getI (cellAt (nthL l (Int.toNat i)) 0) > 65535) then
  if 0 ≤ i ∧ i < (↑(List.length l) : Int) then
  bif Nat.beq (List.length (nthL l (Int.toNat i))) 1 then
  bif
  Nat.ble 1 (List.length (nthL l (Int.toNat i))) &&
  Nat.beq 1 (List.length [AVal.int IntKind.i64 0]) then
  bif isI IntKind.i64 (cellAt (nthL l (Int.toNat i)) 0) then
  if
  (decide (1 ≠ 0) &&
  roomOk
  (List.length out +
  List.length
  [[AVal.int IntKind.u16
  (IntKind.wrap IntKind.u16
  (IntKind.wrap IntKind.i64
  (55296 +
  Int.fdiv
  (IntKind.wrap IntKind.i64
  (getI (cellAt (nthL l (Int.toNat i)) 0) - 65536))
  (2 ^ min (Int.toNat 10) (IntKind.bits IntKind.i64)))))],
  [AVal.int IntKind.u16
  (IntKind.wrap IntKind.u16
  (IntKind.wrap IntKind.i64
  (56320 +
  IntKind.wrap IntKind.i64
  (↑(BitVec.toNat
  (BitVec.ofInt (IntKind.bits IntKind.i64)
  (IntKind.wrap IntKind.i64
  (getI (cellAt (nthL l (Int.toNat i)) 0) - 65536)) &&&
  BitVec.ofInt (IntKind.bits IntKind.i64) 1023)) :
  Int))))]])
  2) =
  true then
  K AExit.normal
  {
  tmps :=
  slots 52 0 [(2, AVal.slice Own.full []), (3, AVal.slice Own.no l), (4, AVal.bool b), (5, AVal.slice (Own.row 23) (List.append out [[AVal.int IntKind.u16 (IntKind.wrap IntKind.u16 (IntKind.wrap IntKind.i64 (55296 + Int.fdiv (IntKind.wrap IntKind.i64 (getI (cellAt (nthL l (Int.toNat i)) 0) - 65536)) (2 ^ min (Int.toNat 10) (IntKind.bits IntKind.i64)))))], [AVal.int IntKind.u16 (IntKind.wrap IntKind.u16 (IntKind.wrap IntKind.i64 (56320 + IntKind.wrap IntKind.i64 (↑(BitVec.toNat (BitVec.ofInt (IntKind.bits IntKind.i64) (IntKind.wrap IntKind.i64 (getI (cellAt (nthL l (Int.toNat i)) 0) - 65536)) &&& BitVec.ofInt (IntKind.bits IntKind.i64) 1023)) : Int))))]])), (6, AVal.int IntKind.i64 (IntKind.wrap IntKind.i64 (i + 1)))],
  locs := [], defers := [] }
  []
  else none
  else none
  else none
  else none
  else none
  else
  if 0 ≤ i ∧ i < (↑(List.length l) : Int) then
  bif Nat.beq (List.length (nthL l (Int.toNat i))) 1 then
  bif
  Nat.ble 1 (List.length (nthL l (Int.toNat i))) &&
  Nat.beq 1 (List.length [AVal.int IntKind.i64 0]) then
  bif isI IntKind.i64 (cellAt (nthL l (Int.toNat i)) 0) then
  if
  (decide (1 ≠ 0) &&
  roomOk
  (List.length out +
  List.length
  [[AVal.int IntKind.u16
  (IntKind.wrap IntKind.u16 (getI (cellAt (nthL l (Int.toNat i)) 0)))]])
  2) =
  true then
  K AExit.normal
  {
  tmps :=
  slots 52 0 [(2, AVal.slice Own.full []), (3, AVal.slice Own.no l), (4, AVal.bool b), (5, AVal.slice (Own.row 23) (List.append out [[AVal.int IntKind.u16 (IntKind.wrap IntKind.u16 (getI (cellAt (nthL l (Int.toNat i)) 0)))]])), (6, AVal.int IntKind.i64 (IntKind.wrap IntKind.i64 (i + 1)))],
  locs := [], defers := [] }
  []
  else none
  else none
  else none
  else none
  else none
  else none
  else none
  else none
  else none
  else
  K (AExit.exit 0)
  {
  tmps :=
  slots 52 0 [(2, AVal.slice Own.full []), (3, AVal.slice Own.no l), (4, AVal.bool b), (5, AVal.slice (Own.row 23) out), (6, AVal.int IntKind.i64 i)],
  locs := [], defers := [] }
  []
  else
  K (AExit.exit 0)
  {
  tmps :=
  slots 52 0 [(2, AVal.slice Own.full []), (3, AVal.slice Own.no l), (4, AVal.bool b), (5, AVal.slice (Own.row 23) out), (6, AVal.int IntKind.i64 i)],
  locs := [], defers := [] }
  [] := by kernel_rfl
theorem same16 (D : Ora) (a b : List (List AVal)) (i : Int) (R : Type) (K : AExit → AFrame → Mem → Option R) : exec env D 16 (loopAt Tryd.f16 0) (frSame a b i) [] (fun ex fr m => K ex (norm env 16 fr) m)  =
  bif decide (i < (↑(List.length a) : Int)) then
  if 0 ≤ i ∧ i < (↑(List.length a) : Int) then
  bif Nat.beq (List.length (nthL a (Int.toNat i))) 1 then
  bif Nat.ble 1 (List.length (nthL a (Int.toNat i))) && Nat.beq 1 (List.length [AVal.int IntKind.u16 0]) then
  bif isI IntKind.u16 (cellAt (nthL a (Int.toNat i)) 0) then
  if 0 ≤ i ∧ i < (↑(List.length b) : Int) then
  bif Nat.beq (List.length (nthL b (Int.toNat i))) 1 then
  bif
  Nat.ble 1 (List.length (nthL b (Int.toNat i))) &&
  Nat.beq 1 (List.length [AVal.int IntKind.u16 0]) then
  bif isI IntKind.u16 (cellAt (nthL b (Int.toNat i)) 0) then
  bif getI (cellAt (nthL a (Int.toNat i)) 0) != getI (cellAt (nthL b (Int.toNat i)) 0) then
  K AExit.ret
  {
  tmps :=
  slots 26 0 [(0, AVal.slice Own.no a), (1, AVal.slice Own.no b), (4, AVal.bool false), (5, AVal.int IntKind.i64 i)],
  locs := [], defers := [] }
  []
  else
  K AExit.normal
  {
  tmps :=
  slots 26 0 [(0, AVal.slice Own.no a), (1, AVal.slice Own.no b), (4, AVal.bool false), (5, AVal.int IntKind.i64 (IntKind.wrap IntKind.i64 (i + 1)))],
  locs := [], defers := [] }
  []
  else none
  else none
  else none
  else none
  else none
  else none
  else none
  else none
  else
  K (AExit.exit 0)
  {
  tmps :=
  slots 26 0 [(0, AVal.slice Own.no a), (1, AVal.slice Own.no b), (4, AVal.bool false), (5, AVal.int IntKind.i64 i)],
  locs := [], defers := [] }
  [] := by kernel_rfl
theorem point51r (D : Ora) (s : List UInt8) (i c n low j : Int) (R : Type) (K : AExit → AFrame → Mem → Option R) : exec env D 51 (loopAt Tryd.f51 0) (frPoint s i c n low j) [] (fun ex fr m => K ex (norm env 51 fr) m)  =
  bif decide (j < n) then
  if 0 ≤ IntKind.wrap IntKind.i64 (i + j) ∧ IntKind.wrap IntKind.i64 (i + j) < (↑(List.length s) : Int) then
  bif decide (IntKind.wrap IntKind.i64 (byteAt s (Int.toNat (IntKind.wrap IntKind.i64 (i + j)))) < 128) then
  K AExit.ret
  {
  tmps :=
  slots 82 0 [(0, AVal.str s), (1, AVal.int IntKind.i64 i), (4, AVal.int IntKind.i64 0), (5, AVal.int IntKind.i64 0), (6, AVal.int IntKind.i64 c), (7, AVal.int IntKind.i64 n), (8, AVal.int IntKind.i64 low), (9, AVal.int IntKind.i64 j)],
  locs := [], defers := [] }
  []
  else
  bif decide (IntKind.wrap IntKind.i64 (byteAt s (Int.toNat (IntKind.wrap IntKind.i64 (i + j)))) > 191) then
  K AExit.ret
  {
  tmps :=
  slots 82 0 [(0, AVal.str s), (1, AVal.int IntKind.i64 i), (4, AVal.int IntKind.i64 0), (5, AVal.int IntKind.i64 0), (6, AVal.int IntKind.i64 c), (7, AVal.int IntKind.i64 n), (8, AVal.int IntKind.i64 low), (9, AVal.int IntKind.i64 j)],
  locs := [], defers := [] }
  []
  else
  K AExit.normal
  {
  tmps :=
  slots 82 0 [(0, AVal.str s), (1, AVal.int IntKind.i64 i), (4, AVal.int IntKind.i64 0), (5, AVal.int IntKind.i64 0), (6, AVal.int IntKind.i64 (IntKind.wrap IntKind.i64 (↑(BitVec.toNat (BitVec.ofInt (IntKind.bits IntKind.i64) (IntKind.wrap IntKind.i64 (c * 2 ^ min (Int.toNat 6) (IntKind.bits IntKind.i64))) ||| BitVec.ofInt (IntKind.bits IntKind.i64) (IntKind.wrap IntKind.i64 (↑(BitVec.toNat (BitVec.ofInt (IntKind.bits IntKind.i64) (IntKind.wrap IntKind.i64 (byteAt s (Int.toNat (IntKind.wrap IntKind.i64 (i + j))))) &&& BitVec.ofInt (IntKind.bits IntKind.i64) 63)) : Int)))) : Int))), (7, AVal.int IntKind.i64 n), (8, AVal.int IntKind.i64 low), (9, AVal.int IntKind.i64 (IntKind.wrap IntKind.i64 (j + 1)))],
  locs := [], defers := [] }
  []
  else none
  else
  K (AExit.exit 1)
  {
  tmps :=
  slots 82 0 [(0, AVal.str s), (1, AVal.int IntKind.i64 i), (4, AVal.int IntKind.i64 0), (5, AVal.int IntKind.i64 0), (6, AVal.int IntKind.i64 c), (7, AVal.int IntKind.i64 n), (8, AVal.int IntKind.i64 low), (9, AVal.int IntKind.i64 j)],
  locs := [], defers := [] }
  [] := by kernel_rfl
end Go.Proofs.YtlklpdifcpjlpaaDoor.U
