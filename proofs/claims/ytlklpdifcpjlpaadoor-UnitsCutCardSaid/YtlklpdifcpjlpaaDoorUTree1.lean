/- Calls as trees of decisions (printed by a program of mine out of the interpreter). -/
import Derived.Test.YtlklpdifcpjlpaaDoorUDef
import Derived.KernelRfl
namespace Go.Proofs.YtlklpdifcpjlpaaDoor.U
open Go.Abs Go.Uni
set_option maxRecDepth 100000

theorem put59f (D : Ora) (c : Int) : execFunc env D 59 [.slice .full [], .int .i32 c] []  =
  bif decide (IntKind.wrap IntKind.u32 c ≤ 2047) then
  some
  (Out.ret
  (AVal.slice (Own.row 5)
  [[AVal.int IntKind.u8
  (IntKind.wrap IntKind.u8
  (↑(BitVec.toNat
  (BitVec.ofInt (IntKind.bits IntKind.u8) 192 |||
  BitVec.ofInt (IntKind.bits IntKind.u8)
  (IntKind.wrap IntKind.u8
  (Int.fdiv c (2 ^ min (Int.toNat 6) (IntKind.bits IntKind.i32)))))) :
  Int))],
  [AVal.int IntKind.u8
  (IntKind.wrap IntKind.u8
  (↑(BitVec.toNat
  (BitVec.ofInt (IntKind.bits IntKind.u8) 128 |||
  BitVec.ofInt (IntKind.bits IntKind.u8)
  (IntKind.wrap IntKind.u8
  (↑(BitVec.toNat
  (BitVec.ofInt (IntKind.bits IntKind.u8) (IntKind.wrap IntKind.u8 c) &&&
  BitVec.ofInt (IntKind.bits IntKind.u8) 63)) :
  Int)))) :
  Int))]]),
  [])
  else
  bif decide (IntKind.wrap IntKind.u32 c < 55296) then
  bif decide (IntKind.wrap IntKind.u32 c < 55296) then
  some
  (Out.ret
  (AVal.slice (Own.row 5)
  [[AVal.int IntKind.u8
  (IntKind.wrap IntKind.u8
  (↑(BitVec.toNat
  (BitVec.ofInt (IntKind.bits IntKind.u8) 224 |||
  BitVec.ofInt (IntKind.bits IntKind.u8)
  (IntKind.wrap IntKind.u8
  (Int.fdiv c (2 ^ min (Int.toNat 12) (IntKind.bits IntKind.i32)))))) :
  Int))],
  [AVal.int IntKind.u8
  (IntKind.wrap IntKind.u8
  (↑(BitVec.toNat
  (BitVec.ofInt (IntKind.bits IntKind.u8) 128 |||
  BitVec.ofInt (IntKind.bits IntKind.u8)
  (IntKind.wrap IntKind.u8
  (↑(BitVec.toNat
  (BitVec.ofInt (IntKind.bits IntKind.u8)
  (IntKind.wrap IntKind.u8
  (Int.fdiv c (2 ^ min (Int.toNat 6) (IntKind.bits IntKind.i32)))) &&&
  BitVec.ofInt (IntKind.bits IntKind.u8) 63)) :
  Int)))) :
  Int))],
  [AVal.int IntKind.u8
  (IntKind.wrap IntKind.u8
  (↑(BitVec.toNat
  (BitVec.ofInt (IntKind.bits IntKind.u8) 128 |||
  BitVec.ofInt (IntKind.bits IntKind.u8)
  (IntKind.wrap IntKind.u8
  (↑(BitVec.toNat
  (BitVec.ofInt (IntKind.bits IntKind.u8) (IntKind.wrap IntKind.u8 c) &&&
  BitVec.ofInt (IntKind.bits IntKind.u8) 63)) :
  Int)))) :
  Int))]]),
  [])
  else
  bif decide (IntKind.wrap IntKind.u32 c > 65535) then
  bif decide (IntKind.wrap IntKind.u32 c ≤ 1114111) then
  some
  (Out.ret
  (AVal.slice (Own.row 5)
  [[AVal.int IntKind.u8
  (IntKind.wrap IntKind.u8
  (↑(BitVec.toNat
  (BitVec.ofInt (IntKind.bits IntKind.u8) 240 |||
  BitVec.ofInt (IntKind.bits IntKind.u8)
  (IntKind.wrap IntKind.u8
  (Int.fdiv c (2 ^ min (Int.toNat 18) (IntKind.bits IntKind.i32)))))) :
  Int))],
  [AVal.int IntKind.u8
  (IntKind.wrap IntKind.u8
  (↑(BitVec.toNat
  (BitVec.ofInt (IntKind.bits IntKind.u8) 128 |||
  BitVec.ofInt (IntKind.bits IntKind.u8)
  (IntKind.wrap IntKind.u8
  (↑(BitVec.toNat
  (BitVec.ofInt (IntKind.bits IntKind.u8)
  (IntKind.wrap IntKind.u8
  (Int.fdiv c (2 ^ min (Int.toNat 12) (IntKind.bits IntKind.i32)))) &&&
  BitVec.ofInt (IntKind.bits IntKind.u8) 63)) :
  Int)))) :
  Int))],
  [AVal.int IntKind.u8
  (IntKind.wrap IntKind.u8
  (↑(BitVec.toNat
  (BitVec.ofInt (IntKind.bits IntKind.u8) 128 |||
  BitVec.ofInt (IntKind.bits IntKind.u8)
  (IntKind.wrap IntKind.u8
  (↑(BitVec.toNat
  (BitVec.ofInt (IntKind.bits IntKind.u8)
  (IntKind.wrap IntKind.u8
  (Int.fdiv c (2 ^ min (Int.toNat 6) (IntKind.bits IntKind.i32)))) &&&
  BitVec.ofInt (IntKind.bits IntKind.u8) 63)) :
  Int)))) :
  Int))],
  [AVal.int IntKind.u8
  (IntKind.wrap IntKind.u8
  (↑(BitVec.toNat
  (BitVec.ofInt (IntKind.bits IntKind.u8) 128 |||
  BitVec.ofInt (IntKind.bits IntKind.u8)
  (IntKind.wrap IntKind.u8
  (↑(BitVec.toNat
  (BitVec.ofInt (IntKind.bits IntKind.u8) (IntKind.wrap IntKind.u8 c) &&&
  BitVec.ofInt (IntKind.bits IntKind.u8) 63)) :
  Int)))) :
  Int))]]),
  [])
  else
  some
  (Out.ret
  (AVal.slice (Own.row 5)
  [[AVal.int IntKind.u8 239], [AVal.int IntKind.u8 191], [AVal.int IntKind.u8 189]]),
  [])
  else
  some
  (Out.ret
  (AVal.slice (Own.row 5)
  [[AVal.int IntKind.u8 239], [AVal.int IntKind.u8 191], [AVal.int IntKind.u8 189]]),
  [])
  else
  bif decide (57343 < IntKind.wrap IntKind.u32 c) then
  bif decide (IntKind.wrap IntKind.u32 c ≤ 65535) then
  some
  (Out.ret
  (AVal.slice (Own.row 5)
  [[AVal.int IntKind.u8
  (IntKind.wrap IntKind.u8
  (↑(BitVec.toNat
  (BitVec.ofInt (IntKind.bits IntKind.u8) 224 |||
  BitVec.ofInt (IntKind.bits IntKind.u8)
  (IntKind.wrap IntKind.u8
  (Int.fdiv c (2 ^ min (Int.toNat 12) (IntKind.bits IntKind.i32)))))) :
  Int))],
  [AVal.int IntKind.u8
  (IntKind.wrap IntKind.u8
  (↑(BitVec.toNat
  (BitVec.ofInt (IntKind.bits IntKind.u8) 128 |||
  BitVec.ofInt (IntKind.bits IntKind.u8)
  (IntKind.wrap IntKind.u8
  (↑(BitVec.toNat
  (BitVec.ofInt (IntKind.bits IntKind.u8)
  (IntKind.wrap IntKind.u8
  (Int.fdiv c (2 ^ min (Int.toNat 6) (IntKind.bits IntKind.i32)))) &&&
  BitVec.ofInt (IntKind.bits IntKind.u8) 63)) :
  Int)))) :
  Int))],
  [AVal.int IntKind.u8
  (IntKind.wrap IntKind.u8
  (↑(BitVec.toNat
  (BitVec.ofInt (IntKind.bits IntKind.u8) 128 |||
  BitVec.ofInt (IntKind.bits IntKind.u8)
  (IntKind.wrap IntKind.u8
  (↑(BitVec.toNat
  (BitVec.ofInt (IntKind.bits IntKind.u8) (IntKind.wrap IntKind.u8 c) &&&
  BitVec.ofInt (IntKind.bits IntKind.u8) 63)) :
  Int)))) :
  Int))]]),
  [])
  else
  bif decide (IntKind.wrap IntKind.u32 c > 65535) then
  bif decide (IntKind.wrap IntKind.u32 c ≤ 1114111) then
  some
  (Out.ret
  (AVal.slice (Own.row 5)
  [[AVal.int IntKind.u8
  (IntKind.wrap IntKind.u8
  (↑(BitVec.toNat
  (BitVec.ofInt (IntKind.bits IntKind.u8) 240 |||
  BitVec.ofInt (IntKind.bits IntKind.u8)
  (IntKind.wrap IntKind.u8
  (Int.fdiv c (2 ^ min (Int.toNat 18) (IntKind.bits IntKind.i32)))))) :
  Int))],
  [AVal.int IntKind.u8
  (IntKind.wrap IntKind.u8
  (↑(BitVec.toNat
  (BitVec.ofInt (IntKind.bits IntKind.u8) 128 |||
  BitVec.ofInt (IntKind.bits IntKind.u8)
  (IntKind.wrap IntKind.u8
  (↑(BitVec.toNat
  (BitVec.ofInt (IntKind.bits IntKind.u8)
  (IntKind.wrap IntKind.u8
  (Int.fdiv c
  (2 ^ min (Int.toNat 12) (IntKind.bits IntKind.i32)))) &&&
  BitVec.ofInt (IntKind.bits IntKind.u8) 63)) :
  Int)))) :
  Int))],
  [AVal.int IntKind.u8
  (IntKind.wrap IntKind.u8
  (↑(BitVec.toNat
  (BitVec.ofInt (IntKind.bits IntKind.u8) 128 |||
  BitVec.ofInt (IntKind.bits IntKind.u8)
  (IntKind.wrap IntKind.u8
  (↑(BitVec.toNat
  (BitVec.ofInt (IntKind.bits IntKind.u8)
  (IntKind.wrap IntKind.u8
  (Int.fdiv c (2 ^ min (Int.toNat 6) (IntKind.bits IntKind.i32)))) &&&
  BitVec.ofInt (IntKind.bits IntKind.u8) 63)) :
  Int)))) :
  Int))],
  [AVal.int IntKind.u8
  (IntKind.wrap IntKind.u8
  (↑(BitVec.toNat
  (BitVec.ofInt (IntKind.bits IntKind.u8) 128 |||
  BitVec.ofInt (IntKind.bits IntKind.u8)
  (IntKind.wrap IntKind.u8
  (↑(BitVec.toNat
  (BitVec.ofInt (IntKind.bits IntKind.u8) (IntKind.wrap IntKind.u8 c) &&&
  BitVec.ofInt (IntKind.bits IntKind.u8) 63)) :
  Int)))) :
  Int))]]),
  [])
  else
  some
  (Out.ret
  (AVal.slice (Own.row 5)
  [[AVal.int IntKind.u8 239], [AVal.int IntKind.u8 191], [AVal.int IntKind.u8 189]]),
  [])
  else
  some
  (Out.ret
  (AVal.slice (Own.row 5)
  [[AVal.int IntKind.u8 239], [AVal.int IntKind.u8 191], [AVal.int IntKind.u8 189]]),
  [])
  else
  bif decide (IntKind.wrap IntKind.u32 c > 65535) then
  bif decide (IntKind.wrap IntKind.u32 c ≤ 1114111) then
  some
  (Out.ret
  (AVal.slice (Own.row 5)
  [[AVal.int IntKind.u8
  (IntKind.wrap IntKind.u8
  (↑(BitVec.toNat
  (BitVec.ofInt (IntKind.bits IntKind.u8) 240 |||
  BitVec.ofInt (IntKind.bits IntKind.u8)
  (IntKind.wrap IntKind.u8
  (Int.fdiv c (2 ^ min (Int.toNat 18) (IntKind.bits IntKind.i32)))))) :
  Int))],
  [AVal.int IntKind.u8
  (IntKind.wrap IntKind.u8
  (↑(BitVec.toNat
  (BitVec.ofInt (IntKind.bits IntKind.u8) 128 |||
  BitVec.ofInt (IntKind.bits IntKind.u8)
  (IntKind.wrap IntKind.u8
  (↑(BitVec.toNat
  (BitVec.ofInt (IntKind.bits IntKind.u8)
  (IntKind.wrap IntKind.u8
  (Int.fdiv c (2 ^ min (Int.toNat 12) (IntKind.bits IntKind.i32)))) &&&
  BitVec.ofInt (IntKind.bits IntKind.u8) 63)) :
  Int)))) :
  Int))],
  [AVal.int IntKind.u8
  (IntKind.wrap IntKind.u8
  (↑(BitVec.toNat
  (BitVec.ofInt (IntKind.bits IntKind.u8) 128 |||
  BitVec.ofInt (IntKind.bits IntKind.u8)
  (IntKind.wrap IntKind.u8
  (↑(BitVec.toNat
  (BitVec.ofInt (IntKind.bits IntKind.u8)
  (IntKind.wrap IntKind.u8
  (Int.fdiv c (2 ^ min (Int.toNat 6) (IntKind.bits IntKind.i32)))) &&&
  BitVec.ofInt (IntKind.bits IntKind.u8) 63)) :
  Int)))) :
  Int))],
  [AVal.int IntKind.u8
  (IntKind.wrap IntKind.u8
  (↑(BitVec.toNat
  (BitVec.ofInt (IntKind.bits IntKind.u8) 128 |||
  BitVec.ofInt (IntKind.bits IntKind.u8)
  (IntKind.wrap IntKind.u8
  (↑(BitVec.toNat
  (BitVec.ofInt (IntKind.bits IntKind.u8) (IntKind.wrap IntKind.u8 c) &&&
  BitVec.ofInt (IntKind.bits IntKind.u8) 63)) :
  Int)))) :
  Int))]]),
  [])
  else
  some
  (Out.ret
  (AVal.slice (Own.row 5)
  [[AVal.int IntKind.u8 239], [AVal.int IntKind.u8 191], [AVal.int IntKind.u8 189]]),
  [])
  else
  some
  (Out.ret
  (AVal.slice (Own.row 5)
  [[AVal.int IntKind.u8 239], [AVal.int IntKind.u8 191], [AVal.int IntKind.u8 189]]),
  []) := by kernel_rfl
theorem put59r (D : Ora) (es : List (List AVal)) (c : Int) : execFunc env D 59 [.slice (.row 5) es, .int .i32 c] []  =
  bif decide (IntKind.wrap IntKind.u32 c ≤ 2047) then
  if
  (decide (TI.size { kind := TK.int IntKind.u8, size := 1, bytes := 1, zero := [AVal.int IntKind.u8 0] } ≠ 0) &&
  roomOk
  (List.length es +
  List.length
  [[AVal.int IntKind.u8
  (IntKind.wrap IntKind.u8
  (↑(BitVec.toNat
  (BitVec.ofInt (IntKind.bits IntKind.u8) 192 |||
  BitVec.ofInt (IntKind.bits IntKind.u8)
  (IntKind.wrap IntKind.u8
  (Int.fdiv c (2 ^ min (Int.toNat 6) (IntKind.bits IntKind.i32)))))) :
  Int))],
  [AVal.int IntKind.u8
  (IntKind.wrap IntKind.u8
  (↑(BitVec.toNat
  (BitVec.ofInt (IntKind.bits IntKind.u8) 128 |||
  BitVec.ofInt (IntKind.bits IntKind.u8)
  (IntKind.wrap IntKind.u8
  (↑(BitVec.toNat
  (BitVec.ofInt (IntKind.bits IntKind.u8) (IntKind.wrap IntKind.u8 c) &&&
  BitVec.ofInt (IntKind.bits IntKind.u8) 63)) :
  Int)))) :
  Int))]])
  (TI.bytes { kind := TK.int IntKind.u8, size := 1, bytes := 1, zero := [AVal.int IntKind.u8 0] })) =
  true then
  some
  (Out.ret
  (AVal.slice (Own.row 5)
  (List.append es
  [[AVal.int IntKind.u8
  (IntKind.wrap IntKind.u8
  (↑(BitVec.toNat
  (BitVec.ofInt (IntKind.bits IntKind.u8) 192 |||
  BitVec.ofInt (IntKind.bits IntKind.u8)
  (IntKind.wrap IntKind.u8
  (Int.fdiv c (2 ^ min (Int.toNat 6) (IntKind.bits IntKind.i32)))))) :
  Int))],
  [AVal.int IntKind.u8
  (IntKind.wrap IntKind.u8
  (↑(BitVec.toNat
  (BitVec.ofInt (IntKind.bits IntKind.u8) 128 |||
  BitVec.ofInt (IntKind.bits IntKind.u8)
  (IntKind.wrap IntKind.u8
  (↑(BitVec.toNat
  (BitVec.ofInt (IntKind.bits IntKind.u8) (IntKind.wrap IntKind.u8 c) &&&
  BitVec.ofInt (IntKind.bits IntKind.u8) 63)) :
  Int)))) :
  Int))]])),
  [])
  else none
  else
  bif decide (IntKind.wrap IntKind.u32 c < 55296) then
  bif decide (IntKind.wrap IntKind.u32 c < 55296) then
  if
  (decide (TI.size { kind := TK.int IntKind.u8, size := 1, bytes := 1, zero := [AVal.int IntKind.u8 0] } ≠ 0) &&
  roomOk
  (List.length es +
  List.length
  [[AVal.int IntKind.u8
  (IntKind.wrap IntKind.u8
  (↑(BitVec.toNat
  (BitVec.ofInt (IntKind.bits IntKind.u8) 224 |||
  BitVec.ofInt (IntKind.bits IntKind.u8)
  (IntKind.wrap IntKind.u8
  (Int.fdiv c (2 ^ min (Int.toNat 12) (IntKind.bits IntKind.i32)))))) :
  Int))],
  [AVal.int IntKind.u8
  (IntKind.wrap IntKind.u8
  (↑(BitVec.toNat
  (BitVec.ofInt (IntKind.bits IntKind.u8) 128 |||
  BitVec.ofInt (IntKind.bits IntKind.u8)
  (IntKind.wrap IntKind.u8
  (↑(BitVec.toNat
  (BitVec.ofInt (IntKind.bits IntKind.u8)
  (IntKind.wrap IntKind.u8
  (Int.fdiv c (2 ^ min (Int.toNat 6) (IntKind.bits IntKind.i32)))) &&&
  BitVec.ofInt (IntKind.bits IntKind.u8) 63)) :
  Int)))) :
  Int))],
  [AVal.int IntKind.u8
  (IntKind.wrap IntKind.u8
  (↑(BitVec.toNat
  (BitVec.ofInt (IntKind.bits IntKind.u8) 128 |||
  BitVec.ofInt (IntKind.bits IntKind.u8)
  (IntKind.wrap IntKind.u8
  (↑(BitVec.toNat
  (BitVec.ofInt (IntKind.bits IntKind.u8) (IntKind.wrap IntKind.u8 c) &&&
  BitVec.ofInt (IntKind.bits IntKind.u8) 63)) :
  Int)))) :
  Int))]])
  (TI.bytes { kind := TK.int IntKind.u8, size := 1, bytes := 1, zero := [AVal.int IntKind.u8 0] })) =
  true then
  some
  (Out.ret
  (AVal.slice (Own.row 5)
  (List.append es
  [[AVal.int IntKind.u8
  (IntKind.wrap IntKind.u8
  (↑(BitVec.toNat
  (BitVec.ofInt (IntKind.bits IntKind.u8) 224 |||
  BitVec.ofInt (IntKind.bits IntKind.u8)
  (IntKind.wrap IntKind.u8
  (Int.fdiv c (2 ^ min (Int.toNat 12) (IntKind.bits IntKind.i32)))))) :
  Int))],
  [AVal.int IntKind.u8
  (IntKind.wrap IntKind.u8
  (↑(BitVec.toNat
  (BitVec.ofInt (IntKind.bits IntKind.u8) 128 |||
  BitVec.ofInt (IntKind.bits IntKind.u8)
  (IntKind.wrap IntKind.u8
  (↑(BitVec.toNat
  (BitVec.ofInt (IntKind.bits IntKind.u8)
  (IntKind.wrap IntKind.u8
  (Int.fdiv c (2 ^ min (Int.toNat 6) (IntKind.bits IntKind.i32)))) &&&
  BitVec.ofInt (IntKind.bits IntKind.u8) 63)) :
  Int)))) :
  Int))],
  [AVal.int IntKind.u8
  (IntKind.wrap IntKind.u8
  (↑(BitVec.toNat
  (BitVec.ofInt (IntKind.bits IntKind.u8) 128 |||
  BitVec.ofInt (IntKind.bits IntKind.u8)
  (IntKind.wrap IntKind.u8
  (↑(BitVec.toNat
  (BitVec.ofInt (IntKind.bits IntKind.u8) (IntKind.wrap IntKind.u8 c) &&&
  BitVec.ofInt (IntKind.bits IntKind.u8) 63)) :
  Int)))) :
  Int))]])),
  [])
  else none
  else
  bif decide (IntKind.wrap IntKind.u32 c > 65535) then
  bif decide (IntKind.wrap IntKind.u32 c ≤ 1114111) then
  if
  (decide
  (TI.size { kind := TK.int IntKind.u8, size := 1, bytes := 1, zero := [AVal.int IntKind.u8 0] } ≠
  0) &&
  roomOk
  (List.length es +
  List.length
  [[AVal.int IntKind.u8
  (IntKind.wrap IntKind.u8
  (↑(BitVec.toNat
  (BitVec.ofInt (IntKind.bits IntKind.u8) 240 |||
  BitVec.ofInt (IntKind.bits IntKind.u8)
  (IntKind.wrap IntKind.u8
  (Int.fdiv c (2 ^ min (Int.toNat 18) (IntKind.bits IntKind.i32)))))) :
  Int))],
  [AVal.int IntKind.u8
  (IntKind.wrap IntKind.u8
  (↑(BitVec.toNat
  (BitVec.ofInt (IntKind.bits IntKind.u8) 128 |||
  BitVec.ofInt (IntKind.bits IntKind.u8)
  (IntKind.wrap IntKind.u8
  (↑(BitVec.toNat
  (BitVec.ofInt (IntKind.bits IntKind.u8)
  (IntKind.wrap IntKind.u8
  (Int.fdiv c
  (2 ^ min (Int.toNat 12) (IntKind.bits IntKind.i32)))) &&&
  BitVec.ofInt (IntKind.bits IntKind.u8) 63)) :
  Int)))) :
  Int))],
  [AVal.int IntKind.u8
  (IntKind.wrap IntKind.u8
  (↑(BitVec.toNat
  (BitVec.ofInt (IntKind.bits IntKind.u8) 128 |||
  BitVec.ofInt (IntKind.bits IntKind.u8)
  (IntKind.wrap IntKind.u8
  (↑(BitVec.toNat
  (BitVec.ofInt (IntKind.bits IntKind.u8)
  (IntKind.wrap IntKind.u8
  (Int.fdiv c
  (2 ^ min (Int.toNat 6) (IntKind.bits IntKind.i32)))) &&&
  BitVec.ofInt (IntKind.bits IntKind.u8) 63)) :
  Int)))) :
  Int))],
  [AVal.int IntKind.u8
  (IntKind.wrap IntKind.u8
  (↑(BitVec.toNat
  (BitVec.ofInt (IntKind.bits IntKind.u8) 128 |||
  BitVec.ofInt (IntKind.bits IntKind.u8)
  (IntKind.wrap IntKind.u8
  (↑(BitVec.toNat
  (BitVec.ofInt (IntKind.bits IntKind.u8)
  (IntKind.wrap IntKind.u8 c) &&&
  BitVec.ofInt (IntKind.bits IntKind.u8) 63)) :
  Int)))) :
  Int))]])
  (TI.bytes { kind := TK.int IntKind.u8, size := 1, bytes := 1, zero := [AVal.int IntKind.u8 0] })) =
  true then
  some
  (Out.ret
  (AVal.slice (Own.row 5)
  (List.append es
  [[AVal.int IntKind.u8
  (IntKind.wrap IntKind.u8
  (↑(BitVec.toNat
  (BitVec.ofInt (IntKind.bits IntKind.u8) 240 |||
  BitVec.ofInt (IntKind.bits IntKind.u8)
  (IntKind.wrap IntKind.u8
  (Int.fdiv c (2 ^ min (Int.toNat 18) (IntKind.bits IntKind.i32)))))) :
  Int))],
  [AVal.int IntKind.u8
  (IntKind.wrap IntKind.u8
  (↑(BitVec.toNat
  (BitVec.ofInt (IntKind.bits IntKind.u8) 128 |||
  BitVec.ofInt (IntKind.bits IntKind.u8)
  (IntKind.wrap IntKind.u8
  (↑(BitVec.toNat
  (BitVec.ofInt (IntKind.bits IntKind.u8)
  (IntKind.wrap IntKind.u8
  (Int.fdiv c
  (2 ^ min (Int.toNat 12) (IntKind.bits IntKind.i32)))) &&&
  BitVec.ofInt (IntKind.bits IntKind.u8) 63)) :
  Int)))) :
  Int))],
  [AVal.int IntKind.u8
  (IntKind.wrap IntKind.u8
  (↑(BitVec.toNat
  (BitVec.ofInt (IntKind.bits IntKind.u8) 128 |||
  BitVec.ofInt (IntKind.bits IntKind.u8)
  (IntKind.wrap IntKind.u8
  (↑(BitVec.toNat
  (BitVec.ofInt (IntKind.bits IntKind.u8)
  (IntKind.wrap IntKind.u8
  (Int.fdiv c
  (2 ^ min (Int.toNat 6) (IntKind.bits IntKind.i32)))) &&&
  BitVec.ofInt (IntKind.bits IntKind.u8) 63)) :
  Int)))) :
  Int))],
  [AVal.int IntKind.u8
  (IntKind.wrap IntKind.u8
  (↑(BitVec.toNat
  (BitVec.ofInt (IntKind.bits IntKind.u8) 128 |||
  BitVec.ofInt (IntKind.bits IntKind.u8)
  (IntKind.wrap IntKind.u8
  (↑(BitVec.toNat
  (BitVec.ofInt (IntKind.bits IntKind.u8) (IntKind.wrap IntKind.u8 c) &&&
  BitVec.ofInt (IntKind.bits IntKind.u8) 63)) :
  Int)))) :
  Int))]])),
  [])
  else none
  else
  if
  (decide
  (TI.size { kind := TK.int IntKind.u8, size := 1, bytes := 1, zero := [AVal.int IntKind.u8 0] } ≠
  0) &&
  roomOk
  (List.length es +
  List.length [[AVal.int IntKind.u8 239], [AVal.int IntKind.u8 191], [AVal.int IntKind.u8 189]])
  (TI.bytes { kind := TK.int IntKind.u8, size := 1, bytes := 1, zero := [AVal.int IntKind.u8 0] })) =
  true then
  some
  (Out.ret
  (AVal.slice (Own.row 5)
  (List.append es [[AVal.int IntKind.u8 239], [AVal.int IntKind.u8 191], [AVal.int IntKind.u8 189]])),
  [])
  else none
  else
  if
  (decide
  (TI.size { kind := TK.int IntKind.u8, size := 1, bytes := 1, zero := [AVal.int IntKind.u8 0] } ≠ 0) &&
  roomOk
  (List.length es +
  List.length [[AVal.int IntKind.u8 239], [AVal.int IntKind.u8 191], [AVal.int IntKind.u8 189]])
  (TI.bytes { kind := TK.int IntKind.u8, size := 1, bytes := 1, zero := [AVal.int IntKind.u8 0] })) =
  true then
  some
  (Out.ret
  (AVal.slice (Own.row 5)
  (List.append es [[AVal.int IntKind.u8 239], [AVal.int IntKind.u8 191], [AVal.int IntKind.u8 189]])),
  [])
  else none
  else
  bif decide (57343 < IntKind.wrap IntKind.u32 c) then
  bif decide (IntKind.wrap IntKind.u32 c ≤ 65535) then
  if
  (decide
  (TI.size { kind := TK.int IntKind.u8, size := 1, bytes := 1, zero := [AVal.int IntKind.u8 0] } ≠ 0) &&
  roomOk
  (List.length es +
  List.length
  [[AVal.int IntKind.u8
  (IntKind.wrap IntKind.u8
  (↑(BitVec.toNat
  (BitVec.ofInt (IntKind.bits IntKind.u8) 224 |||
  BitVec.ofInt (IntKind.bits IntKind.u8)
  (IntKind.wrap IntKind.u8
  (Int.fdiv c (2 ^ min (Int.toNat 12) (IntKind.bits IntKind.i32)))))) :
  Int))],
  [AVal.int IntKind.u8
  (IntKind.wrap IntKind.u8
  (↑(BitVec.toNat
  (BitVec.ofInt (IntKind.bits IntKind.u8) 128 |||
  BitVec.ofInt (IntKind.bits IntKind.u8)
  (IntKind.wrap IntKind.u8
  (↑(BitVec.toNat
  (BitVec.ofInt (IntKind.bits IntKind.u8)
  (IntKind.wrap IntKind.u8
  (Int.fdiv c
  (2 ^ min (Int.toNat 6) (IntKind.bits IntKind.i32)))) &&&
  BitVec.ofInt (IntKind.bits IntKind.u8) 63)) :
  Int)))) :
  Int))],
  [AVal.int IntKind.u8
  (IntKind.wrap IntKind.u8
  (↑(BitVec.toNat
  (BitVec.ofInt (IntKind.bits IntKind.u8) 128 |||
  BitVec.ofInt (IntKind.bits IntKind.u8)
  (IntKind.wrap IntKind.u8
  (↑(BitVec.toNat
  (BitVec.ofInt (IntKind.bits IntKind.u8) (IntKind.wrap IntKind.u8 c) &&&
  BitVec.ofInt (IntKind.bits IntKind.u8) 63)) :
  Int)))) :
  Int))]])
  (TI.bytes { kind := TK.int IntKind.u8, size := 1, bytes := 1, zero := [AVal.int IntKind.u8 0] })) =
  true then
  some
  (Out.ret
  (AVal.slice (Own.row 5)
  (List.append es
  [[AVal.int IntKind.u8
  (IntKind.wrap IntKind.u8
  (↑(BitVec.toNat
  (BitVec.ofInt (IntKind.bits IntKind.u8) 224 |||
  BitVec.ofInt (IntKind.bits IntKind.u8)
  (IntKind.wrap IntKind.u8
  (Int.fdiv c (2 ^ min (Int.toNat 12) (IntKind.bits IntKind.i32)))))) :
  Int))],
  [AVal.int IntKind.u8
  (IntKind.wrap IntKind.u8
  (↑(BitVec.toNat
  (BitVec.ofInt (IntKind.bits IntKind.u8) 128 |||
  BitVec.ofInt (IntKind.bits IntKind.u8)
  (IntKind.wrap IntKind.u8
  (↑(BitVec.toNat
  (BitVec.ofInt (IntKind.bits IntKind.u8)
  (IntKind.wrap IntKind.u8
  (Int.fdiv c (2 ^ min (Int.toNat 6) (IntKind.bits IntKind.i32)))) &&&
  BitVec.ofInt (IntKind.bits IntKind.u8) 63)) :
  Int)))) :
  Int))],
  [AVal.int IntKind.u8
  (IntKind.wrap IntKind.u8
  (↑(BitVec.toNat
  (BitVec.ofInt (IntKind.bits IntKind.u8) 128 |||
  BitVec.ofInt (IntKind.bits IntKind.u8)
  (IntKind.wrap IntKind.u8
  (↑(BitVec.toNat
  (BitVec.ofInt (IntKind.bits IntKind.u8) (IntKind.wrap IntKind.u8 c) &&&
  BitVec.ofInt (IntKind.bits IntKind.u8) 63)) :
  Int)))) :
  Int))]])),
  [])
  else none
  else
  bif decide (IntKind.wrap IntKind.u32 c > 65535) then
  bif decide (IntKind.wrap IntKind.u32 c ≤ 1114111) then
  if
  (decide
  (TI.size { kind := TK.int IntKind.u8, size := 1, bytes := 1, zero := [AVal.int IntKind.u8 0] } ≠
  0) &&
  roomOk
  (List.length es +
  List.length
  [[AVal.int IntKind.u8
  (IntKind.wrap IntKind.u8
  (↑(BitVec.toNat
  (BitVec.ofInt (IntKind.bits IntKind.u8) 240 |||
  BitVec.ofInt (IntKind.bits IntKind.u8)
  (IntKind.wrap IntKind.u8
  (Int.fdiv c (2 ^ min (Int.toNat 18) (IntKind.bits IntKind.i32)))))) :
  Int))],
  [AVal.int IntKind.u8
  (IntKind.wrap IntKind.u8
  (↑(BitVec.toNat
  (BitVec.ofInt (IntKind.bits IntKind.u8) 128 |||
  BitVec.ofInt (IntKind.bits IntKind.u8)
  (IntKind.wrap IntKind.u8
  (↑(BitVec.toNat
  (BitVec.ofInt (IntKind.bits IntKind.u8)
  (IntKind.wrap IntKind.u8
  (Int.fdiv c
  (2 ^ min (Int.toNat 12) (IntKind.bits IntKind.i32)))) &&&
  BitVec.ofInt (IntKind.bits IntKind.u8) 63)) :
  Int)))) :
  Int))],
  [AVal.int IntKind.u8
  (IntKind.wrap IntKind.u8
  (↑(BitVec.toNat
  (BitVec.ofInt (IntKind.bits IntKind.u8) 128 |||
  BitVec.ofInt (IntKind.bits IntKind.u8)
  (IntKind.wrap IntKind.u8
  (↑(BitVec.toNat
  (BitVec.ofInt (IntKind.bits IntKind.u8)
  (IntKind.wrap IntKind.u8
  (Int.fdiv c
  (2 ^ min (Int.toNat 6) (IntKind.bits IntKind.i32)))) &&&
  BitVec.ofInt (IntKind.bits IntKind.u8) 63)) :
  Int)))) :
  Int))],
  [AVal.int IntKind.u8
  (IntKind.wrap IntKind.u8
  (↑(BitVec.toNat
  (BitVec.ofInt (IntKind.bits IntKind.u8) 128 |||
  BitVec.ofInt (IntKind.bits IntKind.u8)
  (IntKind.wrap IntKind.u8
  (↑(BitVec.toNat
  (BitVec.ofInt (IntKind.bits IntKind.u8)
  (IntKind.wrap IntKind.u8 c) &&&
  BitVec.ofInt (IntKind.bits IntKind.u8) 63)) :
  Int)))) :
  Int))]])
  (TI.bytes
  { kind := TK.int IntKind.u8, size := 1, bytes := 1, zero := [AVal.int IntKind.u8 0] })) =
  true then
  some
  (Out.ret
  (AVal.slice (Own.row 5)
  (List.append es
  [[AVal.int IntKind.u8
  (IntKind.wrap IntKind.u8
  (↑(BitVec.toNat
  (BitVec.ofInt (IntKind.bits IntKind.u8) 240 |||
  BitVec.ofInt (IntKind.bits IntKind.u8)
  (IntKind.wrap IntKind.u8
  (Int.fdiv c (2 ^ min (Int.toNat 18) (IntKind.bits IntKind.i32)))))) :
  Int))],
  [AVal.int IntKind.u8
  (IntKind.wrap IntKind.u8
  (↑(BitVec.toNat
  (BitVec.ofInt (IntKind.bits IntKind.u8) 128 |||
  BitVec.ofInt (IntKind.bits IntKind.u8)
  (IntKind.wrap IntKind.u8
  (↑(BitVec.toNat
  (BitVec.ofInt (IntKind.bits IntKind.u8)
  (IntKind.wrap IntKind.u8
  (Int.fdiv c
  (2 ^ min (Int.toNat 12) (IntKind.bits IntKind.i32)))) &&&
  BitVec.ofInt (IntKind.bits IntKind.u8) 63)) :
  Int)))) :
  Int))],
  [AVal.int IntKind.u8
  (IntKind.wrap IntKind.u8
  (↑(BitVec.toNat
  (BitVec.ofInt (IntKind.bits IntKind.u8) 128 |||
  BitVec.ofInt (IntKind.bits IntKind.u8)
  (IntKind.wrap IntKind.u8
  (↑(BitVec.toNat
  (BitVec.ofInt (IntKind.bits IntKind.u8)
  (IntKind.wrap IntKind.u8
  (Int.fdiv c
  (2 ^ min (Int.toNat 6) (IntKind.bits IntKind.i32)))) &&&
  BitVec.ofInt (IntKind.bits IntKind.u8) 63)) :
  Int)))) :
  Int))],
  [AVal.int IntKind.u8
  (IntKind.wrap IntKind.u8
  (↑(BitVec.toNat
  (BitVec.ofInt (IntKind.bits IntKind.u8) 128 |||
  BitVec.ofInt (IntKind.bits IntKind.u8)
  (IntKind.wrap IntKind.u8
  (↑(BitVec.toNat
  (BitVec.ofInt (IntKind.bits IntKind.u8)
  (IntKind.wrap IntKind.u8 c) &&&
  BitVec.ofInt (IntKind.bits IntKind.u8) 63)) :
  Int)))) :
  Int))]])),
  [])
  else none
  else
  if
  (decide
  (TI.size { kind := TK.int IntKind.u8, size := 1, bytes := 1, zero := [AVal.int IntKind.u8 0] } ≠
  0) &&
  roomOk
  (List.length es +
  List.length [[AVal.int IntKind.u8 239], [AVal.int IntKind.u8 191], [AVal.int IntKind.u8 189]])
  (TI.bytes
  { kind := TK.int IntKind.u8, size := 1, bytes := 1, zero := [AVal.int IntKind.u8 0] })) =
  true then
  some
  (Out.ret
  (AVal.slice (Own.row 5)
  (List.append es
  [[AVal.int IntKind.u8 239], [AVal.int IntKind.u8 191], [AVal.int IntKind.u8 189]])),
  [])
  else none
  else
  if
  (decide
  (TI.size { kind := TK.int IntKind.u8, size := 1, bytes := 1, zero := [AVal.int IntKind.u8 0] } ≠
  0) &&
  roomOk
  (List.length es +
  List.length [[AVal.int IntKind.u8 239], [AVal.int IntKind.u8 191], [AVal.int IntKind.u8 189]])
  (TI.bytes { kind := TK.int IntKind.u8, size := 1, bytes := 1, zero := [AVal.int IntKind.u8 0] })) =
  true then
  some
  (Out.ret
  (AVal.slice (Own.row 5)
  (List.append es [[AVal.int IntKind.u8 239], [AVal.int IntKind.u8 191], [AVal.int IntKind.u8 189]])),
  [])
  else none
  else
  bif decide (IntKind.wrap IntKind.u32 c > 65535) then
  bif decide (IntKind.wrap IntKind.u32 c ≤ 1114111) then
  if
  (decide
  (TI.size { kind := TK.int IntKind.u8, size := 1, bytes := 1, zero := [AVal.int IntKind.u8 0] } ≠
  0) &&
  roomOk
  (List.length es +
  List.length
  [[AVal.int IntKind.u8
  (IntKind.wrap IntKind.u8
  (↑(BitVec.toNat
  (BitVec.ofInt (IntKind.bits IntKind.u8) 240 |||
  BitVec.ofInt (IntKind.bits IntKind.u8)
  (IntKind.wrap IntKind.u8
  (Int.fdiv c (2 ^ min (Int.toNat 18) (IntKind.bits IntKind.i32)))))) :
  Int))],
  [AVal.int IntKind.u8
  (IntKind.wrap IntKind.u8
  (↑(BitVec.toNat
  (BitVec.ofInt (IntKind.bits IntKind.u8) 128 |||
  BitVec.ofInt (IntKind.bits IntKind.u8)
  (IntKind.wrap IntKind.u8
  (↑(BitVec.toNat
  (BitVec.ofInt (IntKind.bits IntKind.u8)
  (IntKind.wrap IntKind.u8
  (Int.fdiv c
  (2 ^ min (Int.toNat 12) (IntKind.bits IntKind.i32)))) &&&
  BitVec.ofInt (IntKind.bits IntKind.u8) 63)) :
  Int)))) :
  Int))],
  [AVal.int IntKind.u8
  (IntKind.wrap IntKind.u8
  (↑(BitVec.toNat
  (BitVec.ofInt (IntKind.bits IntKind.u8) 128 |||
  BitVec.ofInt (IntKind.bits IntKind.u8)
  (IntKind.wrap IntKind.u8
  (↑(BitVec.toNat
  (BitVec.ofInt (IntKind.bits IntKind.u8)
  (IntKind.wrap IntKind.u8
  (Int.fdiv c
  (2 ^ min (Int.toNat 6) (IntKind.bits IntKind.i32)))) &&&
  BitVec.ofInt (IntKind.bits IntKind.u8) 63)) :
  Int)))) :
  Int))],
  [AVal.int IntKind.u8
  (IntKind.wrap IntKind.u8
  (↑(BitVec.toNat
  (BitVec.ofInt (IntKind.bits IntKind.u8) 128 |||
  BitVec.ofInt (IntKind.bits IntKind.u8)
  (IntKind.wrap IntKind.u8
  (↑(BitVec.toNat
  (BitVec.ofInt (IntKind.bits IntKind.u8)
  (IntKind.wrap IntKind.u8 c) &&&
  BitVec.ofInt (IntKind.bits IntKind.u8) 63)) :
  Int)))) :
  Int))]])
  (TI.bytes { kind := TK.int IntKind.u8, size := 1, bytes := 1, zero := [AVal.int IntKind.u8 0] })) =
  true then
  some
  (Out.ret
  (AVal.slice (Own.row 5)
  (List.append es
  [[AVal.int IntKind.u8
  (IntKind.wrap IntKind.u8
  (↑(BitVec.toNat
  (BitVec.ofInt (IntKind.bits IntKind.u8) 240 |||
  BitVec.ofInt (IntKind.bits IntKind.u8)
  (IntKind.wrap IntKind.u8
  (Int.fdiv c (2 ^ min (Int.toNat 18) (IntKind.bits IntKind.i32)))))) :
  Int))],
  [AVal.int IntKind.u8
  (IntKind.wrap IntKind.u8
  (↑(BitVec.toNat
  (BitVec.ofInt (IntKind.bits IntKind.u8) 128 |||
  BitVec.ofInt (IntKind.bits IntKind.u8)
  (IntKind.wrap IntKind.u8
  (↑(BitVec.toNat
  (BitVec.ofInt (IntKind.bits IntKind.u8)
  (IntKind.wrap IntKind.u8
  (Int.fdiv c
  (2 ^ min (Int.toNat 12) (IntKind.bits IntKind.i32)))) &&&
  BitVec.ofInt (IntKind.bits IntKind.u8) 63)) :
  Int)))) :
  Int))],
  [AVal.int IntKind.u8
  (IntKind.wrap IntKind.u8
  (↑(BitVec.toNat
  (BitVec.ofInt (IntKind.bits IntKind.u8) 128 |||
  BitVec.ofInt (IntKind.bits IntKind.u8)
  (IntKind.wrap IntKind.u8
  (↑(BitVec.toNat
  (BitVec.ofInt (IntKind.bits IntKind.u8)
  (IntKind.wrap IntKind.u8
  (Int.fdiv c
  (2 ^ min (Int.toNat 6) (IntKind.bits IntKind.i32)))) &&&
  BitVec.ofInt (IntKind.bits IntKind.u8) 63)) :
  Int)))) :
  Int))],
  [AVal.int IntKind.u8
  (IntKind.wrap IntKind.u8
  (↑(BitVec.toNat
  (BitVec.ofInt (IntKind.bits IntKind.u8) 128 |||
  BitVec.ofInt (IntKind.bits IntKind.u8)
  (IntKind.wrap IntKind.u8
  (↑(BitVec.toNat
  (BitVec.ofInt (IntKind.bits IntKind.u8) (IntKind.wrap IntKind.u8 c) &&&
  BitVec.ofInt (IntKind.bits IntKind.u8) 63)) :
  Int)))) :
  Int))]])),
  [])
  else none
  else
  if
  (decide
  (TI.size { kind := TK.int IntKind.u8, size := 1, bytes := 1, zero := [AVal.int IntKind.u8 0] } ≠
  0) &&
  roomOk
  (List.length es +
  List.length [[AVal.int IntKind.u8 239], [AVal.int IntKind.u8 191], [AVal.int IntKind.u8 189]])
  (TI.bytes { kind := TK.int IntKind.u8, size := 1, bytes := 1, zero := [AVal.int IntKind.u8 0] })) =
  true then
  some
  (Out.ret
  (AVal.slice (Own.row 5)
  (List.append es [[AVal.int IntKind.u8 239], [AVal.int IntKind.u8 191], [AVal.int IntKind.u8 189]])),
  [])
  else none
  else
  if
  (decide
  (TI.size { kind := TK.int IntKind.u8, size := 1, bytes := 1, zero := [AVal.int IntKind.u8 0] } ≠ 0) &&
  roomOk
  (List.length es +
  List.length [[AVal.int IntKind.u8 239], [AVal.int IntKind.u8 191], [AVal.int IntKind.u8 189]])
  (TI.bytes { kind := TK.int IntKind.u8, size := 1, bytes := 1, zero := [AVal.int IntKind.u8 0] })) =
  true then
  some
  (Out.ret
  (AVal.slice (Own.row 5)
  (List.append es [[AVal.int IntKind.u8 239], [AVal.int IntKind.u8 191], [AVal.int IntKind.u8 189]])),
  [])
  else none := by kernel_rfl
theorem put48f (k : Nat) (c : Int) : execFunc env (denL env N59 noLoops (Nat.succ k)) 48 [.slice .full [], .int .i32 c] []  =
  bif decide (IntKind.wrap IntKind.u32 c ≤ 127) then
  some (Out.ret (AVal.slice (Own.row 5) [[AVal.int IntKind.u8 (IntKind.wrap IntKind.u8 c)]]), [])
  else
  bif isCp c && !isHalf (Int.toNat c) && decide (128 ≤ c) then some (Out.ret (AVal.slice (Own.row 5) (encL c)), [])
  else none := by kernel_rfl
theorem put48r (k : Nat) (es : List (List AVal)) (c : Int) : execFunc env (denL env N59 noLoops (Nat.succ k)) 48 [.slice (.row 5) es, .int .i32 c] []  =
  bif decide (IntKind.wrap IntKind.u32 c ≤ 127) then
  if
  (decide (TI.size { kind := TK.int IntKind.u8, size := 1, bytes := 1, zero := [AVal.int IntKind.u8 0] } ≠ 0) &&
  roomOk (List.length es + List.length [[AVal.int IntKind.u8 (IntKind.wrap IntKind.u8 c)]])
  (TI.bytes { kind := TK.int IntKind.u8, size := 1, bytes := 1, zero := [AVal.int IntKind.u8 0] })) =
  true then
  some (Out.ret (AVal.slice (Own.row 5) (List.append es [[AVal.int IntKind.u8 (IntKind.wrap IntKind.u8 c)]])), [])
  else none
  else
  bif isCp c && !isHalf (Int.toNat c) && decide (128 ≤ c) && decide (List.length es ≤ 1000000) then
  some (Out.ret (AVal.slice (Own.row 5) (List.append es (encL c))), [])
  else none := by kernel_rfl
theorem put37f (k : Nat) (c : Int) : execFunc env (denL env N48 noLoops (Nat.succ k)) 37 [.slice .full [], .int .i64 c] []  =
  bif decide (c ≥ 55296) then
  bif decide (c < 57344) then
  some
  (Out.ret
  (AVal.slice (Own.row 5)
  [[AVal.int IntKind.u8 237],
  [AVal.int IntKind.u8
  (IntKind.wrap IntKind.u8
  (IntKind.wrap IntKind.i64
  (↑(BitVec.toNat
  (BitVec.ofInt (IntKind.bits IntKind.i64)
  (IntKind.wrap IntKind.i64
  (↑(BitVec.toNat
  (BitVec.ofInt (IntKind.bits IntKind.i64)
  (Int.fdiv c (2 ^ min (Int.toNat 6) (IntKind.bits IntKind.i64))) &&&
  BitVec.ofInt (IntKind.bits IntKind.i64) 63)) :
  Int)) |||
  BitVec.ofInt (IntKind.bits IntKind.i64) 128)) :
  Int)))],
  [AVal.int IntKind.u8
  (IntKind.wrap IntKind.u8
  (IntKind.wrap IntKind.i64
  (↑(BitVec.toNat
  (BitVec.ofInt (IntKind.bits IntKind.i64)
  (IntKind.wrap IntKind.i64
  (↑(BitVec.toNat
  (BitVec.ofInt (IntKind.bits IntKind.i64) c &&&
  BitVec.ofInt (IntKind.bits IntKind.i64) 63)) :
  Int)) |||
  BitVec.ofInt (IntKind.bits IntKind.i64) 128)) :
  Int)))]]),
  [])
  else
  bif isCp (IntKind.wrap IntKind.i32 c) && !isHalf (Int.toNat (IntKind.wrap IntKind.i32 c)) then
  some (Out.ret (AVal.slice (Own.row 5) (encL (IntKind.wrap IntKind.i32 c))), [])
  else none
  else
  bif isCp (IntKind.wrap IntKind.i32 c) && !isHalf (Int.toNat (IntKind.wrap IntKind.i32 c)) then
  some (Out.ret (AVal.slice (Own.row 5) (encL (IntKind.wrap IntKind.i32 c))), [])
  else none := by kernel_rfl
theorem put37r (k : Nat) (es : List (List AVal)) (c : Int) : execFunc env (denL env N48 noLoops (Nat.succ k)) 37 [.slice (.row 5) es, .int .i64 c] []  =
  bif decide (c ≥ 55296) then
  bif decide (c < 57344) then
  if
  (decide (TI.size { kind := TK.int IntKind.u8, size := 1, bytes := 1, zero := [AVal.int IntKind.u8 0] } ≠ 0) &&
  roomOk
  (List.length es +
  List.length
  [[AVal.int IntKind.u8 237],
  [AVal.int IntKind.u8
  (IntKind.wrap IntKind.u8
  (IntKind.wrap IntKind.i64
  (↑(BitVec.toNat
  (BitVec.ofInt (IntKind.bits IntKind.i64)
  (IntKind.wrap IntKind.i64
  (↑(BitVec.toNat
  (BitVec.ofInt (IntKind.bits IntKind.i64)
  (Int.fdiv c (2 ^ min (Int.toNat 6) (IntKind.bits IntKind.i64))) &&&
  BitVec.ofInt (IntKind.bits IntKind.i64) 63)) :
  Int)) |||
  BitVec.ofInt (IntKind.bits IntKind.i64) 128)) :
  Int)))],
  [AVal.int IntKind.u8
  (IntKind.wrap IntKind.u8
  (IntKind.wrap IntKind.i64
  (↑(BitVec.toNat
  (BitVec.ofInt (IntKind.bits IntKind.i64)
  (IntKind.wrap IntKind.i64
  (↑(BitVec.toNat
  (BitVec.ofInt (IntKind.bits IntKind.i64) c &&&
  BitVec.ofInt (IntKind.bits IntKind.i64) 63)) :
  Int)) |||
  BitVec.ofInt (IntKind.bits IntKind.i64) 128)) :
  Int)))]])
  (TI.bytes { kind := TK.int IntKind.u8, size := 1, bytes := 1, zero := [AVal.int IntKind.u8 0] })) =
  true then
  some
  (Out.ret
  (AVal.slice (Own.row 5)
  (List.append es
  [[AVal.int IntKind.u8 237],
  [AVal.int IntKind.u8
  (IntKind.wrap IntKind.u8
  (IntKind.wrap IntKind.i64
  (↑(BitVec.toNat
  (BitVec.ofInt (IntKind.bits IntKind.i64)
  (IntKind.wrap IntKind.i64
  (↑(BitVec.toNat
  (BitVec.ofInt (IntKind.bits IntKind.i64)
  (Int.fdiv c (2 ^ min (Int.toNat 6) (IntKind.bits IntKind.i64))) &&&
  BitVec.ofInt (IntKind.bits IntKind.i64) 63)) :
  Int)) |||
  BitVec.ofInt (IntKind.bits IntKind.i64) 128)) :
  Int)))],
  [AVal.int IntKind.u8
  (IntKind.wrap IntKind.u8
  (IntKind.wrap IntKind.i64
  (↑(BitVec.toNat
  (BitVec.ofInt (IntKind.bits IntKind.i64)
  (IntKind.wrap IntKind.i64
  (↑(BitVec.toNat
  (BitVec.ofInt (IntKind.bits IntKind.i64) c &&&
  BitVec.ofInt (IntKind.bits IntKind.i64) 63)) :
  Int)) |||
  BitVec.ofInt (IntKind.bits IntKind.i64) 128)) :
  Int)))]])),
  [])
  else none
  else
  bif
  isCp (IntKind.wrap IntKind.i32 c) && !isHalf (Int.toNat (IntKind.wrap IntKind.i32 c)) &&
  decide (List.length es ≤ 1000000) then
  some (Out.ret (AVal.slice (Own.row 5) (List.append es (encL (IntKind.wrap IntKind.i32 c)))), [])
  else none
  else
  bif
  isCp (IntKind.wrap IntKind.i32 c) && !isHalf (Int.toNat (IntKind.wrap IntKind.i32 c)) &&
  decide (List.length es ≤ 1000000) then
  some (Out.ret (AVal.slice (Own.row 5) (List.append es (encL (IntKind.wrap IntKind.i32 c)))), [])
  else none := by kernel_rfl
theorem put42f (D : Ora) (c : Int) : execFunc env D 42 [.slice .full [], .int .i64 c] []  =
  bif decide (c < 128) then
  some (Out.ret (AVal.slice (Own.row 5) [[AVal.int IntKind.u8 (IntKind.wrap IntKind.u8 c)]]), [])
  else
  bif decide (c < 2048) then
  some
  (Out.ret
  (AVal.slice (Own.row 5)
  [[AVal.int IntKind.u8
  (IntKind.wrap IntKind.u8
  (IntKind.wrap IntKind.i64
  (↑(BitVec.toNat
  (BitVec.ofInt (IntKind.bits IntKind.i64) 192 |||
  BitVec.ofInt (IntKind.bits IntKind.i64)
  (Int.fdiv c (2 ^ min (Int.toNat 6) (IntKind.bits IntKind.i64))))) :
  Int)))],
  [AVal.int IntKind.u8
  (IntKind.wrap IntKind.u8
  (IntKind.wrap IntKind.i64
  (↑(BitVec.toNat
  (BitVec.ofInt (IntKind.bits IntKind.i64) 128 |||
  BitVec.ofInt (IntKind.bits IntKind.i64)
  (IntKind.wrap IntKind.i64
  (↑(BitVec.toNat
  (BitVec.ofInt (IntKind.bits IntKind.i64) c &&&
  BitVec.ofInt (IntKind.bits IntKind.i64) 63)) :
  Int)))) :
  Int)))]]),
  [])
  else
  bif decide (c < 65536) then
  some
  (Out.ret
  (AVal.slice (Own.row 5)
  [[AVal.int IntKind.u8
  (IntKind.wrap IntKind.u8
  (IntKind.wrap IntKind.i64
  (↑(BitVec.toNat
  (BitVec.ofInt (IntKind.bits IntKind.i64) 224 |||
  BitVec.ofInt (IntKind.bits IntKind.i64)
  (Int.fdiv c (2 ^ min (Int.toNat 12) (IntKind.bits IntKind.i64))))) :
  Int)))],
  [AVal.int IntKind.u8
  (IntKind.wrap IntKind.u8
  (IntKind.wrap IntKind.i64
  (↑(BitVec.toNat
  (BitVec.ofInt (IntKind.bits IntKind.i64) 128 |||
  BitVec.ofInt (IntKind.bits IntKind.i64)
  (IntKind.wrap IntKind.i64
  (↑(BitVec.toNat
  (BitVec.ofInt (IntKind.bits IntKind.i64)
  (Int.fdiv c (2 ^ min (Int.toNat 6) (IntKind.bits IntKind.i64))) &&&
  BitVec.ofInt (IntKind.bits IntKind.i64) 63)) :
  Int)))) :
  Int)))],
  [AVal.int IntKind.u8
  (IntKind.wrap IntKind.u8
  (IntKind.wrap IntKind.i64
  (↑(BitVec.toNat
  (BitVec.ofInt (IntKind.bits IntKind.i64) 128 |||
  BitVec.ofInt (IntKind.bits IntKind.i64)
  (IntKind.wrap IntKind.i64
  (↑(BitVec.toNat
  (BitVec.ofInt (IntKind.bits IntKind.i64) c &&&
  BitVec.ofInt (IntKind.bits IntKind.i64) 63)) :
  Int)))) :
  Int)))]]),
  [])
  else
  some
  (Out.ret
  (AVal.slice (Own.row 5)
  [[AVal.int IntKind.u8
  (IntKind.wrap IntKind.u8
  (IntKind.wrap IntKind.i64
  (↑(BitVec.toNat
  (BitVec.ofInt (IntKind.bits IntKind.i64) 240 |||
  BitVec.ofInt (IntKind.bits IntKind.i64)
  (Int.fdiv c (2 ^ min (Int.toNat 18) (IntKind.bits IntKind.i64))))) :
  Int)))],
  [AVal.int IntKind.u8
  (IntKind.wrap IntKind.u8
  (IntKind.wrap IntKind.i64
  (↑(BitVec.toNat
  (BitVec.ofInt (IntKind.bits IntKind.i64) 128 |||
  BitVec.ofInt (IntKind.bits IntKind.i64)
  (IntKind.wrap IntKind.i64
  (↑(BitVec.toNat
  (BitVec.ofInt (IntKind.bits IntKind.i64)
  (Int.fdiv c (2 ^ min (Int.toNat 12) (IntKind.bits IntKind.i64))) &&&
  BitVec.ofInt (IntKind.bits IntKind.i64) 63)) :
  Int)))) :
  Int)))],
  [AVal.int IntKind.u8
  (IntKind.wrap IntKind.u8
  (IntKind.wrap IntKind.i64
  (↑(BitVec.toNat
  (BitVec.ofInt (IntKind.bits IntKind.i64) 128 |||
  BitVec.ofInt (IntKind.bits IntKind.i64)
  (IntKind.wrap IntKind.i64
  (↑(BitVec.toNat
  (BitVec.ofInt (IntKind.bits IntKind.i64)
  (Int.fdiv c (2 ^ min (Int.toNat 6) (IntKind.bits IntKind.i64))) &&&
  BitVec.ofInt (IntKind.bits IntKind.i64) 63)) :
  Int)))) :
  Int)))],
  [AVal.int IntKind.u8
  (IntKind.wrap IntKind.u8
  (IntKind.wrap IntKind.i64
  (↑(BitVec.toNat
  (BitVec.ofInt (IntKind.bits IntKind.i64) 128 |||
  BitVec.ofInt (IntKind.bits IntKind.i64)
  (IntKind.wrap IntKind.i64
  (↑(BitVec.toNat
  (BitVec.ofInt (IntKind.bits IntKind.i64) c &&&
  BitVec.ofInt (IntKind.bits IntKind.i64) 63)) :
  Int)))) :
  Int)))]]),
  []) := by kernel_rfl
theorem put42r (D : Ora) (es : List (List AVal)) (c : Int) : execFunc env D 42 [.slice (.row 5) es, .int .i64 c] []  =
  bif decide (c < 128) then
  if
  (decide (TI.size { kind := TK.int IntKind.u8, size := 1, bytes := 1, zero := [AVal.int IntKind.u8 0] } ≠ 0) &&
  roomOk (List.length es + List.length [[AVal.int IntKind.u8 (IntKind.wrap IntKind.u8 c)]])
  (TI.bytes { kind := TK.int IntKind.u8, size := 1, bytes := 1, zero := [AVal.int IntKind.u8 0] })) =
  true then
  some (Out.ret (AVal.slice (Own.row 5) (List.append es [[AVal.int IntKind.u8 (IntKind.wrap IntKind.u8 c)]])), [])
  else none
  else
  bif decide (c < 2048) then
  if
  (decide (TI.size { kind := TK.int IntKind.u8, size := 1, bytes := 1, zero := [AVal.int IntKind.u8 0] } ≠ 0) &&
  roomOk
  (List.length es +
  List.length
  [[AVal.int IntKind.u8
  (IntKind.wrap IntKind.u8
  (IntKind.wrap IntKind.i64
  (↑(BitVec.toNat
  (BitVec.ofInt (IntKind.bits IntKind.i64) 192 |||
  BitVec.ofInt (IntKind.bits IntKind.i64)
  (Int.fdiv c (2 ^ min (Int.toNat 6) (IntKind.bits IntKind.i64))))) :
  Int)))],
  [AVal.int IntKind.u8
  (IntKind.wrap IntKind.u8
  (IntKind.wrap IntKind.i64
  (↑(BitVec.toNat
  (BitVec.ofInt (IntKind.bits IntKind.i64) 128 |||
  BitVec.ofInt (IntKind.bits IntKind.i64)
  (IntKind.wrap IntKind.i64
  (↑(BitVec.toNat
  (BitVec.ofInt (IntKind.bits IntKind.i64) c &&&
  BitVec.ofInt (IntKind.bits IntKind.i64) 63)) :
  Int)))) :
  Int)))]])
  (TI.bytes { kind := TK.int IntKind.u8, size := 1, bytes := 1, zero := [AVal.int IntKind.u8 0] })) =
  true then
  some
  (Out.ret
  (AVal.slice (Own.row 5)
  (List.append es
  [[AVal.int IntKind.u8
  (IntKind.wrap IntKind.u8
  (IntKind.wrap IntKind.i64
  (↑(BitVec.toNat
  (BitVec.ofInt (IntKind.bits IntKind.i64) 192 |||
  BitVec.ofInt (IntKind.bits IntKind.i64)
  (Int.fdiv c (2 ^ min (Int.toNat 6) (IntKind.bits IntKind.i64))))) :
  Int)))],
  [AVal.int IntKind.u8
  (IntKind.wrap IntKind.u8
  (IntKind.wrap IntKind.i64
  (↑(BitVec.toNat
  (BitVec.ofInt (IntKind.bits IntKind.i64) 128 |||
  BitVec.ofInt (IntKind.bits IntKind.i64)
  (IntKind.wrap IntKind.i64
  (↑(BitVec.toNat
  (BitVec.ofInt (IntKind.bits IntKind.i64) c &&&
  BitVec.ofInt (IntKind.bits IntKind.i64) 63)) :
  Int)))) :
  Int)))]])),
  [])
  else none
  else
  bif decide (c < 65536) then
  if
  (decide (TI.size { kind := TK.int IntKind.u8, size := 1, bytes := 1, zero := [AVal.int IntKind.u8 0] } ≠ 0) &&
  roomOk
  (List.length es +
  List.length
  [[AVal.int IntKind.u8
  (IntKind.wrap IntKind.u8
  (IntKind.wrap IntKind.i64
  (↑(BitVec.toNat
  (BitVec.ofInt (IntKind.bits IntKind.i64) 224 |||
  BitVec.ofInt (IntKind.bits IntKind.i64)
  (Int.fdiv c (2 ^ min (Int.toNat 12) (IntKind.bits IntKind.i64))))) :
  Int)))],
  [AVal.int IntKind.u8
  (IntKind.wrap IntKind.u8
  (IntKind.wrap IntKind.i64
  (↑(BitVec.toNat
  (BitVec.ofInt (IntKind.bits IntKind.i64) 128 |||
  BitVec.ofInt (IntKind.bits IntKind.i64)
  (IntKind.wrap IntKind.i64
  (↑(BitVec.toNat
  (BitVec.ofInt (IntKind.bits IntKind.i64)
  (Int.fdiv c (2 ^ min (Int.toNat 6) (IntKind.bits IntKind.i64))) &&&
  BitVec.ofInt (IntKind.bits IntKind.i64) 63)) :
  Int)))) :
  Int)))],
  [AVal.int IntKind.u8
  (IntKind.wrap IntKind.u8
  (IntKind.wrap IntKind.i64
  (↑(BitVec.toNat
  (BitVec.ofInt (IntKind.bits IntKind.i64) 128 |||
  BitVec.ofInt (IntKind.bits IntKind.i64)
  (IntKind.wrap IntKind.i64
  (↑(BitVec.toNat
  (BitVec.ofInt (IntKind.bits IntKind.i64) c &&&
  BitVec.ofInt (IntKind.bits IntKind.i64) 63)) :
  Int)))) :
  Int)))]])
  (TI.bytes { kind := TK.int IntKind.u8, size := 1, bytes := 1, zero := [AVal.int IntKind.u8 0] })) =
  true then
  some
  (Out.ret
  (AVal.slice (Own.row 5)
  (List.append es
  [[AVal.int IntKind.u8
  (IntKind.wrap IntKind.u8
  (IntKind.wrap IntKind.i64
  (↑(BitVec.toNat
  (BitVec.ofInt (IntKind.bits IntKind.i64) 224 |||
  BitVec.ofInt (IntKind.bits IntKind.i64)
  (Int.fdiv c (2 ^ min (Int.toNat 12) (IntKind.bits IntKind.i64))))) :
  Int)))],
  [AVal.int IntKind.u8
  (IntKind.wrap IntKind.u8
  (IntKind.wrap IntKind.i64
  (↑(BitVec.toNat
  (BitVec.ofInt (IntKind.bits IntKind.i64) 128 |||
  BitVec.ofInt (IntKind.bits IntKind.i64)
  (IntKind.wrap IntKind.i64
  (↑(BitVec.toNat
  (BitVec.ofInt (IntKind.bits IntKind.i64)
  (Int.fdiv c (2 ^ min (Int.toNat 6) (IntKind.bits IntKind.i64))) &&&
  BitVec.ofInt (IntKind.bits IntKind.i64) 63)) :
  Int)))) :
  Int)))],
  [AVal.int IntKind.u8
  (IntKind.wrap IntKind.u8
  (IntKind.wrap IntKind.i64
  (↑(BitVec.toNat
  (BitVec.ofInt (IntKind.bits IntKind.i64) 128 |||
  BitVec.ofInt (IntKind.bits IntKind.i64)
  (IntKind.wrap IntKind.i64
  (↑(BitVec.toNat
  (BitVec.ofInt (IntKind.bits IntKind.i64) c &&&
  BitVec.ofInt (IntKind.bits IntKind.i64) 63)) :
  Int)))) :
  Int)))]])),
  [])
  else none
  else
  if
  (decide (TI.size { kind := TK.int IntKind.u8, size := 1, bytes := 1, zero := [AVal.int IntKind.u8 0] } ≠ 0) &&
  roomOk
  (List.length es +
  List.length
  [[AVal.int IntKind.u8
  (IntKind.wrap IntKind.u8
  (IntKind.wrap IntKind.i64
  (↑(BitVec.toNat
  (BitVec.ofInt (IntKind.bits IntKind.i64) 240 |||
  BitVec.ofInt (IntKind.bits IntKind.i64)
  (Int.fdiv c (2 ^ min (Int.toNat 18) (IntKind.bits IntKind.i64))))) :
  Int)))],
  [AVal.int IntKind.u8
  (IntKind.wrap IntKind.u8
  (IntKind.wrap IntKind.i64
  (↑(BitVec.toNat
  (BitVec.ofInt (IntKind.bits IntKind.i64) 128 |||
  BitVec.ofInt (IntKind.bits IntKind.i64)
  (IntKind.wrap IntKind.i64
  (↑(BitVec.toNat
  (BitVec.ofInt (IntKind.bits IntKind.i64)
  (Int.fdiv c (2 ^ min (Int.toNat 12) (IntKind.bits IntKind.i64))) &&&
  BitVec.ofInt (IntKind.bits IntKind.i64) 63)) :
  Int)))) :
  Int)))],
  [AVal.int IntKind.u8
  (IntKind.wrap IntKind.u8
  (IntKind.wrap IntKind.i64
  (↑(BitVec.toNat
  (BitVec.ofInt (IntKind.bits IntKind.i64) 128 |||
  BitVec.ofInt (IntKind.bits IntKind.i64)
  (IntKind.wrap IntKind.i64
  (↑(BitVec.toNat
  (BitVec.ofInt (IntKind.bits IntKind.i64)
  (Int.fdiv c (2 ^ min (Int.toNat 6) (IntKind.bits IntKind.i64))) &&&
  BitVec.ofInt (IntKind.bits IntKind.i64) 63)) :
  Int)))) :
  Int)))],
  [AVal.int IntKind.u8
  (IntKind.wrap IntKind.u8
  (IntKind.wrap IntKind.i64
  (↑(BitVec.toNat
  (BitVec.ofInt (IntKind.bits IntKind.i64) 128 |||
  BitVec.ofInt (IntKind.bits IntKind.i64)
  (IntKind.wrap IntKind.i64
  (↑(BitVec.toNat
  (BitVec.ofInt (IntKind.bits IntKind.i64) c &&&
  BitVec.ofInt (IntKind.bits IntKind.i64) 63)) :
  Int)))) :
  Int)))]])
  (TI.bytes { kind := TK.int IntKind.u8, size := 1, bytes := 1, zero := [AVal.int IntKind.u8 0] })) =
  true then
  some
  (Out.ret
  (AVal.slice (Own.row 5)
  (List.append es
  [[AVal.int IntKind.u8
  (IntKind.wrap IntKind.u8
  (IntKind.wrap IntKind.i64
  (↑(BitVec.toNat
  (BitVec.ofInt (IntKind.bits IntKind.i64) 240 |||
  BitVec.ofInt (IntKind.bits IntKind.i64)
  (Int.fdiv c (2 ^ min (Int.toNat 18) (IntKind.bits IntKind.i64))))) :
  Int)))],
  [AVal.int IntKind.u8
  (IntKind.wrap IntKind.u8
  (IntKind.wrap IntKind.i64
  (↑(BitVec.toNat
  (BitVec.ofInt (IntKind.bits IntKind.i64) 128 |||
  BitVec.ofInt (IntKind.bits IntKind.i64)
  (IntKind.wrap IntKind.i64
  (↑(BitVec.toNat
  (BitVec.ofInt (IntKind.bits IntKind.i64)
  (Int.fdiv c (2 ^ min (Int.toNat 12) (IntKind.bits IntKind.i64))) &&&
  BitVec.ofInt (IntKind.bits IntKind.i64) 63)) :
  Int)))) :
  Int)))],
  [AVal.int IntKind.u8
  (IntKind.wrap IntKind.u8
  (IntKind.wrap IntKind.i64
  (↑(BitVec.toNat
  (BitVec.ofInt (IntKind.bits IntKind.i64) 128 |||
  BitVec.ofInt (IntKind.bits IntKind.i64)
  (IntKind.wrap IntKind.i64
  (↑(BitVec.toNat
  (BitVec.ofInt (IntKind.bits IntKind.i64)
  (Int.fdiv c (2 ^ min (Int.toNat 6) (IntKind.bits IntKind.i64))) &&&
  BitVec.ofInt (IntKind.bits IntKind.i64) 63)) :
  Int)))) :
  Int)))],
  [AVal.int IntKind.u8
  (IntKind.wrap IntKind.u8
  (IntKind.wrap IntKind.i64
  (↑(BitVec.toNat
  (BitVec.ofInt (IntKind.bits IntKind.i64) 128 |||
  BitVec.ofInt (IntKind.bits IntKind.i64)
  (IntKind.wrap IntKind.i64
  (↑(BitVec.toNat
  (BitVec.ofInt (IntKind.bits IntKind.i64) c &&&
  BitVec.ofInt (IntKind.bits IntKind.i64) 63)) :
  Int)))) :
  Int)))]])),
  [])
  else none := by kernel_rfl
theorem half50 (D : Ora) (s : List UInt8) : execFunc env D 50 [.str s] []  =
  bif decide ((↑(List.length s) : Int) < 3) then some (Out.ret (AVal.tup [AVal.int IntKind.i64 0, AVal.bool false]), [])
  else
  if (0 : Int) ≤ 0 ∧ 0 < (↑(List.length s) : Int) then
  bif byteAt s (Int.toNat 0) != 237 then some (Out.ret (AVal.tup [AVal.int IntKind.i64 0, AVal.bool false]), [])
  else
  if (0 : Int) ≤ 1 ∧ 1 < (↑(List.length s) : Int) then
  bif decide (byteAt s (Int.toNat 1) < 160) then
  some (Out.ret (AVal.tup [AVal.int IntKind.i64 0, AVal.bool false]), [])
  else
  if (0 : Int) ≤ 1 ∧ 1 < (↑(List.length s) : Int) then
  bif decide (byteAt s (Int.toNat 1) > 191) then
  some (Out.ret (AVal.tup [AVal.int IntKind.i64 0, AVal.bool false]), [])
  else
  if (0 : Int) ≤ 2 ∧ 2 < (↑(List.length s) : Int) then
  bif
  IntKind.wrap IntKind.u8
  (↑(BitVec.toNat
  (BitVec.ofInt (IntKind.bits IntKind.u8) (byteAt s (Int.toNat 2)) &&&
  BitVec.ofInt (IntKind.bits IntKind.u8) 192)) :
  Int) !=
  128 then
  some (Out.ret (AVal.tup [AVal.int IntKind.i64 0, AVal.bool false]), [])
  else
  if (0 : Int) ≤ 1 ∧ 1 < (↑(List.length s) : Int) then
  if (0 : Int) ≤ 2 ∧ 2 < (↑(List.length s) : Int) then
  some
  (Out.ret
  (AVal.tup
  [AVal.int IntKind.i64
  (IntKind.wrap IntKind.i64
  (↑(BitVec.toNat
  (BitVec.ofInt (IntKind.bits IntKind.i64)
  (IntKind.wrap IntKind.i64
  (↑(BitVec.toNat
  (BitVec.ofInt (IntKind.bits IntKind.i64) 53248 |||
  BitVec.ofInt (IntKind.bits IntKind.i64)
  (IntKind.wrap IntKind.i64
  (IntKind.wrap IntKind.i64
  (IntKind.wrap IntKind.u8
  (↑(BitVec.toNat
  (BitVec.ofInt (IntKind.bits IntKind.u8)
  (byteAt s (Int.toNat 1)) &&&
  BitVec.ofInt (IntKind.bits IntKind.u8) 63)) :
  Int)) *
  2 ^ min (Int.toNat 6) (IntKind.bits IntKind.i64))))) :
  Int)) |||
  BitVec.ofInt (IntKind.bits IntKind.i64)
  (IntKind.wrap IntKind.i64
  (IntKind.wrap IntKind.u8
  (↑(BitVec.toNat
  (BitVec.ofInt (IntKind.bits IntKind.u8)
  (byteAt s (Int.toNat 2)) &&&
  BitVec.ofInt (IntKind.bits IntKind.u8) 63)) :
  Int))))) :
  Int)),
  AVal.bool true]),
  [])
  else none
  else none
  else none
  else none
  else none
  else none := by kernel_rfl
end Go.Proofs.YtlklpdifcpjlpaaDoor.U
