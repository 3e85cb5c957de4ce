/- KeysIndex and ArraysLength as calls. -/
import Derived.Test.YtjlhnnphfdjmdaaDoorEUS2
import Derived.Test.YtjlhnnphfdjmdaaDoorEUGlob
namespace Go.Proofs.YtjlhnnphfdjmdaaDoor.C
open Go.Abs Go.Uni Go.Plain Go.RowKit
set_option maxRecDepth 100000
theorem call_KeysIndex (B : Nat) (s : List UInt8) (a : Int) {b : Int} (hb : (Lit.int .i64 b).wf = true) : CallOk env prog B 8 [.str s, .int .i64 a, .int .i64 b] [] (.ret (.bool true)) [] :=
  KeysIndex.ok B 2000001 _ _ _ _ (by
    have h : -9223372036854775808 ≤ b ∧ b ≤ 9223372036854775807 := bounds_i64 hb
    show (CT.opt (KeysIndex 2000001 s a b) _).eval = _
    rw [KeysIndex_true (by omega) s a h.1 h.2]; rfl)
theorem call_ArraysLength (B : Nat) (k m : Int) (s : List UInt8) : CallOk env prog B 10 [.agg [.int .i64 k, .int .i64 m, .str s]] [] (.ret (.bool true)) [] :=
  ArraysLength.ok B _ _ _ _ (by
    show (CT.opt (ArraysLength k m s) _).eval = _
    rw [ArraysLength_true]; rfl)
end Go.Proofs.YtjlhnnphfdjmdaaDoor.C
