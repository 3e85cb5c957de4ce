/- LexWords, LexNumbers and LexNames as calls. -/
import Derived.Test.YtefenlmpbgdpnaaDoorEbLZ
import Derived.Test.YtefenlmpbgdpnaaDoorEbLGlob
namespace Go.Proofs.YtefenlmpbgdpnaaDoor.L
open Go.Abs Go.Uni Go.Plain Go.RowKit
set_option maxRecDepth 100000
theorem call_LexNames (B : Nat) {s : List UInt8} : CallOk env prog B 8 [.str s] [] (.ret (.bool true)) [] :=
  LexNames.ok B 2000001 _ _ _ _ (by
    show (CT.opt (LexNames 2000001 s) _).eval = _
    rw [LexNames_true]; rfl)
theorem call_LexNumbers (B : Nat) {v : Int} (hv : (Lit.int .i64 v).wf = true) (z : Bool) : CallOk env prog B 7 [.int .i64 v, .bool z] [] (.ret (.bool true)) [] :=
  LexNumbers.ok B 2000001 _ _ _ _ (by
    have h : -9223372036854775808 ≤ v ∧ v ≤ 9223372036854775807 := bounds_i64 hv
    show (CT.opt (LexNumbers 2000001 v z) _).eval = _
    rw [LexNumbers_true h.1 h.2]; rfl)
end Go.Proofs.YtefenlmpbgdpnaaDoor.L
