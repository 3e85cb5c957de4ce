/- ValuesNumbers and ValuesTell as calls. -/
import Derived.Test.YtjlhnnphfdjmdaaDoorEAS5
import Derived.Test.YtjlhnnphfdjmdaaDoorEAGlob
namespace Go.Proofs.YtjlhnnphfdjmdaaDoor.A
open Go.Abs Go.Uni Go.Plain Go.RowKit
set_option maxRecDepth 100000
theorem call_ValuesNumbers (B : Nat) {a : Int} (ha : (Lit.int .i64 a).wf = true) {s : List UInt8} (hs : s.length ≤ 2000000) : CallOk env prog B 6 [.int .i64 a, .str s] [] (.ret (.bool true)) [] :=
  ValuesNumbers.ok B 2000001 _ _ _ _ (by
    have h := bounds_i64 ha
    show (CT.opt (ValuesNumbers 2000001 a s) _).eval = _
    rw [ValuesNumbers_true h.1 h.2 hs]; rfl)
theorem call_ValuesTell (B : Nat) {k m : Int} (hk : (Lit.int .i64 k).wf = true) (hm : (Lit.int .i64 m).wf = true) (s : List UInt8) (b : Bool) : CallOk env prog B 7 [.agg [.int .i64 k, .int .i64 m, .str s], .bool b] [] (.ret (.bool true)) [] :=
  ValuesTell.ok B 2000001 _ _ _ _ (by
    have h := bounds_i64 hm
    show (CT.opt (ValuesTell 2000001 k m s b) _).eval = _
    rw [ValuesTell_true h.1 h.2]; rfl)
end Go.Proofs.YtjlhnnphfdjmdaaDoor.A
