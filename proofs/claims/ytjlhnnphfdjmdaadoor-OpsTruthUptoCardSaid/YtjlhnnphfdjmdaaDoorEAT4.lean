/- OpsOrder, OpsJoin and OpsTruth as calls. -/
import Derived.Test.YtjlhnnphfdjmdaaDoorEAS7
import Derived.Test.YtjlhnnphfdjmdaaDoorEAGlob
namespace Go.Proofs.YtjlhnnphfdjmdaaDoor.A
open Go.Abs Go.Uni Go.Plain Go.RowKit
set_option maxRecDepth 100000
theorem call_OpsOrder (B : Nat) {k m k' m' k'' m'' : Int} (_ : (Lit.int .i64 m).wf = true) (_ : (Lit.int .i64 m').wf = true) (_ : (Lit.int .i64 m'').wf = true) {a b c : List UInt8} (ha : a.length ≤ 2000000) (hb : b.length ≤ 2000000) (hc : c.length ≤ 2000000) : CallOk env prog B 12 [.agg [.int .i64 k, .int .i64 m, .str a], .agg [.int .i64 k', .int .i64 m', .str b], .agg [.int .i64 k'', .int .i64 m'', .str c]] [] (.ret (.bool true)) [] :=
  OpsOrder.ok B 2000001 _ _ _ _ (by
    show (CT.opt (OpsOrder 2000001 k m a k' m' b k'' m'' c) _).eval = _
    rw [OpsOrder_true ha hb hc]; rfl)
theorem call_OpsJoin (B : Nat) {a b c : List UInt8} (ha : a.length ≤ 2000000) (hb : b.length ≤ 2000000) (hc : c.length ≤ 2000000) : CallOk env prog B 13 [.str a, .str b, .str c] [] (.ret (.bool true)) [] :=
  OpsJoin.ok B 2000001 _ _ _ _ (by
    show (CT.opt (OpsJoin 2000001 a b c) _).eval = _
    rw [OpsJoin_true ha hb hc]; rfl)
theorem call_OpsTruth (B : Nat) {k m k' m' : Int} (_ : (Lit.int .i64 m).wf = true) (_ : (Lit.int .i64 m').wf = true) {a b : List UInt8} (ha : a.length ≤ 2000000) (hb : b.length ≤ 2000000) : CallOk env prog B 14 [.agg [.int .i64 k, .int .i64 m, .str a], .agg [.int .i64 k', .int .i64 m', .str b]] [] (.ret (.bool true)) [] :=
  OpsTruth.ok B 2000001 _ _ _ _ (by
    show (CT.opt (OpsTruth 2000001 k m a k' m' b) _).eval = _
    rw [OpsTruth_true ha hb]; rfl)
end Go.Proofs.YtjlhnnphfdjmdaaDoor.A
