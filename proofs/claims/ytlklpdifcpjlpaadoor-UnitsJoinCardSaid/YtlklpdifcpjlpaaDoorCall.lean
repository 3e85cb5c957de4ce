/- UnitsOf and UnitsJoin as calls. -/
import Derived.Test.YtlklpdifcpjlpaaDoorP8
import Derived.Test.YtlklpdifcpjlpaaDoorGlob
namespace Go.Proofs.YtlklpdifcpjlpaaDoor
open Go.Abs Go.Uni Go.Plain
set_option maxRecDepth 100000
theorem call_UnitsOf (B : Nat) (s : List UInt8) : CallOk env prog B 4 [.str s] [] (.ret (.bool true)) [] :=
  UnitsOf.ok B 100001 _ _ _ _ (by
    show (CT.opt (UnitsOf 100001 s) _).eval = _
    rw [UnitsOf_true (by omega)]; rfl)
theorem call_UnitsJoin (B : Nat) (s t : List UInt8) : CallOk env prog B 6 [.str s, .str t] [] (.ret (.bool true)) [] :=
  UnitsJoin.ok B 100001 _ _ _ _ (by
    show (CT.opt (UnitsJoin 100001 s t) _).eval = _
    rw [UnitsJoin_true (by omega)]; rfl)
end Go.Proofs.YtlklpdifcpjlpaaDoor
