/- GenLots as a call. -/
import Derived.Test.YtlklpdifcpjlpaaDoorG2
import Derived.Test.YtlklpdifcpjlpaaDoorRows
import Derived.Test.YtlklpdifcpjlpaaDoorAbsOpen
namespace Go.Proofs.YtlklpdifcpjlpaaDoor.Gl
open Go.Abs Go.Uni Go.Plain
set_option maxRecDepth 100000
theorem call_GenLots (B : Nat) (s : Int) (l : List Int) : CallOk env prog B 12 [.int .i64 s, .slice .no (ints l)] [] (.ret (.bool true)) [] :=
  GenLots.ok B 100001 _ _ _ _ (by
    show (CT.opt (GenLots 100001 s (l.map ci)) _).eval = _
    rw [GenLots_true (by omega)]; rfl)
end Go.Proofs.YtlklpdifcpjlpaaDoor.Gl
