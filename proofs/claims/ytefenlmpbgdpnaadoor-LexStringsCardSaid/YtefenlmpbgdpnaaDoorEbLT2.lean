/- LexStrings as a call. -/
import Derived.Test.YtefenlmpbgdpnaaDoorEbLS
import Derived.Test.YtefenlmpbgdpnaaDoorEbLGlob
namespace Go.Proofs.YtefenlmpbgdpnaaDoor.L
open Go.Abs Go.Uni Go.Plain Go.RowKit
set_option maxRecDepth 100000
theorem call_LexStrings (B : Nat) {s : List UInt8} : CallOk env prog B 6 [.str s] [] (.ret (.bool true)) [] :=
  LexStrings.ok B 2000001 _ _ _ _ (by
    show (CT.opt (LexStrings 2000001 s) _).eval = _
    rw [LexStrings_true]; rfl)
end Go.Proofs.YtefenlmpbgdpnaaDoor.L
