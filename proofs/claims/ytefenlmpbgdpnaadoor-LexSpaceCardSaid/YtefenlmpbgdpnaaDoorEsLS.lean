/- LexStrings answers true. -/
import Derived.Test.YtefenlmpbgdpnaaDoorEsLZ
namespace Go.Proofs.YtefenlmpbgdpnaaDoor.L
open Go.Abs Go.Uni Go.Plain Go.Deci
open Go.Lib (itoa decDigits)
set_option maxRecDepth 100000
set_option maxHeartbeats 1000000
set_option linter.unusedVariables false
set_option linter.unusedSimpArgs false
theorem room2 {n : Nat} (h : n ≤ 1000000) : (true && roomOk n 2) = true := by rw [Bool.true_and]; exact room_t (by omega) (by omega)
end Go.Proofs.YtefenlmpbgdpnaaDoor.L
