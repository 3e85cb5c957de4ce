/- LexWords, LexNumbers and LexNames answer true. -/
import Derived.Test.YtefenlmpbgdpnaaDoorEsX3
import Derived.Test.YtefenlmpbgdpnaaDoorEsLY
namespace Go.Proofs.YtefenlmpbgdpnaaDoor.L
open Go.Abs Go.Uni Go.Plain Go.Deci
open Go.Lib (itoa decDigits)
set_option maxRecDepth 100000
set_option maxHeartbeats 1000000
set_option linter.unusedVariables false
set_option linter.unusedSimpArgs false
theorem alive12 : law12_alive 2000001 = some true := by kernel_rfl
theorem num_eq (x : Int) : law12_num x = some () := rfl
end Go.Proofs.YtefenlmpbgdpnaaDoor.L
