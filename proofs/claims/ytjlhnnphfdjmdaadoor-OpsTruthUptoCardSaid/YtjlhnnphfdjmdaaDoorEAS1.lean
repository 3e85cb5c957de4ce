/- ValuesSame, ValuesTypes and ValuesShow answer true. -/
import Derived.Test.YtjlhnnphfdjmdaaDoorEAR1
namespace Go.Proofs.YtjlhnnphfdjmdaaDoor.U
open Go.Abs Go.Uni Go.Plain L0
set_option maxRecDepth 100000
set_option maxHeartbeats 1000000
set_option linter.unusedVariables false
set_option linter.unusedSimpArgs false
theorem alive4 : law4_alive 2000001 = some true := by kernel_rfl
theorem show_str {s : List UInt8} (hl : s.length ≤ 2000000) (hr : right s = true) (b : Bool) : values_Show 2000001 4 0 s b = some (quote (unitsOf s)) := by
  unfold values_Show values_Show.k
  rw [quoted_eq hl hr (by omega)]
  rfl
end Go.Proofs.YtjlhnnphfdjmdaaDoor.U
