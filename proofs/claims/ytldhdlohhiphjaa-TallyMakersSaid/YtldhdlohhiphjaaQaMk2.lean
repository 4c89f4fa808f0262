/- Seat 06, plain: protocols asked of kinds, by the kernel. -/
import Derived.Test.YtldhdlohhiphjaaMg2
set_option linter.unusedVariables false
set_option linter.unusedSimpArgs false
namespace Go.Pv
theorem at4 : atB 4 = true := by kernel_rfl
theorem at4c : atC 4 = true := by kernel_rfl
end Go.Pv
