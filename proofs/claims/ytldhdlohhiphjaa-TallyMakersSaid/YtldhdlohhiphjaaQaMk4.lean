/- Seat 06, plain: protocols asked of kinds, by the kernel. -/
import Derived.Test.YtldhdlohhiphjaaMg2
set_option linter.unusedVariables false
set_option linter.unusedSimpArgs false
namespace Go.Pv
theorem le30 : leB 3 0 = true := by kernel_rfl
theorem le30c : leC 3 0 = true := by kernel_rfl
end Go.Pv
