/- Seat 06, plain: protocols asked of kinds, by the kernel. -/
import Derived.Test.YtldhdlohhiphjaaMg2
set_option linter.unusedVariables false
set_option linter.unusedSimpArgs false
namespace Go.Pv
theorem le31 : leB 3 1 = true := by kernel_rfl
theorem le31c : leC 3 1 = true := by kernel_rfl
end Go.Pv
