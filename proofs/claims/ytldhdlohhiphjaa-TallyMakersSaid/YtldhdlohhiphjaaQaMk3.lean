/- Seat 06, plain: protocols asked of kinds, by the kernel. -/
import Derived.Test.YtldhdlohhiphjaaMg2
set_option linter.unusedVariables false
set_option linter.unusedSimpArgs false
namespace Go.Pv
theorem le20 : leB 2 0 = true := by kernel_rfl
theorem le20c : leC 2 0 = true := by kernel_rfl
theorem le21 : leB 2 1 = true := by kernel_rfl
theorem le21c : leC 2 1 = true := by kernel_rfl
end Go.Pv
