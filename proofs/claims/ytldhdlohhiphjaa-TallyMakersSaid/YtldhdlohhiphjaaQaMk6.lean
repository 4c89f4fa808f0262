/- Seat 06, plain: protocols asked of kinds, by the kernel. -/
import Derived.Test.YtldhdlohhiphjaaMg2
set_option linter.unusedVariables false
set_option linter.unusedSimpArgs false
namespace Go.Pv
theorem le32 : leB 3 2 = true := by kernel_rfl
theorem le32c : leC 3 2 = true := by kernel_rfl
end Go.Pv
