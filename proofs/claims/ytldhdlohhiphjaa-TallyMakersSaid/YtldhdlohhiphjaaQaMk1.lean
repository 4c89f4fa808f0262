/- Seat 06, plain: protocols asked of kinds, by the kernel. -/
import Derived.Test.YtldhdlohhiphjaaMg2
set_option linter.unusedVariables false
set_option linter.unusedSimpArgs false
namespace Go.Pv
theorem at1 : atB 1 = true := by kernel_rfl
theorem at1c : atC 1 = true := by kernel_rfl
theorem at2 : atB 2 = true := by kernel_rfl
theorem at2c : atC 2 = true := by kernel_rfl
theorem at3 : atB 3 = true := by kernel_rfl
theorem at3c : atC 3 = true := by kernel_rfl
theorem le10 : leB 1 0 = true := by kernel_rfl
theorem le10c : leC 1 0 = true := by kernel_rfl
theorem maj0 : majB 0 = true := by kernel_rfl
theorem maj1 : majB 1 = true := by kernel_rfl
theorem maj2 : majB 2 = true := by kernel_rfl
theorem maj3 : majB 3 = true := by kernel_rfl
theorem maj4 : majB 4 = true := by kernel_rfl
theorem maj5 : majB 5 = true := by kernel_rfl
theorem maj6 : majB 6 = true := by kernel_rfl
theorem maj7 : majB 7 = true := by kernel_rfl
theorem maj8 : majB 8 = true := by kernel_rfl
theorem maj9 : majB 9 = true := by kernel_rfl
end Go.Pv
