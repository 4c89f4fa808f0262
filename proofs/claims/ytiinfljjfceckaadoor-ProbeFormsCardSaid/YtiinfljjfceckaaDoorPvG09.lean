/- The plain functions of the law, part 2. -/
import Derived.Test.YtiinfljjfceckaaDoorPvG09p0
set_option linter.unusedVariables false
namespace Go.Pv
open Go.Proofs
noncomputable section
end
end Go.Pv
