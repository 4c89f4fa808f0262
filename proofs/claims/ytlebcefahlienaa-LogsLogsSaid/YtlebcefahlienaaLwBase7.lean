/- Seat 07: what its laws share. -/
import Derived.Test.YtlebcefahlienaaPvG07
import Derived.Test.YtlebcefahlienaaPvAB
import Derived.Test.YtlebcefahlienaaRows
import Derived.WalkKit
import Derived.ProofKit
set_option linter.unusedVariables false
namespace Go.Proofs.Ytlebcefahlienaa.laws
open Go.Pv Go.ChangeShapes Go.WideShapes Go.RowKit
theorem own:ownKnob Try.prog.godebug = none:=by kernel_rfl
theorem laidOut:laidOutB Try.prog = true:=by kernel_rfl
theorem glob_ok (W:World):GlobC Pv.glob (Old W) W:=by
 intro g t x hG
 cases hG
end Go.Proofs.Ytlebcefahlienaa.laws
