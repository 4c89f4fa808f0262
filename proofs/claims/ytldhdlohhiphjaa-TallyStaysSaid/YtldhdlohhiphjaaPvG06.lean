/- The plain functions of the law, part 2. -/
import Derived.Test.YtldhdlohhiphjaaPvG06p0
set_option linter.unusedVariables false
namespace Go.Pv
open Go.Proofs
noncomputable def G27 (N : Nat) : Cfg := (G6 N).add 27 (Spec.one [.d (.lst (.int .i64)), .d (.lst (.int .i64))] .bool (fun a => g27 N a.1 a.2.1))
theorem G27_ok (N : Nat) : CfgOk Try.prog (G27 N) := add_one [.d (.lst (.int .i64)), .d (.lst (.int .i64))] .bool (fun a => g27 N a.1 a.2.1) [] [] (g27An N) (G6_ok N) Try.func27 (by kernel_rfl) (by kernel_rfl) (lokF_of (told_ok (g27Tl N) rfl rfl ⟨g27L58_ok N, trivial⟩) (told_ok (g27Ti N) rfl rfl trivial) (toldR_ok (g27Rl N) rfl trivial)) (.inr rfl) fun a => by kernel_rfl

end Go.Pv
