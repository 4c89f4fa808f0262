/- The plain functions of the law, part 2. -/
import Derived.Test.YtcfhdpbebiibjaaDoorPvG05p0
set_option linter.unusedVariables false
namespace Go.Pv
open Go.Proofs
noncomputable def g11 (N : Nat) (a0 : (Int) × ((List (Int)) × ((List (List (Int))) × (Unit)))) (a1 : Int) : Option (Bool) :=
  Option.bind (g22 N a1) fun r1 => Option.bind (g25 N a0 r1 12) fun r2 => Option.bind (g27 N r2) fun r3 => Option.bind (g29 N r3) fun r4 => Option.bind (g27 N r2) fun r5 => Option.bind (g46 N r5) fun r6 => Option.bind (g34 N r2) fun r7 => bif (ieq r4.2.1 0) then Option.bind (g33 N r4.1) fun r8 => Option.bind (g32 N r8 r7) fun r9 => bif r9 then bif (ieq ((List.length r4.1.2.1 : Nat) : Int) ((List.length r7.2.1 : Nat) : Int)) then bif (ieq r6.2.1 0) then bif (ieq r6.1 ((List.length r7.2.1 : Nat) : Int)) then Option.bind (g24 N) fun r10 => some r10 else some false else some false else some false else some false else some false
noncomputable def g11Tl (N : Nat) : List (Nat × Told) := []
noncomputable def g11An (N : Nat) : Ann := { loops := [], frz := [], L := toldL (g11Tl N), fuel := toldFuel (g11Tl N) }
noncomputable def G11 (N : Nat) : Cfg := (G24 N).add 11 (Spec.one [.d (.pair (.int .i64) (.pair (.lst (.int .i64)) (.pair (.lst (.lst (.int .i64))) .unit))), .d (.int .i64)] .bool (fun a => g11 N a.1 a.2.1))
theorem G11_ok (N : Nat) : CfgOk Tryd.prog (G11 N) := add_one [.d (.pair (.int .i64) (.pair (.lst (.int .i64)) (.pair (.lst (.lst (.int .i64))) .unit))), .d (.int .i64)] .bool (fun a => g11 N a.1 a.2.1) [] (g11An N) (G24_ok N) Tryd.func11 (by kernel_rfl) (by kernel_rfl) (lokF_of (told_ok (g11Tl N) rfl rfl trivial)) fun a => by kernel_rfl

end Go.Pv
