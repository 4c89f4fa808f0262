/- The purifying layer, part 25b: functions that are handed objects. -/
import Derived.Test.YtcfhdpbebiibjaaDoorPvY
set_option linter.unusedVariables false
set_option linter.unusedSimpArgs false
namespace Go.Pv
variable {P:Program} {Γ:Cfg} {C:Type} {cx:Cx} {tm:Tm} {lk:Lk} {a:Act} {w:World} {Fz:Nat→Prop} {pos:Nat→Value} {U:Nat→Prop}
section
variable {exp:List Nat} {n:Nat} {st:St} {outs:List (Nat×Obj)} {exs:List Obj}
end
end Go.Pv
