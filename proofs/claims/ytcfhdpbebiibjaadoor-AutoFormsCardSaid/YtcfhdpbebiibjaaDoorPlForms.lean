/- Seat 05: AutoForms, plain. -/
import Derived.Test.YtcfhdpbebiibjaaDoorPlX
import Derived.Test.YtcfhdpbebiibjaaDoorPvAB
set_option linter.unusedVariables false
set_option linter.unusedSimpArgs false
namespace Go.Pv

theorem forms_awake : g24 2000 = some true := by kernel_rfl
theorem forms_plain (a : MM) (k : Int) : g11 2000 a k = some true := by
  obtain ⟨b, e1, hb1, hb2⟩ := base_eq 2000 k
  obtain ⟨x, e2, hx, hxb, hxn⟩ := tame_eq 2000 (by omega) a b 12 ⟨hb1, hb2⟩ ⟨by omega, by omega⟩
  obtain ⟨F, f1, f2, f3, f4, f5, f6, f7, f8⟩ := hx.formed 2000 (by omega)
  have hm := hx.many
  unfold g11
  rw [e1, Option.bind_some, e2, Option.bind_some, hx.given 2000 (by omega)]
  simp only [Option.bind_some]
  rw [f1]
  simp only [Option.bind_some]
  rw [f2]
  simp only [Option.bind_some]
  rw [f3]
  simp only [Option.bind_some, ieq_self, cond_true]
  rw [own_eq 2000 (by omega), f6.toWM.cut (by have := hx.base; omega) (by omega)]
  simp only [Option.bind_some]
  rw [f6.toWM.same 2000 (by omega) (by omega) (by omega)]
  simp only [Option.bind_some, cond_true]
  rw [forms_awake]; rfl

theorem autoForms_bnd (a : ProdT (List.map AS.d [MT, .int .i64])) (h : BndL [MT, .int .i64] a) : g11 2000 a.1 a.2.1 = some true := forms_plain a.1 a.2.1

end Go.Pv
