/- Seat 06: TallyWeighs: for every input the law returns true, and its arguments read as they did. No conditions. -/
import Derived.Test.YtldhdlohhiphjaaMg2
import Derived.Test.YtldhdlohhiphjaaLwBase6
set_option linter.unusedVariables false
set_option linter.unusedSimpArgs false
namespace Go.Proofs.Ytldhdlohhiphjaa.tallyWeighs
open Go.Pv Go.ChangeShapes Go.WideShapes Go.ChangeAt Go.RowKit laws
abbrev tys:List Ty:=[.pair (.int .i64) (.pair (.lst (.int .i64)) (.pair (.lst (.int .i64)) (.pair (.lst (.arr 4 (.int .i64))) .unit))),.lst (.int .i64),.arr 2 (.int .i64)]
theorem plain (a:ProdT (tys.map .d)) (h:BndL tys a):g13 2000 a.1 a.2.1 a.2.2.1 = some true:=tallyWeighs_plain a.1 a.2.1 a.2.2.1
set_option maxRecDepth 100000 in
theorem lifted (os:Os) (started:os.Started) (H:Type) (enc:TypeId×Value→H) :
   ReturnsInHanded {} Try.checked os 13 .any (Rows.tallyWeighsSpec.pre6 enc Try.prog Try.f13 Rows.tallyWeighsRow.domain false) (Rows.tallyWeighsSpec.post enc Try.prog Try.f13 false true false false):=by
 refine returnsInHanded_of_change (C:=Try.checked) own started (by kernel_rfl) Try.func13
   (ChangeSpec.witness6 (enc:=enc) (C:=Try.checked) false ⟨#[],#[.agg #[.int .i64 0,.slice none 0 0,.slice none 0 0,.slice none 0 0],.slice none 0 0,.agg #[.int .i64 0,.int .i64 0]],[]⟩ 8 (by kernel_rfl) (by kernel_rfl) (by kernel_rfl) (by kernel_rfl)) ?_
 intro W base args ds gs before hval hW hcnd _
 refine law_contract (f:=13) (fn:=Try.f13) (tys:=tys) (bt:=4) (s:=Rows.tallyWeighsSpec) (G13_ok 2000) plain (by kernel_rfl) hval hW (glob_ok _) rfl laidOut (fun t ht=>?_) (by kernel_rfl) Try.underlying4 (fun ds h=>?_)
 · rw [Try.params13] at ht
   simp only [List.mem_cons,List.not_mem_nil,or_false] at ht
   rcases ht with rfl | rfl | rfl
   · exact ⟨by kernel_rfl,of_decide_eq_true (p:=_ < Try.prog.types.size) (by kernel_rfl)⟩
   · exact ⟨by kernel_rfl,of_decide_eq_true (p:=_ < Try.prog.types.size) (by kernel_rfl)⟩
   · exact ⟨by kernel_rfl,of_decide_eq_true (p:=_ < Try.prog.types.size) (by kernel_rfl)⟩
 · rw [Try.params13] at h
   match ds,h with
   | [d0,d1,d2],_=>rfl
theorem said:Rows.TallyWeighsSaid :=
 OpenClaim.holds_of_wide 13 Try.f13 rfl rfl rfl rfl rfl rfl rfl ⟨rfl,rfl,rfl,rfl,rfl⟩ rfl rfl rfl rfl rfl (by kernel_rfl) Try.func13 (by kernel_rfl)
   (of_decide_eq_true (by kernel_rfl)) (by unfold Func.isWrapper;first | (rw [if_pos (by decide +kernel)];kernel_rfl) | (rw [if_neg (by decide +kernel)];exact ⟨rfl,rfl⟩))
   (fun os started H enc _=>lifted os started H enc)
end Go.Proofs.Ytldhdlohhiphjaa.tallyWeighs
