/- Seat 07: LogsLogs: for every input the law returns true, and its arguments read as they did. No conditions. -/
import Derived.Test.YtlebcefahlienaaMg1
import Derived.Test.YtlebcefahlienaaLwBase7
set_option linter.unusedVariables false
set_option linter.unusedSimpArgs false
namespace Go.Proofs.Ytlebcefahlienaa.logsLogs
open Go.Pv Go.ChangeShapes Go.WideShapes Go.ChangeAt Go.RowKit laws
abbrev tys:List Ty:=[.int .i64,.int .i64,.int .i64]
theorem plain (a:ProdT (tys.map .d)) (h:BndL tys a):g3 2000000 a.1 a.2.1 a.2.2.1 = some true:=logs_plain a.1 a.2.1 a.2.2.1
set_option maxRecDepth 100000 in
theorem lifted (os:Os) (started:os.Started) (H:Type) (enc:TypeId×Value→H) :
   ReturnsInHanded {} Try.checked os 3 .any (Rows.logsLogsSpec.pre6 enc Try.prog Try.f3 Rows.logsLogsRow.domain false) (Rows.logsLogsSpec.post enc Try.prog Try.f3 false true false false):=by
 refine returnsInHanded_of_change (C:=Try.checked) own started (by kernel_rfl) Try.func3
   (ChangeSpec.witness6 (enc:=enc) (C:=Try.checked) false ⟨#[],#[.int .i64 0,.int .i64 0,.int .i64 0],[]⟩ 8 (by kernel_rfl) (by kernel_rfl) (by kernel_rfl) (by kernel_rfl)) ?_
 intro W base args ds gs before hval hW hcnd _
 refine law_contract (f:=3) (fn:=Try.f3) (tys:=tys) (bt:=4) (s:=Rows.logsLogsSpec) (G3_ok 2000000) plain (by kernel_rfl) hval hW (glob_ok _) rfl laidOut (fun t ht=>?_) (by kernel_rfl) Try.underlying4 (fun ds h=>?_)
 · rw [Try.params3] at ht
   simp only [List.mem_cons,List.not_mem_nil,or_false] at ht
   rcases ht with rfl | rfl | rfl
   · exact ⟨by kernel_rfl,of_decide_eq_true (p:=_ < Try.prog.types.size) (by kernel_rfl)⟩
   · exact ⟨by kernel_rfl,of_decide_eq_true (p:=_ < Try.prog.types.size) (by kernel_rfl)⟩
   · exact ⟨by kernel_rfl,of_decide_eq_true (p:=_ < Try.prog.types.size) (by kernel_rfl)⟩
 · rw [Try.params3] at h
   match ds,h with
   | [d0,d1,d2],_=>rfl
theorem said:Rows.LogsLogsSaid :=
 OpenClaim.holds_of_wide 3 Try.f3 rfl rfl rfl rfl rfl rfl rfl ⟨rfl,rfl,rfl,rfl,rfl⟩ rfl rfl rfl rfl rfl (by kernel_rfl) Try.func3 (by kernel_rfl)
   (of_decide_eq_true (by kernel_rfl)) (by unfold Func.isWrapper;first | (rw [if_pos (by decide +kernel)];kernel_rfl) | (rw [if_neg (by decide +kernel)];exact ⟨rfl,rfl⟩))
   (fun os started H enc _=>lifted os started H enc)
end Go.Proofs.Ytlebcefahlienaa.logsLogs
