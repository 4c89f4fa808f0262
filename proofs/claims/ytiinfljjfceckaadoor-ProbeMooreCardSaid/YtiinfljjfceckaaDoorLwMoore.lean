/- Seat 09: ProbeMoore: for every input the law returns true, and its arguments read as they did; the variable that the row lists is tied to the program's text (the card). -/
import Derived.Test.YtiinfljjfceckaaDoorQpMoore
import Derived.Test.YtiinfljjfceckaaDoorLwBase9
set_option linter.unusedVariables false
set_option linter.unusedSimpArgs false
namespace Go.Proofs.YtiinfljjfceckaaDoor.probeMoore
open Go.Pv Go.ChangeShapes Go.WideShapes Go.RowKit laws
abbrev tys:List Ty:=[.pair (.lst (.lst (.int .i64))) (.pair (.lst (.lst (.int .i64))) .unit),.int .i64]
abbrev args0:Array Value:=#[.agg #[.slice none 0 0,.slice none 0 0],.int .i64 0]
theorem laid_met (os:Os):laidMet Tryd.prog Rows.probeMooreRow.laid ((j1G os).forCall (fun _ _=>0) ⟨#[],args0,[]⟩).memory :=
 laidMet_of_run' 8 (by kernel_rfl) (by kernel_rfl)
theorem reads (os:Os) {H:Type} (enc:TypeId×Value→H):∃ x,DataW.whole enc Tryd.prog ((j1G os).forCall (fun _ _=>0) ⟨#[],args0,[]⟩).memory Tryd.f7.params.toList Rows.probeMooreSpec.vars false args0.toList 8 = some ([.agg [.nil,.nil],.lit (.int .i64 0)],[],x) :=
 ⟨[],by kernel_rfl⟩
set_option maxRecDepth 100000 in
theorem lifted (os:Os) (started:os.Started) (H:Type) (enc:TypeId×Value→H) (F:Stop.Interp) :
   ReturnsInHanded {} Tryd.checked os 7 .any ((OpenSpec.ofChange Rows.probeMooreSpec).preRow enc Tryd.prog Tryd.f7 Rows.probeMooreRow.domain false Rows.probeMooreRow.laid) (((OpenSpec.ofChange Rows.probeMooreSpec).at F).post enc Tryd.prog Tryd.f7 false true false false):=by
 obtain ⟨places,hx⟩:=reads os enc
 refine returnsInHanded_of_row (C:=Tryd.checked) (s:=OpenSpec.ofChange Rows.probeMooreSpec) own started (by kernel_rfl) Tryd.func7
   (witness_row_at (enc:=enc) (C:=Tryd.checked) false (j1G os) args0 rfl (by kernel_rfl) (by kernel_rfl) (by kernel_rfl)
     (OpenSpec.preRow_of_cond 8 hx (by kernel_rfl) (fun k hk=>by cases hk) (by kernel_rfl) (laid_met os))) ?_
 intro W base args ds gs before hval hW _ _ _ hL _ _
 refine law_contract (f:=7) (fn:=Tryd.f7) (tys:=tys) (bt:=4) (s:=Rows.probeMooreSpec) (G7_ok 300000000) probeMoore_bnd (by kernel_rfl) hval hW (glob_ok hL) rfl laidOut (fun t ht=>?_) (by kernel_rfl) Tryd.underlying4 (fun ds h=>?_)
 · rw [Tryd.params7] at ht
   simp only [List.mem_cons,List.not_mem_nil,or_false] at ht
   rcases ht with rfl | rfl
   · exact ⟨by kernel_rfl,of_decide_eq_true (p:=_ < Tryd.prog.types.size) (by kernel_rfl)⟩
   · exact ⟨by kernel_rfl,of_decide_eq_true (p:=_ < Tryd.prog.types.size) (by kernel_rfl)⟩
 · rw [Tryd.params7] at h
   match ds,h with
   | [d0,d1],_=>rfl
theorem said:Rows.ProbeMooreSaid :=
 OpenClaim.holds_of_cond 7 Tryd.f7 rfl rfl rfl rfl rfl rfl rfl ⟨rfl,rfl,rfl,rfl,rfl⟩ rfl rfl rfl rfl rfl (by kernel_rfl) Tryd.func7 (by kernel_rfl)
   (of_decide_eq_true (by kernel_rfl)) (by unfold Func.isWrapper;first | (rw [if_pos (by decide +kernel)];kernel_rfl) | (rw [if_neg (by decide +kernel)];exact ⟨rfl,rfl⟩))
   (fun os started H enc _ F=>by rw [OpenClaim.pre_eq_preRow];exact lifted os started H enc F)
theorem looks (f : FuncId) (fn : Func) (hf : Tryd.pinned.checked.prog.funcNamed "tosher/tosherlaw09.ProbeMoore" = some f) (hfn : Tryd.pinned.checked.prog.funcs[f]? = some fn) :
   false = Tryd.pinned.checked.prog.looks []∧∀ (j:Nat) t,fn.params[j]? = some t→Tryd.pinned.checked.prog.wantsStandIn t = false:=by
 obtain rfl : f = 7 := Option.some.inj ((show Tryd.prog.funcNamed "tosher/tosherlaw09.ProbeMoore" = some 7 by kernel_rfl).symm.trans hf) |>.symm
 obtain rfl:fn = Tryd.f7:=(Option.some.inj (Tryd.func7.symm.trans hfn)).symm
 refine ⟨by kernel_rfl,fun j t ht=>?_⟩
 rw [Tryd.params7] at ht
 have:=Array.mem_of_getElem? ht
 simp only [List.mem_toArray,List.mem_cons,List.not_mem_nil,or_false] at this
 rcases this with rfl | rfl
 · exact (show Tryd.prog.wantsStandIn _ = false by kernel_rfl)
 · exact (show Tryd.prog.wantsStandIn _ = false by kernel_rfl)
theorem card:Rows.ProbeMooreCardSaid :=
 Claim7.holds_tied_plain_at .later [] _ _ _ _ said (fun _ h=>by cases h) (by kernel_rfl) (fun _ h=>by cases h) probeMoore_row_tie rfl ⟨rfl,rfl⟩ (by kernel_rfl) rfl looks (by kernel_rfl)
end Go.Proofs.YtiinfljjfceckaaDoor.probeMoore
