/- Seat 09: ProbeForms: for every input the law returns true, and its arguments read as they did; the variable that the row lists is tied to the program's text (the card). -/
import Derived.Test.YtiinfljjfceckaaDoorQpForms
import Derived.Test.YtiinfljjfceckaaDoorLwBase9
set_option linter.unusedVariables false
set_option linter.unusedSimpArgs false
namespace Go.Proofs.YtiinfljjfceckaaDoor.probeForms
open Go.Pv Go.ChangeShapes Go.WideShapes Go.RowKit laws
abbrev tys:List Ty:=[.pair (.lst (.lst (.int .i64))) (.pair (.lst (.lst (.int .i64))) .unit),.int .i64]
abbrev args0:Array Value:=#[.agg #[.slice none 0 0,.slice none 0 0],.int .i64 0]
theorem laid_met (os:Os):laidMet Tryd.prog Rows.probeFormsRow.laid ((laidWorld os).forCall (fun _ _=>0) ⟨#[],args0,[]⟩).memory :=
 laidMet_of_run' 8 (by kernel_rfl) (by kernel_rfl)
theorem reads (os:Os) {H:Type} (enc:TypeId×Value→H):∃ x,DataW.whole enc Tryd.prog ((laidWorld os).forCall (fun _ _=>0) ⟨#[],args0,[]⟩).memory Tryd.f3.params.toList Rows.probeFormsSpec.vars false args0.toList 8 = some ([.agg [.nil,.nil],.lit (.int .i64 0)],[],x) :=
 ⟨[],by kernel_rfl⟩
set_option maxRecDepth 100000 in
theorem lifted (os:Os) (started:os.Started) (H:Type) (enc:TypeId×Value→H) (F:Stop.Interp) :
   ReturnsInHanded {} Tryd.checked os 3 .any ((OpenSpec.ofChange Rows.probeFormsSpec).preRow enc Tryd.prog Tryd.f3 Rows.probeFormsRow.domain false Rows.probeFormsRow.laid) (((OpenSpec.ofChange Rows.probeFormsSpec).at F).post enc Tryd.prog Tryd.f3 false true false false):=by
 obtain ⟨places,hx⟩:=reads os enc
 refine returnsInHanded_of_row (C:=Tryd.checked) (s:=OpenSpec.ofChange Rows.probeFormsSpec) own started (by kernel_rfl) Tryd.func3
   (witness_row_at (enc:=enc) (C:=Tryd.checked) false (laidWorld os) args0 rfl (by kernel_rfl) (by kernel_rfl) (by kernel_rfl)
     (OpenSpec.preRow_of_cond 8 hx (by kernel_rfl) (fun k hk=>by cases hk) (by kernel_rfl) (laid_met os))) ?_
 intro W base args ds gs before hval hW _ _ _ hL _ _
 refine law_contract (f:=3) (fn:=Tryd.f3) (tys:=tys) (bt:=4) (s:=Rows.probeFormsSpec) (G3_ok 2000) probeForms_bnd (by kernel_rfl) hval hW (glob_ok hL) rfl laidOut (fun t ht=>?_) (by kernel_rfl) Tryd.underlying4 (fun ds h=>?_)
 · rw [Tryd.params3] at ht
   simp only [List.mem_cons,List.not_mem_nil,or_false] at ht
   rcases ht with rfl | rfl
   · exact ⟨by kernel_rfl,of_decide_eq_true (p:=_ < Tryd.prog.types.size) (by kernel_rfl)⟩
   · exact ⟨by kernel_rfl,of_decide_eq_true (p:=_ < Tryd.prog.types.size) (by kernel_rfl)⟩
 · rw [Tryd.params3] at h
   match ds,h with
   | [d0,d1],_=>rfl
theorem said:Rows.ProbeFormsSaid :=
 OpenClaim.holds_of_cond 3 Tryd.f3 rfl rfl rfl rfl rfl rfl rfl ⟨rfl,rfl,rfl,rfl,rfl⟩ rfl rfl rfl rfl rfl (by kernel_rfl) Tryd.func3 (by kernel_rfl)
   (of_decide_eq_true (by kernel_rfl)) (by unfold Func.isWrapper;first | (rw [if_pos (by decide +kernel)];kernel_rfl) | (rw [if_neg (by decide +kernel)];exact ⟨rfl,rfl⟩))
   (fun os started H enc _ F=>by rw [OpenClaim.pre_eq_preRow];exact lifted os started H enc F)
theorem looks (f : FuncId) (fn : Func) (hf : Tryd.pinned.checked.prog.funcNamed "tosher/tosherlaw09.ProbeForms" = some f) (hfn : Tryd.pinned.checked.prog.funcs[f]? = some fn) :
   false = Tryd.pinned.checked.prog.looks []∧∀ (j:Nat) t,fn.params[j]? = some t→Tryd.pinned.checked.prog.wantsStandIn t = false:=by
 obtain rfl : f = 3 := Option.some.inj ((show Tryd.prog.funcNamed "tosher/tosherlaw09.ProbeForms" = some 3 by kernel_rfl).symm.trans hf) |>.symm
 obtain rfl:fn = Tryd.f3:=(Option.some.inj (Tryd.func3.symm.trans hfn)).symm
 refine ⟨by kernel_rfl,fun j t ht=>?_⟩
 rw [Tryd.params3] at ht
 have:=Array.mem_of_getElem? ht
 simp only [List.mem_toArray,List.mem_cons,List.not_mem_nil,or_false] at this
 rcases this with rfl | rfl
 · exact (show Tryd.prog.wantsStandIn _ = false by kernel_rfl)
 · exact (show Tryd.prog.wantsStandIn _ = false by kernel_rfl)
theorem card:Rows.ProbeFormsCardSaid :=
 Claim7.holds_tied_plain_at .later [] _ _ _ _ said (fun _ h=>by cases h) (by kernel_rfl) (fun _ h=>by cases h) probeForms_row_tie rfl ⟨rfl,rfl⟩ (by kernel_rfl) rfl looks (by kernel_rfl)
end Go.Proofs.YtiinfljjfceckaaDoor.probeForms
