/- Seat 09, plain: the law ProbeSays. -/
import Derived.Test.YtiinfljjfceckaaDoorMg1
import Derived.Test.YtiinfljjfceckaaDoorPvAB
set_option linter.unusedVariables false
set_option linter.unusedSimpArgs false
namespace Go.Pv
theorem says_plain (a0:MM) (a1 a2:List Int) (hl:a2.length = 2):g4 2000 a0 a1 a2 = some true:=by
 unfold g4
 obtain ⟨k,hk,k1,k3⟩:=inputs_eq 2000 (a2.getD (Int.toNat 0) 0)
 rw [if_pos ⟨by omega,by omega⟩,hk]
 simp only [Option.bind_some]
 obtain ⟨x,hx,h,_⟩:=tame_eq 2000 (by omega) a0 6 (by omega) (by omega) k k1 k3
 rw [hx]
 simp only [Option.bind_some]
 have n1:=h.n1
 have n6:=h.n6
 have hu:IntKind.wrap .u64 ((x.1.length:Nat):Int) = (x.1.length:Int):=wu64n (by omega) (by omega)
 rw [if_pos ⟨by omega,by omega⟩,hu,if_neg (by omega)]
 obtain ⟨w,hw,wl,e⟩:=h.word 2000 (by omega) a1 100 (by omega)
 have e:g26 2000 x a1 100 = some w:=e
 obtain ⟨s,es,s0,s1⟩:=low (a2.getD (Int.toNat 1) 0) (m:=(x.1.length:Int)) (by omega) (by omega)
 rw [e]
 simp only [Option.bind_some]
 rw [h.given 2000 (by omega),es]
 simp only [Option.bind_some]
 have hs:g27 2000 x s w = some ((sayL x s w).1,(sayL x s w).2,0,()):=by
   unfold g27
   rw [open_eq 2000 (by omega) [x] k s [w] (by simp) (by simp) (fun m hm=>by simp at hm;subst hm;exact h) s0 s1 (by simp)]
   have:[w].all (wordB k) = true:=by simp only [List.all_cons,List.all_nil,Bool.and_true];exact (wordB_iff k w).2 ⟨wl,hw⟩
   rw [this]
   simp only [cond_true,Option.bind_some,ieq_self,Bool.not_true,cond_false]
   rw [h.says 2000 (by omega) w hw (by omega) s s0 s1]
   rfl
 rw [hs,h.say 2000 (by omega) w hw (by omega) s s0 s1]
 simp only [Option.bind_some,ieq_self,cond_true]
 rw [ints_self 2000 _ (by rw [sayL_len];omega) (by omega)]
 simp only [Option.bind_some,cond_true,awake_eq]
abbrev MT:Ty:=.pair (.lst (.lst (.int .i64))) (.pair (.lst (.lst (.int .i64))) .unit)
theorem probeSays_bnd (a:ProdT (List.map AS.d [MT,.lst (.int .i64),.arr 2 (.int .i64)])) (h:BndL [MT,.lst (.int .i64),.arr 2 (.int .i64)] a):g4 2000 a.1 a.2.1 a.2.2.1 = some true :=
 says_plain a.1 a.2.1 a.2.2.1 h.2.2.1.1
end Go.Pv
