/- Seat 09, plain: the law ProbeForms. -/
import Derived.Test.YtiinfljjfceckaaDoorMg1
import Derived.Test.YtiinfljjfceckaaDoorPvAB
set_option linter.unusedVariables false
set_option linter.unusedSimpArgs false
namespace Go.Pv
theorem lists_loop (N:Nat) (hN:1000 < N) {C:Type} (k0:Bool→Option C) (k1:Option C) (l:List (List Int)) (hl:l.length ≤ 6) (hr:∀ r ∈ l,r.length ≤ 1000) :
   ∀ (F i:Nat),l.length - i < F→i ≤ l.length→g61L58f N F k0 k1 l l (i:Int) = k1
 | 0,i,hF,_=>by omega
 | F + 1,i,hF,hi=>by
   rw [g61L58f_succ]
   unfold g61L58B
   by_cases hlt:i < l.length
   · rw [ltT hlt,cond_true,if_pos (idxT hlt),if_pos (idxT hlt),Int.toNat_natCast,ints_self N _ (hr _ (getD_mem hlt [])) hN]
     simp only [Option.bind_some,Bool.not_true,cond_false]
     rw [wn i (by omega)]
     exact lists_loop N hN k0 k1 l hl hr F (i + 1) (by omega) (by omega)
   · rw [ltF hlt,cond_false]
theorem lists_self (N:Nat) (hN:1000 < N) (l:List (List Int)) (hl:l.length ≤ 6) (hr:∀ r ∈ l,r.length ≤ 1000):g61 N l l = some true:=by
 unfold g61
 rw [ieq_self,Bool.not_true,cond_false,g61L58_eq]
 exact lists_loop N hN _ _ l hl hr N 0 (by omega) (by omega)
theorem forms_plain (a0:MM) (a1:Int):g3 2000 a0 a1 = some true:=by
 unfold g3
 obtain ⟨k,hk,k1,k3⟩:=inputs_eq 2000 a1
 obtain ⟨x,hx,h,h6⟩:=tame_eq 2000 (by omega) a0 6 (by omega) (by omega) k k1 k3
 have n6:=h.n6
 have gx:=h.given 2000 (by omega)
 have chk:=h.check 2000 (by omega)
 obtain ⟨f,ws,o,e1,e2,f1,f2,f3,f4⟩:=h.form 2000 (by omega)
 have cA:ieq (0:Int) 0 = true:=rfl
 have a17:g17 2000 x = some (clsA x k,0,()):=by
   unfold g17
   rw [chk]
   simp only [Option.bind_some,cA,Bool.not_true,cond_false]
   rw [h.alike 2000 (by omega)];rfl
 have a19:g19 2000 x = some ((f,o,()),0,()):=by
   unfold g19
   rw [chk]
   simp only [Option.bind_some,cA,Bool.not_true,cond_false]
   rw [e1];rfl
 have hl:(clsA x k).length ≤ 1000:=by unfold clsA;simp;omega
 have a23:g23 2000 (f,o,()) = some (f,o,()):=by
   unfold g23
   simp only []
   rw [rows_eq 2000 (by omega) f f1 fun r hr=>by have:=f3 r hr;omega,rows_eq 2000 (by omega) o f2 fun r hr=>by have:=f4 r hr;omega]
   rfl
 have a22:g22 2000 (f,o,()) (f,o,()) = some true:=by
   unfold g22
   simp only []
   rw [lists_self 2000 (by omega) f f1 fun r hr=>by have:=f3 r hr;omega]
   simp only [Option.bind_some,cond_true]
   rw [lists_self 2000 (by omega) o f2 fun r hr=>by have:=f4 r hr;omega]
   rfl
 simp only [hk,hx,gx,a17,a19,h.refAlike 2000 (by omega),ints_self 2000 _ hl (by omega),a23,e2,a22,Option.bind_some,cA,cond_true,awake_eq]
abbrev MT:Ty:=.pair (.lst (.lst (.int .i64))) (.pair (.lst (.lst (.int .i64))) .unit)
theorem probeForms_bnd (a:ProdT (List.map AS.d [MT,.int .i64])) (h:BndL [MT,.int .i64] a):g3 2000 a.1 a.2.1 = some true :=
 forms_plain a.1 a.2.1
end Go.Pv
