/- Seat 09, plain: the law ProbeTells. -/
import Derived.Test.YtiinfljjfceckaaDoorMg1
import Derived.Test.YtiinfljjfceckaaDoorPvAB
set_option linter.unusedVariables false
set_option linter.unusedSimpArgs false
namespace Go.Pv
theorem Pm.open1 {x:MM} {k:Nat} (h:Pm x k) (N:Nat) (hN:1000 < N) (w:List Int) (hw:InW k w) (hl:w.length ≤ 100) (s:Int) (s0:0 ≤ s) (s1:s < (x.1.length:Int)):g62 N [x] s [w] = some 0:=by
 rw [open_eq N hN [x] k s [w] (by simp) (by simp) (fun m hm=>by simp at hm;subst hm;exact h) s0 s1 (by simp)]
 have:[w].all (wordB k) = true:=by simp only [List.all_cons,List.all_nil,Bool.and_true];exact (wordB_iff k w).2 ⟨hl,hw⟩
 rw [this]
 rfl
theorem Pm.tells {x:MM} {k:Nat} (h:Pm x k) (N:Nat) (hN:1010 < N) (w:List Int) (hw:InW k w) (hl:w.length ≤ 100) (s:Nat) (hs:s < x.1.length) :
   ∃ a b c:Bool,g45 N x w = some (a,0,())∧g46 N x w = some (b,0,())∧g47 N x (s:Int) w = some (c,0,())∧g34 N x w = some a∧g35 N x w = some b∧g36 N x (s:Int) w = some c:=by
 have hn:=h.n1
 obtain ⟨g,e,hg⟩:=h.read N (by omega) w hw (by omega)
 refine ⟨_,_,_,?_,?_,?_,h.refEnd N (by omega) w hw (by omega),h.refBeginning N (by omega) w hw (by omega),h.refState N (by omega) w hw (by omega) s hs⟩
 · unfold g45
   rw [h.open1 N (by omega) w hw hl 0 (by omega) (by omega)]
   simp only [Option.bind_some,ieq_self,Bool.not_true,cond_false]
   rw [e]
   simp only [Option.bind_some]
   rw [h.tellsEnd N (by omega),hg.end_same]
   rfl
 · unfold g46
   rw [h.open1 N (by omega) w hw hl 0 (by omega) (by omega)]
   simp only [Option.bind_some,ieq_self,Bool.not_true,cond_false]
   rw [e]
   simp only [Option.bind_some]
   rw [h.tellsBeginning N (by omega) g hg.l1,hg.begin_same h.n6]
   rfl
 · unfold g47
   rw [h.open1 N (by omega) w hw hl (s:Int) (by omega) (by omega)]
   simp only [Option.bind_some,ieq_self,Bool.not_true,cond_false]
   rw [e]
   simp only [Option.bind_some]
   rw [h.tellsState N (by omega) g s hs,hg.state_same s hs]
   rfl
theorem tells_loop {x:MM} {k:Nat} (h:Pm x k) (s:Nat) (hs:s < x.1.length) {C:Type} (k0:Bool→MM→MM→Option C) :
   ∀ (F:Nat) (w:List Int),w.length < F→w.length ≤ 100→InW k w→g9L126f 2000 F k0 w (s:Int) x x = k0 true x x
 | 0,w,hF,_,_=>by omega
 | F + 1,w,hF,hl,hw=>by
   rw [g9L126f_succ]
   unfold g9L126B
   obtain ⟨a,b,c,e1,e2,e3,e4,e5,e6⟩:=h.tells 2000 (by omega) w hw hl s hs
   rw [e1,e2,e3,e4,e5,e6]
   simp only [Option.bind_some,ieq_self,Bool.not_true,cond_false,beqB,beq_self_eq_true,awake_eq]
   by_cases h0:w.length = 0
   · rw [show ieq ((w.length:Nat):Int) 0 = true from decide_eq_true (by omega),cond_true]
   · rw [show ieq ((w.length:Nat):Int) 0 = false from decide_eq_false (by omega),cond_false]
     have hd:IntKind.wrap .i64 (Int.tdiv ((w.length:Nat):Int) 2) = ((w.length / 2:Nat):Int):=by
       rw [Int.tdiv_eq_ediv_of_nonneg (by omega),w64 (by omega) (by omega)];omega
     rw [hd,if_pos ⟨by omega,by omega,by omega,by omega⟩,Int.toNat_natCast,show Int.toNat 0 = 0 from rfl,List.drop_zero]
     exact tells_loop h s hs k0 F (w.take (w.length / 2)) (by simp;omega) (by simp;omega) (fun i hi=>hw i (List.mem_of_mem_take hi))
theorem tells_plain (a0:MM) (a1 a2:List Int):g9 2000 a0 a1 a2 = some true:=by
 unfold g9
 obtain ⟨k,hk,k1,k3⟩:=inputs_eq 2000 (a2.getD (Int.toNat 0) 0)
 rw [if_pos ⟨by omega,by omega⟩,hk]
 simp only [Option.bind_some]
 obtain ⟨x,hx,h,_⟩:=tame_eq 2000 (by omega) a0 6 (by omega) (by omega) k k1 k3
 rw [hx]
 simp only [Option.bind_some]
 have n1:=h.n1
 have n6:=h.n6
 rw [h.given 2000 (by omega)]
 simp only [Option.bind_some]
 obtain ⟨w,hw,wl,e⟩:=h.word 2000 (by omega) a1 12 (by omega)
 have e:g26 2000 x a1 12 = some w:=e
 have hu:IntKind.wrap .u64 ((x.1.length:Nat):Int) = (x.1.length:Int):=wu64n (by omega) (by omega)
 obtain ⟨s,es,s0,s1⟩:=low (a2.getD (Int.toNat 1) 0) (m:=(x.1.length:Int)) (by omega) (by omega)
 rw [e]
 simp only [Option.bind_some]
 rw [if_pos ⟨by omega,by omega⟩,hu,if_neg (by omega),es,g9L126_eq]
 obtain ⟨s',rfl⟩:∃ s':Nat,s = (s':Int):=⟨s.toNat,by omega⟩
 exact tells_loop h s' (by omega) (fun e12 e13 e14=>some e12) 2000 w (by omega) (by omega) hw
abbrev MT:Ty:=.pair (.lst (.lst (.int .i64))) (.pair (.lst (.lst (.int .i64))) .unit)
theorem probeTells_bnd (a:ProdT (List.map AS.d [MT,.lst (.int .i64),.arr 2 (.int .i64)])) (h:BndL [MT,.lst (.int .i64),.arr 2 (.int .i64)] a):g9 2000 a.1 a.2.1 a.2.2.1 = some true :=
 tells_plain a.1 a.2.1 a.2.2.1
end Go.Pv
