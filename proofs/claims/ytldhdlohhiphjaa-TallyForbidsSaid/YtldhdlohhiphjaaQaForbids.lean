/- Seat 06, plain: TallyForbids. -/
import Derived.Test.YtldhdlohhiphjaaMg2
set_option linter.unusedVariables false
set_option linter.unusedSimpArgs false
namespace Go.Pv
theorem forbids_round {C:Type} (rec:List Int→List Int→Int→PP→Option C) (k0:Bool→PP→Option C) (k1:PP→Option C) {x:PP} (hx:PT x) {t:Stg} {R:Nat→Vec} {m:Nat} (hB:Bas x t R m) (hg:g67 2000 x = some ((frees t x.1.toNat).map (wts x.1.toNat t R))) {a b:List Int} (ha:Crowd a x.1) (hb:Crowd b x.1) (i:Int) (hi:i < 2) :
   ∃ b',Crowd b' x.1∧g9L122B 2000 rec k0 k1 a b i x = rec a b' (IntKind.wrap .i64 (i + 1)) x:=by
 obtain ⟨steps,next,_,_,hr⟩:=ref39 hx ha
 have hF:=allL_found hx ha
 have hlen:=hF.len
 have hpos:=hF.head.2
 have ei:decide (i < 2) = true:=by simpa using hi
 have hn:=hx.n
 have elast:IntKind.wrap .i64 (((allL x a).length:Int) - 1) = (((allL x a).length - 1:Nat):Int):=by
   rw [w64 (by omega) (by omega)];omega
 have hlast:(allL x a).length - 1 < (allL x a).length:=by omega
 have hm:(allL x a).getD ((allL x a).length - 1) [] ∈ allL x a:=getD_mem hlast []
 refine ⟨(allL x a).getD ((allL x a).length - 1) [],(((hF.mem _).1 hm).crowd hx ha).1,?_⟩
 unfold g9L122B
 obtain ⟨q,eq1,eq2⟩:=canForbid45 hx hB ha hb
 have hiff:=forbid_iff hx hB ha hb
 rw [ei,cond_true,hx.given 2000]
 simp only [Option.bind_some]
 rcases forbids44 hx hB hg ha hb with ⟨f,hf,hne,e⟩ | ⟨hall,e⟩
 · have hq:q = true:=eq2.2 (hiff.2 ⟨f,hf,hne⟩)
   have hW:=wk_of hx hB hf
   have hwl:=hW.len
   rw [e,eq1,hq]
   simp only [Option.bind_some,ieq_self,Bool.not_true,cond_false,cond_true]
   rw [show beqB true true = true from rfl,Bool.not_true,cond_false,weights33 (x:=x) (by omega),hW.ok,decide_eq_true hwl,kept34 hx hwl (by omega),hW.all hx,weight46 ha (by omega) hwl hW.bd',weight46 hb (by omega) hwl hW.bd']
   simp only [Option.bind_some,Bool.and_self,Bool.not_true,cond_false]
   rw [show ieq (dot (fv (wts x.1.toNat t R f)) (fv a)) (dot (fv (wts x.1.toNat t R f)) (fv b)) = false from decide_eq_false hne,cond_false,hr]
   simp only [Option.bind_some]
   rw [elast,if_pos (ix hlast),Int.toNat_natCast]
 · have hq:q = false:=by
     cases q with
     | false=>rfl
     | true =>
       obtain ⟨f,hf,hne⟩:=hiff.1 (eq2.1 rfl)
       exact absurd (hall f hf) hne
   rw [e,eq1,hq]
   simp only [Option.bind_some,ieq_self,Bool.not_true,Bool.not_false,cond_false,cond_true]
   rw [show beqB false false = true from rfl,Bool.not_true,cond_false,show ieq ((List.length ([]:List Int):Nat):Int) 0 = true from rfl,Bool.not_true,cond_false,hr]
   simp only [Option.bind_some]
   rw [elast,if_pos (ix hlast),Int.toNat_natCast]
theorem tallyForbids_plain (p:PP) (l:List (List Int)):g9 2000 p l = some true:=by
 unfold g9
 obtain ⟨x,ex,hx,_⟩:=tame_eq 2000 (by omega) p 5 (by omega) (by omega)
 have hn:=hx.n
 obtain ⟨t,R,mm,hB,hg⟩:=basis67 hx
 obtain ⟨a,ea,ha,_⟩:=gathered_eq 2000 (by omega) (l.getD 0 []) x.1 (by omega) (by omega) 9 (by omega) (by omega)
 obtain ⟨b,eb,hb,_⟩:=gathered_eq 2000 (by omega) (l.getD 1 []) x.1 (by omega) (by omega) 9 (by omega) (by omega)
 rw [ex]
 simp only [Option.bind_some]
 rw [if_pos ⟨by omega,by omega⟩,show Int.toNat 0 = 0 from rfl,show Int.toNat 1 = 1 from rfl,ea]
 simp only [Option.bind_some]
 rw [if_pos ⟨by omega,by omega⟩,eb]
 simp only [Option.bind_some]
 rw [g9L122_eq,show (2000:Nat) = 1997 + 1 + 1 + 1 from rfl,g9L122f_succ]
 obtain ⟨b1,hb1,e1⟩:=forbids_round (fun a b c d=>g9L122f (1997 + 1 + 1 + 1) (1997 + 1 + 1) (fun e19 e20=>some e19) (fun e21=>Option.bind (g29 (1997 + 1 + 1 + 1)) fun r22=>some r22) a b c d) (fun e19 e20=>some e19) (fun e21=>Option.bind (g29 (1997 + 1 + 1 + 1)) fun r22=>some r22) hx hB hg ha hb 0 (by omega)
 refine e1.trans ?_
 rw [g9L122f_succ]
 obtain ⟨b2,hb2,e2⟩:=forbids_round (fun a b c d=>g9L122f (1997 + 1 + 1 + 1) (1997 + 1) (fun e19 e20=>some e19) (fun e21=>Option.bind (g29 (1997 + 1 + 1 + 1)) fun r22=>some r22) a b c d) (fun e19 e20=>some e19) (fun e21=>Option.bind (g29 (1997 + 1 + 1 + 1)) fun r22=>some r22) hx hB hg ha hb1 (IntKind.wrap .i64 (0 + 1)) (by decide)
 refine e2.trans ?_
 rw [g9L122f_succ]
 unfold g9L122B
 have e3:decide (IntKind.wrap .i64 (IntKind.wrap .i64 (0 + 1) + 1) < 2) = false:=by decide
 rw [e3,cond_false]
 show (Option.bind (g29 2000) fun r22=>some r22) = some true
 rw [awake_true];rfl
end Go.Pv
