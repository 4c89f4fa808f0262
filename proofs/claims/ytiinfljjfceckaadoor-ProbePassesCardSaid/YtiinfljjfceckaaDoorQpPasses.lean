/- Seat 09, plain: the law ProbePasses. -/
import Derived.Test.YtiinfljjfceckaaDoorMg1
import Derived.Test.YtiinfljjfceckaaDoorPvAB
set_option linter.unusedVariables false
set_option linter.unusedSimpArgs false
namespace Go.Pv
theorem suite_loop {x:MM} {k:Nat} (h:Pm x k) (N:Nat) (hN:1000 < N) {C:Type} (k0:Int→Bool→MM→MM→MM→List (List Int)→Option C) (s:List (List Int)) (a1 y:MM) :
   ∀ (F i:Nat) (u:List (List Int)),20 - i < F→i ≤ 20→u.length = i→(∀ w ∈ u,w.length ≤ 101) →
     ∃ u':List (List Int),u'.length ≤ 20∧(∀ w ∈ u',w.length ≤ 101)∧g8L506f N F k0 s (k:Int) (!(u.all (wordB k))) (i:Int) a1 x y u = k0 (k:Int) (!(u'.all (wordB k))) a1 x y u'
 | 0,i,u,hF,_,_,_=>by omega
 | F + 1,i,u,hF,hi,hu,hb=>by
   rw [g8L506f_succ]
   unfold g8L506B
   by_cases hl:i < s.length
   · rw [ltT hl,cond_true]
     by_cases hlt:i < 20
     · have e1:decide ((i:Int) < 20) = true:=decide_eq_true (by omega)
       have l101:((s.getD i []).take 101).length ≤ 101:=by simp;omega
       have hu2:u.length < (u ++ [(s.getD i []).take 101]).length:=by simp
       have hget:(u ++ [(s.getD i []).take 101]).getD i [] = (s.getD i []).take 101:=by rw [← hu];simp
       rw [e1,cond_true,if_pos (idxT hl),Int.toNat_natCast,few_eq N _ 101 (by omega) (by omega)]
       simp only [Option.bind_some,show Int.toNat 101 = 101 from rfl]
       rw [if_pos (by simp [maxCount];omega),if_pos (idxT (by omega)),if_pos (by omega),hget,h.word39 N hN _ (by omega),wn i (by omega)]
       simp only [Option.bind_some]
       have nxt:=suite_loop h N hN k0 s a1 y F (i + 1) (u ++ [(s.getD i []).take 101]) (by omega) (by omega) (by simp [hu]) (fun w hw=>by
         rcases List.mem_append.1 hw with hw | hw
         · exact hb w hw
         · obtain rfl:=List.mem_singleton.1 hw;exact l101)
       cases hq:u.all (wordB k) with
       | false =>
         simp only [Bool.not_false,cond_true]
         rw [List.all_append,hq,Bool.false_and,Bool.not_false] at nxt
         exact nxt
       | true =>
         simp only [Bool.not_true,cond_false]
         rw [List.all_append,hq,Bool.true_and,List.all_cons,List.all_nil,Bool.and_true] at nxt
         exact nxt
     · have e1:decide ((i:Int) < 20) = false:=decide_eq_false (by omega)
       rw [e1,cond_false]
       exact ⟨u,by omega,hb,rfl⟩
   · rw [ltF hl,cond_false]
     exact ⟨u,by omega,hb,rfl⟩
theorem next_loop {x:MM} {k:Nat} (h:Pm x k) (N:Nat) (hN:1000 < N) {C:Type} (k0:Int→Bool→Int→MM→MM→MM→List (List Int)→Option C) (u:List (List Int)) (hu:u.length ≤ 20) (b:Bool) (r:Int) (a1 y:MM) :
   ∀ (F i:Nat) (v:List (List Int)),u.length - i < F→i ≤ u.length→v.length = i→(∀ w ∈ v,w.length ≤ 8∧InW k w) →
     ∃ v':List (List Int),v'.length ≤ 20∧(∀ w ∈ v',w.length ≤ 8∧InW k w)∧g8L2085498f N F k0 (k:Int) u b r (i:Int) a1 x y v = k0 (k:Int) b r a1 x y v'
 | 0,i,v,hF,_,_,_=>by omega
 | F + 1,i,v,hF,hi,hv,hb=>by
   rw [g8L2085498f_succ]
   unfold g8L2085498B
   by_cases hlt:i < u.length
   · obtain ⟨w,w1,w2,e⟩:=h.word N hN (u.getD i []) 8 (by omega)
     have e:g26 N x (u.getD i []) 8 = some w:=e
     rw [ltT hlt,cond_true,if_pos (idxT hlt),Int.toNat_natCast,e,wn i (by omega)]
     simp only [Option.bind_some]
     rw [if_pos (by simp [maxCount];omega)]
     exact next_loop h N hN k0 u hu b r a1 y F (i + 1) (v ++ [w]) (by omega) (by omega) (by simp [hv]) fun t ht=>by
       rcases List.mem_append.1 ht with ht | ht
       · exact hb t ht
       · obtain rfl:=List.mem_singleton.1 ht;exact ⟨w2,w1⟩
   · rw [ltF hlt,cond_false]
     exact ⟨v,by omega,hb,rfl⟩
theorem rounds_loop {x y:MM} {k:Nat} (hx:Pm x k) (hy:Pm y k) (N:Nat) (hN:1000 < N) {C:Type} (k0:Bool→Int→List (List Int)→MM→MM→MM→Option C) (k1:Int→List (List Int)→MM→MM→MM→Option C) (a1:MM) :
   ∀ (F i:Nat) (u:List (List Int)),2 - i < F→i ≤ 2→u.length ≤ 20→(∀ w ∈ u,w.length ≤ 101) →
     ∃ u':List (List Int),u'.length ≤ 20∧g8L1018f N F k0 k1 (k:Int) u (!(u.all (wordB k))) (i:Int) a1 x y = k1 (k:Int) u' a1 x y
 | 0,i,u,hF,_,_,_=>by omega
 | F + 1,i,u,hF,hi,hu,hb=>by
   rw [g8L1018f_succ]
   unfold g8L1018B
   by_cases hlt:i < 2
   · have e1:decide ((i:Int) < 2) = true:=decide_eq_true (by omega)
     rw [e1,cond_true,hx.given N (by omega),hy.given N (by omega)]
     simp only [Option.bind_some]
     have go:∃ u':List (List Int),u'.length ≤ 20∧g8L2085498 N (fun e15 e16 e17 e18 e19 e20 e21=>g8L1018f N F k0 k1 e15 e21 e16 (IntKind.wrap .i64 (e17 + 1)) e18 e19 e20) (k:Int) u false (i:Int) 0 a1 x y ([]:List (List Int)) = k1 (k:Int) u' a1 x y:=by
       rw [g8L2085498_eq]
       obtain ⟨v,v1,v2,e⟩:=next_loop hx N hN (fun e15 e16 e17 e18 e19 e20 e21=>g8L1018f N F k0 k1 e15 e21 e16 (IntKind.wrap .i64 (e17 + 1)) e18 e19 e20) u hu false (i:Int) a1 y N 0 [] (by omega) (by omega) rfl (by simp)
       simp only [Int.natCast_zero] at e
       rw [e,wn i (by omega)]
       have hq:v.all (wordB k) = true:=List.all_eq_true.2 fun w hw=>(wordB_iff k w).2 ⟨by have:=(v2 w hw).1;omega,(v2 w hw).2⟩
       have:=rounds_loop hx hy N hN k0 k1 a1 F (i + 1) v (by omega) (by omega) v1 (fun w hw=>by have:=(v2 w hw).1;omega)
       rw [hq] at this
       exact this
     cases hq:u.all (wordB k) with
     | false =>
       rw [passes_bad hx hy N hN u (by omega) hq]
       simp only [Option.bind_some,Bool.not_false,cond_true,ieq_self,Bool.not_true,cond_false]
       exact go
     | true =>
       obtain ⟨p1,p2⟩:=passes_good hx hy N hN u (by omega) hq
       rw [p1,p2]
       simp only [Option.bind_some,Bool.not_true,cond_false]
       cases ff (sameW x y) u 0 with
       | none =>
         have e2:decide ((-1:Int) < 0) = true:=rfl
         have e3:imax (-1) 0 = 0:=rfl
         simp only [ieq_self,Bool.not_true,cond_false,e2,e3,beqB,beq_self_eq_true]
         exact go
       | some j =>
         have e2:decide ((j:Int) < 0) = false:=decide_eq_false (by omega)
         have e3:imax (j:Int) 0 = (j:Int):=by simp only [imax];split <;> omega
         simp only [ieq_self,Bool.not_true,cond_false,e2,e3,beqB,beq_self_eq_true]
         exact go
   · have e1:decide ((i:Int) < 2) = false:=decide_eq_false (by omega)
     rw [e1,cond_false]
     exact ⟨u,hu,rfl⟩
theorem passes_plain (a0 a1:MM) (a2:List (List Int)):g8 2000 a0 a1 a2 = some true:=by
 unfold g8
 have hk:IntKind.wrap .i64 (1 + Int.tmod ((a2.length:Nat):Int) 3) = ((1 + a2.length % 3:Nat):Int):=by
   rw [Int.tmod_eq_emod_of_nonneg (by omega),w64 (by omega) (by omega)];omega
 rw [hk]
 obtain ⟨x,ex,hx,_⟩:=tame_eq 2000 (by omega) a0 6 (by omega) (by omega) (1 + a2.length % 3) (by omega) (by omega)
 obtain ⟨y,ey,hy,_⟩:=tame_eq 2000 (by omega) a1 6 (by omega) (by omega) (1 + a2.length % 3) (by omega) (by omega)
 rw [ex,ey]
 simp only [Option.bind_some]
 generalize hkk:1 + a2.length % 3 = k at *
 have hk3:k ≤ 3:=hx.k3
 have hk1:1 ≤ k:=hx.k1
 rw [g8L506_eq]
 obtain ⟨u,u1,u2,e⟩:=suite_loop hx 2000 (by omega) (fun e5 e6 e7 e8 e9 e10=>g8L1018 2000 (fun e30 e31 e32 e33 e34 e35=>some e30) (fun e36 e37 e38 e39 e40=>Option.bind (g18 2000 e39) fun r41=>Option.bind (g15 2000 e38 6 (IntKind.wrap .i64 (1 + (Int.tmod e36 3)))) fun r42=>Option.bind (g18 2000 r42) fun r43=>Option.bind (g43 2000 r41 r43 e37) fun r44=>bif (ieq r44.2.2.1 1) then bif (!r44.2.1) then bif (ieq r44.1 0) then Option.bind (g25v1 2000) fun r45=>some r45 else some false else some false else some false) e5 e10 e6 0 e7 e8 e9) a2 a1 y 2000 0 [] (by omega) (by omega) rfl (by simp)
 refine Eq.trans e ?_
 rw [g8L1018_eq]
 obtain ⟨v,v1,e2⟩:=rounds_loop hx hy 2000 (by omega) (fun e30 e31 e32 e33 e34 e35=>some e30) (fun e36 e37 e38 e39 e40=>Option.bind (g18 2000 e39) fun r41=>Option.bind (g15 2000 e38 6 (IntKind.wrap .i64 (1 + (Int.tmod e36 3)))) fun r42=>Option.bind (g18 2000 r42) fun r43=>Option.bind (g43 2000 r41 r43 e37) fun r44=>bif (ieq r44.2.2.1 1) then bif (!r44.2.1) then bif (ieq r44.1 0) then Option.bind (g25v1 2000) fun r45=>some r45 else some false else some false else some false) a1 2000 0 u (by omega) (by omega) u1 u2
 refine Eq.trans e2 ?_
 have hj:IntKind.wrap .i64 (1 + Int.tmod (k:Int) 3) = ((1 + k % 3:Nat):Int):=by
   rw [Int.tmod_eq_emod_of_nonneg (by omega),w64 (by omega) (by omega)];omega
 rw [hj]
 obtain ⟨z,ez,hz,_⟩:=tame_eq 2000 (by omega) a1 6 (by omega) (by omega) (1 + k % 3) (by omega) (by omega)
 rw [hx.given 2000 (by omega),ez]
 simp only [Option.bind_some]
 rw [hz.given 2000 (by omega)]
 simp only [Option.bind_some]
 have:g43 2000 x z v = some (0,false,1,()):=by
   unfold g43
   rw [open_not 2000 (by omega) x z k (1 + k % 3) hx hz (by omega) 0 v]
   rfl
 rw [this]
 simp only [Option.bind_some,ieq_self,cond_true,Bool.not_false,awake_eq]
abbrev MT:Ty:=.pair (.lst (.lst (.int .i64))) (.pair (.lst (.lst (.int .i64))) .unit)
theorem probePasses_bnd (a:ProdT (List.map AS.d [MT,MT,.lst (.lst (.int .i64))])) (h:BndL [MT,MT,.lst (.lst (.int .i64))] a):g8 2000 a.1 a.2.1 a.2.2.1 = some true :=
 passes_plain a.1 a.2.1 a.2.2.1
end Go.Pv
