/- Seat 09, plain: the law ProbeAparts. -/
import Derived.Test.YtiinfljjfceckaaDoorMg1
import Derived.Test.YtiinfljjfceckaaDoorPvAB
set_option linter.unusedVariables false
set_option linter.unusedSimpArgs false
namespace Go.Pv
theorem Least.same {a b:MM} {k:Nat} {s t:Int} {ws vs:List Nat} (h1:Least a b k s t ws) (h2:Least a b k s t vs):ws.length = vs.length:=by
 have n1:¬ ws.length < vs.length:=fun hl=>h2.2.2 ws h1.1 hl h1.2.1
 have n2:¬ vs.length < ws.length:=fun hl=>h1.2.2 vs h2.1 hl h2.2.1
 omega
theorem pair_eq {a b:MM} {k:Nat} (ha:Pm a k) (hb:Pm b k) (N:Nat) (hN:1000 < N) (s t:Int) (hs:0 ≤ s∧s < (a.1.length:Int)) (ht:0 ≤ t∧t < (b.1.length:Int)) :
   (∃ w,w.length ≤ 100∧InW k w∧(sayL a s w).1 ≠ (sayL b t w).1∧g72 N a b (s,t,()) = some (w,true,())∧g38 N a s b t = some ((w.length:Nat):Int)) ∨
   (g72 N a b (s,t,()) = some ([],false,())∧g38 N a s b t = some (-1)):=by
 rcases apart_eq ha hb N hN s t hs ht with ⟨ws,hE,e1⟩ | ⟨hE,e1⟩
 · have hl:=hE.least
   rcases ref_apart ha hb N (by omega) s t hs ht with ⟨vs,⟨hv,hv36⟩,e2⟩ | ⟨hn,e2⟩
   · have hlen:=hl.same hv
     refine .inl ⟨wd ws,by simp;omega,fun i hi=>?_,hl.2.1,e1,?_⟩
     · obtain ⟨j,hj,rfl⟩:=List.mem_map.1 hi
       have:=hl.1 j hj
       omega
     · rw [e2,show (wd ws).length = vs.length by simp [hlen]]
   · exact absurd hl.2.1 (hn ws hl.1)
 · rcases ref_apart ha hb N (by omega) s t hs ht with ⟨vs,⟨hv,hv36⟩,e2⟩ | ⟨hn,e2⟩
   · exact absurd hv.2.1 (hE.none vs hv.1)
   · exact .inr ⟨e1,e2⟩
theorem aparts_plain (a0 a1:MM) (a2:List Int):g6 2000 a0 a1 a2 = some true:=by
 unfold g6
 obtain ⟨k,hk,k1,k3⟩:=inputs_eq 2000 (a2.getD (Int.toNat 0) 0)
 obtain ⟨j,hj,j1,j3⟩:=inputs_eq 2000 (IntKind.wrap .i64 ((a2.getD (Int.toNat 0) 0) + (Int.tmod (a2.getD (Int.toNat 1) 0) 2)))
 obtain ⟨x,hx,h,_⟩:=tame_eq 2000 (by omega) a0 6 (by omega) (by omega) k k1 k3
 obtain ⟨y,hy,g,_⟩:=tame_eq 2000 (by omega) a1 6 (by omega) (by omega) j j1 j3
 have n1:=h.n1
 have n6:=h.n6
 have m1:=g.n1
 have hu:IntKind.wrap .u64 ((x.1.length:Nat):Int) = (x.1.length:Int):=wu64n (by omega) (by omega)
 obtain ⟨s,es,s0,s1⟩:=low (a2.getD (Int.toNat 1) 0) (m:=(x.1.length:Int)) (by omega) (by omega)
 obtain ⟨t,et,t0,t1⟩:=low (a2.getD (Int.toNat 2) 0) (m:=(x.1.length:Int)) (by omega) (by omega)
 have i0:idx 0 3:=⟨by omega,by omega⟩
 have i1:idx 1 3:=⟨by omega,by omega⟩
 have i2:idx 2 3:=⟨by omega,by omega⟩
 have hz:((x.1.length:Int) = 0) = False:=eq_false (by omega)
 have gx:=h.given 2000 (by omega)
 have gy:=g.given 2000 (by omega)
 have ix:=h.inputs41 2000
 have iy:=g.inputs41 2000
 -- the pair of states
 have o1:∀ q:Int,0 ≤ q→q < (x.1.length:Int)→g62 2000 [x] q [] = some 0:=fun q q0 q1=>by
   rw [open_eq 2000 (by omega) [x] k q [] (by simp) (by simp) (fun m hm=>by simp at hm;subst hm;exact h) q0 q1 (by simp)];rfl
 have cA:ieq (0:Int) 0 = true:=rfl
 have cB:ieq (1:Int) 1 = true:=rfl
 have neg1:decide ((0:Int) ≤ -1) = false:=rfl
 have neg2:decide ((-1:Int) < 0) = true:=rfl
 have nil0:ieq (((([]:List Int).length:Nat)):Int) 0 = true:=rfl
 have bT:beqB true true = true:=rfl
 have bF:beqB false false = true:=rfl
 -- the two machines
 have second:(k ≠ j∧g40 2000 x y = some ([],false,1,())) ∨ (k = j∧∃ v:List Int,v.length ≤ 100∧InW k v∧(sayL x 0 v).1 ≠ (sayL y 0 v).1∧g40 2000 x y = some (v,false,0,())∧g38 2000 x 0 y 0 = some ((v.length:Nat):Int)) ∨ (k = j∧g40 2000 x y = some ([],true,0,())∧g38 2000 x 0 y 0 = some (-1)):=by
   by_cases hkj:k = j
   · subst hkj
     have e:g62 2000 [x,y] 0 [] = some 0:=by
       rw [open_eq 2000 (by omega) [x,y] k 0 [] (by simp) (by simp) (fun m hm=>by
         simp only [List.mem_cons,List.not_mem_nil,or_false] at hm
         rcases hm with rfl | rfl
         · exact h
         · exact g) (by omega) (by show (0:Int) < (x.1.length:Int);omega) (by simp)];rfl
     rcases pair_eq h g 2000 (by omega) 0 0 ⟨by omega,by omega⟩ ⟨by omega,by omega⟩ with ⟨v,v1,v2,v3,e1,e2⟩ | ⟨e1,e2⟩
     · refine .inr (.inl ⟨rfl,v,v1,v2,v3,?_,e2⟩)
       unfold g40
       rw [e]
       simp only [Option.bind_some,cA,Bool.not_true,cond_false]
       rw [e1];rfl
     · refine .inr (.inr ⟨rfl,?_,e2⟩)
       unfold g40
       rw [e]
       simp only [Option.bind_some,cA,Bool.not_true,cond_false]
       rw [e1];rfl
   · refine .inl ⟨hkj,?_⟩
     unfold g40
     rw [open_not 2000 (by omega) x y k j h g hkj 0 []]
     rfl
 have ikj:k = j→ieq (k:Int) (j:Int) = true:=fun e=>decide_eq_true (by omega)
 have nkj:k ≠ j→ieq (k:Int) (j:Int) = false:=fun e=>decide_eq_false (by omega)
 have f37:∀ w is,g72 2000 x x (s,t,()) = some (w,is,())→g37 2000 x s t = some (w,is,0,()):=fun w is e=>by
   unfold g37
   rw [o1 s s0 s1]
   simp only [Option.bind_some,cA,Bool.not_true,cond_false]
   rw [o1 t t0 t1]
   simp only [Option.bind_some,cA,Bool.not_true,cond_false]
   rw [e];rfl
 simp only [eq_true i0,eq_true i1,eq_true i2,if_true,hk,hj,hx,hy,hu,hz,if_false,es,et,Option.bind_some,gx,gy,ix,iy]
 have wB:∀ w:List Int,w.length ≤ 100→InW k w→g39 2000 x w = some true:=fun w h1 h2=>by
   rw [h.word39 2000 (by omega) w (by omega),(wordB_iff k w).2 ⟨h1,h2⟩]
 have nonneg:∀ w:List Int,decide ((0:Int) ≤ ((w.length:Nat):Int)) = true:=fun w=>decide_eq_true (by omega)
 have nonneg2:∀ w:List Int,decide (((w.length:Nat):Int) < 0) = false:=fun w=>decide_eq_false (by omega)
 have fin:∀ w,w.length ≤ 100→InW k w→∀ p q:Int,0 ≤ p→p < (x.1.length:Int)→0 ≤ q→q < (x.1.length:Int)→(sayL x p w).1 ≠ (sayL x q w).1→g20 2000 (sayL x p w).1 (sayL x q w).1 = some false:=fun w h1 _ p q _ _ _ _ hne=>by
   rw [eq20 2000 _ _ (by rw [sayL_len];omega) (by omega),decide_eq_false hne]
 rcases pair_eq h h 2000 (by omega) s t ⟨s0,s1⟩ ⟨t0,t1⟩ with ⟨w,w1,w2,w3,e1,e2⟩ | ⟨e1,e2⟩
 · have d1:=h.say 2000 (by omega) w w2 (by omega) s s0 s1
   have d2:=h.say 2000 (by omega) w w2 (by omega) t t0 t1
   have d3:=fin w w1 w2 s t s0 s1 t0 t1 w3
   rcases second with ⟨hkj,e3⟩ | ⟨hkj,v,v1,v2,v3,e3,e4⟩ | ⟨hkj,e3,e4⟩
   · simp only [f37 _ _ e1,e2,Option.bind_some,cA,cB,Bool.not_true,Bool.not_false,cond_true,cond_false,nonneg,bT,ieq_self,wB w w1 w2,d1,d2,d3,e3,nkj hkj,nil0,awake_eq]
   · have q1:=h.say 2000 (by omega) v v2 (by omega) 0 (by omega) (by omega)
     have q2:=g.say 2000 (by omega) v (hkj ▸ v2) (by omega) 0 (by omega) (by omega)
     have q3:g20 2000 (sayL x 0 v).1 (sayL y 0 v).1 = some false:=by rw [eq20 2000 _ _ (by rw [sayL_len];omega) (by omega),decide_eq_false v3]
     simp only [f37 _ _ e1,e2,Option.bind_some,cA,cB,Bool.not_true,Bool.not_false,cond_true,cond_false,nonneg,nonneg2,bT,bF,ieq_self,wB w w1 w2,wB v v1 v2,d1,d2,d3,e3,e4,ikj hkj,nil0,q1,q2,q3,awake_eq]
   · simp only [f37 _ _ e1,e2,Option.bind_some,cA,cB,Bool.not_true,Bool.not_false,cond_true,cond_false,nonneg,nonneg2,bT,bF,ieq_self,wB w w1 w2,d1,d2,d3,e3,e4,ikj hkj,nil0,neg1,neg2,awake_eq]
 · rcases second with ⟨hkj,e3⟩ | ⟨hkj,v,v1,v2,v3,e3,e4⟩ | ⟨hkj,e3,e4⟩
   · simp only [f37 _ _ e1,e2,Option.bind_some,cA,cB,Bool.not_true,Bool.not_false,cond_true,cond_false,nonneg,bT,bF,ieq_self,e3,nkj hkj,nil0,neg1,neg2,awake_eq]
   · have q1:=h.say 2000 (by omega) v v2 (by omega) 0 (by omega) (by omega)
     have q2:=g.say 2000 (by omega) v (hkj ▸ v2) (by omega) 0 (by omega) (by omega)
     have q3:g20 2000 (sayL x 0 v).1 (sayL y 0 v).1 = some false:=by rw [eq20 2000 _ _ (by rw [sayL_len];omega) (by omega),decide_eq_false v3]
     simp only [f37 _ _ e1,e2,Option.bind_some,cA,cB,Bool.not_true,Bool.not_false,cond_true,cond_false,nonneg,nonneg2,bT,bF,ieq_self,wB v v1 v2,e3,e4,ikj hkj,nil0,neg1,neg2,q1,q2,q3,awake_eq]
   · simp only [f37 _ _ e1,e2,Option.bind_some,cA,cB,Bool.not_true,Bool.not_false,cond_true,cond_false,nonneg,nonneg2,bT,bF,ieq_self,e3,e4,ikj hkj,nil0,neg1,neg2,awake_eq]
abbrev MT:Ty:=.pair (.lst (.lst (.int .i64))) (.pair (.lst (.lst (.int .i64))) .unit)
theorem probeAparts_bnd (a:ProdT (List.map AS.d [MT,MT,.arr 3 (.int .i64)])) (h:BndL [MT,MT,.arr 3 (.int .i64)] a):g6 2000 a.1 a.2.1 a.2.2.1 = some true :=
 aparts_plain a.1 a.2.1 a.2.2.1
end Go.Pv
