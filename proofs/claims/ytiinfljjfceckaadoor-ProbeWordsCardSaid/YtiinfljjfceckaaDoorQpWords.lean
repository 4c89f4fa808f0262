/- Seat 09, plain: the law ProbeWords. -/
import Derived.Test.YtiinfljjfceckaaDoorMg2
import Derived.Test.YtiinfljjfceckaaDoorPvAB
set_option linter.unusedVariables false
set_option linter.unusedSimpArgs false
namespace Go.Pv
open Bfs
def tE (x:MM) (w:List Int):Bool:=allN x.1.length 0 (fun s=>allN s 0 (fun t=>!(decide (sd x w s = sd x w t) && !decide (en x w s = en x w t))))
def tB (x:MM) (w:List Int):Bool:=allN x.1.length 0 (fun s=>allN x.1.length 0 (fun t=>decide (t = s) || !decide (sd x w t = sd x w s)))
def tS (x:MM) (s:Nat) (w:List Int):Bool:=allN x.1.length 0 (fun t=>decide (t = s) || !decide (sd x w t = sd x w s))
theorem tB_iff (x:MM) (w:List Int):tB x w = true ↔ ∀ u,u < x.1.length→∀ v,v < x.1.length→v ≠ u→sd x w v ≠ sd x w u:=by
 unfold tB
 simp only [allN_iff]
 constructor
 · intro h u hu v hv hne he
   have:=h u (by omega) (by omega) v (by omega) (by omega)
   rw [decide_eq_false hne,decide_eq_true he] at this
   simp at this
 · intro h u _ hu v _ hv
   by_cases hne:v = u
   · rw [decide_eq_true hne];simp
   · rw [decide_eq_false (h u (by omega) v (by omega) hne)];simp
theorem tS_iff (x:MM) (s:Nat) (w:List Int):tS x s w = true ↔ ∀ v,v < x.1.length→v ≠ s→sd x w v ≠ sd x w s:=by
 unfold tS
 simp only [allN_iff]
 constructor
 · intro h v hv hne he
   have:=h v (by omega) (by omega)
   rw [decide_eq_false hne,decide_eq_true he] at this
   simp at this
 · intro h v _ hv
   by_cases hne:v = s
   · rw [decide_eq_true hne];simp
   · rw [decide_eq_false (h v (by omega) hne)];simp
theorem told0 (x:MM) (s:Nat) (w:List Int):toldB x.1.length 0 (s:Int) (aR x 0 s w) = tE x w:=by
 unfold toldB tE
 rw [show aR x 0 s w = aK x w from if_neg (by decide)]
 refine allN_congr fun u _ hu=>allN_congr fun v _ hv=>?_
 have e:=aK_iff x w u v (by omega) (by omega)
 rw [aK_n x w u (by omega),aK_n x w v (by omega),show badT 0 (s:Int) (u:Int) (v:Int) (!decide (en x w u = en x w v)) = !decide (en x w u = en x w v) by simp [badT]]
 by_cases h:sd x w u = sd x w v
 · rw [decide_eq_true h,decide_eq_true (e.2 h)]
 · rw [decide_eq_false h,decide_eq_false fun h2=>h (e.1 h2)]
theorem told1 (x:MM) (s:Nat) (w:List Int):toldB x.1.length 1 (s:Int) (aR x 1 s w) = tB x w:=by
 rw [show aR x 1 s w = aK x w from if_neg (by decide),Bool.eq_iff_iff,tB_iff]
 unfold toldB
 simp only [allN_iff]
 have hb:∀ u v:Int,∀ ne,badT 1 (s:Int) u v ne = true:=fun u v ne=>by simp [badT]
 simp only [hb,Bool.and_true]
 constructor
 · intro h u hu v hv hne he
   rcases Nat.lt_or_gt_of_ne hne with hl | hl
   · have:=h u (by omega) (by omega) v (by omega) (by omega)
     rw [decide_eq_true ((aK_iff x w u v hu hv).2 he.symm)] at this;cases this
   · have:=h v (by omega) (by omega) u (by omega) (by omega)
     rw [decide_eq_true ((aK_iff x w v u hv hu).2 he)] at this;cases this
 · intro h u _ hu v _ hv
   rw [decide_eq_false fun e=>h u (by omega) v (by omega) (by omega) ((aK_iff x w u v (by omega) (by omega)).1 e).symm];rfl
theorem told2 (x:MM) (s:Nat) (hs:s < x.1.length) (w:List Int):toldB x.1.length 2 (s:Int) (aR x 2 s w) = tS x s w:=by
 rw [show aR x 2 s w = markL x.1.length s (aK x w) from if_pos rfl,Bool.eq_iff_iff,tS_iff]
 have hsame:∀ v,v < x.1.length→((markL x.1.length s (aK x w)).getD v 0 = (markL x.1.length s (aK x w)).getD s 0 ↔ sd x w v = sd x w s):=by
   intro v hv
   rw [(mk_in x w s hs s hs rfl).1]
   by_cases h:sd x w v = sd x w s
   · exact ⟨fun _=>h,fun _=>(mk_in x w s hs v hv h).1⟩
   · obtain ⟨h1,h2⟩:=mk_out x w s hs v hv h
     exact ⟨fun e=>absurd (by rw [h1] at e;omega) h2,fun e=>absurd e h⟩
 unfold toldB
 simp only [allN_iff]
 have hb:∀ u v:Nat,∀ ne,badT 2 (s:Int) (u:Int) (v:Int) ne = (decide (u = s) || decide (v = s)):=fun u v ne=>by
   simp only [badT]
   by_cases h1:u = s <;> by_cases h2:v = s <;> simp [h1,h2] <;> omega
 simp only [hb]
 constructor
 · intro h v hv hne he
   rcases Nat.lt_or_gt_of_ne hne with hl | hl
   · have:=h s (by omega) (by omega) v (by omega) (by omega)
     rw [decide_eq_true ((hsame v hv).2 he).symm] at this;simp at this
   · have:=h v (by omega) (by omega) s (by omega) (by omega)
     rw [decide_eq_true ((hsame v hv).2 he)] at this;simp at this
 · intro h u _ hu v _ hv
   by_cases h1:u = s
   · subst h1
     rw [decide_eq_false fun e=>h v (by omega) (by omega) ((hsame v (by omega)).1 e.symm)];rfl
   · by_cases h2:v = s
     · subst h2
       rw [decide_eq_false fun e=>h u (by omega) h1 ((hsame u (by omega)).1 e)];rfl
     · rw [decide_eq_false h1,decide_eq_false h2];simp
theorem alive0 (x:MM) (s:Nat) (w:List Int):alive x 0 s w = true:=by
 unfold alive aliveB
 simp only [allN_iff]
 intro u _ hu v _ hv
 simp [badD]
theorem alive1 (x:MM) (s:Nat) (w:List Int) (h:tB x w = true):alive x 1 s w = true:=by
 rw [tB_iff] at h
 unfold alive aliveB
 simp only [allN_iff]
 intro u _ hu v _ hv
 rw [decide_eq_false fun e=>h v (by omega) u (by omega) (by omega) ((aK_iff x w u v (by omega) (by omega)).1 e)];rfl
theorem alive2 (x:MM) (s:Nat) (hs:s < x.1.length) (w:List Int) (h:tS x s w = true):alive x 2 s w = true:=by
 rw [tS_iff] at h
 unfold alive
 rw [alive2_iff _ _ hs]
 intro v hv hne he
 exact absurd ((aK_iff x w v s hv hs).1 he) (h v hv hne)
theorem prog_short {m:MM} {k:Nat} (hm:Pm m k) (h5:m.1.length ≤ 5) (N:Nat) (hN:900000 < N) (fd:(GG×Unit)→Option Bool) (p:GG→Bool) (T:List Int→Bool) (hfd:∀ x,VW m k x→fd (x,()) = some (p x)) (hp:∀ z w,VG m.1.length z→Gr m w z→p z = T w) :
   (∃ ws,LeastT k T ws∧ws.length ≤ 375000∧g64 N m fd = some (wd ws,true,())) ∨ ((∀ ws:List Nat,(∀ i ∈ ws,i < k)→T (wd ws) = false)∧g64 N m fd = some ([],false,())):=by
 obtain ⟨first,hg,hv,h⟩:=searchG_eq hm h5 N hN fd p hfd
 have key:∀ ws:List Nat,(∀ i ∈ ws,i < k)→∃ z,run (eG N m) k first ws = some z∧p z = T (wd ws):=fun ws hi=>by
   obtain ⟨z,z1,z2,z3⟩:=run_groups hm N (by omega) ws [] first (by simp [InW]) hg hv.1 hi
   exact ⟨z,z1,hp z _ z3 (by simpa using z2)⟩
 rcases h with ⟨ws,⟨⟨y,h1,h2,h3⟩,hl⟩,e⟩ | ⟨hn,e⟩
 · refine .inl ⟨ws,⟨run_letters ws _ _ h1,?_,fun vs hi hlt=>?_⟩,hl,e⟩
   · obtain ⟨z,z1,z2⟩:=key ws (run_letters ws _ _ h1)
     rw [h1] at z1
     obtain rfl:=Option.some.inj z1
     rw [← z2];exact h2
   · obtain ⟨z,z1,z2⟩:=key vs hi
     rw [← z2]
     exact h3 vs.length hlt z ⟨vs,rfl,z1⟩
 · refine .inr ⟨fun vs hi=>?_,e⟩
   obtain ⟨z,z1,z2⟩:=key vs hi
   rw [← z2]
   exact hn vs.length z ⟨vs,rfl,z1⟩
theorem inside_loop {m:MM} {k:Nat} (hm:Pm m k) (N:Nat) {C:Type} (k0:Bool→MM→Option C) (k1:MM→Option C) (w:List Int) (hw:InW k w) (hl:w.length ≤ 900000) :
   ∀ (F i:Nat),w.length - i < F→i ≤ w.length→g33L26f N F k0 k1 w (i:Int) m = k1 m
 | 0,i,hF,_=>by omega
 | F + 1,i,hF,hi=>by
   rw [g33L26f_succ]
   unfold g33L26B
   by_cases hlt:i < w.length
   · obtain ⟨h1,h2⟩:=hw _ (getD_mem hlt 0)
     rw [ltT hlt,cond_true,if_pos (idxT hlt),if_pos (idxT hlt),hm.inputs41 N,Int.toNat_natCast]
     simp only [Option.bind_some]
     rw [decide_eq_false (by omega),cond_false,decide_eq_false (by omega),cond_false,wn i (by omega)]
     exact inside_loop hm N k0 k1 w hw hl F (i + 1) (by omega) (by omega)
   · rw [ltF hlt,cond_false]
theorem inside_eq {m:MM} {k:Nat} (hm:Pm m k) (N:Nat) (hN:900000 < N) (w:List Int) (hw:InW k w) (hl:w.length ≤ 900000):g33 N m w = some true:=by
 unfold g33
 rw [g33L26_eq]
 exact inside_loop hm N _ _ w hw hl N 0 (by omega) (by omega)
theorem wd_in {k:Nat} {ws:List Nat} (h:∀ i ∈ ws,i < k):InW k (wd ws):=by
 intro i hi
 obtain ⟨j,hj,rfl⟩:=List.mem_map.1 hi
 have:=h j hj
 omega
theorem both {m:MM} {k:Nat} (hm:Pm m k) (h5:m.1.length ≤ 5) (N:Nat) (hN:900000 < N) (fd:(GG×Unit)→Option Bool) (p:GG→Bool) (T:List Int→Bool) (hfd:∀ x,VW m k x→fd (x,()) = some (p x)) (hp:∀ z w,VG m.1.length z→Gr m w z→p z = T w)
   (kd:Int) (s:Nat) (hs:s < m.1.length) (hT:∀ w,toldB m.1.length kd (s:Int) (aR m kd s w) = T w) (hTa:∀ w,T w = true→alive m kd s w = true) :
   (∃ w,g64 N m fd = some (w,true,())∧g32 N m kd (s:Int) = some ((w.length:Nat):Int)∧g33 N m w = some true∧InW k w∧w.length ≤ 375000∧T w = true) ∨
   (g64 N m fd = some ([],false,())∧g32 N m kd (s:Int) = some (-1)):=by
 rcases prog_short hm h5 N hN fd p T hfd hp with ⟨ws,h1,h2,e1⟩ | ⟨h1,e1⟩
 · rcases ref_short hm h5 N (by omega) kd s hs T hT hTa with ⟨vs,g1,e2⟩ | ⟨g1,e2⟩
   · have hl:=h1.same g1
     refine .inl ⟨wd ws,e1,?_,inside_eq hm N hN _ (wd_in h1.1) (by simp;omega),wd_in h1.1,by simp;omega,h1.2.1⟩
     rw [e2,show (wd ws).length = vs.length by simp [hl]]
   · have:=g1 ws h1.1
     rw [h1.2.1] at this;cases this
 · rcases ref_short hm h5 N (by omega) kd s hs T hT hTa with ⟨vs,g1,e2⟩ | ⟨g1,e2⟩
   · have:=h1 vs g1.1
     rw [g1.2.1] at this;cases this
   · exact .inr ⟨e1,e2⟩
theorem awakeBig:g25v1 1000000 = some true:=by kernel_rfl
theorem words_plain (a0:MM) (a1 a2:Int):g5 1000000 a0 a1 a2 = some true:=by
 unfold g5
 obtain ⟨k,hk,k1,k3⟩:=inputs_eq 1000000 a1
 obtain ⟨x,hx,h,h5⟩:=tame_eq 1000000 (by omega) a0 5 (by omega) (by omega) k k1 k3
 have n1:=h.n1
 have n6:=h.n6
 have h5:x.1.length ≤ 5:=by omega
 have hu:IntKind.wrap .u64 ((x.1.length:Nat):Int) = (x.1.length:Int):=wu64n (by omega) (by omega)
 obtain ⟨s,es,s0,s1⟩:=low a2 (m:=(x.1.length:Int)) (by omega) (by omega)
 obtain ⟨s,rfl⟩:∃ s':Nat,s = (s':Int):=⟨s.toNat,by omega⟩
 have hz:((x.1.length:Int) = 0) = False:=eq_false (by omega)
 have gx:=h.given 1000000 (by omega)
 have chk:=h.check 1000000 (by omega)
 have opn:g62 1000000 [x] (s:Int) [] = some 0:=by
   rw [open_eq 1000000 (by omega) [x] k (s:Int) [] (by simp) (by simp) (fun m hm=>by simp at hm;subst hm;exact h) s0 s1 (by simp)];rfl
 have cA:ieq (0:Int) 0 = true:=rfl
 have neg1:decide ((0:Int) ≤ -1) = false:=rfl
 have nil0:ieq (((([]:List Int).length:Nat)):Int) 0 = true:=rfl
 have bT:beqB true true = true:=rfl
 have bF:beqB false false = true:=rfl
 have nonneg:∀ w:List Int,decide ((0:Int) ≤ ((w.length:Nat):Int)) = true:=fun w=>decide_eq_true (by omega)
 have E:=both h h5 1000000 (by omega) (fun (x2:GG×Unit)=>Option.bind (g65 1000000 x x2.1) fun y3=>some y3) (fun z=>allN x.1.length 0 (fun s=>allN s 0 (fun t=>!(decide (z.1.getD s 0 = z.1.getD t 0) && !decide (z.2.1.getD s 0 = z.2.1.getD t 0))))) (tE x) (fun z hz=>by simp only [h.tellsEnd 1000000 (by omega) z];rfl) (fun z w _ hg=>hg.end_same) 0 0 (by omega) (fun w=>told0 x 0 w) (fun w _=>alive0 x 0 w)
 have B:=both h h5 1000000 (by omega) (fun (x2:GG×Unit)=>Option.bind (g66 1000000 x x2.1) fun y3=>some y3) (fun z=>allN x.1.length 0 (fun s=>!decide (z.1.getD s 0 ∈ z.1.take s))) (tB x) (fun z hz=>by simp only [h.tellsBeginning 1000000 (by omega) z hz.1.l1];rfl) (fun z w _ hg=>hg.begin_same n6) 1 0 (by omega) (fun w=>told1 x 0 w) (fun w=>alive1 x 0 w)
 have S:=both h h5 1000000 (by omega) (fun (x2:GG×Unit)=>Option.bind (g67 1000000 x2.1 x (s:Int)) fun y3=>some y3) (fun z=>allN x.1.length 0 (fun t=>decide (t = s) || !decide (z.1.getD t 0 = z.1.getD s 0))) (tS x s) (fun z hz=>by unfold g67;simp only [h.tellsState 1000000 (by omega) z s (by omega)];rfl) (fun z w _ hg=>hg.state_same s (by omega)) 2 s (by omega) (fun w=>told2 x s (by omega) w) (fun w=>alive2 x s (by omega) w)
 have rE:∀ w,InW k w→w.length ≤ 375000→tE x w = true→g34 1000000 x w = some true:=fun w h1 h2 h3=>by rw [h.refEnd2 1000000 (by omega) w h1 (by omega)];exact congrArg some h3
 have rB:∀ w,InW k w→w.length ≤ 375000→tB x w = true→g35 1000000 x w = some true:=fun w h1 h2 h3=>by rw [h.refBeginning2 1000000 (by omega) w h1 (by omega)];exact congrArg some h3
 have rS:∀ w,InW k w→w.length ≤ 375000→tS x s w = true→g36 1000000 x (s:Int) w = some true:=fun w h1 h2 h3=>by rw [h.refState2 1000000 (by omega) w h1 (by omega) s (by omega)];exact congrArg some h3
 have hx:g15 1000000 a0 5 (k:Int) = some x:=hx
 have fE:∀ w is,g64 1000000 x (fun (x2:GG×Unit)=>Option.bind (g65 1000000 x x2.1) fun y3=>some y3) = some (w,is,())→g29 1000000 x = some (w,is,0,()):=fun w is e=>by
   unfold g29
   rw [chk]
   simp only [Option.bind_some,cA,Bool.not_true,cond_false]
   rw [e];rfl
 have fB:∀ w is,g64 1000000 x (fun (x2:GG×Unit)=>Option.bind (g66 1000000 x x2.1) fun y3=>some y3) = some (w,is,())→g30 1000000 x = some (w,is,0,()):=fun w is e=>by
   unfold g30
   rw [chk]
   simp only [Option.bind_some,cA,Bool.not_true,cond_false]
   rw [e];rfl
 have fS:∀ w is,g64 1000000 x (fun (x2:GG×Unit)=>Option.bind (g67 1000000 x2.1 x (s:Int)) fun y3=>some y3) = some (w,is,())→g31 1000000 x (s:Int) = some (w,is,0,()):=fun w is e=>by
   unfold g31
   rw [opn]
   simp only [Option.bind_some,cA,Bool.not_true,cond_false]
   rw [e];rfl
 simp only [Int.natCast_zero] at E B
 simp only [hk,hx,hu,hz,if_false,es,Option.bind_some,gx]
 rcases E with ⟨w,e1,e2,e3,e4,e5,e6⟩ | ⟨e1,e2⟩ <;> rcases B with ⟨v,b1,b2,b3,b4,b5,b6⟩ | ⟨b1,b2⟩ <;> rcases S with ⟨u,c1,c2,c3,c4,c5,c6⟩ | ⟨c1,c2⟩
 · simp only [fE _ _ e1,e2,e3,rE w e4 e5 e6,fB _ _ b1,b2,b3,rB v b4 b5 b6,fS _ _ c1,c2,c3,rS u c4 c5 c6,Option.bind_some,cA,Bool.not_true,Bool.not_false,cond_true,cond_false,nonneg,bT,bF,ieq_self,nil0,neg1,awakeBig]
 · simp only [fE _ _ e1,e2,e3,rE w e4 e5 e6,fB _ _ b1,b2,b3,rB v b4 b5 b6,fS _ _ c1,c2,Option.bind_some,cA,Bool.not_true,Bool.not_false,cond_true,cond_false,nonneg,bT,bF,ieq_self,nil0,neg1,awakeBig]
 · simp only [fE _ _ e1,e2,e3,rE w e4 e5 e6,fB _ _ b1,b2,fS _ _ c1,c2,c3,rS u c4 c5 c6,Option.bind_some,cA,Bool.not_true,Bool.not_false,cond_true,cond_false,nonneg,bT,bF,ieq_self,nil0,neg1,awakeBig]
 · simp only [fE _ _ e1,e2,e3,rE w e4 e5 e6,fB _ _ b1,b2,fS _ _ c1,c2,Option.bind_some,cA,Bool.not_true,Bool.not_false,cond_true,cond_false,nonneg,bT,bF,ieq_self,nil0,neg1,awakeBig]
 · simp only [fE _ _ e1,e2,fB _ _ b1,b2,b3,rB v b4 b5 b6,fS _ _ c1,c2,c3,rS u c4 c5 c6,Option.bind_some,cA,Bool.not_true,Bool.not_false,cond_true,cond_false,nonneg,bT,bF,ieq_self,nil0,neg1,awakeBig]
 · simp only [fE _ _ e1,e2,fB _ _ b1,b2,b3,rB v b4 b5 b6,fS _ _ c1,c2,Option.bind_some,cA,Bool.not_true,Bool.not_false,cond_true,cond_false,nonneg,bT,bF,ieq_self,nil0,neg1,awakeBig]
 · simp only [fE _ _ e1,e2,fB _ _ b1,b2,fS _ _ c1,c2,c3,rS u c4 c5 c6,Option.bind_some,cA,Bool.not_true,Bool.not_false,cond_true,cond_false,nonneg,bT,bF,ieq_self,nil0,neg1,awakeBig]
 · simp only [fE _ _ e1,e2,fB _ _ b1,b2,fS _ _ c1,c2,Option.bind_some,cA,Bool.not_true,Bool.not_false,cond_true,cond_false,nonneg,bT,bF,ieq_self,nil0,neg1,awakeBig]
abbrev MT:Ty:=.pair (.lst (.lst (.int .i64))) (.pair (.lst (.lst (.int .i64))) .unit)
theorem probeWords_bnd (a:ProdT (List.map AS.d [MT,.int .i64,.int .i64])) (h:BndL [MT,.int .i64,.int .i64] a):g5 1000000 a.1 a.2.1 a.2.2.1 = some true :=
 words_plain a.1 a.2.1 a.2.2.1
end Go.Pv
