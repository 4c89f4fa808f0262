/- Plain texts, merged: QpI, QpJ, QpO, QpHo, QpFo, QpFm. -/
import Derived.Test.YtiinfljjfceckaaDoorMg1
/- Seat 09, plain: what the search over groups returns. -/
set_option linter.unusedVariables false
set_option linter.unusedSimpArgs false
namespace Go.Pv
open Bfs
theorem Back_uniqG {H:GG→Option (GG×Nat)} {first:GG}:∀ {y:GG} {ws vs:List Nat},Bfs.Back H first y ws→Bfs.Back H first y vs→ws = vs:=by
 intro y ws vs h
 induction h generalizing vs with
 | nil =>
   intro h2
   cases h2 with
   | nil=>rfl
   | cons hne _ _=>exact absurd rfl hne
 | cons hne hH hB ih =>
   intro h2
   cases h2 with
   | nil=>exact absurd rfl hne
   | cons hne2 hH2 hB2 =>
     rw [hH] at hH2
     obtain ⟨rfl,rfl⟩:=Prod.mk.inj (Option.some.inj hH2)
     rw [ih hB2]
def EndsG (N:Nat) (m:MM) (k:Nat) (p:GG→Bool) (first:GG) (ws:List Nat):Prop:=∃ y,run (eG N m) k first ws = some y∧p y = true∧∀ d,d < ws.length→∀ z,R (eG N m) k first d z→p z = false
def NeverG (N:Nat) (m:MM) (k:Nat) (p:GG→Bool) (first:GG):Prop:=∀ d z,R (eG N m) k first d z→p z = false
theorem z7O {m:MM} {k:Nat} (hm:Pm m k) (h5:m.1.length ≤ 6) (N:Nat) (hN:200000000 < N) {t:Ty} {run0:CBG t} {st:HowG→t.T} {stF:List Int→HowG→t.T} (hd:DoesG N m k run0 st) (p:GG→Bool) (first:GG)
   (hy0:∀ how L,(∀ y ∈ L,p y = false)→NNG how→L.length ≤ 34000000→(∀ y ∈ L,VW m k y)→run0.y (st how) [.dat (.lst tGG) L] = some (st how,true))
   (hy1:∀ how L,NNG how→L.length ≤ 34000000→(∀ y ∈ L,VW m k y)→(∀ y ∈ L,p y = true→∃ ws,Bfs.Back (HhG how) first y ws∧ws.length ≤ 34000000)→¬ (∀ y ∈ L,p y = false)→∃ y ∈ L,p y = true∧∃ ws,Bfs.Back (HhG how) first y ws∧run0.y (st how) [.dat (.lst tGG) L] = some (stF (ws.reverse.map fun i:Nat=>(i:Int)) how,false))
   {C:Type} (k0 k1:CBG t→t.T→GG→Int→Option C) (f:GG) :
   ∀ (F j:Nat) (how:HowG) (L K:List GG),33592321 - j < F→LInv (eG N m) k first j (HhG how) L→NNG how→L.Nodup→(∀ y ∈ L,VW m k y)→K.Nodup→(∀ y ∈ K,VW m k y∧(HhG how y).isSome = true)→j + L.length ≤ K.length→(∀ d,d < j→∀ z,R (eG N m) k first d z→p z = false) →
     (∃ ws how',(EndsG N m k p first ws∧ws.length ≤ 33592320)∧q9Z N F t k0 k1 L run0 (st how) f (k:Int) = k0 run0 (stF (ws.map fun i:Nat=>(i:Int)) how') f (k:Int)) ∨
     (∃ how',NeverG N m k p first∧q9Z N F t k0 k1 L run0 (st how) f (k:Int) = k1 run0 (st how') f (k:Int))
 | 0,j,how,L,K,hF,_,_,_,_,_,_,hjK,_=>by omega
 | F + 1,j,how,L,K,hF,hI,hn,hLn,hLv,hKn,hKv,hjK,hno=>by
   have hK72:=fewG h5 hKn (fun y hy=>(hKv y hy).1.1)
   have hL72:=fewG h5 hLn (fun y hy=>(hLv y hy).1)
   rw [g133xL6f_succ]
   unfold z3Q
   by_cases hl0:L.length = 0
   · have e1:decide ((0:Int) < ((L.length:Nat):Int)) = false:=decide_eq_false (by omega)
     rw [e1,cond_false]
     refine .inr ⟨how,?_,rfl⟩
     obtain rfl:=List.eq_nil_of_length_eq_zero hl0
     intro d z hr
     obtain ⟨d',hd',hr'⟩:=hI.all d z hr
     exact hno d' hd' z hr'
   · have e1:decide ((0:Int) < ((L.length:Nat):Int)) = true:=decide_eq_true (by omega)
     have hj:j ≤ 33592320:=by omega
     have hback:∀ y ∈ L,p y = true→∃ ws,Bfs.Back (HhG how) first y ws∧ws.length ≤ 34000000:=fun y hy _=>by
       obtain ⟨h1,h2⟩:=(hI.level y).1 hy
       obtain ⟨ws,w1,w2,_⟩:=hI.back j y (Nat.le_refl j) h1 h2
       exact ⟨ws,w1,by omega⟩
     rw [e1,cond_true]
     by_cases hall:∀ y ∈ L,p y = false
     · show (_ ∨ _)
       have ey:run0.y (st how) [.dat (.lst (.pair (.arr 6 (.int .i64)) (.pair (.arr 6 (.int .i64)) .unit))) L] = some (st how,true):=hy0 how L hall hn (by omega) hLv
       rw [ey]
       simp only [Option.bind_some,Bool.not_true,cond_false]
       rw [g133xL1626_eq]
       obtain ⟨how',more,b1,b2,b3,e⟩:=levelG_loop hm N (by omega) hd (fun e12 e13 e14 e15 e16=>q9Z N F t k0 k1 e12 e13 e14 e15 e16) (HhG how) L (by omega) hLv f N 0 how [] (by omega) (by omega) (BInv.start (HhG how) L) hn (by simp) (by simp)
       simp only [Int.natCast_zero] at e
       rw [e]
       have hno':∀ d,d < j + 1→∀ z,R (eG N m) k first d z→p z = false:=fun d hd' z hr=>by
         by_cases hdj:d < j
         · exact hno d hdj z hr
         · obtain rfl:d = j:=by omega
           by_cases hex:∃ d',d' < d∧R (eG N m) k first d' z
           · obtain ⟨d',h1,h2⟩:=hex
             exact hno d' h1 z h2
           · exact hall z ((hI.level z).2 ⟨hr,fun d' h1 h2=>hex ⟨d',h1,h2⟩⟩)
       have hold:∀ y,(HhG how y).isSome = true→(HhG how' y).isSome = true:=fun y hy=>by
         obtain ⟨v,hv⟩:=Option.isSome_iff_exists.1 hy
         rw [b1.old y v hv];rfl
       exact z7O hm h5 N hN hd p first hy0 hy1 k0 k1 f F (j + 1) how' more (K ++ more) (by omega) (hI.step b1) b2 b1.nodup b3
         (by
           rw [List.nodup_append]
           refine ⟨hKn,b1.nodup,fun y hy z hz hyz=>?_⟩
           subst hyz
           have h1:=((b1.new y).1 hz).2
           have h2:=(hKv y hy).2
           rw [h1] at h2;cases h2)
         (fun y hy=>by
           rcases List.mem_append.1 hy with hy | hy
           · exact ⟨(hKv y hy).1,hold y (hKv y hy).2⟩
           · exact ⟨b3 y hy,((b1.new y).1 hy).1⟩)
         (by rw [List.length_append];omega) hno'
     · obtain ⟨y,hy,hyt,ws,hB,e⟩:=hy1 how L hn (by omega) hLv hback hall
       obtain ⟨h1,h2⟩:=(hI.level y).1 hy
       obtain ⟨vs,w1,w2,w3⟩:=hI.back j y (Nat.le_refl j) h1 h2
       obtain rfl:=Back_uniqG hB w1
       have e:run0.y (st how) [.dat (.lst (.pair (.arr 6 (.int .i64)) (.pair (.arr 6 (.int .i64)) .unit))) L] = some (stF (ws.reverse.map fun i:Nat=>(i:Int)) how,false):=e
       rw [e]
       refine .inl ⟨ws.reverse,how,⟨⟨y,w3,hyt,fun d hd' z hr=>hno d (by simp at hd';omega) z hr⟩,by simp;omega⟩,rfl⟩
abbrev tStG:Ty:=(.pair (.int .i64) (tyO [.box (.d tGG) (.a (.d tGG)),.box .leaf (.fn 93 [.p (.pair (.lst (.lst (.int .i64))) (.pair (.lst (.lst (.int .i64))) .unit))]),.box (.d (.lst (.int .i64))) (.a (.d (.lst (.int .i64)))),.box (.d .bool) (.a (.d .bool)),.box .leaf (.a (.mp 15 0)),.map tGG (.pair tGG (.pair (.int .i64) .unit)),.gone]))
noncomputable abbrev runG (N:Nat) (fd:(GG×Unit)→Option Bool):CBG tStG:=⟨(q7P N).told.run [(.ref 4 0 []),(.eptr (.clo (.pair tGG .unit) .bool fd)),(.ref 8 0 []),(.ref 9 0 []),(.ref 10 0 []),(.ref 7 0 [])],(q7P N).told.f [(.ref 4 0 []),(.eptr (.clo (.pair tGG .unit) .bool fd)),(.ref 8 0 []),(.ref 9 0 []),(.ref 10 0 []),(.ref 7 0 [])]⟩
abbrev stAG (first:GG) (a:MM) (how:HowG):tStG.T:=((0:Int),(first,(a,()),([]:List Int),false,(),how,(),()))
abbrev stBG (first:GG) (a:MM) (w:List Int) (how:HowG):tStG.T:=((1:Int),(first,(a,()),w,true,(),how,(),()))
theorem searchG_eq {m:MM} {k:Nat} (hm:Pm m k) (h5:m.1.length ≤ 6) (N:Nat) (hN:200000000 < N) (fd:(GG×Unit)→Option Bool) (p:GG→Bool) (hfd:∀ x,VW m k x→fd (x,()) = some (p x)) :
   ∃ first,Gr m [] first∧VW m k first∧((∃ ws,(EndsG N m k p first ws∧ws.length ≤ 33592320)∧g64 N m fd = some (ws.map fun i:Nat=>(i:Int),true,())) ∨
   (NeverG N m k p first∧g64 N m fd = some ([],false,()))):=by
 obtain ⟨first,e0,hg0,hv0⟩:=hm.begun2 N (by omega)
 have hv:VW m k first:=⟨hv0,[],by simp [InW],hg0⟩
 refine ⟨first,hg0,hv,?_⟩
 obtain ⟨how0,hhow0⟩:∃ h:HowG,h = q0S (Ty.beq tGG) first (dG,0,()) []:=⟨_,rfl⟩
 have hH0:∀ y,(HhG how0 y).isSome = true ↔ y = first:=fun y=>by
   unfold HhG
   rw [hhow0,q2L _ beqG]
   by_cases h:y = first
   · rw [if_pos h];simp [h]
   · rw [if_neg h];simp [q0C,h]
 have hN0:NNG how0:=fun y v hv=>by
   rw [hhow0,q2L _ beqG] at hv
   split at hv
   · obtain rfl:=Option.some.inj hv;exact Int.le_refl 0
   · cases hv
 unfold g64
 rw [e0]
 simp only [Option.bind_some]
 rw [hm.inputs N]
 simp only [Option.bind_some]
 unfold g91x g112x
 simp only [Option.bind_some]
 rw [show q0S (Ty.beq (.pair (.arr 6 (.int .i64)) (.pair (.arr 6 (.int .i64)) .unit))) first (((List.replicate 6 0),(List.replicate 6 0),()),0,()) [] = how0 from hhow0.symm]
 unfold g133x
 rw [g133xL6_eq]
 have hd:DoesG N m k (runG N fd) (stAG first m):=by
   intro how x i hx hi
   obtain ⟨y,ok,how',e,hc⟩:=cbG_eq hm N (by omega) hx hi how
   refine ⟨y,ok,how',?_,hc⟩
   refine (g91xR58_f N fd first m [] false how 0 x (i:Int)).trans ?_
   rw [if_pos rfl]
   unfold g91xR58F
   rw [e]
   rfl
 have hy0:∀ how L,(∀ y ∈ L,p y = false)→NNG how→L.length ≤ 34000000→(∀ y ∈ L,VW m k y)→(runG N fd).y (stAG first m how) [.dat (.lst tGG) L] = some (stAG first m how,true):=by
   intro how L hall hn hl hLv
   refine (j1U N fd first m [] false how 0 L).trans ?_
   rw [if_pos rfl]
   unfold z8W
   rw [j0F]
   rcases z1V N hN (fun e12 e13 e14 e15 e16 e17=>some (((1:Int),(e12,(e13,()),e14,e15,(),e16,(),())),false)) (fun e18 e19 e20 e21 e22 e23=>some (((0:Int),(e18,(e19,()),e20,e21,(),e22,(),())),true)) fd p hfd L hl hLv first m [] false how hn (fun y hy ht=>by rw [hall y hy] at ht;cases ht) N 0 (by omega) (by omega) with ⟨_,e⟩ | ⟨y,hy,ht,_⟩
   · exact e
   · rw [hall y hy] at ht;cases ht
 have hy1:∀ how L,NNG how→L.length ≤ 34000000→(∀ y ∈ L,VW m k y)→(∀ y ∈ L,p y = true→∃ ws,Bfs.Back (HhG how) first y ws∧ws.length ≤ 34000000)→¬ (∀ y ∈ L,p y = false)→∃ y ∈ L,p y = true∧∃ ws,Bfs.Back (HhG how) first y ws∧(runG N fd).y (stAG first m how) [.dat (.lst tGG) L] = some (stBG first m (ws.reverse.map fun i:Nat=>(i:Int)) how,false):=by
   intro how L hn hl hLv hback hnall
   rcases z1V N hN (fun e12 e13 e14 e15 e16 e17=>some (((1:Int),(e12,(e13,()),e14,e15,(),e16,(),())),false)) (fun e18 e19 e20 e21 e22 e23=>some (((0:Int),(e18,(e19,()),e20,e21,(),e22,(),())),true)) fd p hfd L hl hLv first m [] false how hn hback N 0 (by omega) (by omega) with ⟨h,_⟩ | ⟨y,hy,ht,ws,hB,e⟩
   · exact absurd (by simpa using h) hnall
   · refine ⟨y,hy,ht,ws,hB,?_⟩
     refine (j1U N fd first m [] false how 0 L).trans ?_
     rw [if_pos rfl]
     unfold z8W
     rw [j0F]
     exact e
 have main:=z7O hm h5 N hN hd p first hy0 hy1 (C:=(g133xS tStG).R) (fun e17 e18 e19 e20=>some ((()),((e17,e18),e19,e20,(),()),(()))) (fun e21 e22 e23 e24=>some ((()),((e21,e22),e23,e24,(),()),(()))) first N 0 how0 [first] [first] (by omega) (LInv.start (HhG how0) hH0) hN0 (by simp) (fun y hy=>by rw [List.mem_singleton.1 hy];exact hv) (by simp) (fun y hy=>by rw [List.mem_singleton.1 hy];exact ⟨hv,(hH0 first).2 rfl⟩) (by simp) (fun d hd=>by omega)
 rcases main with ⟨ws,how',hE,e⟩ | ⟨how',hE,e⟩
 · refine .inl ⟨ws,hE,?_⟩
   refine Eq.trans (congrArg (fun o=>Option.bind (Option.bind o _) _) e) ?_
   rfl
 · refine .inr ⟨hE,?_⟩
   refine Eq.trans (congrArg (fun o=>Option.bind (Option.bind o _) _) e) ?_
   rfl
end Go.Pv
namespace Go.Pv
open Bfs
def tE (x:MM) (w:List Int):Bool:=allN x.1.length 0 (fun s=>allN s 0 (fun t=>!(decide (sd x w s = sd x w t) && !decide (en x w s = en x w t))))
theorem prog_short {m:MM} {k:Nat} (hm:Pm m k) (h5:m.1.length ≤ 6) (N:Nat) (hN:200000000 < N) (fd:(GG×Unit)→Option Bool) (p:GG→Bool) (T:List Int→Bool) (hfd:∀ x,VW m k x→fd (x,()) = some (p x)) (hp:∀ z w,VG m.1.length z→Gr m w z→p z = T w) :
   (∃ ws,LeastT k T ws∧ws.length ≤ 33592320∧g64 N m fd = some (wd ws,true,())) ∨ ((∀ ws:List Nat,(∀ i ∈ ws,i < k)→T (wd ws) = false)∧g64 N m fd = some ([],false,())):=by
 obtain ⟨first,hg,hv,h⟩:=searchG_eq hm h5 N hN fd p hfd
 have key:∀ ws:List Nat,(∀ i ∈ ws,i < k)→∃ z,run (eG N m) k first ws = some z∧p z = T (wd ws):=fun ws hi=>by
   obtain ⟨z,z1,z2,z3⟩:=run_groups hm N (by omega) ws [] first (by simp [InW]) hg hv.1 hi
   exact ⟨z,z1,hp z _ z3 (by simpa using z2)⟩
 rcases h with ⟨ws,⟨⟨y,h1,h2,h3⟩,hl⟩,e⟩ | ⟨hn,e⟩
 · refine .inl ⟨ws,⟨z2G ws _ _ h1,?_,fun vs hi hlt=>?_⟩,hl,e⟩
   · obtain ⟨z,z1,z2⟩:=key ws (z2G ws _ _ h1)
     rw [h1] at z1
     obtain rfl:=Option.some.inj z1
     rw [← z2];exact h2
   · obtain ⟨z,z1,z2⟩:=key vs hi
     rw [← z2]
     exact h3 vs.length hlt z ⟨vs,rfl,z1⟩
 · refine .inr ⟨fun vs hi=>?_,e⟩
   obtain ⟨z,z1,z2⟩:=key vs hi
   rw [← z2]
   exact hn vs.length z ⟨vs,rfl,z1⟩
end Go.Pv
namespace Go.Pv
open Bfs
open Classical
def eqv (x:MM) (k r:Nat) (s t:Nat):Prop:=∀ w:List Nat,(∀ i ∈ w,i < k)→w.length ≤ r→sd x (wd w) s = sd x (wd w) t
def eqvA (x:MM) (k:Nat) (s t:Nat):Prop:=∀ w:List Nat,(∀ i ∈ w,i < k)→sd x (wd w) s = sd x (wd w) t
def nxN (x:MM) (s i:Nat):Nat:=(nx x (s:Int) (i:Int)).toNat
theorem Pm.nxB {x:MM} {k:Nat} (h:Pm x k) {s i:Nat} (hs:s < x.1.length) (hi:i < k):nxN x s i < x.1.length∧((nxN x s i:Nat):Int) = nx x (s:Int) (i:Int):=by
 obtain ⟨_,_,_,_,n1,_⟩:=h.step (s:=(s:Int)) (i:=(i:Int)) (by omega) (by omega) (by omega) (by omega)
 unfold Go.Pv.nxN
 omega
theorem Pm.z6Y {x:MM} {k:Nat} (h:Pm x k) {s i:Nat} (hs:s < x.1.length) (hi:i < k) (w:List Int):sd x ((i:Int) :: w) s = ou x (s:Int) (i:Int) :: sd x w (nxN x s i):=by
 unfold sd
 rw [(h.nxB hs hi).2]
 rfl
theorem eqv.symm {x:MM} {k r s t:Nat} (h:eqv x k r s t):eqv x k r t s:=fun w hw hl=>(h w hw hl).symm
theorem eqv.trans {x:MM} {k r s t u:Nat} (h:eqv x k r s t) (g:eqv x k r t u):eqv x k r s u:=fun w hw hl=>(h w hw hl).trans (g w hw hl)
theorem eqv.refl (x:MM) (k r s:Nat):eqv x k r s s:=fun _ _ _=>rfl
theorem eqv.mono {x:MM} {k r q s t:Nat} (h:eqv x k r s t) (hq:q ≤ r):eqv x k q s t:=fun w hw hl=>h w hw (Nat.le_trans hl hq)
theorem eqv_zero (x:MM) (k s t:Nat):eqv x k 0 s t:=fun w _ hl=>by
 obtain rfl:=List.eq_nil_of_length_eq_zero (Nat.le_zero.1 hl)
 rfl
theorem Pm.z0Q {x:MM} {k:Nat} (h:Pm x k) {r s t:Nat} (hs:s < x.1.length) (ht:t < x.1.length):eqv x k (r + 1) s t ↔ ∀ i,i < k→ou x (s:Int) (i:Int) = ou x (t:Int) (i:Int)∧eqv x k r (nxN x s i) (nxN x t i):=by
 constructor
 · intro g i hi
   have key:∀ w:List Nat,(∀ j ∈ w,j < k)→w.length ≤ r→ou x (s:Int) (i:Int) = ou x (t:Int) (i:Int)∧sd x (wd w) (nxN x s i) = sd x (wd w) (nxN x t i):=fun w hw hl=>by
     have:=g (i :: w) (fun j hj=>by
       rcases List.mem_cons.1 hj with rfl | hj
       · exact hi
       · exact hw j hj) (by simp;omega)
     rw [show wd (i :: w) = (i:Int) :: wd w from rfl,h.z6Y hs hi,h.z6Y ht hi] at this
     exact List.cons.inj this
   exact ⟨(key [] (by simp) (by simp)).1,fun w hw hl=>(key w hw hl).2⟩
 · intro g w hw hl
   match w with
   | []=>rfl
   | i :: w =>
     have hi:=hw i List.mem_cons_self
     rw [show wd (i :: w) = (i:Int) :: wd w from rfl,h.z6Y hs hi,h.z6Y ht hi]
     obtain ⟨g1,g2⟩:=g i hi
     rw [g1,g2 w (fun j hj=>hw j (List.mem_cons_of_mem _ hj)) (by simp at hl;omega)]
noncomputable def lst (x:MM) (k r:Nat) (s:Nat):Nat:=lw (fun t=>decide (eqv x k r s t)) s s
theorem q1R (x:MM) (k r s:Nat):lst x k r s ≤ s∧eqv x k r s (lst x k r s)∧∀ t,t < lst x k r s→¬ eqv x k r s t:=by
 unfold lst
 refine ⟨lw_le _ s,?_⟩
 rcases lw_spec (fun t=>decide (eqv x k r s t)) s s with ⟨h1,h2⟩ | ⟨h1,h2,h3⟩
 · rw [h1];exact ⟨eqv.refl x k r s,fun t ht=>by simpa using h2 t ht⟩
 · exact ⟨by simpa using h2,fun t ht=>by simpa using h3 t ht⟩
theorem q6P (x:MM) (k r s t:Nat):lst x k r s = lst x k r t ↔ eqv x k r s t:=by
 obtain ⟨_,a1,a2⟩:=q1R x k r s
 obtain ⟨_,b1,b2⟩:=q1R x k r t
 constructor
 · intro h;rw [h] at a1;exact a1.trans b1.symm
 · intro h
   have n1:¬ lst x k r s < lst x k r t:=fun hl=>b2 _ hl (h.symm.trans a1)
   have n2:¬ lst x k r t < lst x k r s:=fun hl=>a2 _ hl (h.trans b1)
   omega
noncomputable def reps (x:MM) (k r:Nat):List Nat:=(List.range x.1.length).filter fun s=>decide (lst x k r s = s)
theorem q2O {x:MM} {k r s:Nat}:s ∈ reps x k r ↔ s < x.1.length∧lst x k r s = s:=by
 unfold reps;rw [List.mem_filter,List.mem_range];simp
theorem z6D (x:MM) (k r:Nat):(reps x k r).Nodup:=List.Pairwise.filter _ List.nodup_range
theorem reps_sub {x:MM} {k r s:Nat} (h:s ∈ reps x k r):s ∈ reps x k (r + 1):=by
 obtain ⟨h1,h2⟩:=q2O.1 h
 refine q2O.2 ⟨h1,?_⟩
 obtain ⟨a0,a1,a2⟩:=q1R x k (r + 1) s
 obtain ⟨b0,b1,b2⟩:=q1R x k r s
 rw [h2] at b2
 have:¬ lst x k (r + 1) s < s:=fun hl=>b2 _ hl (a1.mono (by omega))
 omega
theorem z9K {x:MM} {k r:Nat} (hne:∃ s t,s < x.1.length∧t < x.1.length∧eqv x k r s t∧¬ eqv x k (r + 1) s t):(reps x k r).length + 1 ≤ (reps x k (r + 1)).length:=by
 obtain ⟨s,t,hs,ht,h1,h2⟩:=hne
 -- one of the two is not with the least one of both
 obtain ⟨u,hu,h3,h4⟩:∃ u,u < x.1.length∧eqv x k r u s∧¬ eqv x k (r + 1) u (lst x k r s):=by
   by_cases h:eqv x k (r + 1) s (lst x k r s)
   · exact ⟨t,ht,h1.symm,fun g=>h2 (h.trans g.symm)⟩
   · exact ⟨s,hs,eqv.refl x k r s,h⟩
 obtain ⟨a0,a1,a2⟩:=q1R x k (r + 1) u
 have hv:lst x k (r + 1) u ∈ reps x k (r + 1):=q2O.2 ⟨by omega,by rw [q6P];exact a1.symm⟩
 have hn:lst x k (r + 1) u ∉ reps x k r:=fun hm=>by
   have e:=(q2O.1 hm).2
   have h5:eqv x k r (lst x k (r + 1) u) s:=(a1.mono (by omega)).symm.trans h3
   rw [(q6P x k r _ s).2 h5] at e
   rw [e] at h4
   exact h4 a1
 have:=q4I (L:=lst x k (r + 1) u :: reps x k r) (M:=reps x k (r + 1)) (List.nodup_cons.2 ⟨hn,z6D x k r⟩) (fun d hd=>by
   rcases List.mem_cons.1 hd with rfl | hd
   · exact hv
   · exact reps_sub hd)
 simpa using this
theorem reps_le (x:MM) (k r:Nat):(reps x k r).length ≤ x.1.length:=by
 have:=q4I (z6D x k r) (M:=List.range x.1.length) (fun d hd=>List.mem_range.2 (q2O.1 hd).1)
 simpa using this
theorem Pm.stable {x:MM} {k:Nat} (h:Pm x k):∃ r,r + 1 ≤ x.1.length∧∀ s t,s < x.1.length→t < x.1.length→eqv x k r s t→eqv x k (r + 1) s t:=by
 have n1:=h.n1
 apply byContradiction
 intro hno
 have key:∀ r,r + 1 ≤ x.1.length→r + 2 ≤ (reps x k (r + 1)).length:=by
   intro r
   have grow:r + 1 ≤ x.1.length→(reps x k r).length + 1 ≤ (reps x k (r + 1)).length:=fun hr=>by
     refine z9K ?_
     apply byContradiction
     intro hne
     refine hno ⟨r,hr,fun s t hs ht he=>?_⟩
     apply byContradiction
     intro hn
     exact hne ⟨s,t,hs,ht,he,hn⟩
   induction r with
   | zero =>
     intro hr
     have h0:0 ∈ reps x k 0:=q2O.2 ⟨by omega,by have:=(q1R x k 0 0).1;omega⟩
     have:=List.length_pos_of_mem h0
     have:=grow hr
     omega
   | succ r ih =>
     intro hr
     have h1:=ih (fun _=>by
       refine z9K ?_
       apply byContradiction
       intro hne
       refine hno ⟨r,by omega,fun s t hs ht he=>?_⟩
       apply byContradiction
       intro hn
       exact hne ⟨s,t,hs,ht,he,hn⟩) (by omega)
     have:=grow hr
     omega
 have h1:=key (x.1.length - 1) (by omega)
 have h2:=reps_le x k (x.1.length - 1 + 1)
 omega
theorem Pm.moore {x:MM} {k:Nat} (h:Pm x k) {r s t:Nat} (hr:x.1.length ≤ r + 1) (hs:s < x.1.length) (ht:t < x.1.length) (he:eqv x k r s t):eqvA x k s t:=by
 obtain ⟨q,q1,q2⟩:=h.stable
 have up:∀ j s t,s < x.1.length→t < x.1.length→eqv x k q s t→eqv x k (q + j) s t:=by
   intro j
   induction j with
   | zero=>intro s t _ _ h;exact h
   | succ j ih =>
     intro s t hs ht he
     rw [show q + (j + 1) = (q + j) + 1 by omega,h.z0Q hs ht]
     intro i hi
     obtain ⟨g1,g2⟩:=(h.z0Q hs ht).1 (q2 s t hs ht he) i hi
     exact ⟨g1,ih _ _ (h.nxB hs hi).1 (h.nxB ht hi).1 g2⟩
 intro w hw
 exact up w.length s t hs ht (he.mono (by omega)) w hw (by omega)
theorem eqvA.all {x:MM} {k s t:Nat} (h:eqvA x k s t) (r:Nat):eqv x k r s t:=fun w hw _=>h w hw
theorem Pm.z4V {x:MM} {k:Nat} (h:Pm x k) {s t:Nat} (hs:s < x.1.length) (ht:t < x.1.length):eqvA x k s t ↔ eqv x k x.1.length s t:=⟨fun g=>g.all _,fun g=>h.moore (by omega) hs ht g⟩
noncomputable def clsA (x:MM) (k:Nat):List Int:=(List.range x.1.length).map fun s=>((lst x k x.1.length s:Nat):Int)
theorem q6N (x:MM) (k s:Nat) (hs:s < x.1.length):(clsA x k).getD s 0 = (lst x k x.1.length s:Int):=by
 unfold clsA
 rw [List.getD_eq_getElem?_getD,List.getElem?_map]
 simp [hs]
theorem Pm.apart_iff {x:MM} {k:Nat} (h:Pm x k) (N:Nat) (hN:1000 < N) (s t:Nat) (hs:s < x.1.length) (ht:t < x.1.length) :
   ∃ w b,g72 N x x ((s:Int),(t:Int),()) = some (w,b,())∧(b = false ↔ eqvA x k s t):=by
 rcases apart_eq h h N hN (s:Int) (t:Int) ⟨by omega,by omega⟩ ⟨by omega,by omega⟩ with ⟨ws,hE,e⟩ | ⟨hE,e⟩
 · refine ⟨_,true,e,fun h=>(by cases h),fun he=>?_⟩
   have hl:=hE.least
   exact absurd (he ws hl.1) hl.2.1
 · refine ⟨_,false,e,fun _=>?_,fun _=>rfl⟩
   intro w hw
   exact Classical.not_not.1 (hE.none w hw)
theorem z9L {x:MM} {k:Nat} (h:Pm x k) (N:Nat) (hN:1000 < N) {C:Type} (k0:Int→Int→Int→MM→List Int→Option C) (k1:Int→Int→Int→MM→List Int→Option C) (s:Nat) (hs:s < x.1.length) (n:Int) (o:List Int) (ho:o.length ≤ 6) :
   ∀ (F i:Nat),s - i < F→i ≤ s→(∀ t,t < i→¬ eqvA x k s t) →
     (∃ t,t < s∧eqvA x k s t∧(∀ u,u < t→¬ eqvA x k s u)∧q6B N F k0 k1 (s:Int) n (s:Int) (s:Int) (i:Int) x o = k0 (s:Int) n (s:Int) x (o ++ [(t:Int)])) ∨
     ((∀ t,t < s→¬ eqvA x k s t)∧q6B N F k0 k1 (s:Int) n (s:Int) (s:Int) (i:Int) x o = k1 (s:Int) n (s:Int) x o)
 | 0,i,hF,_,_=>by omega
 | F + 1,i,hF,hi,hb=>by
   have n6:=h.n6
   rw [z7Z]
   unfold q5V
   by_cases hlt:i < s
   · obtain ⟨w,b,e,hiff⟩:=h.apart_iff N hN s i hs (by omega)
     rw [ltT hlt,cond_true,e]
     simp only [Option.bind_some]
     cases b with
     | false =>
       rw [Bool.not_false,cond_true,if_pos (by simp [maxCount];omega)]
       exact .inl ⟨i,hlt,hiff.1 rfl,hb,rfl⟩
     | true =>
       rw [Bool.not_true,cond_false,wn i (by omega)]
       refine z9L h N hN k0 k1 s hs n o ho F (i + 1) (by omega) (by omega) fun t ht=>?_
       by_cases hti:t = i
       · rw [hti];exact fun he=>by have:=hiff.2 he;cases this
       · exact hb t (by omega)
   · rw [ltF hlt,cond_false]
     exact .inr ⟨fun t ht=>hb t (by omega),rfl⟩
theorem Pm.lst_first {x:MM} {k:Nat} (h:Pm x k) {s t:Nat} (hs:s < x.1.length) (hts:t ≤ s) (he:eqvA x k s t) (hm:∀ u,u < t→¬ eqvA x k s u):lst x k x.1.length s = t:=by
 obtain ⟨a0,a1,a2⟩:=q1R x k x.1.length s
 have n1:¬ lst x k x.1.length s < t:=fun hl=>hm _ hl ((h.z4V hs (by omega)).2 a1)
 have n2:¬ t < lst x k x.1.length s:=fun hl=>a2 _ hl ((h.z4V hs (by omega)).1 he)
 omega
theorem z7E {x:MM} {k:Nat} (h:Pm x k) (N:Nat) (hN:1000 < N) {C:Type} (k0:MM→List Int→Option C) :
   ∀ (F i:Nat) (o:List Int),x.1.length - i < F→i ≤ x.1.length→o = (clsA x k).take i→z0J N F k0 (x.1.length:Int) (i:Int) x o = k0 x (clsA x k)
 | 0,i,o,hF,_,_=>by omega
 | F + 1,i,o,hF,hi,ho=>by
   have n6:=h.n6
   have hl:(clsA x k).length = x.1.length:=by unfold clsA;simp
   rw [g58L218f_succ]
   unfold z3J
   by_cases hlt:i < x.1.length
   · have hol:o.length = i:=by rw [ho,List.length_take];omega
     have nxt:∀ v:Nat,lst x k x.1.length i = v→o ++ [(v:Int)] = (clsA x k).take (i + 1):=fun v hv=>by
       rw [ho,← j0R (clsA x k) i 0 (by omega),q6N x k i hlt,hv]
     rw [ltT hlt,cond_true,g58L111818_eq]
     rcases z9L h N hN (fun e3 e4 e5 e6 e7=>z0J N F k0 e4 (IntKind.wrap .i64 (e5 + 1)) e6 e7) (fun e8 e9 e10 e11 e12=>if e12.length + [e8].length ≤ maxCount then z0J N F k0 e9 (IntKind.wrap .i64 (e10 + 1)) e11 (e12 ++ [e8]) else none) i hlt (x.1.length:Int) o (by omega) N 0 (by omega) (by omega) (by omega) with ⟨t,t1,t2,t3,e⟩ | ⟨t1,e⟩
     · refine Eq.trans e ?_
       rw [wn i (by omega)]
       exact z7E h N hN k0 F (i + 1) _ (by omega) (by omega) (nxt t (h.lst_first hlt (by omega) t2 t3))
     · refine Eq.trans e ?_
       rw [if_pos (by simp [maxCount];omega),wn i (by omega)]
       exact z7E h N hN k0 F (i + 1) _ (by omega) (by omega) (nxt i (h.lst_first hlt (by omega) (fun _ _=>rfl) t1))
   · rw [ltF hlt,cond_false,ho,List.take_of_length_le (by omega)]
theorem Pm.alike {x:MM} {k:Nat} (h:Pm x k) (N:Nat) (hN:1000 < N):g58 N x = some (clsA x k):=by
 have n6:=h.n6
 unfold g58
 have e:g76 N x = some (x.1.length:Int):=rfl
 rw [e]
 simp only [Option.bind_some]
 rw [g58L218_eq]
 exact z7E h N hN (fun e13 e14=>some e14) N 0 [] (by omega) (by omega) (by simp)
noncomputable def clsR (x:MM) (k r:Nat):List Int:=(List.range x.1.length).map fun s=>((lst x k r s:Nat):Int)
theorem z0G (x:MM) (k r s:Nat) (hs:s < x.1.length):(clsR x k r).getD s 0 = (lst x k r s:Int):=by
 unfold clsR
 rw [List.getD_eq_getElem?_getD,List.getElem?_map]
 simp [hs]
theorem z8I (x:MM) (k r:Nat):(clsR x k r).length = x.1.length:=by unfold clsR;simp
def j0C (x:MM) (k r s t i:Nat):Prop:=eqv x k r s t∧∀ j,j < i→ou x (s:Int) (j:Int) = ou x (t:Int) (j:Int)∧eqv x k r (nxN x s j) (nxN x t j)
theorem same_loop {x:MM} {k:Nat} (h:Pm x k) (N:Nat) {C:Type} (k0:Int→List Int→Int→Int→Int→Bool→MM→List Int→Option C) (r s t:Nat) (hs:s < x.1.length) (ht:t < x.1.length) (n q:Int) (o:List Int) :
   ∀ (F i:Nat),k - i < F→i ≤ k→q3F N F k0 n (clsR x k r) q (s:Int) (t:Int) (decide (j0C x k r s t i)) (i:Int) x o = k0 n (clsR x k r) q (s:Int) (t:Int) (decide (eqv x k (r + 1) s t)) x o
 | 0,i,hF,_=>by omega
 | F + 1,i,hF,hi=>by
   have k3:=h.k3
   rw [z0X]
   unfold q3J
   rw [h.z8P N]
   simp only [Option.bind_some]
   by_cases hlt:i < k
   · have ih:=same_loop h N k0 r s t hs ht n q o F (i + 1) (by omega) (by omega)
     obtain ⟨a1,a2,a3,a4,an,_⟩:=h.step (s:=(s:Int)) (i:=(i:Int)) (by omega) (by omega) (by omega) (by omega)
     obtain ⟨b1,b2,b3,b4,bn,_⟩:=h.step (s:=(t:Int)) (i:=(i:Int)) (by omega) (by omega) (by omega) (by omega)
     have s1:=h.nxB hs hlt
     have t1:=h.nxB ht hlt
     rw [ltT hlt,cond_true,wn i (by omega)]
     by_cases hsm:j0C x k r s t i
     · have hl:=z8I x k r
       have e1:(x.1.getD (Int.toNat (s:Int)) []).getD (Int.toNat (i:Int)) 0 = nx x (s:Int) (i:Int):=rfl
       have e2:(x.1.getD (Int.toNat (t:Int)) []).getD (Int.toNat (i:Int)) 0 = nx x (t:Int) (i:Int):=rfl
       have e3:(x.2.1.getD (Int.toNat (s:Int)) []).getD (Int.toNat (i:Int)) 0 = ou x (s:Int) (i:Int):=rfl
       have e4:(x.2.1.getD (Int.toNat (t:Int)) []).getD (Int.toNat (i:Int)) 0 = ou x (t:Int) (i:Int):=rfl
       rw [decide_eq_true hsm,cond_true,if_pos a2,if_pos a4,if_pos b2,if_pos b4,e3,e4]
       by_cases ho:ou x (s:Int) (i:Int) = ou x (t:Int) (i:Int)
       · rw [show ieq (ou x (s:Int) (i:Int)) (ou x (t:Int) (i:Int)) = true from decide_eq_true ho,cond_true,if_pos a1,if_pos a3,e1,if_pos (show idx (nx x (s:Int) (i:Int)) (clsR x k r).length by rw [hl];exact an),if_pos b1,if_pos b3,e2,if_pos (show idx (nx x (t:Int) (i:Int)) (clsR x k r).length by rw [hl];exact bn)]
         have hc:ieq ((clsR x k r).getD (nx x (s:Int) (i:Int)).toNat 0) ((clsR x k r).getD (nx x (t:Int) (i:Int)).toNat 0) = decide (j0C x k r s t (i + 1)):=by
           have g1:(clsR x k r).getD (nx x (s:Int) (i:Int)).toNat 0 = (lst x k r (nxN x s i):Int):=z0G x k r _ s1.1
           have g2:(clsR x k r).getD (nx x (t:Int) (i:Int)).toNat 0 = (lst x k r (nxN x t i):Int):=z0G x k r _ t1.1
           rw [g1,g2]
           refine decide_eq_decide.2 ?_
           have:=q6P x k r (nxN x s i) (nxN x t i)
           constructor
           · intro h2
             refine ⟨hsm.1,fun j hj=>?_⟩
             by_cases hji:j = i
             · subst hji;exact ⟨ho,this.1 (by omega)⟩
             · exact hsm.2 j (by omega)
           · intro h2
             have:=this.2 (h2.2 i (by omega)).2
             omega
         rw [hc]
         exact ih
       · rw [show ieq (ou x (s:Int) (i:Int)) (ou x (t:Int) (i:Int)) = false from decide_eq_false ho,cond_false]
         rw [decide_eq_false (show ¬ j0C x k r s t (i + 1) from fun h2=>ho (h2.2 i (by omega)).1)] at ih
         exact ih
     · rw [decide_eq_false hsm,cond_false]
       rw [decide_eq_false (show ¬ j0C x k r s t (i + 1) from fun h2=>hsm ⟨h2.1,fun j hj=>h2.2 j (by omega)⟩)] at ih
       exact ih
   · rw [ltF hlt,cond_false]
     have:i = k:=by omega
     subst this
     have:decide (j0C x i r s t i) = decide (eqv x i (r + 1) s t):=by
       refine decide_eq_decide.2 ?_
       rw [h.z0Q hs ht]
       exact ⟨fun g=>g.2,fun g=>⟨((h.z0Q hs ht).2 g).mono (by omega),g⟩⟩
     rw [this]
theorem low21 {x:MM} {k:Nat} (h:Pm x k) (N:Nat) (hN:10 < N) {C:Type} (k0:Int→List Int→Int→Int→MM→List Int→Option C) (r s:Nat) (hs:s < x.1.length) (n q:Int) :
   ∀ (F j c:Nat) (o:List Int),j < F→j ≤ s→o.length = x.1.length→o.getD s 0 = (c:Int) →
     q3B N F k0 n (clsR x k r) q (s:Int) ((j:Int) - 1) x o = k0 n (clsR x k r) q (s:Int) x (o.set s ((lw (fun t=>decide (eqv x k (r + 1) s t)) j c:Nat):Int))
 | 0,j,c,o,hF,_,_,_=>by omega
 | F + 1,0,c,o,hF,_,ho,hc=>by
   rw [q7D]
   unfold q4H
   rw [show decide ((0:Int) ≤ ((0:Nat):Int) - 1) = false from rfl,cond_false]
   simp only [lw]
   rw [set_self o s _ hc (by omega)]
 | F + 1,j + 1,c,o,hF,hj,ho,hc=>by
   have n6:=h.n6
   have k3:=h.k3
   have hl:=z8I x k r
   rw [q7D]
   unfold q4H
   have e1:(((j + 1:Nat):Int) - 1) = (j:Int):=by omega
   have w3:IntKind.wrap .i64 ((j:Int) - 1) = (j:Int) - 1:=w64 (by omega) (by omega)
   rw [e1,show decide ((0:Int) ≤ (j:Int)) = true from decide_eq_true (by omega),cond_true,if_pos (show idx (s:Int) (clsR x k r).length from ⟨by omega,by omega⟩),if_pos (show idx (j:Int) (clsR x k r).length from ⟨by omega,by omega⟩)]
   have hc0:ieq ((clsR x k r).getD (Int.toNat (s:Int)) 0) ((clsR x k r).getD (Int.toNat (j:Int)) 0) = decide (j0C x k r s j 0):=by
     rw [Int.toNat_natCast,Int.toNat_natCast,z0G x k r s hs,z0G x k r j (by omega)]
     refine decide_eq_decide.2 ?_
     have:=q6P x k r s j
     exact ⟨fun g=>⟨this.1 (by omega),fun i hi=>by omega⟩,fun g=>by have:=this.2 g.1;omega⟩
   rw [hc0,z5L]
   have e:=same_loop h N (fun e2 e3 e4 e5 e6 e7 e8 e9=>bif e7 then (if idx e5 e9.length then if e5.toNat < e9.length then q3B N F k0 e2 e3 e4 e5 (IntKind.wrap .i64 (e6 - 1)) e8 (e9.set e5.toNat e6) else none else none) else q3B N F k0 e2 e3 e4 e5 (IntKind.wrap .i64 (e6 - 1)) e8 e9) r s j hs (by omega) n q o N 0 (by omega) (by omega)
   refine Eq.trans e ?_
   have ih1:=low21 h N hN k0 r s hs n q F j c o (by omega) (by omega) ho hc
   have ih2:=low21 h N hN k0 r s hs n q F j j (o.set s (j:Int)) (by omega) (by omega) (by simp [ho]) (z4J _ _ _ (by omega))
   simp only [lw]
   rw [w3]
   by_cases he:eqv x k (r + 1) s j
   · rw [decide_eq_true he,cond_true,cond_true,if_pos (show idx (s:Int) o.length from ⟨by omega,by omega⟩),Int.toNat_natCast,if_pos (by omega),ih2,set_set]
   · rw [decide_eq_false he,cond_false,cond_false,ih1]
theorem state21 {x:MM} {k:Nat} (h:Pm x k) (N:Nat) (hN:10 < N) {C:Type} (k0:Int→Int→MM→List Int→Option C) (r:Nat) (q:Int) :
   ∀ (F s:Nat) (o:List Int),x.1.length - s < F→s ≤ x.1.length→o.length = x.1.length→(∀ t,t < s→o.getD t 0 = (lst x k (r + 1) t:Int)) →
     q6W N F k0 (x.1.length:Int) (clsR x k r) q (s:Int) x o = k0 (x.1.length:Int) q x (clsR x k (r + 1))
 | 0,s,o,hF,_,_,_=>by omega
 | F + 1,s,o,hF,hs,ho,hb=>by
   have n6:=h.n6
   rw [g21L31306f_succ]
   unfold z0T
   by_cases hlt:s < x.1.length
   · rw [ltT hlt,cond_true,if_pos (show idx (s:Int) o.length from ⟨by omega,by omega⟩),Int.toNat_natCast,if_pos (by omega),g21L4007206_eq,w64 (by omega) (by omega)]
     rw [low21 h N hN (fun e10 e11 e12 e13 e14 e15=>q6W N F k0 e10 e11 e12 (IntKind.wrap .i64 (e13 + 1)) e14 e15) r s hlt (x.1.length:Int) q N s s (o.set s (s:Int)) (by omega) (by omega) (by simp [ho]) (z4J _ _ _ (by omega)),set_set,wn s (by omega)]
     refine state21 h N hN k0 r q F (s + 1) _ (by omega) (by omega) ?_ fun t ht=>?_
     · simp [ho]
     · rw [q2Q _ _ _ _ (by omega)]
       split
       · rename_i e;rw [e];rfl
       · exact hb t (by omega)
   · rw [ltF hlt,cond_false]
     have:s = x.1.length:=by omega
     subst this
     have:o = clsR x k (r + 1):=q7W (by rw [ho,z8I]) fun t ht=>by rw [hb t (by omega),z0G x k (r + 1) t (by omega)]
     rw [this]
theorem round21 {x:MM} {k:Nat} (h:Pm x k) (N:Nat) (hN:10 < N) {C:Type} (k0:List Int→MM→Option C) :
   ∀ (F r:Nat),x.1.length - r < F→r ≤ x.1.length→z2Q N F k0 (x.1.length:Int) (clsR x k r) (r:Int) x = k0 (clsA x k) x
 | 0,r,hF,_=>by omega
 | F + 1,r,hF,hr=>by
   have n6:=h.n6
   have mk:mkOk (x.1.length:Int) (x.1.length:Int):=⟨rfl,by omega,by omega⟩
   rw [g21L122f_succ]
   unfold z8U
   by_cases hlt:r < x.1.length
   · rw [ltT hlt,cond_true,if_pos mk,Int.toNat_natCast,g21L31306_eq]
     refine Eq.trans (state21 h N hN (fun e16 e17 e18 e19=>z2Q N F k0 e16 e19 (IntKind.wrap .i64 (e17 + 1)) e18) r (r:Int) N 0 (List.replicate x.1.length 0) (by omega) (by omega) (by simp) (by omega)) ?_
     rw [wn r (by omega)]
     exact round21 h N hN k0 F (r + 1) (by omega) (by omega)
   · rw [ltF hlt,cond_false]
     have:r = x.1.length:=by omega
     subst this
     rfl
theorem Pm.refAlike {x:MM} {k:Nat} (h:Pm x k) (N:Nat) (hN:10 < N):g21 N x = some (clsA x k):=by
 have n6:=h.n6
 have mk:mkOk (x.1.length:Int) (x.1.length:Int):=⟨rfl,by omega,by omega⟩
 unfold g21
 rw [if_pos mk,Int.toNat_natCast,g21L122_eq]
 have:List.replicate x.1.length (0:Int) = clsR x k 0:=q7W (by rw [z8I];simp) fun t ht=>by
   rw [getD_rep0,z0G x k 0 t (by simpa using ht)]
   have:lst x k 0 t = 0:=by
     by_cases h0:lst x k 0 t = 0
     · exact h0
     · exact absurd (eqv_zero x k t 0) ((q1R x k 0 t).2.2 0 (by omega))
   rw [this];rfl
 rw [this]
 exact round21 h N hN (fun e20 e21=>some e20) N 0 (by omega) (by omega)
end Go.Pv
namespace Go.Pv
open Bfs
open Classical
theorem pw_ne {c:Nat→Nat}:∀ {l:List Nat},List.Pairwise (fun a b=>c a ≠ c b) l→∀ {a b:Nat},a ∈ l→b ∈ l→a ≠ b→c a ≠ c b
 | [],_,_,_,ha,_,_=>by simp at ha
 | x :: l,h,a,b,ha,hb,hne=>by
   rw [List.pairwise_cons] at h
   rcases List.mem_cons.1 ha with rfl | ha'
   · rcases List.mem_cons.1 hb with rfl | hb'
     · exact absurd rfl hne
     · exact h.1 b hb'
   · rcases List.mem_cons.1 hb with rfl | hb'
     · exact fun e=>h.1 a ha' e.symm
     · exact pw_ne h.2 ha' hb' hne
def Lab (n:Nat) (c:Nat→Nat) (m:Nat):Prop:=∃ l:List Nat,(∀ s ∈ l,s < n)∧(l.map c).Nodup∧l.length = m
theorem Lab.less {n m q:Nat} {c:Nat→Nat} (h:Lab n c m) (hq:q ≤ m):Lab n c q:=by
 obtain ⟨l,h1,h2,h3⟩:=h
 refine ⟨l.take q,fun s hs=>h1 s (List.mem_of_mem_take hs),?_,by rw [List.length_take];omega⟩
 rw [List.map_take]
 exact List.Sublist.nodup (List.take_sublist _ _) h2
theorem Lab.id (n:Nat):Lab n (fun x=>x) n:=⟨List.range n,fun s hs=>List.mem_range.1 hs,by simpa using List.nodup_range,by simp⟩
theorem filter_len {α:Type} (c:α→Nat) (v:Nat):∀ l:List α,(l.map c).Nodup→l.length ≤ (l.filter fun x=>decide (c x ≠ v)).length + 1
 | [],_=>by simp
 | a :: l,h=>by
   rw [List.map_cons,List.nodup_cons] at h
   by_cases ha:c a = v
   · have:l.filter (fun x=>decide (c x ≠ v)) = l:=List.filter_eq_self.2 fun x hx=>by
       have:c x ≠ c a:=fun e=>h.1 (List.mem_map.2 ⟨x,hx,e⟩)
       rw [ha] at this
       simpa using this
     rw [List.filter_cons,if_neg (by simp [ha]),this]
     simp
   · have:=filter_len c v l h.2
     rw [List.filter_cons,if_pos (by simp [ha])]
     simp only [List.length_cons]
     omega
theorem nodup_map_of {c:Nat→Nat} {c':Nat→Nat} {l:List Nat} (h:(l.map c).Nodup) (he:∀ x ∈ l,c' x = c x):(l.map c').Nodup:=by
 rw [List.map_congr_left he];exact h
theorem merge (n:Nat):∀ ps:List (Nat×Nat),∃ c:Nat→Nat,(∀ q ∈ ps,c q.1 = c q.2)∧Lab n c (n - ps.length)
 | []=>⟨fun x=>x,fun q hq=>by simp at hq,by simpa using Lab.id n⟩
 | (u,v) :: ps=>by
   obtain ⟨c,h1,h2⟩:=merge n ps
   refine ⟨fun x=>if c x = c v then c u else c x,fun q hq=>?_,?_⟩
   · rcases List.mem_cons.1 hq with rfl | hq
     · simp only [if_true]
       split <;> rfl
     · simp only [h1 q hq]
   · obtain ⟨l,l1,l2,l3⟩:=h2
     have hlen:=filter_len c (c v) l l2
     have hL:Lab n (fun x=>if c x = c v then c u else c x) (l.filter fun x=>decide (c x ≠ c v)).length:=by
       refine ⟨l.filter fun x=>decide (c x ≠ c v),fun s hs=>l1 s (List.mem_filter.1 hs).1,?_,rfl⟩
       refine nodup_map_of (c:=c) (List.Sublist.nodup (List.Sublist.map c List.filter_sublist) l2) fun x hx=>?_
       have:=(List.mem_filter.1 hx).2
       have:c x ≠ c v:=by simpa using this
       rw [if_neg this]
     exact hL.less (by simp only [List.length_cons];omega)
theorem sayL_app (x:MM):∀ (w v:List Int) (s:Int),sayL x s (w ++ v) = ((sayL x s w).1 ++ (sayL x (sayL x s w).2 v).1,(sayL x (sayL x s w).2 v).2)
 | [],v,s=>rfl
 | i :: w,v,s=>by
   show (ou x s i :: (sayL x (nx x s i) (w ++ v)).1,(sayL x (nx x s i) (w ++ v)).2) = _
   rw [sayL_app x w v (nx x s i)]
   rfl
def enN (x:MM) (w:List Int) (s:Nat):Nat:=(en x w s).toNat
theorem Pm.enN {x:MM} {k:Nat} (h:Pm x k) {w:List Int} (hw:InW k w) {s:Nat} (hs:s < x.1.length):Go.Pv.enN x w s < x.1.length∧((Go.Pv.enN x w s:Nat):Int) = en x w s:=by
 obtain ⟨h1,h2⟩:=h.end_in w (s:Int) (by omega) (by omega) hw
 have h1:0 ≤ en x w s:=h1
 have h2:en x w s < (x.1.length:Int):=h2
 unfold Go.Pv.enN
 omega
theorem Pm.sd_app {x:MM} {k:Nat} (h:Pm x k) {w v:List Int} (hw:InW k w) {s:Nat} (hs:s < x.1.length):sd x (w ++ v) s = sd x w s ++ sd x v (Go.Pv.enN x w s)∧en x (w ++ v) s = en x v (Go.Pv.enN x w s):=by
 have e:=(h.enN hw hs).2
 unfold sd en
 rw [sayL_app,e]
 exact ⟨rfl,rfl⟩
theorem Pm.enN_app {x:MM} {k:Nat} (h:Pm x k) {w v:List Int} (hw:InW k w) {s:Nat} (hs:s < x.1.length):Go.Pv.enN x (w ++ v) s = Go.Pv.enN x v (Go.Pv.enN x w s):=by
 have:=(h.sd_app (v:=v) hw hs).2
 show (en x (w ++ v) s).toNat = (en x v (Go.Pv.enN x w s)).toNat
 rw [this]
def Fits (x:MM) (w:List Int) (c:Nat→Nat):Prop:=∀ s t,s < x.1.length→t < x.1.length→sd x w s = sd x w t→c (enN x w s) = c (enN x w t)
def SumN (n:Nat):Nat→Nat
 | 0=>0
 | d + 1=>SumN n d + (n - (d + 1))
theorem wd_app (a b:List Nat):wd (a ++ b) = wd a ++ wd b:=by simp
theorem wd_inW {k:Nat} {w:List Nat} (h:∀ i ∈ w,i < k):InW k (wd w):=fun i hi=>by
 obtain ⟨j,hj,rfl⟩:=List.mem_map.1 hi
 have:=h j hj
 omega
def Home (x:MM) (w:List Int):Prop:=∀ s t,s < x.1.length→t < x.1.length→sd x w s = sd x w t→en x w s = en x w t
theorem Lab.inj {n:Nat} {c:Nat→Nat} (h:Lab n c n) {s t:Nat} (hs:s < n) (ht:t < n) (he:c s = c t):s = t:=by
 obtain ⟨l,h1,h2,h3⟩:=h
 have hnd:l.Nodup:=List.Pairwise.of_map c (fun a b h e=>h (by rw [e])) h2
 -- every state stands in the list
 have mem:∀ u,u < n→u ∈ l:=fun u hu=>by
   apply byContradiction
   intro hm
   have:=q4I (L:=u :: l) (M:=List.range n) (List.nodup_cons.2 ⟨hm,hnd⟩) (fun d hd=>by
     rcases List.mem_cons.1 hd with rfl | hd
     · exact List.mem_range.2 hu
     · exact List.mem_range.2 (h1 d hd))
   simp at this
   omega
 apply byContradiction
 intro hne
 have hp:List.Pairwise (fun a b=>c a ≠ c b) l:=List.pairwise_map.1 h2
 have:=pw_ne hp (mem s hs) (mem t ht) hne
 exact this he
theorem step_home {x:MM} {k:Nat} (h:Pm x k) (hun:∀ s t,s < x.1.length→t < x.1.length→eqvA x k s t→s = t) (d:Nat) (hd:d + 1 ≤ x.1.length) (w:List Nat) (hw:∀ i ∈ w,i < k) (c:Nat→Nat) (hf:Fits x (wd w) c)
   (hL:Lab x.1.length c (x.1.length - (d + 1))) (hn:¬ Lab x.1.length c (x.1.length - d)) :
   ∃ (v:List Nat) (c':Nat→Nat),(∀ i ∈ v,i < k)∧v.length ≤ x.1.length - (d + 1)∧Fits x (wd (w ++ v)) c'∧Lab x.1.length c' (x.1.length - d):=by
 -- two states of one label
 obtain ⟨p0,q0,hp0,hq0,hne0,hc0⟩:∃ p q,p < x.1.length∧q < x.1.length∧p ≠ q∧c p = c q:=by
   apply byContradiction
   intro hno
   refine hn (Lab.less (m:=x.1.length) ⟨List.range x.1.length,fun s hs=>List.mem_range.1 hs,?_,by simp⟩ (by omega))
   rw [List.Nodup,List.pairwise_map]
   refine List.Pairwise.imp_of_mem (fun {a b} ha hb hab e=>?_) List.nodup_range
   exact hno ⟨a,b,List.mem_range.1 ha,List.mem_range.1 hb,hab,e⟩
 -- the fewest inputs that tell two of one label apart
 have hex:∃ r,∃ p q,p < x.1.length∧q < x.1.length∧c p = c q∧¬ eqv x k r p q:=by
   apply byContradiction
   intro hno
   refine hne0 (hun p0 q0 hp0 hq0 fun v hv=>?_)
   apply byContradiction
   intro hsd
   exact hno ⟨v.length,p0,q0,hp0,hq0,hc0,fun he=>hsd (he v hv (Nat.le_refl _))⟩
 obtain ⟨r,hr,hmin⟩:∃ r,(∃ p q,p < x.1.length∧q < x.1.length∧c p = c q∧¬ eqv x k r p q)∧∀ r' < r,¬ ∃ p q,p < x.1.length∧q < x.1.length∧c p = c q∧¬ eqv x k r' p q:=by
   obtain ⟨r0,h0⟩:=hex
   induction r0 using Nat.strongRecOn with
   | ind r0 ih =>
     by_cases hs:∃ r',r' < r0∧∃ p q,p < x.1.length∧q < x.1.length∧c p = c q∧¬ eqv x k r' p q
     · obtain ⟨r',h1,h2⟩:=hs
       exact ih r' h1 h2
     · exact ⟨r0,h0,fun r' h1 h2=>hs ⟨r',h1,h2⟩⟩
 obtain ⟨p,q,hp,hq,hcpq,hnpq⟩:=hr
 have hr1:r ≠ 0:=fun e=>hnpq (by rw [e];exact eqv_zero x k p q)
 have same:∀ a b,a < x.1.length→b < x.1.length→c a = c b→eqv x k (r - 1) a b:=fun a b ha hb hab=>by
   apply byContradiction
   intro hno
   exact hmin (r - 1) (by omega) ⟨a,b,ha,hb,hab,hno⟩
 -- there are as many classes as inputs
 have grow:∀ j,j + 1 ≤ r→j + 1 ≤ (reps x k j).length:=by
   intro j
   induction j with
   | zero =>
     intro _
     have h0:0 ∈ reps x k 0:=q2O.2 ⟨by omega,by have:=(q1R x k 0 0).1;omega⟩
     exact List.length_pos_of_mem h0
   | succ j ih =>
     intro hj
     have h1:=ih (by omega)
     have h2:(reps x k j).length + 1 ≤ (reps x k (j + 1)).length:=by
       refine z9K ?_
       apply byContradiction
       intro hno
       -- stable: nothing more is told
       have st:∀ s t,s < x.1.length→t < x.1.length→eqv x k j s t→eqv x k (j + 1) s t:=fun s t hs ht he=>by
         apply byContradiction
         intro hx
         exact hno ⟨s,t,hs,ht,he,hx⟩
       have up:∀ m s t,s < x.1.length→t < x.1.length→eqv x k j s t→eqv x k (j + m) s t:=by
         intro m
         induction m with
         | zero=>intro s t _ _ h;exact h
         | succ m ih2 =>
           intro s t hs ht he
           rw [show j + (m + 1) = (j + m) + 1 by omega,h.z0Q hs ht]
           intro i hi
           obtain ⟨g1,g2⟩:=(h.z0Q hs ht).1 (st s t hs ht he) i hi
           exact ⟨g1,ih2 _ _ (h.nxB hs hi).1 (h.nxB ht hi).1 g2⟩
       have:=up (r - j) p q hp hq ((same p q hp hq hcpq).mono (by omega))
       rw [show j + (r - j) = r by omega] at this
       exact hnpq this
     omega
 have hLr:Lab x.1.length c r:=by
   have h1:=grow (r - 1) (by omega)
   refine Lab.less (m:=(reps x k (r - 1)).length) ⟨reps x k (r - 1),fun s hs=>(q2O.1 hs).1,?_,rfl⟩ (by omega)
   rw [List.Nodup,List.pairwise_map]
   refine List.Pairwise.imp_of_mem (fun {a b} ha hb hab e=>hab ?_) (z6D x k (r - 1))
   have h2:=(q6P x k (r - 1) a b).2 (same a b (q2O.1 ha).1 (q2O.1 hb).1 e)
   rw [(q2O.1 ha).2,(q2O.1 hb).2] at h2
   exact h2
 have hrd:r ≤ x.1.length - (d + 1):=by
   apply byContradiction
   intro hgt
   exact hn (hLr.less (by omega))
 -- the word
 obtain ⟨v,hv,hvl,hvd⟩:∃ v:List Nat,(∀ i ∈ v,i < k)∧v.length ≤ r∧sd x (wd v) p ≠ sd x (wd v) q:=by
   apply byContradiction
   intro hno
   exact hnpq fun v hv hl=>by
     apply byContradiction
     intro hsd
     exact hno ⟨v,hv,hl,hsd⟩
 -- what stays together
 let G:Nat→Nat→Prop:=fun a b=>c a = c b∧sd x (wd v) a = sd x (wd v) b
 let rp:Nat→Nat:=fun a=>lw (fun b=>decide (G b a)) a a
 have rp_spec:∀ a,rp a ≤ a∧G (rp a) a∧∀ b,b < rp a→¬ G b a:=fun a=>by
   refine ⟨lw_le _ a,?_⟩
   rcases lw_spec (fun b=>decide (G b a)) a a with ⟨h1,h2⟩ | ⟨h1,h2,h3⟩
   · have e:rp a = a:=h1
     rw [e]
     exact ⟨⟨rfl,rfl⟩,fun b hb=>by simpa using h2 b hb⟩
   · exact ⟨by simpa using h2,fun b hb=>by simpa using h3 b hb⟩
 have rp_eq:∀ a b,G a b→rp a = rp b:=fun a b hab=>by
   obtain ⟨_,a1,a2⟩:=rp_spec a
   obtain ⟨_,b1,b2⟩:=rp_spec b
   have n1:¬ rp a < rp b:=fun hl=>b2 _ hl ⟨a1.1.trans hab.1,a1.2.trans hab.2⟩
   have n2:¬ rp b < rp a:=fun hl=>a2 _ hl ⟨b1.1.trans hab.1.symm,b1.2.trans hab.2.symm⟩
   omega
 let bad:=(List.range x.1.length).filter fun a=>decide (rp a ≠ a)
 let good:=(List.range x.1.length).filter fun a=>decide (rp a = a)
 have hbg:bad.length + good.length = x.1.length:=by
   have e:∀ l:List Nat,(l.filter fun a=>decide (rp a ≠ a)).length + (l.filter fun a=>decide (rp a = a)).length = l.length:=by
     intro l
     induction l with
     | nil=>rfl
     | cons a l ih =>
       by_cases ha:rp a = a
       · rw [List.filter_cons,if_neg (by simp [ha]),List.filter_cons,if_pos (by simp [ha])]
         simp only [List.length_cons];omega
       · rw [List.filter_cons,if_pos (by simp [ha]),List.filter_cons,if_neg (by simp [ha])]
         simp only [List.length_cons];omega
   have e2:=e (List.range x.1.length)
   rw [List.length_range] at e2
   exact e2
 -- one more than there were labels
 have hgood:x.1.length - d ≤ good.length:=by
   obtain ⟨l,l1,l2,l3⟩:=hL
   have hpw:List.Pairwise (fun a b=>c a ≠ c b) l:=List.pairwise_map.1 l2
   obtain ⟨u,hu,hul⟩:∃ u,u < x.1.length∧∀ a ∈ l,¬ G u a:=by
     by_cases hm:∃ a ∈ l,c a = c p
     · obtain ⟨a,ha,hca⟩:=hm
       have key:∀ u,u < x.1.length→c u = c p→sd x (wd v) u ≠ sd x (wd v) a→∃ u,u < x.1.length∧∀ a ∈ l,¬ G u a:=fun u hu hcu hsu=>by
         refine ⟨u,hu,fun b hb hG=>?_⟩
         by_cases hba:b = a
         · rw [hba] at hG;exact hsu hG.2
         · exact pw_ne hpw hb ha hba (hG.1.symm.trans (hcu.trans hca.symm))
       by_cases hsp:sd x (wd v) p = sd x (wd v) a
       · exact key q hq hcpq.symm fun e=>hvd (hsp.trans e.symm)
       · exact key p hp rfl hsp
     · exact ⟨p,hp,fun a ha hG=>hm ⟨a,ha,hG.1.symm⟩⟩
   have hnd:((u :: l).map rp).Nodup:=by
     rw [List.map_cons,List.nodup_cons]
     refine ⟨fun hm=>?_,?_⟩
     · obtain ⟨a,ha,e⟩:=List.mem_map.1 hm
       have g1:=(rp_spec a).2.1
       have g2:=(rp_spec u).2.1
       rw [e] at g1
       exact hul a ha ⟨g2.1.symm.trans g1.1,g2.2.symm.trans g1.2⟩
     · rw [List.Nodup,List.pairwise_map]
       refine List.Pairwise.imp (fun {a b} hab e=>hab ?_) hpw
       have g1:=(rp_spec a).2.1
       have g2:=(rp_spec b).2.1
       rw [e] at g1
       exact g1.1.symm.trans g2.1
   have:=q4I hnd (M:=good) (fun y hy=>by
     obtain ⟨a,ha,rfl⟩:=List.mem_map.1 hy
     have ha2:a < x.1.length:=by
       rcases List.mem_cons.1 ha with rfl | ha
       · exact hu
       · exact l1 a ha
     have:=(rp_spec a).1
     refine List.mem_filter.2 ⟨List.mem_range.2 (by omega),?_⟩
     exact decide_eq_true (rp_eq _ _ (rp_spec a).2.1))
   simp only [List.length_map,List.length_cons] at this
   omega
 obtain ⟨c',g1,g2⟩:=merge x.1.length (bad.map fun a=>(enN x (wd v) a,enN x (wd v) (rp a)))
 have hc':∀ a,a < x.1.length→c' (enN x (wd v) a) = c' (enN x (wd v) (rp a)):=fun a ha=>by
   by_cases e:rp a = a
   · rw [e]
   · exact g1 (enN x (wd v) a,enN x (wd v) (rp a)) (List.mem_map.2 ⟨a,List.mem_filter.2 ⟨List.mem_range.2 ha,by simpa using e⟩,rfl⟩)
 refine ⟨v,c',hv,by omega,fun s t hs ht hst=>?_,g2.less (by simp only [List.length_map];omega)⟩
 have hwW:=wd_inW hw
 rw [wd_app] at hst ⊢
 rw [(h.sd_app hwW hs).1,(h.sd_app hwW ht).1] at hst
 have hl:(sd x (wd w) s).length = (sd x (wd w) t).length:=by rw [sd_len,sd_len]
 obtain ⟨e1,e2⟩:=List.append_inj hst hl
 rw [h.enN_app hwW hs,h.enN_app hwW ht,hc' _ (h.enN hwW hs).1,hc' _ (h.enN hwW ht).1,rp_eq _ _ ⟨hf s t hs ht e1,e2⟩]
theorem home {x:MM} {k:Nat} (h:Pm x k) (hun:∀ s t,s < x.1.length→t < x.1.length→eqvA x k s t→s = t):∀ (d:Nat) (w:List Nat) (c:Nat→Nat),d ≤ x.1.length→(∀ i ∈ w,i < k)→Fits x (wd w) c→Lab x.1.length c (x.1.length - d) →
   ∃ v:List Nat,(∀ i ∈ v,i < k)∧v.length ≤ SumN x.1.length d∧Home x (wd (w ++ v))
 | 0,w,c,_,hw,hf,hL=>⟨[],by simp,by simp,fun s t hs ht e=>by
   rw [List.append_nil] at e ⊢
   have hwW:=wd_inW hw
   have:=hL.inj (h.enN hwW hs).1 (h.enN hwW ht).1 (hf s t hs ht e)
   rw [← (h.enN hwW hs).2,← (h.enN hwW ht).2,this]⟩
 | d + 1,w,c,hd,hw,hf,hL=>by
   by_cases hmore:Lab x.1.length c (x.1.length - d)
   · obtain ⟨v,v1,v2,v3⟩:=home h hun d w c (by omega) hw hf hmore
     exact ⟨v,v1,by simp only [SumN];omega,v3⟩
   · obtain ⟨v,c',v1,v2,v3,v4⟩:=step_home h hun d hd w hw c hf hL hmore
     obtain ⟨u,u1,u2,u3⟩:=home h hun d (w ++ v) c' (by omega) (fun i hi=>by
       rcases List.mem_append.1 hi with hi | hi
       · exact hw i hi
       · exact v1 i hi) v3 v4
     refine ⟨v ++ u,fun i hi=>?_,by rw [List.length_append];simp only [SumN];omega,by rw [← List.append_assoc];exact u3⟩
     rcases List.mem_append.1 hi with hi | hi
     · exact v1 i hi
     · exact u1 i hi
theorem Pm.homes {x:MM} {k:Nat} (h:Pm x k) (hun:∀ s t,s < x.1.length→t < x.1.length→eqvA x k s t→s = t):∃ v:List Nat,(∀ i ∈ v,i < k)∧2 * v.length ≤ x.1.length * (x.1.length - 1)∧Home x (wd v):=by
 have n1:=h.n1
 have n6:=h.n6
 obtain ⟨v,v1,v2,v3⟩:=home h hun (x.1.length - 1) [] (fun _=>0) (by omega) (by simp) (fun _ _ _ _ _=>rfl) ⟨[0],fun s hs=>by rw [List.mem_singleton.1 hs];omega,by simp,by simp;omega⟩
 refine ⟨v,v1,?_,by simpa using v3⟩
 have:2 * SumN x.1.length (x.1.length - 1) ≤ x.1.length * (x.1.length - 1):=by
   generalize x.1.length = n at n1 n6
   rcases n with _ | _ | _ | _ | _ | _ | _ | n
   all_goals first | omega | (simp only [SumN];omega) | decide
 omega
end Go.Pv
namespace Go.Pv
open Bfs
theorem idx_first (t:Int):∀ (l:List Int) (q:Nat),q < l.length→l.getD q 0 = t→(∀ p,p < q→l.getD p 0 ≠ t)→l.idxOf t = q
 | [],q,h,_,_=>by simp at h
 | a :: l,0,_,he,_=>by
   have he:a = t:=by simpa using he
   rw [he];simp
 | a :: l,q + 1,h,he,hn=>by
   have h0:a ≠ t:=by simpa using hn 0 (by omega)
   have hb:(a == t) = false:=by simpa using h0
   rw [List.idxOf_cons,hb,cond_false,idx_first t l q (by simpa using h) (by simpa using he) fun p hp=>by simpa using hn (p + 1) (by omega)]
theorem q8D (t:Int):∀ (l:List Int),t ∉ l→l.idxOf t = l.length
 | [],_=>rfl
 | a :: l,h=>by
   have h0:a ≠ t:=fun e=>h (by rw [e];exact List.mem_cons_self)
   have hb:(a == t) = false:=by simpa using h0
   rw [List.idxOf_cons,hb,cond_false,q8D t l fun e=>h (List.mem_cons_of_mem _ e)]
   rfl
theorem idx_lt (t:Int):∀ (l:List Int),t ∈ l→l.idxOf t < l.length
 | [],h=>by simp at h
 | a :: l,h=>by
   rw [List.idxOf_cons]
   cases hb:a == t with
   | true=>simp
   | false =>
     have:t ∈ l:=by
       rcases List.mem_cons.1 h with e | e
       · rw [e] at hb;simp at hb
       · exact e
     have:=idx_lt t l this
     simp;exact this
structure VL (n:Nat) (l:List Int):Prop where
 nod:l.Nodup
 rng:∀ t ∈ l,0 ≤ t∧t < (n:Int)
theorem VL.len {n:Nat} (hn:n ≤ 6) {l:List Int} (h:VL n l):l.length ≤ n:=by
 have:=q4I h.nod (M:=(List.range n).map fun (i:Nat)=>(i:Int)) fun t ht=>by
   obtain ⟨h1,h2⟩:=h.rng t ht
   exact List.mem_map.2 ⟨t.toNat,List.mem_range.2 (by omega),by omega⟩
 simpa using this
def grow (l:List Int) (t:Int):List Int:=if t ∈ l then l else l ++ [t]
theorem VL.grow {n:Nat} {l:List Int} (h:VL n l) {t:Int} (h1:0 ≤ t∧t < (n:Int)):VL n (Go.Pv.grow l t):=by
 unfold Go.Pv.grow
 split
 · exact h
 · rename_i hm
   refine ⟨?_,fun u hu=>?_⟩
   · rw [List.nodup_append]
     exact ⟨h.nod,by simp,fun a ha b hb=>by rw [List.mem_singleton.1 hb];exact fun e=>hm (e ▸ ha)⟩
   · rcases List.mem_append.1 hu with hu | hu
     · exact h.rng u hu
     · rw [List.mem_singleton.1 hu];exact h1
theorem grow_len (l:List Int) (t:Int):l.length ≤ (grow l t).length:=by unfold grow;split <;> simp
theorem grow_get (l:List Int) (t:Int) (i:Nat) (hi:i < l.length):(grow l t).getD i 0 = l.getD i 0:=by
 unfold grow
 split
 · rfl
 · rw [q9V,if_pos hi]
def tgt (cl:List Int) (x:MM) (s:Int) (j:Nat):Int:=cl.getD (nx x s (j:Int)).toNat 0
def rowL (cl:List Int) (x:MM) (s:Int):Nat→Nat→List Int→List Int→List Int×List Int
 | 0,_,l,r=>(l,r)
 | c + 1,j,l,r=>rowL cl x s c (j + 1) (grow l (tgt cl x s j)) (r ++ [((l.idxOf (tgt cl x s j):Nat):Int)])
def q6H (cl:List Int) (x:MM) (k:Nat):Nat→Nat→List Int→List (List Int)→List (List Int)→Option (List (List Int)×List (List Int))
 | 0,_,_,_,_=>none
 | F + 1,i,l,nx,out=>if i < l.length then q6H cl x k F (i + 1) (rowL cl x (l.getD i 0) k 0 l []).1 (nx ++ [(rowL cl x (l.getD i 0) k 0 l []).2]) (out ++ [x.2.1.getD (l.getD i 0).toNat []]) else some (nx,out)
theorem Pm.tgt {x:MM} {k:Nat} (h:Pm x k) {s:Int} (hs:0 ≤ s∧s < (x.1.length:Int)) {j:Nat} (hj:j < k):0 ≤ tgt (clsA x k) x s j∧tgt (clsA x k) x s j < (x.1.length:Int):=by
 obtain ⟨_,_,_,_,n1,_⟩:=h.step hs.1 hs.2 (i:=(j:Int)) (by omega) (by omega)
 unfold Go.Pv.tgt
 rw [q6N x k _ (by omega)]
 have:=(q1R x k x.1.length (nx x s (j:Int)).toNat).1
 omega
theorem Pm.rowL {x:MM} {k:Nat} (h:Pm x k) {s:Int} (hs:0 ≤ s∧s < (x.1.length:Int)):∀ (c j:Nat) (l r:List Int),j + c = k→VL x.1.length l →
   VL x.1.length (rowL (clsA x k) x s c j l r).1∧(rowL (clsA x k) x s c j l r).2.length = r.length + c∧l.length ≤ (rowL (clsA x k) x s c j l r).1.length∧(∀ i,i < l.length→(rowL (clsA x k) x s c j l r).1.getD i 0 = l.getD i 0)
 | 0,j,l,r,_,hv=>⟨hv,rfl,Nat.le_refl _,fun _ _=>rfl⟩
 | c + 1,j,l,r,hj,hv=>by
   obtain ⟨h1,h2,h3,h4⟩:=h.rowL hs c (j + 1) (grow l (Go.Pv.tgt (clsA x k) x s j)) (r ++ [((l.idxOf (Go.Pv.tgt (clsA x k) x s j):Nat):Int)]) (by omega) (hv.grow (h.tgt hs (by omega)))
   have hg:=grow_len l (Go.Pv.tgt (clsA x k) x s j)
   refine ⟨h1,?_,?_,fun i hi=>?_⟩
   · show (Go.Pv.rowL (clsA x k) x s c (j + 1) _ _).2.length = _
     rw [h2];simp;omega
   · exact Nat.le_trans hg h3
   · exact (h4 i (by omega)).trans (grow_get l _ i hi)
theorem Pm.q6H {x:MM} {k:Nat} (h:Pm x k):∀ (F i:Nat) (l:List Int) (nx out:List (List Int)),x.1.length - i < F→i ≤ l.length→VL x.1.length l→nx.length = i→out.length = i→(∀ r ∈ nx,r.length = k)→(∀ r ∈ out,r.length = k) →
   ∃ res,q6H (clsA x k) x k F i l nx out = some res∧res.1.length ≤ 6∧res.2.length ≤ 6∧(∀ r ∈ res.1,r.length = k)∧(∀ r ∈ res.2,r.length = k)
 | 0,i,l,nx,out,hF,_,_,_,_,_,_=>by omega
 | F + 1,i,l,nx,out,hF,hi,hv,h1,h2,h3,h4=>by
   have n6:=h.n6
   have hl:=hv.len n6
   unfold Go.Pv.q6H
   by_cases hlt:i < l.length
   · rw [if_pos hlt]
     have hs:=hv.rng _ (q0Q hlt 0)
     obtain ⟨r1,r2,r3,r4⟩:=h.rowL hs k 0 l [] (by omega) hv
     refine h.q6H F (i + 1) _ _ _ (by omega) (by omega) r1 (by simp [h1]) (by simp [h2]) (fun r hr=>?_) (fun r hr=>?_)
     · rcases List.mem_append.1 hr with hr | hr
       · exact h3 r hr
       · rw [List.mem_singleton.1 hr,r2];simp
     · rcases List.mem_append.1 hr with hr | hr
       · exact h4 r hr
       · rw [List.mem_singleton.1 hr]
         have ho:=h.out
         exact (h.rowO _ (q0Q (i:=(l.getD i 0).toNat) (by omega) [])).1
   · rw [if_neg hlt]
     exact ⟨_,rfl,by simp only;omega,by simp only;omega,h3,h4⟩
theorem find24 {x:MM} (N:Nat) {C:Type} (k0:List Int→Int→Int→Int→Int→MM→List Int→List Int→List Int→List (List Int)→List (List Int)→List (List Int)→List (List Int)→Option C) (cl:List Int) (i j t:Int) (nx sy l:List Int) (hl:l.length ≤ 6) (A B D E:List (List Int)) :
   ∀ (F q:Nat),l.length - q < F→q ≤ l.length→(∀ p,p < q→l.getD p 0 ≠ t)→q5E N F k0 cl i j t (q:Int) x nx sy l A B D E = k0 cl i j t ((l.idxOf t:Nat):Int) x nx sy l A B D E
 | 0,q,hF,_,_=>by omega
 | F + 1,q,hF,hq,hn=>by
   rw [z5B]
   unfold q4V
   by_cases hlt:q < l.length
   · rw [ltT hlt,cond_true,if_pos (idxT hlt),Int.toNat_natCast,if_pos hlt]
     by_cases he:l.getD q 0 = t
     · rw [show ieq (l.getD q 0) t = true from decide_eq_true he,Bool.not_true,cond_false,idx_first t l q hlt he hn]
     · rw [show ieq (l.getD q 0) t = false from decide_eq_false he,Bool.not_false,cond_true,wn q (by omega)]
       exact find24 N k0 cl i j t nx sy l hl A B D E F (q + 1) (by omega) (by omega) fun p hp=>by
         by_cases hpq:p = q
         · rw [hpq];exact he
         · exact hn p (by omega)
   · rw [ltF hlt,cond_false]
     have:q = l.length:=by omega
     subst this
     rw [q8D t l fun hm=>by
       obtain ⟨p,hp,e⟩:=List.mem_iff_getElem.1 hm
       exact hn p hp (by rw [List.getD_eq_getElem?_getD,List.getElem?_eq_getElem hp];exact e)]
theorem row24 {x:MM} {k:Nat} (h:Pm x k) (N:Nat) (hN:10 < N) {C:Type} (k0:List Int→Int→MM→List Int→List Int→List Int→List (List Int)→List (List Int)→List (List Int)→List (List Int)→Option C) (i:Nat) (s:Int) (hs:0 ≤ s∧s < (x.1.length:Int)) (A B D E:List (List Int)) :
   ∀ (F c j:Nat) (l nx:List Int),c < F→j + c = k→VL x.1.length l→i < l.length→l.getD i 0 = s→nx.length = j →
     z0V N F k0 (clsA x k) (i:Int) (j:Int) x nx ((x.2.1.getD s.toNat []).take j) l A B D E = k0 (clsA x k) (i:Int) x (rowL (clsA x k) x s c j l nx).2 (x.2.1.getD s.toNat []) (rowL (clsA x k) x s c j l nx).1 A B D E
 | 0,c,j,l,nx,hF,_,_,_,_,_=>by omega
 | F + 1,0,j,l,nx,hF,hj,hv,hi,hs2,hnl=>by
   rw [q9N]
   unfold q7E
   rw [h.z8P N]
   simp only [Option.bind_some]
   have:j = k:=by omega
   subst this
   have ho:=h.out
   rw [ltF (Nat.lt_irrefl j),cond_false,List.take_of_length_le (Nat.le_of_eq (h.rowO _ (q0Q (i:=s.toNat) (by omega) [])).1)]
   rfl
 | F + 1,c + 1,j,l,nx,hF,hj,hv,hi,hs2,hnl=>by
   have n6:=h.n6
   have k3:=h.k3
   have hl:=hv.len n6
   have hlt:j < k:=by omega
   obtain ⟨a1,a2,a3,a4,an,_⟩:=h.step hs.1 hs.2 (i:=(j:Int)) (by omega) (by omega)
   have ho:=h.out
   have hro:=(h.rowO _ (q0Q (i:=s.toNat) (by omega) [])).1
   have hcl:(clsA x k).length = x.1.length:=by unfold clsA;simp
   have ht:=h.tgt hs hlt
   rw [q9N]
   unfold q7E
   rw [h.z8P N]
   simp only [Option.bind_some]
   have e1:(x.1.getD s.toNat []).getD j 0 = Go.Pv.nx x s (j:Int):=by unfold Go.Pv.nx;rw [Int.toNat_natCast]
   have e2:(clsA x k).getD (Go.Pv.nx x s (j:Int)).toNat 0 = tgt (clsA x k) x s j:=rfl
   have hsy:((x.2.1.getD s.toNat []).take j).length = j:=by rw [List.length_take];omega
   rw [ltT hlt,cond_true,if_pos (idxT hi),Int.toNat_natCast,if_pos hi,hs2,if_pos a1,if_pos a3,Int.toNat_natCast,e1,if_pos (show idx (Go.Pv.nx x s (j:Int)) (clsA x k).length by rw [hcl];exact an),e2,j1D]
   refine Eq.trans (find24 N _ (clsA x k) (i:Int) (j:Int) (tgt (clsA x k) x s j) nx ((x.2.1.getD s.toNat []).take j) l (by omega) A B D E N 0 (by omega) (by omega) (by omega)) ?_
   have i1:(idx (i:Int) l.length) = True:=eq_true (idxT hi)
   have m1:∀ v:Int,(nx.length + [v].length ≤ maxCount) = True:=fun v=>eq_true (by simp [maxCount];omega)
   have m2:∀ v:Int,(((x.2.1.getD s.toNat []).take j).length + [v].length ≤ maxCount) = True:=fun v=>eq_true (by rw [hsy];simp [maxCount];omega)
   have nxt:=fun l' hv' hi' hs'=>row24 h N hN k0 i s hs A B D E F c (j + 1) l' (nx ++ [((l.idxOf (tgt (clsA x k) x s j):Nat):Int)]) (by omega) (by omega) hv' hi' hs' (by simp [hnl])
   have htk:=j0R (x.2.1.getD s.toNat []) j 0 (by omega)
   by_cases hm:tgt (clsA x k) x s j ∈ l
   · have hidx:=idx_lt _ l hm
     have hne:ieq ((l.idxOf (tgt (clsA x k) x s j):Nat):Int) ((l.length:Nat):Int) = false:=decide_eq_false (by omega)
     simp only [hne,cond_false,m1,if_true,i1,Int.toNat_natCast,eq_true hi,hs2,eq_true a2,eq_true a4,m2,wn j (by omega),htk]
     have:=nxt l hv hi hs2
     simp only [rowL,grow,if_pos hm]
     exact this
   · have hidx:=q8D _ l hm
     have he:ieq ((l.idxOf (tgt (clsA x k) x s j):Nat):Int) ((l.length:Nat):Int) = true:=decide_eq_true (by omega)
     have m3:∀ v:Int,(l.length + [v].length ≤ maxCount) = True:=fun v=>eq_true (by simp [maxCount];omega)
     have i2:(idx (i:Int) (l ++ [tgt (clsA x k) x s j]).length) = True:=eq_true ⟨by omega,by simp;omega⟩
     have i3:(i < (l ++ [tgt (clsA x k) x s j]).length) = True:=eq_true (by simp;omega)
     have i4:(l ++ [tgt (clsA x k) x s j]).getD i 0 = s:=by rw [q9V,if_pos hi];exact hs2
     simp only [he,cond_true,m1,m3,if_true,i2,i3,i4,Int.toNat_natCast,eq_true a2,eq_true a4,m2,wn j (by omega),htk]
     have hg:grow l (tgt (clsA x k) x s j) = l ++ [tgt (clsA x k) x s j]:=if_neg hm
     have:=nxt (grow l (tgt (clsA x k) x s j)) (hv.grow ht) (by rw [hg];simp;omega) (by rw [hg];exact i4)
     simp only [rowL]
     rw [hg] at this ⊢
     exact this
theorem form24 {x:MM} {k:Nat} (h:Pm x k) (N:Nat) (hN:10 < N) {C:Type} (k0:MM→List Int→List (List Int)→List (List Int)→List (List Int)→List (List Int)→Option C) (A B:List (List Int)) :
   ∀ (F i:Nat) (l:List Int) (nx out:List (List Int)) (res:List (List Int)×List (List Int)),VL x.1.length l→i ≤ l.length→nx.length = i→out.length = i→q6H (clsA x k) x k F i l nx out = some res →
     ∃ l',z2V N F k0 (clsA x k) (i:Int) x l A B nx out = k0 x l' A B res.1 res.2
 | 0,i,l,nx,out,res,_,_,_,_,h0=>by simp [q6H] at h0
 | F + 1,i,l,nx,out,res,hv,hi,h1,h2,h0=>by
   have n6:=h.n6
   have hl:=hv.len n6
   rw [g24L250f_succ]
   unfold z8T
   unfold q6H at h0
   by_cases hlt:i < l.length
   · rw [if_pos hlt] at h0
     have hs:=hv.rng _ (q0Q hlt 0)
     obtain ⟨r1,r2,r3,r4⟩:=h.rowL hs k 0 l [] (by omega) hv
     rw [ltT hlt,cond_true,g24L64074_eq]
     have e:=row24 h N hN (fun e16 e17 e18 e19 e20 e21 e22 e23 e24 e25=>if e24.length + [e19].length ≤ maxCount then if e25.length + [e20].length ≤ maxCount then z2V N F k0 e16 (IntKind.wrap .i64 (e17 + 1)) e18 e21 e22 e23 (e24 ++ [e19]) (e25 ++ [e20]) else none else none) i (l.getD i 0) hs A B nx out N k 0 l [] (by have:=h.k3;omega) (by omega) hv hlt rfl rfl
     obtain ⟨l',e'⟩:=form24 h N hN k0 A B F (i + 1) _ _ _ res r1 (by omega) (by simp [h1]) (by simp [h2]) h0
     refine ⟨l',?_⟩
     refine Eq.trans e ?_
     rw [if_pos (by simp [maxCount];omega),if_pos (by simp [maxCount];omega),wn i (by omega)]
     exact e'
   · rw [if_neg hlt] at h0
     obtain rfl:=Option.some.inj h0
     rw [ltF hlt,cond_false]
     exact ⟨l,rfl⟩
theorem VL.zero {n:Nat} (h:1 ≤ n):VL n [0]:=⟨by simp,fun t ht=>by rw [List.mem_singleton.1 ht];omega⟩
theorem Pm.refForm {x:MM} {k:Nat} (h:Pm x k) (N:Nat) (hN:10 < N) {res:List (List Int)×List (List Int)} (hf:Go.Pv.q6H (clsA x k) x k N 0 [0] [] [] = some res):g24 N x = some (res.1,res.2,()):=by
 have n1:=h.n1
 unfold g24
 rw [h.refAlike N hN]
 have hl:(clsA x k).length = x.1.length:=by unfold clsA;simp
 simp only [Option.bind_some]
 have h0:(clsA x k).getD (Int.toNat 0) 0 = 0:=by
   show (clsA x k).getD 0 0 = 0
   rw [q6N x k 0 (by omega)]
   have:=(q1R x k x.1.length 0).1
   omega
 rw [if_pos (show idx 0 (clsA x k).length from ⟨by omega,by omega⟩),h0,g24L250_eq]
 obtain ⟨l',e⟩:=form24 h N hN (fun e26 e27 e28 e29 e30 e31=>some (e30,e31,())) [] [] N 0 [0] [] [] res (VL.zero n1) (by simp) rfl rfl hf
 exact e
theorem cat_eq (N:Nat) (hN:10 < N) (w:List Int) (v:Int) (hw:w.length ≤ 1000):g84 N [w,[v]] = some (w ++ [v]):=by
 obtain ⟨M,rfl⟩:∃ M,N = M + 3:=⟨N - 3,by omega⟩
 have d0:decide ((0:Int) < ((2:Nat):Int)) = true:=rfl
 have d1:decide ((1:Int) < ((2:Nat):Int)) = true:=rfl
 have d2:decide ((2:Int) < ((2:Nat):Int)) = false:=rfl
 have i0:(idx (0:Int) 2) = True:=eq_true ⟨by omega,by omega⟩
 have i1:(idx (1:Int) 2) = True:=eq_true ⟨by omega,by omega⟩
 have w0:IntKind.wrap .i64 ((0:Int) + 1) = 1:=w64 (by omega) (by omega)
 have w1:IntKind.wrap .i64 ((1:Int) + 1) = 2:=w64 (by omega) (by omega)
 have s0:IntKind.wrap .i64 (0 + ((w.length:Nat):Int)) = (w.length:Int):=by rw [w64 (by omega) (by omega)];omega
 have s1:IntKind.wrap .i64 (((w.length:Nat):Int) + ((1:Nat):Int)) = ((w.length + 1:Nat):Int):=by rw [w64 (by omega) (by omega)];omega
 have c0:decide (((w.length:Nat):Int) < 0) = false:=decide_eq_false (by omega)
 have c1:decide (((w.length + 1:Nat):Int) < 0) = false:=decide_eq_false (by omega)
 have len2:([w,[v]]:List (List Int)).length = 2:=rfl
 have g0:([w,[v]]:List (List Int)).getD (Int.toNat 0) [] = w:=rfl
 have g1:([w,[v]]:List (List Int)).getD (Int.toNat 1) [] = [v]:=rfl
 have l1:([v]:List Int).length = 1:=rfl
 have gr:g109x (M + 3) ((w.length + 1:Nat):Int) = some ((((),()),((),()),(([]:List Int),())):(g109xS).R):=by
   unfold g109x
   have z:IntKind.wrap .i64 ((0:Int) - 0) = 0:=w64 (by omega) (by omega)
   have z2:IntKind.wrap .i64 (((w.length + 1:Nat):Int) - 0) = ((w.length + 1:Nat):Int):=by rw [w64 (by omega) (by omega)];omega
   rw [c1,cond_false,z,z2,decide_eq_true (by omega),cond_true,if_pos ⟨by omega,by omega⟩,if_pos ⟨by omega,by omega,by omega⟩]
   rfl
 unfold g84
 rw [g84L58_eq,q9C]
 unfold z1T
 simp only [len2,d0,cond_true,i0,if_true,g0,s0,c0,cond_false,w0]
 rw [q9C]
 unfold z1T
 simp only [d1,cond_true,len2,i1,if_true,g1,l1,s1,c1,cond_false,w1]
 rw [q9C]
 unfold z1T
 simp only [d2,cond_false,gr,Option.bind_some]
 rw [g84L250_eq,q7U]
 unfold q8E
 simp only [len2,d0,cond_true,i0,if_true,g0,w0]
 rw [if_pos (by simp [maxCount];omega),q7U]
 unfold q8E
 simp only [d1,cond_true,len2,i1,if_true,g1,w1]
 rw [if_pos (by simp [maxCount];omega),q7U]
 unfold q8E
 simp only [d2,cond_false]
 rfl
theorem beqI (a b:Int):Ty.beq (.int .i64) a b = decide (a = b):=rfl
abbrev NM:=List (Int×Int)
def Num (mp:NM) (l:List Int):Prop:=∀ t,q0C (Ty.beq (.int .i64)) t mp = if t ∈ l then some ((l.idxOf t:Nat):Int) else none
theorem Num.put {mp:NM} {l:List Int} (h:Num mp l) {t:Int} (hm:t ∉ l):Num (q0S (Ty.beq (.int .i64)) t ((l.length:Nat):Int) mp) (l ++ [t]):=by
 intro u
 rw [q2L _ beqI]
 by_cases hu:u = t
 · subst hu
   rw [if_pos rfl,if_pos (by simp),List.idxOf_append,if_neg hm]
   simp
 · rw [if_neg hu,h u]
   by_cases hul:u ∈ l
   · rw [if_pos hul,if_pos (by simp [hul]),List.idxOf_append,if_pos hul]
   · rw [if_neg hul,if_neg (by simp [hul,hu])]
def Wys (ws:List (List Int)) (l:List Int):Prop:=ws.length = l.length∧∀ j,j < ws.length→(ws.getD j []).length ≤ j
theorem row60 {x:MM} {k:Nat} (h:Pm x k) (N:Nat) (hN:10 < N) {C:Type} (k0:List Int→Int→Int→MM→List Int→NM→List Int→List (List Int)→List (List Int)→List (List Int)→List (List Int)→List (List Int)→Option C) (i:Nat) (s:Int) (hs:0 ≤ s∧s < (x.1.length:Int)) (A B D E:List (List Int)) :
   ∀ (F c j:Nat) (l r:List Int) (mp:NM) (ws:List (List Int)),c < F→j + c = k→VL x.1.length l→i < l.length→r.length = j→Num mp l→Wys ws l →
     ∃ mp' ws',Num mp' (rowL (clsA x k) x s c j l r).1∧Wys ws' (rowL (clsA x k) x s c j l r).1 ∧
       q8B N F k0 (clsA x k) (i:Int) s (x.1.getD s.toNat []) (k:Int) (j:Int) x r mp l ws A B D E = k0 (clsA x k) (i:Int) s x (rowL (clsA x k) x s c j l r).2 mp' (rowL (clsA x k) x s c j l r).1 ws' A B D E
 | 0,c,j,l,r,mp,ws,hF,_,_,_,_,_,_=>by omega
 | F + 1,0,j,l,r,mp,ws,hF,hj,hv,hi,hr,hn,hw=>by
   rw [q8H]
   unfold q3S
   have:j = k:=by omega
   subst this
   rw [ltF (Nat.lt_irrefl j),cond_false]
   exact ⟨mp,ws,hn,hw,rfl⟩
 | F + 1,c + 1,j,l,r,mp,ws,hF,hj,hv,hi,hr,hn,hw=>by
   have n6:=h.n6
   have k3:=h.k3
   have hl:=hv.len n6
   have hlt:j < k:=by omega
   obtain ⟨a1,a2,a3,a4,an,_⟩:=h.step hs.1 hs.2 (i:=(j:Int)) (by omega) (by omega)
   have hcl:(clsA x k).length = x.1.length:=by unfold clsA;simp
   have ht:=h.tgt hs hlt
   rw [q8H]
   unfold q3S
   have e1:(x.1.getD s.toNat []).getD j 0 = nx x s (j:Int):=by unfold nx;rw [Int.toNat_natCast]
   have e2:(clsA x k).getD (nx x s (j:Int)).toNat 0 = tgt (clsA x k) x s j:=rfl
   have m1:∀ v:Int,(r.length + [v].length ≤ maxCount) = True:=fun v=>eq_true (by simp [maxCount];omega)
   rw [ltT hlt,cond_true,if_pos a3,Int.toNat_natCast,e1,if_pos (show idx (nx x s (j:Int)) (clsA x k).length by rw [hcl];exact an),e2]
   by_cases hm:tgt (clsA x k) x s j ∈ l
   · have hf:=hn (tgt (clsA x k) x s j)
     rw [if_pos hm] at hf
     have hrw:rowL (clsA x k) x s (c + 1) j l r = rowL (clsA x k) x s c (j + 1) l (r ++ [((l.idxOf (tgt (clsA x k) x s j):Nat):Int)]):=by simp only [rowL,grow,if_pos hm]
     rw [hf,hrw]
     simp only [Option.isSome_some,Bool.not_true,cond_false,Option.getD_some,m1,if_true,wn j (by omega)]
     exact row60 h N hN k0 i s hs A B D E F c (j + 1) l _ mp ws (by omega) (by omega) hv hi (by simp [hr]) hn hw
   · have hf:=hn (tgt (clsA x k) x s j)
     rw [if_neg hm] at hf
     have hg:grow l (tgt (clsA x k) x s j) = l ++ [tgt (clsA x k) x s j]:=if_neg hm
     have hidx:=q8D _ l hm
     have hrw:rowL (clsA x k) x s (c + 1) j l r = rowL (clsA x k) x s c (j + 1) (l ++ [tgt (clsA x k) x s j]) (r ++ [((l.length:Nat):Int)]):=by simp only [rowL,hg,hidx]
     have hp:q0C (Ty.beq (.int .i64)) (tgt (clsA x k) x s j) (q0S (Ty.beq (.int .i64)) (tgt (clsA x k) x s j) ((l.length:Nat):Int) mp) = some ((l.length:Nat):Int):=by rw [q2L _ beqI,if_pos rfl]
     have hwi:i < ws.length:=by rw [hw.1];exact hi
     have hwl:=hw.2 i hwi
     have m3:∀ v:Int,(l.length + [v].length ≤ maxCount) = True:=fun v=>eq_true (by simp [maxCount];omega)
     have hwl2:=hw.1
     have m4:∀ v:List Int,(ws.length + [v].length ≤ maxCount) = True:=fun v=>eq_true (by simp [maxCount];omega)
     rw [hf,hrw]
     simp only [Option.isSome_none,Bool.not_false,cond_true,m3,if_true,eq_true (idxT hwi),Int.toNat_natCast,eq_true hwi,cat_eq N hN (ws.getD i []) (j:Int) (by omega),Option.bind_some,m4,hp,Option.getD_some,m1,wn j (by omega)]
     refine row60 h N hN k0 i s hs A B D E F c (j + 1) (l ++ [tgt (clsA x k) x s j]) _ _ _ (by omega) (by omega) (by rw [← hg];exact hv.grow ht) (by simp;omega) (by simp [hr]) (hn.put hm) ⟨by simp [hwl2],fun q hq=>?_⟩
     rw [List.length_append,List.length_singleton] at hq
     rw [q9V]
     split
     · exact hw.2 q (by assumption)
     · rename_i hq2
       rw [if_pos (by omega),List.length_append,List.length_singleton];omega
theorem clone_eq (N:Nat) (l:List Int) (h0:0 < l.length) (h:l.length ≤ 1000):g90 N l = some l:=by
 unfold g90
 rw [if_pos h0,if_pos (by simp [maxCount];omega)]
 rfl
theorem form60 {x:MM} {k:Nat} (h:Pm x k) (N:Nat) (hN:10 < N) {C:Type} (k0:MM→NM→List Int→List (List Int)→List (List Int)→List (List Int)→List (List Int)→List (List Int)→Option C) (A B:List (List Int)) :
   ∀ (F i:Nat) (l:List Int) (mp:NM) (ws nx out:List (List Int)) (res:List (List Int)×List (List Int)),VL x.1.length l→i ≤ l.length→nx.length = i→out.length = i→Num mp l→Wys ws l→q6H (clsA x k) x k F i l nx out = some res →
     ∃ mp' l' ws',q9R N F k0 (clsA x k) (i:Int) x mp l ws A B nx out = k0 x mp' l' ws' A B res.1 res.2
 | 0,i,l,mp,ws,nx,out,res,_,_,_,_,_,_,h0=>by simp [q6H] at h0
 | F + 1,i,l,mp,ws,nx,out,res,hv,hi,h1,h2,hn,hw,h0=>by
   have n6:=h.n6
   have k1:=h.k1
   have k3:=h.k3
   have hl:=hv.len n6
   rw [g60L1018f_succ]
   unfold q9H
   unfold q6H at h0
   by_cases hlt:i < l.length
   · rw [if_pos hlt] at h0
     have hs:=hv.rng _ (q0Q hlt 0)
     have ho:=h.out
     obtain ⟨r1,r2,r3,r4⟩:=h.rowL hs k 0 l [] (by omega) hv
     have hrn:=(h.rowN _ (q0Q (i:=(l.getD i 0).toNat) (by omega) [])).1
     have hro:=(h.rowO _ (q0Q (i:=(l.getD i 0).toNat) (by omega) [])).1
     rw [ltT hlt,cond_true,if_pos (idxT hlt),Int.toNat_natCast,if_pos hlt,if_pos (show idx (l.getD i 0) x.1.length from ⟨hs.1,hs.2⟩),g60L521370_eq,hrn]
     obtain ⟨mp',ws',q1,q2,e⟩:=row60 h N hN (fun e3 e4 e5 e6 e7 e8 e9 e10 e11 e12 e13 e14=>if e13.length + [e7].length ≤ maxCount then if idx e5 e6.2.1.length then Option.bind (g90 N (e6.2.1.getD e5.toNat [])) fun r15=>if e14.length + [r15].length ≤ maxCount then q9R N F k0 e3 (IntKind.wrap .i64 (e4 + 1)) e6 e8 e9 e10 e11 e12 (e13 ++ [e7]) (e14 ++ [r15]) else none else none else none) i (l.getD i 0) hs A B nx out N k 0 l [] mp ws (by omega) (by omega) hv hlt rfl hn hw
     obtain ⟨mp2,l2,ws2,e'⟩:=form60 h N hN k0 A B F (i + 1) _ mp' ws' _ _ res r1 (by omega) (by simp [h1]) (by simp [h2]) q1 q2 h0
     refine ⟨mp2,l2,ws2,?_⟩
     refine Eq.trans e ?_
     rw [if_pos (by simp [maxCount];omega),if_pos (show idx (l.getD i 0) x.2.1.length from ⟨hs.1,by omega⟩),clone_eq N _ (by omega) (by omega)]
     simp only [Option.bind_some]
     rw [if_pos (by simp [maxCount];omega),wn i (by omega)]
     exact e'
   · rw [if_neg hlt] at h0
     obtain rfl:=Option.some.inj h0
     rw [ltF hlt,cond_false]
     exact ⟨mp,l,ws,rfl⟩
theorem Pm.form {x:MM} {k:Nat} (h:Pm x k) (N:Nat) (hN:1000 < N):∃ f ws:List (List Int),∃ o,g60 N x = some ((f,o,()),ws,())∧g24 N x = some (f,o,())∧f.length ≤ 6∧o.length ≤ 6∧(∀ r ∈ f,r.length = k)∧(∀ r ∈ o,r.length = k):=by
 have n1:=h.n1
 have n6:=h.n6
 obtain ⟨res,hf,f1,f2,f3,f4⟩:=h.q6H N 0 [0] [] [] (by omega) (by simp) (VL.zero n1) rfl rfl (by simp) (by simp)
 have hn:Num (q0S (Ty.beq (.int .i64)) 0 0 ([]:NM)) [0]:=by
   intro u
   rw [q2L _ beqI]
   by_cases hu:u = 0
   · subst hu;simp
   · rw [if_neg hu,if_neg (by simpa using hu)];rfl
 have hw:Wys [([]:List Int)] [0]:=⟨rfl,fun j hj=>by
   obtain rfl:j = 0:=by simpa using hj
   simp⟩
 obtain ⟨mp',l',ws',e⟩:=form60 h N (by omega) (fun e16 e17 e18 e19 e20 e21 e22 e23=>some ((e22,e23,()),e19,())) [] [] N 0 [0] _ [([]:List Int)] [] [] res (VL.zero n1) (by simp) rfl rfl hn hw hf
 refine ⟨res.1,ws',res.2,?_,h.refForm N (by omega) hf,f1,f2,f3,f4⟩
 unfold g60
 rw [h.alike N hN]
 simp only [Option.bind_some]
 rw [j0T]
 exact e
end Go.Pv
namespace Go.Pv
open Bfs
theorem idx_app (l e:List Int) (t:Int) (h:t ∈ l):(l ++ e).idxOf t = l.idxOf t:=by rw [List.idxOf_append,if_pos h]
theorem mem_grow (l:List Int) (t:Int):t ∈ grow l t:=by
 unfold grow
 split
 · assumption
 · simp
theorem idx_grow (l:List Int) (t:Int):(grow l t).idxOf t = l.idxOf t:=by
 unfold grow
 split
 · rfl
 · rename_i h
   rw [List.idxOf_append,if_neg h,q8D t l h]
   simp
theorem grow_app (l:List Int) (t:Int):∃ e,grow l t = l ++ e:=by
 unfold grow
 split
 · exact ⟨[],by simp⟩
 · exact ⟨[t],rfl⟩
theorem idx_getD (l:List Int) (t:Int) (h:t ∈ l):l.getD (l.idxOf t) 0 = t:=by
 obtain ⟨q,hq,e⟩:=List.mem_iff_getElem.1 h
 -- the first place
 have:∀ (l:List Int),t ∈ l→l.getD (l.idxOf t) 0 = t:=by
   intro l
   induction l with
   | nil=>intro h;simp at h
   | cons a l ih =>
     intro h
     rw [List.idxOf_cons]
     cases hb:a == t with
     | true=>simpa using hb
     | false =>
       have:t ∈ l:=by
         rcases List.mem_cons.1 h with e | e
         · rw [e] at hb;simp at hb
         · exact e
       simpa using ih this
 exact this l h
theorem q9U (cl:List Int) (x:MM) (s:Int):∀ (c j:Nat) (l r:List Int),∃ e es,(rowL cl x s c j l r).1 = l ++ e∧(rowL cl x s c j l r).2 = r ++ es∧es.length = c ∧
   ∀ q,q < c→tgt cl x s (j + q) ∈ (rowL cl x s c j l r).1∧es.getD q 0 = (((rowL cl x s c j l r).1.idxOf (tgt cl x s (j + q)):Nat):Int)
 | 0,j,l,r=>⟨[],[],by simp [rowL],by simp [rowL],rfl,fun q hq=>by omega⟩
 | c + 1,j,l,r=>by
   obtain ⟨e,es,h1,h2,h3,h4⟩:=q9U cl x s c (j + 1) (grow l (tgt cl x s j)) (r ++ [((l.idxOf (tgt cl x s j):Nat):Int)])
   obtain ⟨e0,he0⟩:=grow_app l (tgt cl x s j)
   have hrw:rowL cl x s (c + 1) j l r = rowL cl x s c (j + 1) (grow l (tgt cl x s j)) (r ++ [((l.idxOf (tgt cl x s j):Nat):Int)]):=rfl
   rw [hrw]
   refine ⟨e0 ++ e,((l.idxOf (tgt cl x s j):Nat):Int) :: es,by rw [h1,he0,List.append_assoc],by rw [h2];simp,by simp [h3],fun q hq=>?_⟩
   match q with
   | 0 =>
     have hm:tgt cl x s j ∈ grow l (tgt cl x s j):=mem_grow l _
     simp only [Nat.add_zero,h1]
     refine ⟨List.mem_append_left _ hm,?_⟩
     rw [idx_app _ _ _ hm,idx_grow]
     rfl
   | q + 1 =>
     obtain ⟨g1,g2⟩:=h4 q (by omega)
     rw [show j + (q + 1) = j + 1 + q by omega]
     exact ⟨g1,by simpa using g2⟩
def Rep (x:MM) (k:Nat) (t:Int):Prop:=(0 ≤ t∧t < (x.1.length:Int))∧lst x k x.1.length t.toNat = t.toNat
theorem Pm.tgt_rep {x:MM} {k:Nat} (h:Pm x k) {s:Int} (hs:0 ≤ s∧s < (x.1.length:Int)) {j:Nat} (hj:j < k):Rep x k (Go.Pv.tgt (clsA x k) x s j)∧eqvA x k (nxN x s.toNat j) (Go.Pv.tgt (clsA x k) x s j).toNat:=by
 have hb:=h.nxB (s:=s.toNat) (by omega) hj
 have hss:((s.toNat:Nat):Int) = s:=Int.toNat_of_nonneg hs.1
 have e:Go.Pv.tgt (clsA x k) x s j = (lst x k x.1.length (nxN x s.toNat j):Int):=by
   unfold Go.Pv.tgt nxN
   rw [hss]
   have h2:=hb.1
   unfold nxN at h2
   rw [hss] at h2
   exact q6N x k _ h2
 obtain ⟨a0,a1,a2⟩:=q1R x k x.1.length (nxN x s.toNat j)
 refine ⟨⟨h.tgt hs hj,?_⟩,?_⟩
 · rw [e,Int.toNat_natCast,q6P];exact a1.symm
 · rw [e,Int.toNat_natCast]
   exact (h.z4V hb.1 (by omega)).2 a1
structure q2X (x:MM) (k:Nat) (L:List Int) (res:List (List Int)×List (List Int)):Prop where
 l1:res.1.length = L.length
 l2:res.2.length = L.length
 row:∀ q,q < L.length→(res.1.getD q []).length = k∧∀ j,j < k→tgt (clsA x k) x (L.getD q 0) j ∈ L∧(res.1.getD q []).getD j 0 = ((L.idxOf (tgt (clsA x k) x (L.getD q 0) j):Nat):Int)
 out:∀ q,q < L.length→res.2.getD q [] = x.2.1.getD (L.getD q 0).toNat []
def j0S (cl:List Int) (x:MM) (k:Nat):Nat→Nat→List Int→Option (List Int)
 | 0,_,_=>none
 | F + 1,i,l=>if i < l.length then j0S cl x k F (i + 1) (rowL cl x (l.getD i 0) k 0 l []).1 else some l
theorem formL_pre (cl:List Int) (x:MM) (k:Nat):∀ (F i:Nat) (l L:List Int),j0S cl x k F i l = some L→∃ e,L = l ++ e
 | 0,i,l,L,h=>by simp [j0S] at h
 | F + 1,i,l,L,h=>by
   unfold j0S at h
   split at h
   · obtain ⟨e,he⟩:=formL_pre cl x k F _ _ L h
     obtain ⟨e2,es,g1,_⟩:=q9U cl x (l.getD i 0) k 0 l []
     exact ⟨e2 ++ e,by rw [he,g1,List.append_assoc]⟩
   · exact ⟨[],by rw [← Option.some.inj h];simp⟩
theorem z4F {α:Type} (l e:List α) (d:α) (q:Nat) (h:q < l.length):(l ++ e).getD q d = l.getD q d:=by
 rw [List.getD_eq_getElem?_getD,List.getD_eq_getElem?_getD,List.getElem?_append_left h]
theorem Pm.form_spec {x:MM} {k:Nat} (h:Pm x k):∀ (F i:Nat) (l:List Int) (nl out:List (List Int)) (res:List (List Int)×List (List Int)),VL x.1.length l→(∀ t ∈ l,Rep x k t)→i ≤ l.length→nl.length = i→out.length = i→Go.Pv.q6H (clsA x k) x k F i l nl out = some res →
   ∃ L e,L = l ++ e∧VL x.1.length L∧(∀ t ∈ L,Rep x k t)∧res.1.length = L.length∧res.2.length = L.length∧(∀ q,q < i→res.1.getD q [] = nl.getD q []∧res.2.getD q [] = out.getD q []) ∧
     (∀ q,i ≤ q→q < L.length→(res.1.getD q []).length = k∧(∀ j,j < k→Go.Pv.tgt (clsA x k) x (L.getD q 0) j ∈ L∧(res.1.getD q []).getD j 0 = ((L.idxOf (Go.Pv.tgt (clsA x k) x (L.getD q 0) j):Nat):Int))∧res.2.getD q [] = x.2.1.getD (L.getD q 0).toNat [])∧j0S (clsA x k) x k F i l = some L
 | 0,i,l,nl,out,res,_,_,_,_,_,h0=>by simp [Go.Pv.q6H] at h0
 | F + 1,i,l,nl,out,res,hv,hr,hi,h1,h2,h0=>by
   unfold Go.Pv.q6H at h0
   by_cases hlt:i < l.length
   · rw [if_pos hlt] at h0
     have hs:=hv.rng _ (q0Q hlt 0)
     obtain ⟨r1,r2,r3,r4⟩:=h.rowL hs k 0 l [] (by omega) hv
     obtain ⟨e,es,g1,g2,g3,g4⟩:=q9U (clsA x k) x (l.getD i 0) k 0 l []
     have hrep:∀ t ∈ (Go.Pv.rowL (clsA x k) x (l.getD i 0) k 0 l []).1,Rep x k t:=by
       -- what is added leads somewhere
       have key:∀ (c j:Nat) (l r:List Int) (s:Int),0 ≤ s∧s < (x.1.length:Int)→j + c = k→(∀ t ∈ l,Rep x k t)→∀ t ∈ (Go.Pv.rowL (clsA x k) x s c j l r).1,Rep x k t:=by
         intro c
         induction c with
         | zero=>intro j l r s _ _ hl;exact hl
         | succ c ih =>
           intro j l r s hs hj hl
           refine ih (j + 1) _ _ s hs (by omega) fun t ht=>?_
           unfold grow at ht
           split at ht
           · exact hl t ht
           · rcases List.mem_append.1 ht with ht | ht
             · exact hl t ht
             · rw [List.mem_singleton.1 ht];exact (h.tgt_rep hs (by omega)).1
       exact key k 0 l [] (l.getD i 0) hs (by omega) hr
     obtain ⟨L,e2,L1,L2,L3,L4,L5,L6,L7,L8⟩:=h.form_spec F (i + 1) _ _ _ res r1 hrep (by omega) (by simp [h1]) (by simp [h2]) h0
     have hLi:L.getD i 0 = l.getD i 0:=by rw [L1,z4F _ _ _ _ (by omega),g1,z4F _ _ _ _ hlt]
     refine ⟨L,e ++ e2,by rw [L1,g1,List.append_assoc],L2,L3,L4,L5,fun q hq=>?_,fun q hq hql=>?_,by unfold j0S;rw [if_pos hlt];exact L8⟩
     · obtain ⟨a,b⟩:=L6 q (by omega)
       rw [z4F _ _ _ _ (by omega)] at a b
       exact ⟨a,b⟩
     · by_cases hqi:q = i
       · subst hqi
         obtain ⟨a,b⟩:=L6 q (by omega)
         rw [q9V,if_neg (by omega),if_pos (by omega)] at a b
         rw [a,b,hLi]
         refine ⟨by rw [g2];simpa using g3,fun j hj=>?_,rfl⟩
         obtain ⟨m1,m2⟩:=g4 j hj
         rw [Nat.zero_add] at m1 m2
         rw [L1]
         refine ⟨List.mem_append_left _ m1,?_⟩
         rw [idx_app _ _ _ m1,← m2,g2]
         rfl
       · exact L7 q (by omega) hql
   · rw [if_neg hlt] at h0
     obtain rfl:=Option.some.inj h0
     have:i = l.length:=by omega
     exact ⟨l,[],by simp,hv,hr,by simp only;omega,by simp only;omega,fun q _=>⟨rfl,rfl⟩,fun q h3 h4=>by omega,by unfold j0S;rw [if_neg hlt]⟩
section
variable {x:MM} {k:Nat} {L:List Int} {res:List (List Int)×List (List Int)}
abbrev fm (res:List (List Int)×List (List Int)):MM:=(res.1,res.2,())
theorem q2X.pm (h:Pm x k) (hf:q2X x k L res) (hv:VL x.1.length L) (h1:1 ≤ L.length):Pm (fm res) k:=by
 have n6:=h.n6
 have ho:=h.out
 have hl:=hv.len n6
 have e1:=hf.l1
 have e2:=hf.l2
 refine ⟨?_,?_,?_,h.k1,h.k3,fun r hr=>?_,fun r hr=>?_⟩
 · show 1 ≤ res.1.length;omega
 · show res.1.length ≤ 6;omega
 · show res.2.length = res.1.length;omega
 · obtain ⟨q,q1,q2⟩:=List.mem_iff_getElem.1 hr
   have e:r = res.1.getD q []:=by rw [List.getD_eq_getElem?_getD,List.getElem?_eq_getElem q1];exact q2.symm
   have q1:q < res.1.length:=q1
   obtain ⟨a,b⟩:=hf.row q (by omega)
   rw [e]
   refine ⟨a,fun t ht=>?_⟩
   obtain ⟨j,j1,j2⟩:=List.mem_iff_getElem.1 ht
   have et:t = (res.1.getD q []).getD j 0:=by rw [List.getD_eq_getElem?_getD (l:=res.1.getD q []),List.getElem?_eq_getElem j1];exact j2.symm
   obtain ⟨m1,m2⟩:=b j (by omega)
   have:=idx_lt _ L m1
   rw [et,m2]
   show _∧_ < (res.1.length:Int)
   omega
 · obtain ⟨q,q1,q2⟩:=List.mem_iff_getElem.1 hr
   have e:r = res.2.getD q []:=by rw [List.getD_eq_getElem?_getD,List.getElem?_eq_getElem q1];exact q2.symm
   have q1:q < res.2.length:=q1
   have hs:=hv.rng _ (q0Q (l:=L) (i:=q) (by omega) 0)
   rw [e,hf.out q (by omega)]
   exact h.rowO _ (q0Q (i:=(L.getD q 0).toNat) (by omega) [])
theorem q2X.nx (hf:q2X x k L res) {q j:Nat} (hq:q < L.length) (hj:j < k):Go.Pv.nx (fm res) (q:Int) (j:Int) = ((L.idxOf (tgt (clsA x k) x (L.getD q 0) j):Nat):Int):=by
 unfold Go.Pv.nx
 rw [Int.toNat_natCast,Int.toNat_natCast]
 exact ((hf.row q hq).2 j hj).2
theorem q2X.says (h:Pm x k) (hf:q2X x k L res) (hv:VL x.1.length L) (h1:1 ≤ L.length):∀ (w:List Nat),(∀ i ∈ w,i < k)→∀ q,q < L.length→sd (fm res) (wd w) q = sd x (wd w) (L.getD q 0).toNat
 | [],_,q,_=>rfl
 | i :: w,hw,q,hq=>by
   have hp:=hf.pm h hv h1
   have hi:=hw i List.mem_cons_self
   have hs:=hv.rng _ (q0Q hq 0)
   have hl1:=hf.l1
   have hss:(((L.getD q 0).toNat:Nat):Int) = L.getD q 0:=Int.toNat_of_nonneg hs.1
   rw [show wd (i :: w) = (i:Int) :: wd w from rfl,hp.z6Y (by show q < res.1.length;omega) hi,h.z6Y (s:=(L.getD q 0).toNat) (by omega) hi]
   have ho:ou (fm res) (q:Int) (i:Int) = ou x ((L.getD q 0).toNat:Int) (i:Int):=by
     unfold ou
     rw [Int.toNat_natCast,Int.toNat_natCast,Int.toNat_natCast]
     show (res.2.getD q []).getD i 0 = _
     rw [hf.out q hq]
   have hm:=((hf.row q hq).2 i hi).1
   have hn:nxN (fm res) q i = L.idxOf (tgt (clsA x k) x (L.getD q 0) i):=by
     unfold nxN
     rw [hf.nx hq hi,Int.toNat_natCast]
   have hlt:=idx_lt _ L hm
   rw [ho,hn,q2X.says h hf hv h1 w (fun j hj=>hw j (List.mem_cons_of_mem _ hj)) _ hlt,idx_getD L _ hm]
   have:=(h.tgt_rep hs hi).2 w (fun j hj=>hw j (List.mem_cons_of_mem _ hj))
   rw [this]
theorem q2X.unlike (h:Pm x k) (hf:q2X x k L res) (hv:VL x.1.length L) (hr:∀ t ∈ L,Rep x k t) (h1:1 ≤ L.length) {q r:Nat} (hq:q < L.length) (hr2:r < L.length) (he:eqvA (fm res) k q r):q = r:=by
 have a:=hr _ (q0Q hq 0)
 have b:=hr _ (q0Q hr2 0)
 have e:eqvA x k (L.getD q 0).toNat (L.getD r 0).toNat:=fun w hw=>by
   rw [← hf.says h hv h1 w hw q hq,← hf.says h hv h1 w hw r hr2]
   exact he w hw
 have e2:=(q6P x k x.1.length _ _).2 (e.all x.1.length)
 rw [a.2,b.2] at e2
 have e3:L.getD q 0 = L.getD r 0:=by have:=a.1;have:=b.1;omega
 rw [List.getD_eq_getElem?_getD,List.getD_eq_getElem?_getD,List.getElem?_eq_getElem hq,List.getElem?_eq_getElem hr2] at e3
 have hp:=List.pairwise_iff_getElem.1 hv.nod
 rcases Nat.lt_trichotomy q r with hl | hl | hl
 · exact absurd e3 (hp q r hq hr2 hl)
 · exact hl
 · exact absurd e3.symm (hp r q hr2 hq hl)
def iota (q:Nat):List Int:=(List.range q).map fun (i:Nat)=>(i:Int)
theorem z0A (m q:Nat) (h:q < m):(iota m).getD q 0 = (q:Int):=by
 unfold iota
 rw [List.getD_eq_getElem?_getD,List.getElem?_map]
 simp [h]
theorem z0P (m:Nat):(iota m).length = m:=by simp [iota]
theorem iota_succ (m:Nat):iota (m + 1) = iota m ++ [(m:Int)]:=by simp [iota,List.range_succ]
theorem mem_iota (m v:Nat):(v:Int) ∈ iota m ↔ v < m:=by
 unfold iota
 rw [List.mem_map]
 constructor
 · rintro ⟨q,q1,q2⟩
   have:=List.mem_range.1 q1
   omega
 · intro h;exact ⟨v,List.mem_range.2 h,rfl⟩
theorem iota_idx (m v:Nat) (h:v < m):(iota m).idxOf (v:Int) = v:=idx_first _ _ v (by rw [z0P];exact h) (z0A m v h) fun p hp=>by rw [z0A m p (by omega)];omega
theorem q2X.cls (h:Pm x k) (hf:q2X x k L res) (hv:VL x.1.length L) (hr:∀ t ∈ L,Rep x k t) (h1:1 ≤ L.length):clsA (fm res) k = iota L.length:=by
 have hp:=hf.pm h hv h1
 have e1:(fm res).1.length = L.length:=hf.l1
 have hl:(clsA (fm res) k).length = L.length:=by unfold clsA;rw [List.length_map,List.length_range];exact e1
 refine q7W (by rw [hl,z0P]) fun q hq=>?_
 rw [hl] at hq
 rw [q6N (fm res) k q (by omega),z0A _ _ hq]
 obtain ⟨a0,a1,a2⟩:=q1R (fm res) k (fm res).1.length q
 have:=hf.unlike h hv hr h1 hq (by omega) ((hp.z4V (by omega) (by omega)).2 a1)
 omega
theorem q2X.tgt (h:Pm x k) (hf:q2X x k L res) (hv:VL x.1.length L) (hr:∀ t ∈ L,Rep x k t) (h1:1 ≤ L.length) {q j:Nat} (hq:q < L.length) (hj:j < k):Go.Pv.tgt (clsA (fm res) k) (fm res) (q:Int) j = ((L.idxOf (Go.Pv.tgt (clsA x k) x (L.getD q 0) j):Nat):Int):=by
 have hm:=((hf.row q hq).2 j hj).1
 have hlt:=idx_lt _ L hm
 unfold Go.Pv.tgt
 rw [hf.nx hq hj,hf.cls h hv hr h1,Int.toNat_natCast]
 exact z0A _ _ hlt
theorem q2X.rowL (h:Pm x k) (hf:q2X x k L res) (hv:VL x.1.length L) (hr:∀ t ∈ L,Rep x k t) (h1:1 ≤ L.length) {i:Nat} (hi:i < L.length):∀ (c j:Nat) (l r e:List Int),j + c = k→L = (Go.Pv.rowL (clsA x k) x (L.getD i 0) c j l r).1 ++ e →
   Go.Pv.rowL (clsA (fm res) k) (fm res) (i:Int) c j (iota l.length) r = (iota (Go.Pv.rowL (clsA x k) x (L.getD i 0) c j l r).1.length,(Go.Pv.rowL (clsA x k) x (L.getD i 0) c j l r).2)
 | 0,j,l,r,e,_,_=>rfl
 | c + 1,j,l,r,e,hj,hL=>by
   have ht:=hf.tgt h hv hr h1 hi (j:=j) (by omega)
   have hrw:∀ cl y s l r,Go.Pv.rowL cl y s (c + 1) j l r = Go.Pv.rowL cl y s c (j + 1) (grow l (Go.Pv.tgt cl y s j)) (r ++ [((l.idxOf (Go.Pv.tgt cl y s j):Nat):Int)]):=fun _ _ _ _ _=>rfl
   rw [hrw] at hL ⊢
   rw [hrw]
   obtain ⟨e2,es,g1,_⟩:=q9U (clsA x k) x (L.getD i 0) c (j + 1) (grow l (Go.Pv.tgt (clsA x k) x (L.getD i 0) j)) (r ++ [((l.idxOf (Go.Pv.tgt (clsA x k) x (L.getD i 0) j):Nat):Int)])
   have hidx:L.idxOf (Go.Pv.tgt (clsA x k) x (L.getD i 0) j) = l.idxOf (Go.Pv.tgt (clsA x k) x (L.getD i 0) j):=by
     have hm:Go.Pv.tgt (clsA x k) x (L.getD i 0) j ∈ grow l (Go.Pv.tgt (clsA x k) x (L.getD i 0) j):=mem_grow _ _
     have e3:L = grow l (Go.Pv.tgt (clsA x k) x (L.getD i 0) j) ++ (e2 ++ e):=hL.trans (by rw [g1,List.append_assoc])
     refine (congrArg (List.idxOf _) e3).trans ?_
     rw [idx_app _ _ _ hm,idx_grow]
   rw [ht,hidx]
   have ih:=q2X.rowL h hf hv hr h1 hi c (j + 1) (grow l (Go.Pv.tgt (clsA x k) x (L.getD i 0) j)) (r ++ [((l.idxOf (Go.Pv.tgt (clsA x k) x (L.getD i 0) j):Nat):Int)]) e (by omega) hL
   have hgr:grow (iota l.length) ((l.idxOf (Go.Pv.tgt (clsA x k) x (L.getD i 0) j):Nat):Int) = iota (grow l (Go.Pv.tgt (clsA x k) x (L.getD i 0) j)).length∧(iota l.length).idxOf ((l.idxOf (Go.Pv.tgt (clsA x k) x (L.getD i 0) j):Nat):Int) = l.idxOf (Go.Pv.tgt (clsA x k) x (L.getD i 0) j):=by
     by_cases hm:Go.Pv.tgt (clsA x k) x (L.getD i 0) j ∈ l
     · have hlt:=idx_lt _ l hm
       unfold grow
       rw [if_pos hm,if_pos ((mem_iota _ _).2 hlt)]
       exact ⟨rfl,iota_idx _ _ hlt⟩
     · have hn:=q8D _ l hm
       unfold grow
       rw [if_neg hm,hn,if_neg (fun hh=>by have:=(mem_iota _ _).1 hh;omega),List.length_append,List.length_singleton,iota_succ]
       refine ⟨rfl,?_⟩
       rw [q8D _ _ (fun hh=>by have:=(mem_iota _ _).1 hh;omega),z0P]
   rw [hgr.1,hgr.2]
   exact ih
theorem q2X.again (h:Pm x k) (hf:q2X x k L res) (hv:VL x.1.length L) (hr:∀ t ∈ L,Rep x k t) (h1:1 ≤ L.length):∀ (F i:Nat) (l:List Int) (nl out:List (List Int)),j0S (clsA x k) x k F i l = some L→Go.Pv.q6H (clsA x k) x k F i l nl out = some res →
   Go.Pv.q6H (clsA (fm res) k) (fm res) k F i (iota l.length) nl out = some res
 | 0,i,l,nl,out,hL,_=>by simp [j0S] at hL
 | F + 1,i,l,nl,out,hL,h0=>by
   unfold j0S at hL
   unfold Go.Pv.q6H at h0 ⊢
   rw [z0P]
   by_cases hlt:i < l.length
   · rw [if_pos hlt] at hL h0 ⊢
     obtain ⟨e,he⟩:=formL_pre _ _ _ _ _ _ _ hL
     obtain ⟨e2,es,g1,_⟩:=q9U (clsA x k) x (l.getD i 0) k 0 l []
     have hLi:L.getD i 0 = l.getD i 0:=by rw [he,g1,z4F _ _ _ _ (by rw [List.length_append];omega),z4F _ _ _ _ hlt]
     have hiL:i < L.length:=by rw [he,g1];simp;omega
     have hrow:=hf.rowL h hv hr h1 hiL k 0 l [] e (by omega) (by rw [hLi];exact he)
     rw [hLi] at hrow
     have ho:=hf.out i hiL
     rw [hLi] at ho
     rw [z0A _ _ hlt,hrow,Int.toNat_natCast,show (fm res).2.1.getD i [] = _ from ho]
     exact q2X.again h hf hv hr h1 F (i + 1) _ _ _ hL h0
   · rw [if_neg hlt] at h0 ⊢
     exact h0
end
theorem Pm.formIs {x:MM} {k:Nat} (h:Pm x k) (N:Nat) (hN:10 < N):∃ L res,Go.Pv.q6H (clsA x k) x k N 0 [0] [] [] = some res∧q2X x k L res∧VL x.1.length L∧(∀ t ∈ L,Rep x k t)∧1 ≤ L.length∧L.getD 0 0 = 0∧j0S (clsA x k) x k N 0 [0] = some L:=by
 have n1:=h.n1
 have n6:=h.n6
 obtain ⟨res,hf,_⟩:=h.q6H N 0 [0] [] [] (by omega) (by simp) (VL.zero n1) rfl rfl (by simp) (by simp)
 have r0:∀ t ∈ [(0:Int)],Rep x k t:=fun t ht=>by
   rw [List.mem_singleton.1 ht]
   refine ⟨by omega,?_⟩
   have:=(q1R x k x.1.length (Int.toNat 0)).1
   have e:Int.toNat 0 = 0:=rfl
   omega
 obtain ⟨L,e,L1,L2,L3,L4,L5,L6,L7,L8⟩:=h.form_spec N 0 [0] [] [] res (VL.zero n1) r0 (by simp) rfl rfl hf
 exact ⟨L,res,hf,⟨L4,L5,fun q hq=>⟨(L7 q (by omega) hq).1,(L7 q (by omega) hq).2.1⟩,fun q hq=>(L7 q (by omega) hq).2.2⟩,L2,L3,by rw [L1];simp,by rw [L1];rfl,L8⟩
end Go.Pv
