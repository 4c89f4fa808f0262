/- The purifying layer, part 24e: functions of an activation's that the function is handed over which it ranges. -/
import Derived.Test.YtlebcefahlienaaPvXs
set_option linter.unusedVariables false
set_option linter.unusedSimpArgs false
namespace Go.Pv
variable {P:Program} {Γ:Cfg} {cx:Cx} {tm:Tm} {lk:Lk} {a:Act} {w:World} {Fz:Nat→Prop} {pos:Nat→Value} {U:Nat→Prop}
theorem Held.recell (r:Held cx lk w Fz pos U) {k s:Nat} {sh:K} {c c':V} (hk:lk k = some (s,.box sh c)) (hO:RepO (cx.e Fz w (updLk1 lk k s (.box sh c')) pos) (.box sh c') (pos k)) :
   Held cx (updLk1 lk k s (.box sh c')) w Fz pos U∧Le (cx.e Fz w lk pos) (cx.e Fz w (updLk1 lk k s (.box sh c')) pos):=by
 have hother:∀ k',k' ≠ k→updLk1 lk k s (.box sh c') k' = lk k':=fun k' h=>by simp [updLk1,h]
 have hat:updLk1 lk k s (.box sh c') k = some (s,.box sh c'):=by simp [updLk1]
 have hle:Le (cx.e Fz w lk pos) (cx.e Fz w (updLk1 lk k s (.box sh c')) pos):=by
   refine ⟨rfl,rfl,fun _ _ h=>h,fun _ _ h=>h,Fut.refl _ _,fun k' s1 o h=>?_⟩
   by_cases hkk:k' = k
   · subst hkk
     have h:lk k' = some (s1,o):=h
     rw [hk] at h
     simp only [Option.some.injEq,Prod.mk.injEq] at h
     obtain ⟨rfl,rfl⟩:=h
     exact ⟨s,_,hat,Nat.le_refl _,fun _=>⟨rfl,rfl⟩⟩
   · exact ⟨s1,o,(hother k' hkk).trans h,Nat.le_refl _,fun _=>Ext.mk (Obj.alike_refl _) rfl⟩
 have back:∀ k' s1 o,updLk1 lk k s (.box sh c') k' = some (s1,o)→(k' = k∧s1 = s∧o = .box sh c') ∨ (k' ≠ k∧lk k' = some (s1,o)):=by
   intro k' s1 o h
   by_cases hkk:k' = k
   · subst hkk
     rw [hat] at h
     simp only [Option.some.injEq,Prod.mk.injEq] at h
     exact .inl ⟨rfl,h.1.symm,h.2.symm⟩
   · exact .inr ⟨hkk,(hother k' hkk).symm.trans h⟩
 have old:∀ k' s1 o,updLk1 lk k s (.box sh c') k' = some (s1,o)→∃ o1,lk k' = some (s1,o1):=by
   intro k' s1 o h
   rcases back k' s1 o h with ⟨rfl,rfl,rfl⟩ | ⟨_,h1⟩
   · exact ⟨_,hk⟩
   · exact ⟨_,h1⟩
 refine ⟨⟨fun k' s1 o h=>?_,fun k' s1 o b h hb=>?_,fun k1 s1 o1 k2 s2 o2 b h1 h2 hb1 hb2=>?_,r.step,r.inv0,r.wr0,fun k' s1 t run x h=>?_,fun k' o q h hq=>?_,fun b hb=>?_⟩,hle⟩
 · rcases back k' s1 o h with ⟨rfl,rfl,rfl⟩ | ⟨_,h1⟩
   · exact hO
   · exact RepO.mono hle _ _ (fun _ _=>rfl) (r.objs k' s1 o h1)
 · obtain ⟨o1,h1⟩:=old k' s1 o h
   exact r.own k' s1 o1 b h1 hb
 · obtain ⟨o1',g1⟩:=old k1 s1 o1 h1
   obtain ⟨o2',g2⟩:=old k2 s2 o2 h2
   exact r.inj k1 s1 o1' k2 s2 o2' b g1 g2 hb1 hb2
 · rcases back k' s1 _ h with ⟨rfl,rfl,h2⟩ | ⟨_,h1⟩
   · cases h2
   · exact r.gh k' s1 t run x h1
 · rcases back k' 0 o h with ⟨rfl,rfl,rfl⟩ | ⟨_,h1⟩
   · exact (r.orig k' _ q hk hq).trans (Ext.mk rfl rfl)
   · exact r.orig k' o q h1 hq
 · obtain ⟨g1,g2,g3,g4⟩:=r.ugh b hb
   exact ⟨g1,g2,g3,fun k' s1 o h hb'=>by
     obtain ⟨o1,h1⟩:=old k' s1 o h
     exact g4 k' s1 o1 h1 hb'⟩
theorem lkG_set {l:List Obj} {i:Nat} {o:Obj} (h:i < l.length):lkG (l.set i o) = updLk1 (lkG l) (gB + i) 0 o:=by
 funext k
 unfold lkG updLk1
 by_cases hk:k = gB + i
 · subst hk
   rw [if_pos rfl,if_pos (by omega),show gB + i - gB = i by omega,List.getElem?_set,if_pos rfl,if_pos h];rfl
 · rw [if_neg hk]
   show (if gB ≤ k then ((l.set i o)[k - gB]?).map fun o=>(0,o) else none) = (if gB ≤ k then (l[k - gB]?).map fun o=>(0,o) else none)
   by_cases hg:gB ≤ k
   · rw [if_pos hg,if_pos hg,List.getElem?_set,if_neg (by omega)]
   · rw [if_neg hg,if_neg hg]
theorem capAt_val {A:E} {T:Array Value} {keepT:List Nat} (hT:∀ t,RepT A (tm t) (T.getD t undef)):∀ (ts:List Nat) (cs:List V) (us:List Value),capAt tm A.lk keepT ts cs = true→Pt (RepA A) cs us →
   us = ts.map (fun t=>T.getD t undef)∧∀ t ∈ ts,t ∈ keepT∧∃ k s,tm t = .ref k s []
 | [],[],us,_,h=>⟨h,fun t ht=>by cases ht⟩
 | [],c :: cs,us,h,_=>by simp [capAt] at h
 | t :: ts,[],us,h,_=>by simp [capAt] at h
 | t :: ts,c :: cs,us,h,⟨u,r,he,h1,h2⟩=>by
   subst he
   cases c <;> (try simp [capAt] at h;done)
   case ref k s p =>
     cases p with
     | cons j p=>simp [capAt] at h
     | nil =>
       simp only [capAt,Bool.and_eq_true] at h
       obtain ⟨⟨⟨a1,a2⟩,a3⟩,a4⟩:=h
       obtain ⟨g1,g2⟩:=capAt_val hT ts cs r a4 h2
       have htm:tm t = .ref k s []:=by
         split at a1
         · rename_i k' s' hq
           simp only [Bool.and_eq_true] at a1
           rw [hq,Nat.eq_of_beq_eq_true a1.1,Nat.eq_of_beq_eq_true a1.2]
         · simp at a1
       have hu:=hT t
       rw [htm] at hu
       have hlk:∃ sh c,A.lk k = some (s,.box sh c):=by
         split at a3
         · rename_i s' sh c hq
           have:=Nat.eq_of_beq_eq_true a3
           subst this
           exact ⟨_,_,hq⟩
         · simp at a3
       obtain ⟨sh,c,hlk⟩:=hlk
       have e1:∀ v,RepA A (.ref k s []) v→∃ d x,(Obj.box sh c).off [] = some d∧vaddr (A.pos k) = some x∧v = .pointer (some ⟨x.block,x.off + d,none⟩):=by
         rintro v ⟨_,s',o,q1,q2,q3⟩
         rw [hlk] at q1
         simp only [Option.some.injEq,Prod.mk.injEq] at q1
         obtain ⟨rfl,rfl⟩:=q1
         exact q3 rfl
       have hu:RepA A (.ref k s []) (T.getD t undef):=hu
       obtain ⟨d1,x1,b1,b2,b3⟩:=e1 u h1
       obtain ⟨d2,x2,c1,c2,c3⟩:=e1 _ hu
       rw [b1] at c1
       rw [b2] at c2
       simp only [Option.some.injEq] at c1 c2
       subst c1;subst c2
       refine ⟨?_,fun t' ht'=>?_⟩
       · rw [b3,g1,List.map_cons,c3]
       · rcases List.mem_cons.1 ht' with rfl | ht'
         · exact ⟨by simpa using a2,k,s,htm⟩
         · exact g2 t' ht'
theorem cb_value (r:RelIn cx tm lk a w Fz pos U) {keepT:List Nat} {c:Nat×FuncId×List Nat} (h:cbFit tm lk keepT (some c) = true) :
   ∃ s caps b cells T,lk c.1 = some (s,.box .leaf (.fn c.2.1 caps))∧pos c.1 = .pointer (some ⟨b,0,none⟩)∧w.heap[b]? = some (.cells cells T (0,0)) ∧
     cells.toList = [.func (.func c.2.1) #[] (c.2.2.map fun t=>a.tmps.getD t undef).toArray]∧∀ t ∈ c.2.2,t ∈ keepT∧∃ k s,tm t = .ref k s []:=by
 simp only [cbFit] at h
 split at h
 · rename_i s g caps hlk
   simp only [Bool.and_eq_true] at h
   have:=Nat.eq_of_beq_eq_true h.1
   subst this
   obtain ⟨_,b,cells,T,h1,h2,h3⟩:=r.objs _ _ _ hlk
   obtain ⟨u,h4,h5,us,h6,h7⟩:=h3
   obtain ⟨g1,g2⟩:=capAt_val (A:=cx.e Fz w lk pos) r.tmps _ _ _ h.2 h7
   refine ⟨s,caps,b,cells,T,hlk,h1,h2,?_,g2⟩
   rw [h4,h6,g1]
 · simp at h
theorem untup_spread:∀ (T:Ty) (vs:List V) (x:T.T),argsAs T vs = some x→vs = spread T x
 | .unit,[],x,_=>rfl
 | .unit,_ :: _,_,h=>by simp [argsAs] at h
 | .pair t u,[],x,h=>by simp [argsAs] at h
 | .pair t u,v :: r,x,h=>by
   simp only [argsAs] at h
   split at h
   · rename_i x1 x2 h1 h2
     simp only [Option.some.injEq] at h
     subst h
     rw [as_some h1,untup_spread u r x2 h2];rfl
   · simp at h
 | .int _,vs,x,h=>by simp [argsAs] at h
 | .bool,vs,x,h=>by simp [argsAs] at h
 | .str,vs,x,h=>by simp [argsAs] at h
 | .lst _,vs,x,h=>by simp [argsAs] at h
 | .arr _ _,vs,x,h=>by simp [argsAs] at h
 | .map _ _,vs,x,h=>by simp [argsAs] at h
theorem staysF_at {keepK:List Nat} {lk:Lk}:∀ (vs:List V),staysF keepK lk vs = true→∀ v ∈ vs,sameL v (v.mapT (renAtom keepK lk)) = true
 | [],_,v,hv=>by cases hv
 | v0 :: r,h,v,hv=>by
   simp only [staysF,Bool.and_eq_true] at h
   rcases List.mem_cons.1 hv with rfl | hv
   · exact h.1
   · exact staysF_at r h.2 v hv
theorem findT_mem:∀ (p:List (Nat×V)) (t:Nat) (v:V),findT p t = some v→(t,v) ∈ p
 | [],t,v,h=>by simp [findT] at h
 | q :: p,t,v,h=>by
   simp only [findT] at h
   cases hb:Nat.beq q.1 t with
   | true =>
     rw [hb] at h
     simp only [cond_true,Option.some.injEq] at h
     rw [← Nat.eq_of_beq_eq_true hb,← h];exact List.mem_cons_self
   | false =>
     rw [hb] at h
     exact List.mem_cons_of_mem _ (findT_mem p t v h)
section
variable {R:RTold} {n:Nat} {keepT keepK:List Nat} {vs:List V} {aT:Array Value} {dfs:List Deferred} {D l:Nat} {rec:LoopState→Option Code→Loop}
theorem hd_tm (x:R.t.T) (t:Nat):(hdR R n keepT keepK vs x).tm t = .junk ∨ ∃ v ∈ vs,(hdR R n keepT keepK vs x).tm t = v:=by
 show (match findT (keepT.zip vs) t with | some v=>v | none=>bif Nat.blt t n then V.junk else .junk) = .junk ∨ ∃ v ∈ vs,(match findT (keepT.zip vs) t with | some v=>v | none=>bif Nat.blt t n then V.junk else .junk) = v
 cases h:findT (keepT.zip vs) t with
 | none=>left;simp only;cases Nat.blt t n <;> rfl
 | some v=>right;exact ⟨v,(List.of_mem_zip (findT_mem _ _ _ h)).2,rfl⟩
theorem JR.fcall (hΓ:CfgOk P Γ) (hP:cx.P = P) (hg:cx.G = Γ.glob) {an:Ann} {p:Nat} (hF:FOk Γ an p R) {c:Nat×FuncId×List Nat} (hc:R.cb = some c) (hdec:∀ e os x,R.dec e os = some x→R.enc x = os∧R.ex x = e)
   (hn:n = an.ntR) (hkT:keepT = (an.keepOf p).1) (hkK:keepK = (an.keepOf p).2) (href:∀ t ∈ c.2.2,∀ x,(∃ k s p',(hdR R n keepT keepK vs x).tm t = .ref k s p') ∨ (hdR R n keepT keepK vs x).tm t = .junk)
   {x:R.t.T} {xs:List V} {x':R.t.T} {y:R.b.T} (hf:R.f vs x xs = some (x',y)) {UJ Fz:Nat→Prop} {W:World} {us:List Value} (hJ:JR cx R n keepT keepK vs aT dfs D l rec x UJ Fz W) (hUJ:∀ b,UJ b→b < W.heap.size∧¬ Fz b) (hus:Pt (RepG (E0 P Γ.glob Fz W)) xs us) :
   HasBody P c.2.1∧Calls P c.2.1 (us ++ c.2.2.map fun t=>aT.getD t undef).toArray W fun e w'=>∃ v Fz' U',e = .returned v∧RepT (E0 P Γ.glob Fz' w') (.tup (spread R.b y)) v∧JR cx R n keepT keepK vs aT dfs D l rec x' U' Fz' w'∧StepW UJ Fz W Fz' w'∧∀ b,U' b→b < w'.heap.size∧¬ Fz' b∧(UJ b ∨ W.heap.size ≤ b):=by
 obtain ⟨pos,U0,r,hU,hD,hl,hnD,hnl,hns⟩:=hJ
 obtain ⟨hex,hb⟩:=hF.some c hc vs x xs (x',y) hf
 rw [hex] at hl
 have hDlt:=(Array.getElem?_eq_some_iff.1 hD).1
 have hllt:=(Array.getElem?_eq_some_iff.1 hl).1
 have hFD:¬ Fz D:=(hUJ D ((hU D).2 (.inl rfl))).2
 have hFL:¬ Fz l:=(hUJ l ((hU l).2 (.inr (.inl rfl)))).2
 unfold fbody at hb
 rw [← hn,← hkT,← hkK] at hb
 have hst:build n keepT keepK vs (R.enc x) = hdR R n keepT keepK vs x:=rfl
 rw [hst,nat_callX hΓ.natX] at hb
 cases he:evCallX Γ (hdR R n keepT keepK vs x).lk 0 (.fn c.2.1 (c.2.2.map (hdR R n keepT keepK vs x).tm)) xs some with
 | none=>rw [he] at hb;simp at hb
 | some e =>
   rw [he] at hb
   simp only [Option.bind_some] at hb
   let cxB:=cx.rebase W Fz (WrO (hdR R n keepT keepK vs x).lk pos U0) cx.sav r.step.size r.wrO
   have rB:RelIn cxB (hdR R n keepT keepK vs x).tm (hdR R n keepT keepK vs x).lk ⟨aT,dfs⟩ W Fz pos U0 :=
     ⟨r.toHeld.rebase cx.sav (fun _ _ h=>h),r.size,r.defers,r.dnd,fun t=>RepT.mono (rebase_le (fun _ _ h=>h)) _ _ (r.tmps t)⟩
   have hpt:Pt (RepA (cxB.e Fz W (hdR R n keepT keepK vs x).lk pos)) (c.2.2.map (hdR R n keepT keepK vs x).tm) (c.2.2.map fun t=>aT.getD t undef):=by
     have:∀ ts:List Nat,(∀ t ∈ ts,t ∈ c.2.2)→Pt (RepA (cxB.e Fz W (hdR R n keepT keepK vs x).lk pos)) (ts.map (hdR R n keepT keepK vs x).tm) (ts.map fun t=>aT.getD t undef):=by
       intro ts
       induction ts with
       | nil=>intro _;rfl
       | cons t ts ih =>
         intro hm
         refine ⟨_,_,rfl,?_,ih fun t' ht'=>hm t' (List.mem_cons_of_mem _ ht')⟩
         have h1:=rB.tmps t
         rcases href t (hm t (by simp)) x with ⟨k,s,p',h2⟩ | h2
         · rw [h2] at h1 ⊢;exact h1
         · rw [h2];trivial
     exact this c.2.2 fun _ h=>h
   have hva:Pt (RepT (cxB.e Fz W (hdR R n keepT keepK vs x).lk pos)) xs us :=
     Pt.mono (fun v u h=>from0 (cx:=cxB) (lk:=(hdR R n keepT keepK vs x).lk) (pos:=pos) (Γ:=Γ) hP hg (by cases v <;> first | exact h | exact h.elim)) _ _ hus
   obtain ⟨hbody,hcalls⟩:=callX_rel (cx:=cxB) hΓ (show cxB.P = P from hP) rB (show cxB.G = Γ.glob from hg) hpt hva he
   refine ⟨hbody,Calls.mono hcalls ?_⟩
   rintro en w' ⟨v,Fz',pos',rfl,r2,hrv⟩
   obtain ⟨st',hst'⟩:∃ st',st' = (hdR R n keepT keepK vs x).apply none e:=⟨_,rfl⟩
   rw [← hst'] at hb
   have hlk':st'.lk = updLk e.wr (hdR R n keepT keepK vs x).lk:=by rw [hst'];exact puts_look _ _
   have htm':st'.tm = (hdR R n keepT keepK vs x).tm:=by rw [hst'];rfl
   rw [← hlk'] at r2 hrv
   rw [← htm'] at r2
   cases hck:(staysF keepK st'.lk vs && objsOk (norm [] keepK st').objs && noSav (norm [] keepK st').objs && e.val.scalar) with
   | false=>rw [hck] at hb;simp at hb
   | true =>
     rw [hck] at hb
     simp only [cond_true] at hb
     simp only [Bool.and_eq_true] at hck
     obtain ⟨⟨⟨he1,he2⟩,he3⟩,he4⟩:=hck
     cases hdx:R.dec .normal (keptO keepK st') with
     | none=>rw [hdx] at hb;simp at hb
     | some x2 =>
       rw [hdx] at hb
       simp only [Option.bind_some,Option.map_eq_some_iff,Prod.mk.injEq] at hb
       obtain ⟨y2,hy2,rfl,rfl⟩:=hb
       obtain ⟨henc,hex2⟩:=hdec _ _ _ hdx
       have hval:e.val = .tup (spread R.b y2):=by
         cases hv:e.val <;> rw [hv] at hy2 <;> simp only [untup] at hy2 <;> try (simp at hy2;done)
         rw [untup_spread _ _ _ hy2]
       have hlkN:(hdR R n keepT keepK vs x2).lk = (norm [] keepK st').lk:=by
         show lookObj (objsAt keepK (R.enc x2)) = _
         rw [henc];rfl
       have rN:=norm_in (keepT:=[]) (keepK:=keepK) he2 r2
       have nm:=norm_map (keepT:=[]) (keepK:=keepK) r2.toHeld
       have hs2:StepW (WrO (hdR R n keepT keepK vs x).lk pos U0) Fz W Fz' w':=r2.step
       have hwrN:∀ b,WrO (hdR R n keepT keepK vs x2).lk pos' U0 b→W.heap.size ≤ b ∨ WrO (hdR R n keepT keepK vs x).lk pos U0 b:=by
         rintro b (⟨k,s,o,g1,g2⟩ | g1)
         · rw [hlkN] at g1;exact (rN.own k s o b g1 g2).2
         · exact (rN.ugh b g1).2.2.1
       have hFzN:∀ b,WrO (hdR R n keepT keepK vs x2).lk pos' U0 b→¬ Fz' b∧b < w'.heap.size:=by
         rintro b (⟨k,s,o,g1,g2⟩ | g1)
         · rw [hlkN] at g1;exact ⟨(rN.own k s o b g1 g2).1,(rN.objs k s o g1).lt g2⟩
         · exact ⟨(rN.ugh b g1).2.1,(rN.ugh b g1).1⟩
       have hnN:∀ b,b < W.heap.size→¬ WrO (hdR R n keepT keepK vs x).lk pos U0 b→¬ WrO (hdR R n keepT keepK vs x2).lk pos' U0 b:=fun b g1 g2 h=>(hwrN b h).elim (fun k=>by omega) g2
       have hH:Held cx (hdR R n keepT keepK vs x2).lk w' Fz' pos' U0:=by
         rw [hlkN]
         exact Held.unbase (cx:=cx) (s:=cx.sav) r.toHeld rN.toHeld
       have hns2:∀ k s o,(hdR R n keepT keepK vs x2).lk k = some (s,o)→o.isSav = false:=fun k s o h=>by
         have h:lookObj (objsAt keepK (R.enc x2)) k = some (s,o):=h
         rw [henc] at h
         exact noSav_look _ he3 k s o h
       have hfutW:Fut Fz W Fz' w':=hs2.fut r.step.lt r.wrFz
       have hT:∀ t,RepT (cx.e Fz' w' (hdR R n keepT keepK vs x2).lk pos') ((hdR R n keepT keepK vs x2).tm t) (aT.getD t undef):=by
         intro t
         have htt:(hdR R n keepT keepK vs x2).tm t = (hdR R n keepT keepK vs x).tm t:=rfl
         rw [htt,hlkN]
         rcases hd_tm (R:=R) (n:=n) (keepT:=keepT) (keepK:=keepK) (vs:=vs) x t with h | ⟨v0,hv0,h⟩
         · rw [h];trivial
         · have h1:=r.tmps t
           have h2:=r2.tmps t
           rw [htm'] at h2
           rw [h] at h1 h2 ⊢
           exact sameL_rep (A:=cx.e Fz W (hdR R n keepT keepK vs x).lk pos) (B:=cx.e Fz' w' (norm [] keepK st').lk pos') rfl rfl hfutW (fun _ _ h=>h) (staysF_at vs he1 v0 hv0) h1 (mapT_rep nm h2)
       refine ⟨v,Fz',fun b=>b = D ∨ b = l ∨ WrO (hdR R n keepT keepK vs x2).lk pos' U0 b,rfl,?_,⟨pos',U0,⟨hH,r.size,fun d hd=>?_,r.dnd,hT⟩,fun b=>Iff.rfl,(hs2.block D hDlt hnD).trans hD,by rw [hex2];exact (hs2.block l hllt hnl).trans hl,hnN D hDlt hnD,hnN l hllt hnl,hns2⟩,?_,fun b hb=>?_⟩
       · rw [hval] at hrv he4
         exact scalar_rep he4 hrv
       · obtain ⟨D',d1,d2,d3,d4,d9⟩:=r.defers d hd
         have d5:=(Array.getElem?_eq_some_iff.1 d2).1
         have d6:¬ WrO (hdR R n keepT keepK vs x).lk pos U0 D':=by
           rintro (⟨k,s,o,g1,g2⟩ | g1)
           · exact (r.objs k s o g1).noMark g2 _ d2
           · exact d4 g1
         exact ⟨D',d1,(hs2.block D' d5 d6).trans d2,d3,d4,fun h=>d9 ((hs2.fz D' d5 d6).1 h)⟩
       · exact ⟨hs2.os,hs2.tape,hs2.output,hs2.size,fun b g1 g2=>hs2.block b g1 fun k=>g2 ((hU b).2 (.inr (.inr k))),fun b g1 g2=>hs2.fz b g1 fun k=>g2 ((hU b).2 (.inr (.inr k))),hs2.lt⟩
       · rcases hb with rfl | rfl | hb
         · exact ⟨Nat.lt_of_lt_of_le hDlt hs2.size,fun h=>hFD ((hs2.fz _ hDlt hnD).1 h),.inl ((hU _).2 (.inl rfl))⟩
         · exact ⟨Nat.lt_of_lt_of_le hllt hs2.size,fun h=>hFL ((hs2.fz _ hllt hnl).1 h),.inl ((hU _).2 (.inr (.inl rfl)))⟩
         · refine ⟨(hFzN b hb).2,(hFzN b hb).1,?_⟩
           rcases hwrN b hb with h | h
           · exact .inr h
           · exact .inl ((hU b).2 (.inr (.inr h)))
end
end Go.Pv
