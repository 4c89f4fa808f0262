/- The purifying layer, part 24d: code. -/
import Derived.Test.YtlebcefahlienaaPvXu
set_option linter.unusedVariables false
set_option linter.unusedSimpArgs false
namespace Go.Pv
variable {P:Program} {Γ:Cfg} {cx:Cx} {tm:Tm} {lk:Lk} {a:Act} {w:World} {Fz:Nat→Prop} {pos:Nat→Value} {U:Nat→Prop}
def MOk (P:Program) (Γ:Cfg) (an:Ann) (root:Code):Prop :=
 ∀ p f,an.M p = some f→∀ k b,codeAt root k p = some (.loop b)→∀ (cx:Cx),cx.P = P→cx.G = Γ.glob→∀ (F:Fence),Wide F→∀ (n:Nat) {C:Type} (st:St) (K':Ex→St→Option C) (r0:C) (a:Act) (w:World),st.tmps.length = cx.nt →
   f.run st.tmps.length (keptV (an.keepOf p).1 (an.keepOf p).2 st) (keptO (an.keepOf p).2 st) K' = some r0→RelS cx st.s2 a w→∀ Q:Exit→Act→World→Prop,
   (∀ e st' a' w',st'.tmps.length = cx.nt→RelS cx st'.s2 a' w'→K' e st' = some r0→Q (exOf e) a' w')→(Code.loop b).wpIn F n P Q a w
structure LOk (P:Program) (Γ:Cfg) (an:Ann) (root:Code):Prop where
 loops:LOk0 Γ an root
 maps:MOk P Γ an root
theorem noMaps {an:Ann} (h:an.M = fun _=>none) (root:Code):MOk P Γ an root:=fun p f hp=>by rw [h] at hp;cases hp
def EvSound (P:Program) (Γ:Cfg) (c:Code):Prop :=
 ∀ (cx:Cx),cx.P = P→cx.G = Γ.glob→∀ (F:Fence),Wide F→∀ (n:Nat) (an:Ann) (root:Code),LOk P Γ an root→LOk P Γ an.inR root→ROk Γ an root→(an.sc = true→F = Fence.wide) →
   ((∀ p,an.R p = none) ∨ (F = Fence.wide∧cx.sav = (fun _=>none)∧an.ntR = cx.nt∧cx.q0 ≤ cx.w0.heap.size))→∀ (p:Nat),AtP root p c→∀ {C:Type} (st:St) (K':Ex→St→Option C) (r0:C) (a:Act) (w:World),st.tmps.length = cx.nt →
   ev Γ an c p st K' = some r0→RelS cx st.s2 a w→∀ Q:Exit→Act→World→Prop,
   (∀ e st' a' w',st'.tmps.length = cx.nt→RelS cx st'.s2 a' w'→K' e st' = some r0→Q (exOf e) a' w')→c.wpIn F n P Q a w
section
variable {R:RTold} {n:Nat} {keepT keepK:List Nat} {vs:List V} {aT:Array Value} {dfs:List Deferred} {D l:Nat} {rec:LoopState→Option Code→Loop}
theorem putObj_other {W:World} {k b:Nat} {o:Go.Obj} (h:b ≠ k):(W.putObj k o).heap[b]? = W.heap[b]?:=World.putObj_heap_other h
theorem Held.putL (r:Held cx lk w Fz pos U) {l:Nat} (o:Go.Obj) (hl:¬ WrO lk pos U l) (hF:¬ Fz l) (h0:cx.w0.heap.size ≤ l):Held cx lk (w.putObj l o) Fz pos U:=by
 have hn:Near cx.w0 cx.Wr U Fz w Fz (w.putObj l o):=by
   refine ⟨rfl,rfl,rfl,by simp [World.putObj],fun b hb=>putObj_other fun e=>?_,fun _ _=>Iff.rfl,fun b hb=>⟨hb,putObj_other fun e=>hF (by rw [← e];exact hb)⟩,fun b hb=>by have:=r.step.lt b hb;simpa [World.putObj] using this⟩
   subst e
   rcases hb with hb | ⟨hb,_⟩
   · exact hl (.inr hb)
   · omega
 refine r.near hn fun k s o' b h hb=>⟨putObj_other fun e=>hl (.inl ⟨k,s,o',h,by rw [← e];exact hb⟩),(r.own k s o' b h hb).1⟩
theorem saved_get {keepK:List Nat} {lk:Lk}:∀ (vs:List V) (i:Nat),savedR keepK lk i vs = true→∀ (j:Nat) v,vs[j]? = some v→∃ s u,lk (sB + (i + j)) = some (s,.sav (i + j) u)∧sameL v (u.mapT (renAtom keepK lk)) = true
 | [],i,h,j,v,hv=>by simp at hv
 | v0 :: r,i,h,j,v,hv=>by
   simp only [savedR,Bool.and_eq_true] at h
   obtain ⟨h1,h2⟩:=h
   cases j with
   | zero =>
     simp only [List.getElem?_cons_zero,Option.some.injEq] at hv
     subst hv
     split at h1
     · rename_i s j' u hl
       simp only [Bool.and_eq_true] at h1
       have:=Nat.eq_of_beq_eq_true h1.1
       subst this
       exact ⟨s,u,hl,h1.2⟩
     · simp at h1
   | succ j =>
     obtain ⟨s,u,g1,g2⟩:=saved_get r (i + 1) h2 j v (by simpa using hv)
     rw [show i + (j + 1) = i + 1 + j by omega]
     exact ⟨s,u,g1,g2⟩
def jumpOf:Ex→Option Code
 | .normal=>none
 | e=>some (codeOf e)
def isNorm:Ex→Bool
 | .normal=>true
 | _=>false
theorem JR.round (hΓ:CfgOk P Γ) (hP:cx.P = P) (hg:cx.G = Γ.glob) (hsav:cx.sav = fun _=>none) {an:Ann} {root asg body:Code} {ps:Array Tmp} {p:Nat} (hL:LOk P Γ an.inR root) (ihA:EvSound P Γ asg) (ihB:EvSound P Γ body) (hatA:AtP root (2 * p) asg) (hatB:AtP root (2 * p + 1) body)
   (hdec:∀ e os x,R.dec e os = some x→R.enc x = os∧R.ex x = e) {fn:FuncId} (hrec:rec = fun st pe=>{ state:=st,pending:=pe,fn:=fn,tmps:=aT,params:=ps,assign:=asg,body:=body,defers:=D }) (hnt:n = cx.nt)
   {g:Nat→V} (hvs:vs = keepT.map g) (hkT:keepT = (an.keepOf p).1) (hkK:keepK = (an.keepOf p).2)
   (h0D:cx.w0.heap.size ≤ D) (h0l:cx.w0.heap.size ≤ l) {x:R.t.T} {xs:List V} {x':R.t.T} {y:Bool} (hex:R.ex x = .normal)
   (hb:rbody Γ an asg body p n vs (R.enc x) ps.toList xs (fun e os=>(R.dec e os).bind fun x'=>some (x',(match e with | .normal=>true | _=>false))) = some (x',y))
   {UJ Fz:Nat→Prop} {W:World} {us:List Value} (hJ:JR cx R n keepT keepK vs aT dfs D l rec x UJ Fz W) (hUJ:∀ b,UJ b→b < W.heap.size∧¬ Fz b) (hpx:puresOk xs = true) (hus:Pt (RepG (E0 P Γ.glob Fz W)) xs us) :
   YieldAt Fence.wide 0 P l us.toArray W fun e w'=>∃ v Fz' U',e = .returned v∧RepT (E0 P Γ.glob Fz' w') (.dat .bool y) v∧JR cx R n keepT keepK vs aT dfs D l rec x' U' Fz' w'∧StepW UJ Fz W Fz' w'∧∀ b,U' b→b < w'.heap.size∧¬ Fz' b∧(UJ b ∨ W.heap.size ≤ b):=by
 obtain ⟨pos,U0,r,hU,hD,hl,hnD,hnl,hns⟩:=hJ
 rw [hex] at hl
 have hl:W.heap[l]? = some (.loop (rec .ready none)):=hl
 have hDlt:=(Array.getElem?_eq_some_iff.1 hD).1
 have hllt:=(Array.getElem?_eq_some_iff.1 hl).1
 have hFD:¬ Fz D:=(hUJ D ((hU D).2 (.inl rfl))).2
 have hFL:¬ Fz l:=(hUJ l ((hU l).2 (.inr (.inl rfl)))).2
 -- the round's code
 unfold rbody rbodyWith at hb
 rw [← hkT,← hkK] at hb
 cases hc:(objsOk (objsAt keepK (R.enc x)) && Nat.beq ps.toList.length xs.length && decide ps.toList.Nodup && smallK keepK && ltAll n ps.toList) with
 | false=>rw [hc] at hb;simp at hb
 | true =>
   rw [hc] at hb
   simp only [cond_true] at hb
   simp only [Bool.and_eq_true,decide_eq_true_eq] at hc
   obtain ⟨⟨⟨⟨hc1,hc2⟩,hc3⟩,hc4⟩,hc5⟩:=hc
   have hc2:=Nat.eq_of_beq_eq_true hc2
   have hul:=Pt.length _ _ hus
   have hsize:aT.size = n:=by rw [hnt];exact r.size
   -- the call of yield
   have hy:=run_yield (P:=P) (args:=us.toArray) hl (by rw [hrec];simp;simp at hc2;omega)
   rw [hrec] at hy
   refine ⟨fn,_,asg,body,hy,roundIn_of_wpIn trivial ?_⟩
   -- what is kept beside the slots
   obtain ⟨sav,hsv⟩:∃ sav:Nat→Option Value,sav = fun i=>(keepT[i]?).map fun t=>aT.getD t undef:=⟨_,rfl⟩
   have hss:∀ i v,cx.sav i = some v→sav i = some v:=fun i v h=>by rw [hsav] at h;cases h
   let cxB:=cx.rebase W Fz (WrO (hdR R n keepT keepK vs x).lk pos U0) sav r.step.size r.wrO
   let posB:Nat→Value:=fun k=>if sB ≤ k then undef else pos k
   have hlkA:(hdR R n keepT keepK vs x).lk = lookObj (objsAt keepK (R.enc x)):=rfl
   have hkB:∀ k s o,lookObj (objsAt keepK (R.enc x)) k = some (s,o)→k < sB:=fun k s o h=>small_mem _ hc4 k (objsAt_keys _ _ k s o h)
   have hst:(startR n keepT keepK vs (R.enc x) ps.toList xs).lk = lookObj (objsAt keepK (R.enc x) ++ savObjs 0 vs):=rfl
   -- what lies in memory at the round's head
   have hleB:Le (cx.e Fz W (hdR R n keepT keepK vs x).lk pos) (cxB.e Fz W (startR n keepT keepK vs (R.enc x) ps.toList xs).lk posB):=by
     refine ⟨rfl,rfl,fun _ _ h=>h,hss,Fut.refl _ _,fun k s o h=>?_⟩
     have h:lookObj (objsAt keepK (R.enc x)) k = some (s,o):=h
     refine ⟨s,o,?_,Nat.le_refl _,fun _=>Ext.mk (Obj.alike_refl _) ?_⟩
     · show lookObj (objsAt keepK (R.enc x) ++ savObjs 0 vs) k = _
       rw [look_app,h]
     · have:=hkB k s o h
       show (if sB ≤ k then undef else pos k) = pos k
       rw [if_neg (by omega)]
   have htm:∀ (i t:Nat),keepT[i]? = some t→RepT (cx.e Fz W (hdR R n keepT keepK vs x).lk pos) (g t) (aT.getD t undef):=by
     intro i t hi
     have h1:=r.tmps t
     have h2:(hdR R n keepT keepK vs x).tm t = g t:=by
       show (match findT (keepT.zip vs) t with | some v=>v | none=>bif Nat.blt t n then V.junk else .junk) = g t
       rw [hvs]
       rcases zip_at g keepT t with h | h
       · rw [h]
       · exfalso
         have:∀ ts:List Nat,t ∈ ts→findT (ts.zip (ts.map g)) t ≠ none:=by
           intro ts
           induction ts with
           | nil=>intro h;simp at h
           | cons q ts ih =>
             intro hm
             simp only [List.map_cons,List.zip_cons_cons,findT]
             cases hq:Nat.beq q t with
             | true=>simp
             | false =>
               simp only [cond_false]
               refine ih ?_
               rcases List.mem_cons.1 hm with rfl | hm
               · simp at hq
               · exact hm
         exact this keepT (List.mem_of_getElem? hi) h
     rw [h2] at h1;exact h1
   have hcase:∀ k s o,(startR n keepT keepK vs (R.enc x) ps.toList xs).lk k = some (s,o)→(k < sB∧lookObj (objsAt keepK (R.enc x)) k = some (s,o)∧posB k = pos k) ∨ (NB (posB k)∧∃ i v,vs[i]? = some v∧o = .sav i v∧sB ≤ k):=by
     intro k s o h
     have h:lookObj (objsAt keepK (R.enc x) ++ savObjs 0 vs) k = some (s,o):=h
     rw [look_app] at h
     cases hA:lookObj (objsAt keepK (R.enc x)) k with
     | some q =>
       rw [hA] at h
       simp only [Option.some.injEq] at h
       subst h
       have:=hkB k s o hA
       exact .inl ⟨this,rfl,by show (if sB ≤ k then undef else pos k) = pos k;rw [if_neg (by omega)]⟩
     | none =>
       rw [hA] at h
       obtain ⟨j,v,h1,h2,h3,h4⟩:=sav_look _ _ _ _ _ h
       refine .inr ⟨?_,j,v,h1,by rw [h4,Nat.zero_add],by omega⟩
       show NB (if sB ≤ k then undef else pos k)
       rw [if_pos (by omega)];exact NB_undef
   have hHeldB:Held cxB (startR n keepT keepK vs (R.enc x) ps.toList xs).lk W Fz posB U0:=by
     have hreb:=r.toHeld.rebase sav hss
     refine ⟨fun k s o h=>?_,fun k s o b h hb'=>?_,fun k s o k' s' o' b h h' hb1 hb2=>?_,hreb.step,hreb.inv0,hreb.wr0,fun k s t run z h=>?_,fun k o q h hq=>?_,fun b hb'=>?_⟩
     · rcases hcase k s o h with ⟨h1,h2,h3⟩ | ⟨h1,i,v,h2,rfl,_⟩
       · rw [h3];exact RepO.mono hleB _ _ (fun _ _=>rfl) (r.objs k s o h2)
       · refine ⟨h1,?_⟩
         rw [hvs] at h2
         simp only [List.getElem?_map,Option.map_eq_some_iff] at h2
         obtain ⟨t,ht,rfl⟩:=h2
         refine ⟨aT.getD t undef,?_,RepT.mono hleB _ _ (htm i t ht)⟩
         show sav i = _
         rw [hsv];simp [ht]
     · rcases hcase k s o h with ⟨h1,h2,h3⟩ | ⟨h1,_⟩
       · rw [h3] at hb';exact hreb.own k s o b h2 hb'
       · exact absurd hb' (h1 _)
     · rcases hcase k s o h with ⟨h1,h2,h3⟩ | ⟨h1,_⟩
       · rcases hcase k' s' o' h' with ⟨h4,h5,h6⟩ | ⟨h4,_⟩
         · rw [h3] at hb1;rw [h6] at hb2;exact r.inj k s o k' s' o' b h2 h5 hb1 hb2
         · exact absurd hb2 (h4 _)
       · exact absurd hb1 (h1 _)
     · rcases hcase k s _ h with ⟨h1,h2,h3⟩ | ⟨h1,i,v,h2,h3,_⟩
       · exact hreb.gh k s t run z h2
       · cases h3
     · rcases hcase k 0 o h with ⟨h1,h2,h3⟩ | ⟨h1,i,v,h2,rfl,h4⟩
       · rw [h3];exact hreb.orig k o q h2 hq
       · exfalso
         have:=cx.ogG k q hq
         unfold isG at this
         simp only [Bool.and_eq_true] at this
         have h5:k < eB:=by simpa using this.2
         have h6:eB ≤ sB:=by decide
         omega
     · obtain ⟨g1,g2,g3,g4⟩:=hreb.ugh b hb'
       refine ⟨g1,g2,g3,fun k s o h hb2=>?_⟩
       rcases hcase k s o h with ⟨h1,h2,h3⟩ | ⟨h1,_⟩
       · rw [h3] at hb2;exact g4 k s o h2 hb2
       · exact absurd hb2 (h1 _)
   -- its slots
   obtain ⟨f1,f2⟩:=fold_rep (RX:=RepT (cxB.e Fz W (startR n keepT keepK vs (R.enc x) ps.toList xs).lk posB)) ps.toList xs us aT
     (Pt.mono (fun v u h=>from0 (cx:=cxB) (lk:=(startR n keepT keepK vs (R.enc x) ps.toList xs).lk) (pos:=posB) (Γ:=Γ) hP hg (by cases v <;> first | exact h | exact h.elim)) _ _ hus) hc2 hc3 (fun q hq=>by rw [hsize];exact ltAll_mem _ hc5 q hq)
   have hfold:(ps.zip us.toArray).foldl (fun t (q:Nat×Value)=>t.setIfInBounds q.1 q.2) aT = (ps.toList.zip us).foldl (fun t q=>t.setIfInBounds q.1 q.2) aT:=by
     rw [← Array.foldl_toList];simp
   have hRelB:RelS cxB (startR n keepT keepK vs (R.enc x) ps.toList xs).s2 { tmps:=(ps.zip us.toArray).foldl (fun t (q:Nat×Value)=>t.setIfInBounds q.1 q.2) aT,defers:=[] } W:=by
     refine ⟨Fz,posB,U0,hHeldB,by rw [hfold];exact f1.trans r.size,fun d hd=>by simp at hd,List.nodup_nil,fun t=>?_⟩
     rw [hfold]
     show RepT _ (match findT (ps.toList.zip xs ++ keepT.zip vs) t with | some v=>v | none=>bif Nat.blt t n then V.junk else .junk) _
     rw [findT_app]
     rcases f2 t with ⟨v,h1,h2⟩ | ⟨h1,h2⟩
     · rw [h1];exact h2
     · rw [h1,h2]
       simp only
       have:=RepT.mono hleB _ _ (r.tmps t)
       exact this
   have hlenB:(startR n keepT keepK vs (R.enc x) ps.toList xs).tmps.length = cxB.nt:=hnt
   refine ihA cxB hP hg (Fence.wide.inRound l) ⟨fun _=>trivial,rfl,rfl⟩ 0 an.inR root hL hL (fun p R' h=>by simp [Ann.inR] at h) (fun h=>by simp [Ann.inR] at h) (.inl fun _=>rfl) (2 * p) hatA _ _ _ _ W hlenB hb hRelB _ fun e1 st1 a1 w1 hlen1 hr1 hk1=>?_
   cases e1 with
   | exit id=>simp at hk1
   | ret=>simp at hk1
   | normal =>
     simp only at hk1
     obtain ⟨Fz1,pos1,U1,r1⟩:=hr1
     have r1:RelIn cxB st1.tm st1.lk a1 w1 Fz1 pos1 U1:=r1
     have hs1:StepW (WrO (hdR R n keepT keepK vs x).lk pos U0) Fz W Fz1 w1:=r1.step
     have hwr1:∀ b,WrO st1.lk pos1 U1 b→W.heap.size ≤ b ∨ WrO (hdR R n keepT keepK vs x).lk pos U0 b:=r1.wrO
     have hFz:∀ b,WrO (hdR R n keepT keepK vs x).lk pos U0 b→¬ Fz b:=r.wrFz
     have hl1:w1.heap[l]? = some (.loop (rec .ready none)):=(hs1.block l hllt hnl).trans hl
     have hn1:¬ WrO st1.lk pos1 U1 l:=fun h=>(hwr1 l h).elim (fun k=>by omega) hnl
     have hFl1:¬ Fz1 l:=fun h=>hFL ((hs1.fz l hllt hnl).1 h)
     have hl1lt:=(Array.getElem?_eq_some_iff.1 hl1).1
     obtain ⟨w2,hw2⟩:∃ w2,w2 = w1.putObj l (.loop { rec .ready none with state:=.busy }):=⟨_,rfl⟩
     refine ⟨w2,by rw [hw2];exact run_beginRound hl1 (by rw [hrec]),?_⟩
     have hu1:Held (cx.withSav sav) st1.lk w1 Fz1 pos1 U1:=Held.unbase r.toHeld r1.toHeld
     have hu2:Held (cx.withSav sav) st1.lk w2 Fz1 pos1 U1:=by rw [hw2];exact hu1.putL _ hn1 hFl1 h0l
     have hl2:w2.heap[l]? = some (.loop { rec .ready none with state:=.busy }):=by rw [hw2];exact World.putObj_heap_same hl1lt
     have hsz2:w2.heap.size = w1.heap.size:=by rw [hw2];simp [World.putObj]
     have h12:∀ b,b ≠ l→w2.heap[b]? = w1.heap[b]?:=fun b hb=>by rw [hw2];exact putObj_other hb
     let cxC:=(cx.withSav sav).rebase w2 Fz1 (WrO st1.lk pos1 U1) sav hu2.step.size hu2.wrO
     have hC:Held cxC st1.lk w2 Fz1 pos1 U1:=hu2.rebase sav (fun _ _ h=>h)
     have hfut12:Fut Fz1 w1 Fz1 w2:=fun b hb=>⟨hb,h12 b fun e=>hFl1 (by rw [← e];exact hb)⟩
     have hRelC:RelS cxC st1.s2 a1 w2:=by
       refine ⟨Fz1,pos1,U1,hC,r1.size,fun d hd=>?_,r1.dnd,fun t=>RepT.mono (A:=cxB.e Fz1 w1 st1.lk pos1) (B:=cxC.e Fz1 w2 st1.lk pos1) ⟨rfl,rfl,fun _ _ h=>h,fun _ _ h=>h,hfut12,fun k s o h=>⟨s,o,h,Nat.le_refl _,fun _=>Ext.mk (Obj.alike_refl _) rfl⟩⟩ _ _ (r1.tmps t)⟩
       obtain ⟨D',d1,d2,d3,d4,d9⟩:=r1.defers d hd
       exact ⟨D',d1,(h12 D' fun e=>by subst e;rw [hl1] at d2;cases d2).trans d2,d3,d4,d9⟩
     refine ihB cxC hP hg (Fence.wide.inRound l) ⟨fun _=>trivial,rfl,rfl⟩ 0 an.inR root hL hL (fun p R' h=>by simp [Ann.inR] at h) (fun h=>by simp [Ann.inR] at h) (.inl fun _=>rfl) (2 * p + 1) hatB _ _ _ _ w2 hlen1 hk1 hRelC _ fun e2 st2 a2 w' hlen2 hr2 hk2=>?_
     obtain ⟨Fz2,pos2,U2,r2⟩:=hr2
     have r2:RelIn cxC st2.tm st2.lk a2 w' Fz2 pos2 U2:=r2
     cases hend:endOkR keepK vs st2 with
     | false=>rw [hend] at hk2;simp at hk2
     | true =>
       rw [hend] at hk2
       simp only [cond_true] at hk2
       simp only [endOkR,Bool.and_eq_true] at hend
       obtain ⟨⟨he1,he2⟩,he3⟩:=hend
       cases hdx:R.dec e2 (keptO keepK st2) with
       | none=>rw [hdx] at hk2;simp at hk2
       | some x2 =>
         rw [hdx] at hk2
         simp only [Option.bind_some,Option.some.injEq,Prod.mk.injEq] at hk2
         obtain ⟨rfl,hy2⟩:=hk2
         obtain ⟨henc,hex2⟩:=hdec e2 _ x2 hdx
         have hs2:StepW (WrO st1.lk pos1 U1) Fz1 w2 Fz2 w':=r2.step
         have hwr2:∀ b,WrO st2.lk pos2 U2 b→w2.heap.size ≤ b ∨ WrO st1.lk pos1 U1 b:=r2.wrO
         -- what is kept at a round's end
         have hlkN:(hdR R n keepT keepK vs x2).lk = (norm [] keepK st2).lk:=by
           show lookObj (objsAt keepK (R.enc x2)) = _
           rw [henc];rfl
         have rN:=norm_in (keepT:=[]) (keepK:=keepK) he2 r2
         have nm:=norm_map (keepT:=[]) (keepK:=keepK) r2.toHeld
         have hwrN:∀ b,WrO (hdR R n keepT keepK vs x2).lk pos2 U2 b→w2.heap.size ≤ b ∨ WrO st1.lk pos1 U1 b:=by
           rintro b (⟨k,s,o,g1,g2⟩ | g1)
           · rw [hlkN] at g1;exact (rN.own k s o b g1 g2).2
           · exact (rN.ugh b g1).2.2.1
         have hwrW:∀ b,WrO (hdR R n keepT keepK vs x2).lk pos2 U2 b→W.heap.size ≤ b ∨ WrO (hdR R n keepT keepK vs x).lk pos U0 b:=fun b h=>by
           rcases hwrN b h with h | h
           · exact .inl (by rw [hsz2] at h;exact Nat.le_trans hs1.size h)
           · exact hwr1 b h
         have hFzN:∀ b,WrO (hdR R n keepT keepK vs x2).lk pos2 U2 b→¬ Fz2 b∧b < w'.heap.size:=by
           rintro b (⟨k,s,o,g1,g2⟩ | g1)
           · rw [hlkN] at g1;exact ⟨(rN.own k s o b g1 g2).1,(rN.objs k s o g1).lt g2⟩
           · exact ⟨(rN.ugh b g1).2.1,(rN.ugh b g1).1⟩
         have hlw:w'.heap[l]? = some (.loop { rec .ready none with state:=.busy }):=(hs2.block l (by rw [hsz2];exact hl1lt) hn1).trans hl2
         have hlwlt:=(Array.getElem?_eq_some_iff.1 hlw).1
         obtain ⟨w3,hw3⟩:∃ w3,w3 = w'.putObj l (.loop (recOf rec e2)):=⟨_,rfl⟩
         have h23:∀ b,b ≠ l→w3.heap[b]? = w'.heap[b]?:=fun b hb=>by rw [hw3];exact putObj_other hb
         have hsz3:w3.heap.size = w'.heap.size:=by rw [hw3];simp [World.putObj]
         have hl3:w3.heap[l]? = some (.loop (recOf rec e2)):=by rw [hw3];exact World.putObj_heap_same hlwlt
         -- blocks that nobody had
         have hsame:∀ b,b < W.heap.size→¬ WrO (hdR R n keepT keepK vs x).lk pos U0 b→b ≠ l→w3.heap[b]? = W.heap[b]?:=fun b g1 g2 g3 =>
           (h23 b g3).trans ((hs2.block b (by rw [hsz2];exact Nat.lt_of_lt_of_le g1 hs1.size) (fun k=>(hwr1 b k).elim (fun j=>by omega) g2)).trans ((h12 b g3).trans (hs1.block b g1 g2)))
         have hfz:∀ b,b < W.heap.size→¬ WrO (hdR R n keepT keepK vs x).lk pos U0 b→(Fz2 b ↔ Fz b):=fun b g1 g2 =>
           (hs2.fz b (by rw [hsz2];exact Nat.lt_of_lt_of_le g1 hs1.size) (fun k=>(hwr1 b k).elim (fun j=>by omega) g2)).trans (hs1.fz b g1 g2)
         have hFl2:¬ Fz2 l:=fun h=>hFL ((hfz l hllt hnl).1 h)
         have hFD2:¬ Fz2 D:=fun h=>hFD ((hfz D hDlt hnD).1 h)
         have hnN:∀ b,b < W.heap.size→¬ WrO (hdR R n keepT keepK vs x).lk pos U0 b→¬ WrO (hdR R n keepT keepK vs x2).lk pos2 U2 b:=fun b g1 g2 h=>(hwrW b h).elim (fun k=>by omega) g2
         have hDl:D ≠ l:=fun e=>by subst e;rw [hD] at hl;cases hl
         have hfutW:Fut Fz W Fz2 w':=by
           have f1:Fut Fz W Fz1 w1:=hs1.fut r.step.lt hFz
           have f3:Fut Fz1 w2 Fz2 w':=hs2.fut (fun b hb=>by rw [hsz2];exact r1.step.lt b hb) (fun b hb=>r1.wrFz b hb)
           exact (f1.trans hfut12).trans f3
         have hfut3:Fut Fz2 w' Fz2 w3:=fun b hb=>⟨hb,h23 b fun e=>hFl2 (by rw [← e];exact hb)⟩
         -- the new state
         have hH1:Held (cx.withSav sav) (hdR R n keepT keepK vs x2).lk w' Fz2 pos2 U2:=by rw [hlkN];exact Held.unbase (cx:=cx.withSav sav) hu2 rN.toHeld
         have hH2:Held (cx.withSav sav) (hdR R n keepT keepK vs x2).lk w3 Fz2 pos2 U2:=by rw [hw3];exact hH1.putL _ (hnN l hllt hnl) hFl2 h0l
         have hns2:∀ k s o,(hdR R n keepT keepK vs x2).lk k = some (s,o)→o.isSav = false:=fun k s o h=>by
           have h:lookObj (objsAt keepK (R.enc x2)) k = some (s,o):=h
           rw [henc] at h
           exact noSav_look _ he3 k s o h
         have hH3:Held cx (hdR R n keepT keepK vs x2).lk w3 Fz2 pos2 U2:=hH2.offSav hns2
         have hT:∀ t,RepT (cx.e Fz2 w3 (hdR R n keepT keepK vs x2).lk pos2) ((hdR R n keepT keepK vs x2).tm t) (aT.getD t undef):=by
           intro t
           have hmv:RepT (cxC.e Fz2 w' (norm [] keepK st2).lk pos2) ((hdR R n keepT keepK vs x2).tm t) (aT.getD t undef):=by
             show RepT _ (match findT (keepT.zip vs) t with | some v=>v | none=>bif Nat.blt t n then V.junk else .junk) _
             rw [hvs]
             rcases zip_at g keepT t with h | h
             · rw [h]
               have hmem:t ∈ keepT:=by
                 have:∀ ts:List Nat,findT (ts.zip (ts.map g)) t = some (g t)→t ∈ ts:=by
                   intro ts
                   induction ts with
                   | nil=>intro h;simp [findT] at h
                   | cons q ts ih =>
                     intro hm
                     simp only [List.map_cons,List.zip_cons_cons,findT] at hm
                     cases hq:Nat.beq q t with
                     | true=>rw [Nat.eq_of_beq_eq_true hq];simp
                     | false=>rw [hq] at hm;exact List.mem_cons_of_mem _ (ih hm)
                 exact this keepT h
               obtain ⟨i,hi⟩:=List.mem_iff_getElem?.1 hmem
               obtain ⟨s,u,g1,g2⟩:=saved_get vs 0 he1 i (g t) (by rw [hvs];simp [hi])
               rw [Nat.zero_add] at g1
               have hO:=r2.objs _ _ _ g1
               obtain ⟨_,val,g3,g4⟩:=hO
               have g3:sav i = some val:=g3
               rw [hsv] at g3
               simp only [hi,Option.map_some,Option.some.injEq] at g3
               subst g3
               exact sameL_rep (A:=cx.e Fz W (hdR R n keepT keepK vs x).lk pos) (B:=cxC.e Fz2 w' (norm [] keepK st2).lk pos2) rfl rfl hfutW (fun _ _ h=>h) g2 (htm i t hi) (mapT_rep nm g4)
             · rw [h]
               simp only
               cases Nat.blt t n <;> trivial
           have h2:=RepT.mono (A:=cxC.e Fz2 w' (norm [] keepK st2).lk pos2) (B:=cxC.e Fz2 w3 (hdR R n keepT keepK vs x2).lk pos2) ⟨rfl,rfl,fun _ _ h=>h,fun _ _ h=>h,hfut3,fun k s o h=>⟨s,o,by rw [← hlkN] at h;exact h,Nat.le_refl _,fun _=>Ext.mk (Obj.alike_refl _) rfl⟩⟩ _ _ hmv
           have h3:=congrFun (congrFun (RepT_sv (cxC.e Fz2 w3 (hdR R n keepT keepK vs x2).lk pos2) cx.sav) ((hdR R n keepT keepK vs x2).tm t)) (aT.getD t undef)
           exact h3.symm ▸ h2
         have hJ':JR cx R n keepT keepK vs aT dfs D l rec x2 (fun b=>b = D ∨ b = l ∨ WrO (hdR R n keepT keepK vs x2).lk pos2 U2 b) Fz2 w3:=by
           refine ⟨pos2,U2,⟨hH3,r.size,fun d hd=>?_,r.dnd,hT⟩,fun b=>Iff.rfl,(hsame D hDlt hnD hDl).trans hD,by rw [hex2];exact hl3,hnN D hDlt hnD,hnN l hllt hnl,hns2⟩
           obtain ⟨D',d1,d2,d3,d4,d9⟩:=r.defers d hd
           have d5:=(Array.getElem?_eq_some_iff.1 d2).1
           have d6:¬ WrO (hdR R n keepT keepK vs x).lk pos U0 D':=by
             rintro (⟨k,s,o,g1,g2⟩ | g1)
             · exact (r.objs k s o g1).noMark g2 _ d2
             · exact d4 g1
           have d7:D' ≠ l:=fun e=>by subst e;rw [hl] at d2;cases d2
           exact ⟨D',d1,(hsame D' d5 d6 d7).trans d2,d3,fun h=>hnN D' d5 d6 (.inr h),fun h=>d9 ((hfz D' d5 d6).1 h)⟩
         have hStep:StepW UJ Fz W Fz2 w3:=by
           refine ⟨?_,?_,?_,?_,fun b g1 g2=>hsame b g1 (fun k=>g2 ((hU b).2 (.inr (.inr k)))) (fun e=>g2 ((hU b).2 (.inr (.inl e)))),fun b g1 g2=>hfz b g1 (fun k=>g2 ((hU b).2 (.inr (.inr k)))),fun b hb=>by rw [hsz3];exact r2.step.lt b hb⟩
           · rw [hw3];show w'.os = W.os;rw [hs2.os,hw2];show w1.os = W.os;exact hs1.os
           · rw [hw3];show w'.tape = W.tape;rw [hs2.tape,hw2];show w1.tape = W.tape;exact hs1.tape
           · rw [hw3];show w'.output = W.output;rw [hs2.output,hw2];show w1.output = W.output;exact hs1.output
           · rw [hsz3];exact Nat.le_trans (Nat.le_trans hs1.size (by rw [← hsz2];exact Nat.le_refl _)) hs2.size
         have hfin:∀ v:Value,v = .bool (isNorm e2)→(∃ v' Fz' U',Ending.returned v = .returned v'∧RepT (E0 P Γ.glob Fz' w3) (.dat .bool y) v'∧JR cx R n keepT keepK vs aT dfs D l rec x2 U' Fz' w3∧StepW UJ Fz W Fz' w3∧∀ b,U' b→b < w3.heap.size∧¬ Fz' b∧(UJ b ∨ W.heap.size ≤ b)):=by
           rintro v rfl
           refine ⟨_,Fz2,_,rfl,?_,hJ',hStep,fun b hb=>?_⟩
           · rw [← hy2]
             refine ⟨[.bool (isNorm e2)],?_,rfl⟩
             cases e2 <;> rfl
           · rcases hb with rfl | rfl | hb
             · exact ⟨by rw [hsz3];exact Nat.lt_of_lt_of_le hDlt (Nat.le_trans hs1.size (by rw [← hsz2];exact hs2.size)),hFD2,.inl ((hU _).2 (.inl rfl))⟩
             · exact ⟨by rw [hsz3];exact hlwlt,hFl2,.inl ((hU _).2 (.inr (.inl rfl)))⟩
             · refine ⟨by rw [hsz3];exact (hFzN b hb).2,(hFzN b hb).1,?_⟩
               rcases hwrW b hb with h | h
               · exact .inr h
               · exact .inl ((hU b).2 (.inr (.inr h)))
         have hrunE:∀ j:Option Code,j = jumpOf e2→(Instr.endRound l j).run P w' = .ok (.bool (isNorm e2)) w3:=by
           rintro j rfl
           have:=run_endRound (P:=P) (jumpOf e2) hlw
           rw [this,hw3,hrec]
           cases e2 <;> rfl
         cases e2 with
         | normal=>exact ⟨_,_,hrunE none rfl,hfin _ rfl⟩
         | exit id=>exact ⟨_,_,hrunE (some (.exit id)) rfl,hfin _ rfl⟩
         | ret=>exact ⟨_,_,hrunE (some .ret) rfl,hfin _ rfl⟩
end
theorem callFunc_run {g:FuncId} (hb:HasBody P g) (args:Array Value) (w:World):(callFunc g args).run P w = .ok (.enter g args) w:=by
 obtain ⟨fn,h1,h2,h3⟩:=hb
 have hn:fn.body ≠ none:=by intro hq;rw [hq] at h2;simp at h2
 have h4 : fn.name ≠ "runtime.NumGoroutine" := by intro hq; rw [hq] at h3; simp at h3
 simp [callFunc,h1,h4,hn,run_program]
theorem range_sound (hΓ:CfgOk P Γ) {asg body:Code} (ihA:EvSound P Γ asg) (ihB:EvSound P Γ body) (hP:cx.P = P) (hg:cx.G = Γ.glob) {F:Fence} {n:Nat} {an:Ann} {root:Code} (hL:LOk P Γ an root) (hLi:LOk P Γ an.inR root) (hR:ROk Γ an root)
   (hRR:(∀ p,an.R p = none) ∨ (F = Fence.wide∧cx.sav = (fun _=>none)∧an.ntR = cx.nt∧cx.q0 ≤ cx.w0.heap.size)) {f:Operand} {ps:Array Tmp} {p:Nat} (hat:AtP root p (.rangeFunc f ps asg body)) {C:Type} {st:St} {K':Ex→St→Option C} {r0:C} (hl:st.tmps.length = cx.nt)
   (h:ev Γ an (.rangeFunc f ps asg body) p st K' = some r0) (r:RelS cx st.s2 a w) {Q:Exit→Act→World→Prop} (hQ:∀ e st' a' w',st'.tmps.length = cx.nt→RelS cx st'.s2 a' w'→K' e st' = some r0→Q (exOf e) a' w') :
   (Code.rangeFunc f ps asg body).wpIn F n P Q a w:=by
 simp only [ev] at h
 split at h
 · rename_i R hRp
   rcases hRR with hRR | ⟨hF,hsav,hnt,hq0⟩
   · rw [hRR p] at hRp;cases hRp
   subst hF
   obtain ⟨Fz,pos,U,r⟩:=r
   have r:RelIn cx st.tm st.lk a w Fz pos U:=r
   obtain ⟨hdec,hfinR,hFok,hrun⟩:=hR p R hRp
   unfold evRange at h
   split at h
   · rename_i v0 g caps hfv
     split at h
     · rename_i ks x hks hdx
       split at h
       · rename_i os hos
         generalize hkT:(an.keepOf p).1 = keepT at h hdx
         generalize hkK:(an.keepOf p).2 = keepK at h hdx
         cases hc:(fitAll (os.map (Obj.mapV (toG ks st.lk))) && noGh os && !meets ks keepK && objsOk (norm keepT keepK st).objs && noSav (norm keepT keepK st).objs && cbFit st.tm st.lk keepT R.cb) with
         | false=>rw [hc] at h;simp at h
         | true =>
           rw [hc] at h
           simp only [cond_true] at h
           simp only [Bool.and_eq_true,Bool.not_eq_true'] at hc
           obtain ⟨⟨⟨⟨⟨hfit,hno⟩,hmt⟩,hok⟩,hns⟩,hcbf⟩:=hc
           rw [hΓ.natX] at h
           cases hcall:Γ.callX g (.cb 0 :: caps.map (V.mapA (toG ks st.lk))) (cbSet ks (.gh R.t ⟨R.run (keptV keepT keepK st),R.b,R.f (keptV keepT keepK st)⟩ x :: os.map (Obj.mapV (toG ks st.lk))) R.cb) (fun a b c=>some (a,b,c)) with
           | none=>rw [hcall] at h;simp at h
           | some q =>
             rw [hcall] at h
             obtain ⟨rv,outs,exs⟩:=q
             simp only [Option.bind_some] at h
             unfold endR at h
             split at h
             · rename_i s0 t' run' x' outs'
               split at h
               · rename_i htt
                 subst htt
                 have h:=hfinR _ _ _ h
                 obtain ⟨henc,hex⟩:=hdec _ _ _ hdx
                 have hnd:=reachK_nodup _ _ _ _ hks (by simp)
                 -- the function's value
                 have hval:=val_rep r hg f
                 rw [hfv] at hval
                 obtain ⟨us,hv,hpt⟩:=hval
                 have hbody:=hΓ.bodyX _ _ _ _ hcall
                 obtain ⟨gv,hgv⟩:∃ gv:Nat→V,gv = fun t=>(st.tm t).mapT (renAtom keepK st.lk):=⟨_,rfl⟩
                 obtain ⟨vs,hvs⟩:∃ vs,vs = keptV keepT keepK st:=⟨_,rfl⟩
                 have hvg:vs = keepT.map gv:=by rw [hvs,hgv];rfl
                 rw [← hvs] at hcall h
                 have hHd:hdR R st.tmps.length keepT keepK vs x = norm keepT keepK st:=by
                   unfold hdR norm;rw [henc,hvs]
                 obtain ⟨D,hD⟩:∃ D,D = w.heap.size:=⟨_,rfl⟩
                 obtain ⟨l,hlD⟩:∃ l,l = w.heap.size + 1:=⟨_,rfl⟩
                 refine wpIn_rangeFunc ?_
                 intro fn _
                 obtain ⟨rec,hrec⟩:∃ rec:LoopState→Option Code→Loop,rec = fun st pe=>{ state:=st,pending:=pe,fn:=fn,tmps:=a.tmps,params:=ps,assign:=asg,body:=body,defers:=D }:=⟨_,rfl⟩
                 obtain ⟨w1,hw1⟩:∃ w1,w1 = (w.alloc (.deferred (some []))).alloc (.loop (rec .ready none)):=⟨_,rfl⟩
                 have hsz1:w1.heap.size = w.heap.size + 2:=by rw [hw1];simp
                 have hold:∀ b,b < w.heap.size→w1.heap[b]? = w.heap[b]?:=fun b hb=>by
                   rw [hw1,heap_alloc_old _ _ (by simp;omega),heap_alloc_old _ _ hb]
                 have hD1:w1.heap[D]? = some (.deferred (some [])):=by
                   rw [hw1,hD,heap_alloc_old _ _ (by simp)];exact heap_alloc_at _ _
                 have hl1:w1.heap[l]? = some (.loop (rec .ready none)):=by
                   have:=heap_alloc_at (w.alloc (.deferred (some []))) (.loop (rec .ready none))
                   rw [hw1,hlD]
                   simpa using this
                 have hstep1:Step Fz w Fz w1:=⟨by rw [hw1];rfl,by rw [hw1];rfl,by rw [hw1];rfl,by omega,hold,fun _ _=>Iff.rfl,fun b hb=>by have:=r.step.lt b hb;omega⟩
                 have rw1:=r.call hstep1
                 have r1:=norm_in (keepT:=keepT) hok rw1
                 rw [← hHd] at r1
                 have hlk1:∀ k s o,(hdR R st.tmps.length keepT keepK vs x).lk k = some (s,o)→k ∈ keepK:=fun k s o hh=>objsAt_keys _ _ k s o hh
                 -- what holds at first
                 have hDn:¬ WrO (hdR R st.tmps.length keepT keepK vs x).lk pos U D:=by
                   rintro (⟨k,s,o,g1,g2⟩ | g1)
                   · exact (r1.objs k s o g1).noMark g2 _ hD1
                   · have:=(r.ugh D g1).1;omega
                 have hold2:∀ b,WrO (hdR R st.tmps.length keepT keepK vs x).lk pos U b→b < w.heap.size:=by
                   rintro b (⟨k,s,o,g1,g2⟩ | g1)
                   · rw [hHd] at g1
                     obtain ⟨s0,o0,e1,_⟩:=norm_back g1
                     exact (r.objs k s0 o0 e1).lt g2
                   · exact (r.ugh b g1).1
                 have hln:¬ WrO (hdR R st.tmps.length keepT keepK vs x).lk pos U l:=fun hh=>by have:=hold2 l hh;omega
                 have hJ0:JR cx R st.tmps.length keepT keepK vs a.tmps a.defers D l rec x (fun b=>b = D ∨ b = l ∨ WrO (hdR R st.tmps.length keepT keepK vs x).lk pos U b) Fz w1 :=
                   ⟨pos,U,r1,fun b=>Iff.rfl,hD1,by rw [hex];exact hl1,hDn,hln,fun k s o hh=>by rw [hHd] at hh;exact noSav_look _ hns k s o hh⟩
                 -- what the function may change
                 obtain ⟨WrI,hWrI⟩:∃ WrI:Nat→Prop,WrI = fun b=>WrG ks pos b ∨ b = D ∨ b = l ∨ WrO (hdR R st.tmps.length keepT keepK vs x).lk pos U b:=⟨_,rfl⟩
                 obtain ⟨hlen,hget⟩:=objsOf_get ks os hos
                 have hWG:∀ b,WrG ks pos b→∃ k s o,k ∈ ks∧st.lk k = some (s,o)∧VB (pos k) b:=by
                   rintro b ⟨k,hk,hb⟩
                   obtain ⟨i,hi⟩:=List.mem_iff_getElem?.1 hk
                   obtain ⟨s,o,g1,_⟩:=hget i k hi
                   exact ⟨k,s,o,hk,g1,hb⟩
                 have hWr0:∀ b,WrI b→cx.w0.heap.size ≤ b ∨ cx.Wr b:=by
                   intro b hb
                   rw [hWrI] at hb
                   rcases hb with hb | hb | hb | hb
                   · obtain ⟨k,s,o,_,g1,g2⟩:=hWG b hb
                     exact (r.own k s o b g1 g2).2
                   · have:=r.step.size;exact .inl (by omega)
                   · have:=r.step.size;exact .inl (by omega)
                   · exact r1.wrO b hb
                 have hWF:∀ b,WrI b→¬ Fz b:=by
                   intro b hb
                   rw [hWrI] at hb
                   rcases hb with hb | hb | hb | hb
                   · obtain ⟨k,s,o,_,g1,g2⟩:=hWG b hb
                     exact (r.own k s o b g1 g2).1
                   · exact fun hf=>by have:=r.step.lt b hf;omega
                   · exact fun hf=>by have:=r.step.lt b hf;omega
                   · exact r1.wrFz b hb
                 have hdf:∀ d ∈ a.defers,∀ D',d = { target:=.collected D',args:=#[] }→D' < w1.heap.size∧¬ WrI D':=by
                   intro d hd D' e
                   obtain ⟨D2,e1,e2,e3,e4,_⟩:=r.defers d hd
                   rw [e] at e1
                   simp only [Deferred.mk.injEq,Target.collected.injEq,and_true] at e1
                   subst e1
                   have hlt:=(Array.getElem?_eq_some_iff.1 e2).1
                   refine ⟨by omega,fun hb=>?_⟩
                   rw [hWrI] at hb
                   rcases hb with hb | hb | hb | hb
                   · obtain ⟨k,s,o,_,g1,g2⟩:=hWG D' hb
                     exact (r.objs k s o g1).noMark g2 _ e2
                   · omega
                   · omega
                   · rcases hb with ⟨k,s,o,g1,g2⟩ | g1
                     · exact (r1.objs k s o g1).noMark g2 _ ((hold D' hlt).trans e2)
                     · exact e4 g1
                 -- the function that is handed on
                 obtain ⟨u1,hu1⟩:∃ u1:Value,∀ c,R.cb = some c→u1 = .func (.func c.2.1) #[] (c.2.2.map fun t=>a.tmps.getD t undef).toArray:=by
                   cases hcR:R.cb with
                   | none=>exact ⟨undef,fun c h=>by cases h⟩
                   | some c=>exact ⟨_,fun c' h=>by cases h;rfl⟩
                 have hcbv:∀ c,R.cb = some c→∃ s caps b cells T,st.lk c.1 = some (s,.box .leaf (.fn c.2.1 caps))∧pos c.1 = .pointer (some ⟨b,0,none⟩)∧w.heap[b]? = some (.cells cells T (0,0)) ∧
                     cells.toList = [u1]∧∀ t ∈ c.2.2,t ∈ keepT∧∃ k s,st.tm t = .ref k s []:=fun c hcR=>by
                   rw [hcR] at hcbf
                   obtain ⟨s,caps,b,cells,T,h1,h2,h3,h4,h5⟩:=cb_value r hcbf
                   exact ⟨s,caps,b,cells,T,h1,h2,h3,by rw [h4,hu1 c hcR],h5⟩
                 let q:GhSem:=⟨R.t,⟨R.run vs,R.b,R.f vs⟩,JR cx R st.tmps.length keepT keepK vs a.tmps a.defers D l rec,fun i=>if i = 0 then some (.func (.yield l) #[] #[]) else some u1⟩
                 have hcb:CbOk cx.P cx.G q:=by
                   intro i z zs z' y hz hp hs UJ F1 W us' hJ hUJ hinv hargs
                   obtain ⟨_,kk,hkk⟩:=id hat
                   cases i with
                   | succ i =>
                     obtain ⟨yb,rfl,hz2⟩:∃ yb,y = .tup (spread R.b yb)∧R.f vs z zs = some (z',yb):=by
                       simp only [q,Cbs.at,Cbs.call] at hz
                       cases hzz:R.f vs z zs with
                       | none=>rw [hzz] at hz;simp at hz
                       | some qq =>
                         rw [hzz] at hz
                         simp only [Option.bind_some,Option.some.injEq,Prod.mk.injEq] at hz
                         exact ⟨qq.2,hz.2.symm,by rw [← hz.1]⟩
                     cases hcR:R.cb with
                     | none=>rw [hFok.none hcR] at hz2;cases hz2
                     | some c =>
                       obtain ⟨_,_,_,_,_,_,_,_,_,href⟩:=hcbv c hcR
                       have hu:=hu1 c hcR
                       obtain ⟨hx1,hx2⟩:=JR.fcall (n:=st.tmps.length) (keepT:=keepT) (keepK:=keepK) hΓ hP hg hFok hcR hdec (by rw [hnt,hl]) hkT.symm hkK.symm (fun t ht z=>by
                         obtain ⟨hm,k,s,e⟩:=href t ht
                         show (∃ k s p',(match findT (keepT.zip vs) t with | some v=>v | none=>bif Nat.blt t st.tmps.length then V.junk else .junk) = .ref k s p') ∨ (match findT (keepT.zip vs) t with | some v=>v | none=>bif Nat.blt t st.tmps.length then V.junk else .junk) = .junk
                         rw [hvg]
                         rcases zip_at gv keepT t with h | h
                         · rw [h]
                           simp only
                           rw [hgv]
                           simp only [e]
                           have:(V.ref k s []).mapT (renAtom keepK st.lk) = if keepK.contains k then (match lkN st.lk k with | some (s',_)=>if s = s' then .ref k 0 [] else .junk | none=>.junk) else .junk:=rfl
                           rw [this]
                           split
                           · split
                             · split
                               · exact .inl ⟨_,_,_,rfl⟩
                               · exact .inr rfl
                             · exact .inr rfl
                           · exact .inr rfl
                         · rw [h];right;simp only;cases Nat.blt t st.tmps.length <;> rfl) hz2 hJ hUJ (by rw [← hP,← hg];exact hargs)
                       refine ⟨u1,(if_neg (Nat.succ_ne_zero i):(if i + 1 = 0 then some (Value.func (.yield l) #[] #[]) else some u1) = some u1),by rw [hu];rfl,?_⟩
                       rw [hu]
                       refine ⟨rfl,by rw [hP];exact hx1,?_⟩
                       rw [hP,hg]
                       have e1:us'.toArray ++ (c.2.2.map fun t=>a.tmps.getD t undef).toArray = (us' ++ c.2.2.map fun t=>a.tmps.getD t undef).toArray:=by simp
                       rw [e1];exact hx2
                   | zero =>
                     obtain ⟨yb,rfl,hz2⟩:∃ yb,y = .dat .bool yb∧R.run vs z zs = some (z',yb):=by
                       simp only [q,Cbs.at,Cbs.call] at hz
                       cases hzz:R.run vs z zs with
                       | none=>rw [hzz] at hz;simp at hz
                       | some qq =>
                         rw [hzz] at hz
                         simp only [Option.bind_some,Option.some.injEq,Prod.mk.injEq] at hz
                         exact ⟨qq.2,hz.2.symm,by rw [← hz.1]⟩
                     obtain ⟨hzx,hzb⟩:=hrun kk f ps asg body hkk st.tmps.length vs z zs (z',yb) (by rw [hnt,hl]) hz2
                     refine ⟨.func (.yield l) #[] #[],rfl,rfl,rfl,?_⟩
                     have hx:=JR.round hΓ hP hg hsav hLi ihA ihB (hat.l (.inr (.inr (.inr (.inr (.inr ⟨_,_,_,rfl⟩)))))) (hat.r (.inr (.inr ⟨_,_,_,rfl⟩))) hdec hrec hl hvg hkT.symm hkK.symm (by have:=r.step.size;omega) (by have:=r.step.size;omega) hzx hzb hJ hUJ hp (by rw [← hP,← hg];exact hargs)
                     rw [hP,hg];exact hx
                 let cxI:Cx:={ P:=cx.P,G:=cx.G,w0:=w1,Fz0:=Fz,nt:=0,Wr:=WrI,gh:=q,frame:=fun z UJ F1 W F2 W2 hJ hn=>JR.near (Nat.le_trans r.step.size (by omega)) hWr0 hdf hJ hn,cbok:=hcb,sav:=cx.sav,q0:=w1.heap.size,og:=fun _=>none,ogG:=fun _ _ h=>by cases h }
                 have hheld0:Held cxI (lkG (.gh R.t ⟨R.run vs,R.b,R.f vs⟩ x :: os.map (Obj.mapV (toG ks st.lk)))) w1 Fz (posG ks pos) (fun b=>b = D ∨ b = l ∨ WrO (hdR R st.tmps.length keepT keepK vs x).lk pos U b):=by
                   refine held_handX rw1.toHeld hnd hos hfit hno cxI rfl rfl (fun _ _ hh=>hh) rfl rfl rfl (fun b hb=>by show WrI b;rw [hWrI];exact .inl hb) hWF (.gh R.t ⟨R.run vs,R.b,R.f vs⟩ x) (fun E=>NB_undef) (fun t2 run2 x2 hh=>?_) (fun b hb=>?_)
                   · cases hh
                     exact ⟨_,_,rfl,hJ0⟩
                   · have hWb:WrI b:=by rw [hWrI];exact .inr hb
                     refine ⟨?_,hWF b hWb,hWb,fun hG=>?_⟩
                     · rcases hb with hb | hb | hb
                       · omega
                       · omega
                       · have:=hold2 b hb;omega
                     · obtain ⟨k,s,o,k1,g1,g2⟩:=hWG b hG
                       have hb0:=(r.objs k s o g1).lt g2
                       rcases hb with hb | hb | hb
                       · have hb0:b < w.heap.size:=hb0;omega
                       · have hb0:b < w.heap.size:=hb0;omega
                       · rcases hb with ⟨k2,s2,o2,e1,e2⟩ | e1
                         · have hk2:=hlk1 _ _ _ e1
                           rw [hHd] at e1
                           obtain ⟨s3,o3,e3,_⟩:=norm_back e1
                           have:=r.inj k s o k2 s3 o3 b g1 e3 g2 e2
                           subst this
                           have:meets ks keepK = true:=meets_of k1 hk2
                           rw [hmt] at this;cases this
                         · exact (r.ugh b e1).2.2.2 k s o g1 g2
                 have mt:=toG_map rw1.toHeld hnd hos (.gh R.t ⟨R.run vs,R.b,R.f vs⟩ x) cxI rfl rfl (fun _ _ hh=>hh)
                 have hpt1:Pt (RepA (cx.e Fz w1 st.lk pos)) caps us:=Pt.mono (fun v u hh=>RepA.mono (A:=cx.e Fz w st.lk pos) (B:=cx.e Fz w1 st.lk pos) ⟨rfl,rfl,fun _ _ h=>h,fun _ _ h=>h,hstep1.fut r.step.lt,fun k s o h=>⟨s,o,h,Nat.le_refl _,fun _=>Ext.mk (Obj.alike_refl _) rfl⟩⟩ v u hh) _ _ hpt
                 have hargs0:Pt (RepG (cxI.e Fz w1 (lkG (.gh R.t ⟨R.run vs,R.b,R.f vs⟩ x :: os.map (Obj.mapV (toG ks st.lk)))) (posG ks pos))) (.cb 0 :: caps.map (V.mapA (toG ks st.lk))) (.func (.yield l) #[] #[] :: us) :=
                   ⟨_,us,rfl,⟨rfl,rfl⟩,Pt.map (V.mapA (toG ks st.lk)) (fun v u hh=>A_G (mapA_rep mt hh)) _ _ hpt1⟩
                 obtain ⟨hheld,hleB⟩:Held cxI (lkG (cbSet ks (.gh R.t ⟨R.run vs,R.b,R.f vs⟩ x :: os.map (Obj.mapV (toG ks st.lk))) R.cb)) w1 Fz (posG ks pos) (fun b=>b = D ∨ b = l ∨ WrO (hdR R st.tmps.length keepT keepK vs x).lk pos U b) ∧
                     Le (cxI.e Fz w1 (lkG (.gh R.t ⟨R.run vs,R.b,R.f vs⟩ x :: os.map (Obj.mapV (toG ks st.lk)))) (posG ks pos)) (cxI.e Fz w1 (lkG (cbSet ks (.gh R.t ⟨R.run vs,R.b,R.f vs⟩ x :: os.map (Obj.mapV (toG ks st.lk))) R.cb)) (posG ks pos)):=by
                   have same:Held cxI (lkG (.gh R.t ⟨R.run vs,R.b,R.f vs⟩ x :: os.map (Obj.mapV (toG ks st.lk)))) w1 Fz (posG ks pos) (fun b=>b = D ∨ b = l ∨ WrO (hdR R st.tmps.length keepT keepK vs x).lk pos U b) ∧
                       Le (cxI.e Fz w1 (lkG (.gh R.t ⟨R.run vs,R.b,R.f vs⟩ x :: os.map (Obj.mapV (toG ks st.lk)))) (posG ks pos)) (cxI.e Fz w1 (lkG (.gh R.t ⟨R.run vs,R.b,R.f vs⟩ x :: os.map (Obj.mapV (toG ks st.lk)))) (posG ks pos)) :=
                     ⟨hheld0,⟨rfl,rfl,fun _ _ h=>h,fun _ _ h=>h,Fut.refl _ _,fun k s o h=>⟨s,o,h,Nat.le_refl _,fun _=>Ext.mk (Obj.alike_refl _) rfl⟩⟩⟩
                   cases hcR:R.cb with
                   | none=>exact same
                   | some c =>
                     unfold cbSet
                     simp only
                     split
                     · rename_i i hi
                       obtain ⟨hi1,hi2⟩:=idxK_get ks c.1 1 i hi
                       obtain ⟨s2,o2,g1,g2⟩:=hget _ _ hi2
                       obtain ⟨s1,caps1,b1,cells1,T1,v1,v2,v3,v4,_⟩:=hcbv c hcR
                       rw [v1] at g1
                       simp only [Option.some.injEq,Prod.mk.injEq] at g1
                       obtain ⟨rfl,rfl⟩:=g1
                       obtain ⟨j,rfl⟩:∃ j,i = j + 1:=⟨i - 1,by omega⟩
                       simp only [Nat.add_sub_cancel] at hi2 g2
                       have hjl:j < os.length:=(List.getElem?_eq_some_iff.1 g2).1
                       have hL:lkG (.gh R.t ⟨R.run vs,R.b,R.f vs⟩ x :: os.map (Obj.mapV (toG ks st.lk))) (gB + (j + 1)) = some (0,.box .leaf ((V.fn c.2.1 caps1).mapL (toG ks st.lk))):=by
                         unfold lkG
                         rw [if_pos (by omega),show gB + (j + 1) - gB = j + 1 by omega,List.getElem?_cons_succ,List.getElem?_map,g2];rfl
                       rw [lkG_set (by simp;omega)]
                       refine Held.recell hheld0 hL ⟨rfl,b1,cells1,T1,?_,?_,⟨u1,v4,?_,?_,(if_neg Nat.one_ne_zero:(if 1 = 0 then some (Value.func (.yield l) #[] #[]) else some u1) = some u1)⟩⟩
                       · show posG ks pos (gB + (j + 1)) = _
                         unfold posG
                         rw [if_pos (by omega),show gB + (j + 1) - gB - 1 = j by omega,hi2];exact v2
                       · exact (hold b1 (Array.getElem?_eq_some_iff.1 v3).1).trans v3
                       · rw [hu1 c hcR];rfl
                       · rw [hu1 c hcR];rfl
                     · exact same
                 have hargs:Pt (RepG (cxI.e Fz w1 (lkG (cbSet ks (.gh R.t ⟨R.run vs,R.b,R.f vs⟩ x :: os.map (Obj.mapV (toG ks st.lk))) R.cb)) (posG ks pos))) (.cb 0 :: caps.map (V.mapA (toG ks st.lk))) (.func (.yield l) #[] #[] :: us) :=
                   Pt.mono (fun v u hh=>RepG.mono hleB v u hh) _ _ hargs0
                 have hfn:=hΓ.okX _ _ _ _ hcall cxI (posG ks pos) _ _ hP hg hheld hargs
                 refine ⟨l,[{ target:=.collected D,args:=#[] }],w1,{ target:=.fn (.func g) us.toArray,args:=#[.func (.yield l) #[] #[]] },w1,g,#[.func (.yield l) #[] #[]] ++ us.toArray,w1,?_,?_,fun f' _=>trivial,?_,fun hh=>(by cases hh),?_⟩
                 · rw [hlD,hw1,hrec,hD];exact run_enterLoop_outer _ _ _ _ _
                 · simp only [resolve,hv]
                   simp [go_sem]
                 · simp [invoke,go_sem,callFunc_run hbody]
                 · refine callsIn_wide.2 ?_
                   have e1:#[Value.func (.yield l) #[] #[]] ++ us.toArray = (Value.func (.yield l) #[] #[] :: us).toArray:=by simp
                   rw [e1]
                   refine Calls.mono hfn fun e w' hq=>?_
                   obtain ⟨v,Fz',pos2,U2,rfl,h2,_,_,_,_⟩:=hq
                   have hgh2:=h2.gh gB s0 R.t run' x' (by
                     have:=lkX_out (outs:=(s0,Obj.gh R.t run' x') :: outs') (exs:=exs) (i:=0) (by omega)
                     simpa using this)
                   obtain ⟨_,J2,cv2,hq2,hJ2⟩:=hgh2
                   have hq2:(⟨R.t,⟨R.run vs,R.b,R.f vs⟩,JR cx R st.tmps.length keepT keepK vs a.tmps a.defers D l rec,fun i=>if i = 0 then some (.func (.yield l) #[] #[]) else some u1⟩:GhSem) = ⟨R.t,run',J2,cv2⟩:=hq2
                   simp only [GhSem.mk.injEq,heq_eq_eq,true_and] at hq2
                   obtain ⟨rfl,rfl,rfl⟩:=hq2
                   obtain ⟨pos3,U3,r3,hU3,hD3,hl3,hDn3,hln3,hns3⟩:=hJ2
                   have hFl3:¬ Fz' l:=(h2.ugh l ((hU3 l).2 (.inr (.inl rfl)))).2.1
                   have hDl:D ≠ l:=by omega
                   have hnb:(recOf rec (R.ex x')).state ≠ .busy:=by rw [hrec];cases R.ex x' <;> simp [recOf]
                   have hel:=run_endLoop (P:=P) hl3 hnb
                   obtain ⟨w4,hw4⟩:∃ w4,w4 = w'.putObj l (.loop { recOf rec (R.ex x') with state:=.exhausted }):=⟨_,rfl⟩
                   rw [← hw4] at hel
                   have hother:∀ b,b ≠ l→w4.heap[b]? = w'.heap[b]?:=fun b hb=>by rw [hw4];exact putObj_other hb
                   have hH4:Held cx (hdR R st.tmps.length keepT keepK vs x').lk w4 Fz' pos3 U3:=by rw [hw4];exact r3.toHeld.putL _ hln3 hFl3 (by have:=r.step.size;omega)
                   have hfut4:Fut Fz' w' Fz' w4:=fun b hb=>⟨hb,hother b fun e=>hFl3 (by rw [← e];exact hb)⟩
                   have hfin:∀ Q':Prop,(∀ a':Act,a' = { a with defers:=[{ target:=.collected D,args:=#[] }] ++ a.defers }→Q (exOf (R.ex x')) a' w4→Q')→Q':=by
                     intro Q' hQ'
                     refine hQ' _ rfl (hQ (R.ex x') (hdR R st.tmps.length keepT keepK vs x') _ w4 hl ⟨Fz',pos3,U3,hH4,r.size,fun d hd=>?_,?_,fun t=>RepT.mono (A:=cx.e Fz' w' (hdR R st.tmps.length keepT keepK vs x').lk pos3) (B:=cx.e Fz' w4 (hdR R st.tmps.length keepT keepK vs x').lk pos3) ⟨rfl,rfl,fun _ _ h=>h,fun _ _ h=>h,hfut4,fun k s o h=>⟨s,o,h,Nat.le_refl _,fun _=>Ext.mk (Obj.alike_refl _) rfl⟩⟩ _ _ (r3.tmps t)⟩ ?_)
                     · rcases List.mem_append.1 hd with hd | hd
                       · simp only [List.mem_singleton] at hd
                         exact ⟨D,hd,(hother D hDl).trans hD3,by have:=r.step.size;omega,fun hh=>hDn3 (.inr hh),(h2.ugh D ((hU3 D).2 (.inl rfl))).2.1⟩
                       · obtain ⟨D',d1,d2,d3,d4,d9⟩:=r3.defers d hd
                         exact ⟨D',d1,(hother D' fun e=>by subst e;rw [hl3] at d2;cases d2).trans d2,d3,d4,d9⟩
                     · rw [List.nodup_append]
                       refine ⟨by simp,r.dnd,fun y hy z hz hyz=>?_⟩
                       simp only [List.mem_singleton] at hy
                       obtain ⟨D',d1,d2,_⟩:=r.defers z hz
                       rw [← hyz,hy] at d1
                       simp only [Deferred.mk.injEq,Target.collected.injEq,and_true] at d1
                       have:=(Array.getElem?_eq_some_iff.1 d2).1
                       omega
                     · exact h
                   cases hexx:R.ex x' with
                   | normal =>
                     refine ⟨none,w4,by rw [hel,hexx,hrec];rfl,?_⟩
                     exact hfin _ fun a' ha' hq=>by rw [hexx] at hq;rw [ha'] at hq;exact hq
                   | exit id =>
                     refine ⟨some (.exit id),w4,by rw [hel,hexx,hrec];rfl,?_⟩
                     exact hfin _ fun a' ha' hq=>wpIn_exit (by rw [hexx] at hq;rw [ha'] at hq;exact hq)
                   | ret =>
                     refine ⟨some .ret,w4,by rw [hel,hexx,hrec];rfl,?_⟩
                     exact hfin _ fun a' ha' hq=>wpIn_ret (by rw [hexx] at hq;rw [ha'] at hq;exact hq)
               · simp at h
             · simp at h
       · simp at h
     · simp at h
   · simp at h
 · simp at h
theorem ev_sound (hΓ:CfgOk P Γ):∀ c:Code,EvSound P Γ c:=by
 intro c
 induction c with
 | skip =>
   intro cx hP hg F hF n an root hL hLi hR hW hRR p hat C st K' r0 a w hl h r Q hQ
   exact wpIn_skip (hQ .normal st a w hl r h)
 | label l =>
   intro cx hP hg F hF n an root hL hLi hR hW hRR p hat C st K' r0 a w hl h r Q hQ
   exact wpIn_label (hQ .normal st a w hl r h)
 | region id ops draw =>
   intro cx hP hg F hF n an root hL hLi hR hW hRR p hat C st K' r0 a w hl h r Q hQ
   simp only [ev] at h
   obtain ⟨st1,r1,l1,h⟩:=frz_rep hΓ hP hg _ h r
   refine region_rep hΓ hP hg hF (l1.trans hl) h r1 fun st' a' w' hl' r' h'=>?_
   obtain ⟨st2,r2,l2,h'⟩:=frz_rep hΓ hP hg _ h' r'
   exact hQ .normal st2 a' w' (l2.trans hl') r2 h'
 | seq x y ihx ihy =>
   intro cx hP hg F hF n an root hL hLi hR hW hRR p hat C st K' r0 a w hl h r Q hQ
   simp only [ev] at h
   refine wpIn_seq (ihx cx hP hg F hF n an root hL hLi hR hW hRR _ (hat.l (.inl ⟨_,rfl⟩)) _ _ _ a w hl h r _ fun e st' a' w' hl' r' h'=>?_)
   cases e with
   | normal=>exact ihy cx hP hg F hF n an root hL hLi hR hW hRR _ (hat.r (.inl ⟨_,rfl⟩)) _ _ _ a' w' hl' h' r' Q hQ
   | exit id=>exact hQ (.exit id) st' a' w' hl' r' h'
   | ret=>exact hQ .ret st' a' w' hl' r' h'
 | cond c x y ihx ihy =>
   intro cx hP hg F hF n an root hL hLi hR hW hRR p hat C st K' r0 a w hl h r Q hQ
   simp only [ev] at h
   split at h
   · rename_i t hv
     obtain ⟨Fz,pos,U,r1⟩:=r
     have hval:=val_rep r1 hg c
     have hv:Γ.val st.s2.1 c = .dat .bool t:=hv
     rw [hv] at hval
     have hval:=repBool hval
     refine wpIn_cond hval ?_
     rcases Bool.eq_false_or_eq_true t with ht | ht
     · subst ht;exact ihx cx hP hg F hF n an root hL hLi hR hW hRR _ (hat.l (.inr (.inl ⟨_,_,rfl⟩))) _ _ _ a w hl h ⟨Fz,pos,U,r1⟩ Q hQ
     · subst ht;exact ihy cx hP hg F hF n an root hL hLi hR hW hRR _ (hat.r (.inr (.inl ⟨_,_,rfl⟩))) _ _ _ a w hl h ⟨Fz,pos,U,r1⟩ Q hQ
   · simp at h
 | block id b ih =>
   intro cx hP hg F hF n an root hL hLi hR hW hRR p hat C st K' r0 a w hl h r Q hQ
   simp only [ev] at h
   refine wpIn_block (ih cx hP hg F hF n an root hL hLi hR hW hRR _ (hat.l (.inr (.inr (.inl ⟨_,rfl⟩)))) _ _ _ a w hl h r _ fun e st' a' w' hl' r' h'=>?_)
   cases e with
   | normal=>exact hQ .normal st' a' w' hl' r' h'
   | exit id' =>
     simp only at h'
     simp only [exOf,Exit.inBlock]
     split
     · rename_i he
       rw [if_pos he] at h'
       exact hQ .normal st' a' w' hl' r' h'
     · rename_i he
       rw [if_neg he] at h'
       exact hQ (.exit id') st' a' w' hl' r' h'
   | ret=>exact hQ .ret st' a' w' hl' r' h'
 | loop b ih =>
   intro cx hP hg F hF n an root hL hLi hR hW hRR p hat C st K' r0 a w hl h r Q hQ
   by_cases hM:∃ f,an.M p = some f
   · obtain ⟨f,hf⟩:=hM
     simp only [ev,hf] at h
     obtain ⟨_,k,hk⟩:=hat
     exact hL.maps p f hf k b hk cx hP hg F hF n st K' r0 a w hl h r Q hQ
   have hM:an.M p = none:=by
     cases hf:an.M p with
     | none=>rfl
     | some f=>exact absurd ⟨f,hf⟩ hM
   have h2:loopEv Γ an b p st.tmps.length (keptV (an.keepOf p).1 (an.keepOf p).2 st) (keptO (an.keepOf p).2 st) K' = some r0:=by
     simp only [ev,hM] at h
     split at h
     · rename_i f hf
       obtain ⟨_,k,hk⟩:=hat
       exact hL.loops p f hf k b hk _ _ _ _ _ h
     · exact h
   clear h
   have hok:objsOk (norm (an.keepOf p).1 (an.keepOf p).2 st).objs = true:=by
     unfold loopEv at h2
     cases hok:objsOk (norm (an.keepOf p).1 (an.keepOf p).2 st).objs with
     | true=>rfl
     | false=>unfold norm at hok;rw [hok] at h2;simp at h2
   have h3:loopRun Γ an b p (an.fuel p (keptV (an.keepOf p).1 (an.keepOf p).2 st) (keptO (an.keepOf p).2 st)) (norm (an.keepOf p).1 (an.keepOf p).2 st) K' = some r0:=by
     unfold loopEv at h2
     have hok2:=hok
     unfold norm at hok2 ⊢
     rw [hok2] at h2;exact h2
   obtain ⟨r1,l1⟩:=norm_rep hok r
   refine wpIn_loop_ghost (fun m a w=>∃ st1,st1.tmps.length = cx.nt∧RelS cx st1.s2 a w∧loopRun Γ an b p m st1 K' = some r0) (m:=an.fuel p (keptV (an.keepOf p).1 (an.keepOf p).2 st) (keptO (an.keepOf p).2 st)) ⟨_,l1.trans hl,r1,h3⟩ fun m a w hI=>?_
   obtain ⟨st1,hl1,r1,h1⟩:=hI
   cases m with
   | zero=>simp [loopRun,iter] at h1
   | succ m =>
     simp only [loopRun,iter] at h1
     refine ih cx hP hg F hF n an root hL hLi hR hW hRR _ (hat.l (.inr (.inr (.inr (.inl rfl))))) _ _ _ a w hl1 h1 r1 _ fun e st' a' w' hl' r' h'=>?_
     cases e with
     | normal =>
       simp only at h'
       cases hok':objsOk (norm (an.keepOf p).1 (an.keepOf p).2 st').objs with
       | false=>rw [hok'] at h';simp at h'
       | true =>
         rw [hok'] at h'
         simp only [cond_true] at h'
         obtain ⟨r2,l2⟩:=norm_rep hok' r'
         exact ⟨m,Nat.lt_succ_self m,_,l2.trans hl',r2,h'⟩
     | exit id =>
       obtain ⟨h5,h6⟩:=leave_some h'
       obtain ⟨r2,l2⟩:=norm_rep h5 r'
       exact hQ (.exit id) _ a' w' (l2.trans hl') r2 h6
     | ret =>
       obtain ⟨h5,h6⟩:=leave_some h'
       obtain ⟨r2,l2⟩:=norm_rep h5 r'
       exact hQ .ret _ a' w' (l2.trans hl') r2 h6
 | scope b ih =>
   intro cx hP hg F hF n an root hL hLi hR hW hRR p hat C st K' r0 a w hl h r Q hQ
   simp only [ev] at h
   cases hsc:an.sc with
   | false=>rw [hsc] at h;simp at h
   | true =>
     rw [hsc] at h
     simp only [cond_true] at h
     have h1:=ih cx hP hg F hF n an root hL hLi hR hW hRR _ (hat.l (.inr (.inr (.inr (.inr (.inl rfl)))))) _ _ _ a w hl h r (Exit.noGoto Q) fun e st' a' w' hl' r' h'=>by
       cases e with
       | normal=>exact hQ .normal st' a' w' hl' r' h'
       | exit id=>exact hQ (.exit id) st' a' w' hl' r' h'
       | ret=>exact hQ .ret st' a' w' hl' r' h'
     have hW:=hW hsc
     subst hW
     exact wpIn_wide.2 (wp_scope_straight (wpIn_wide.1 h1))
 | rangeFunc f ps asg body ihA ihB =>
   intro cx hP hg F hF n an root hL hLi hR hW hRR p hat C st K' r0 a w hl h r Q hQ
   exact range_sound hΓ ihA ihB hP hg hL hLi hR hRR hat hl h r hQ
 | exit id =>
   intro cx hP hg F hF n an root hL hLi hR hW hRR p hat C st K' r0 a w hl h r Q hQ
   exact wpIn_exit (hQ (.exit id) st a w hl r h)
 | ret =>
   intro cx hP hg F hF n an root hL hLi hR hW hRR p hat C st K' r0 a w hl h r Q hQ
   exact wpIn_ret (hQ .ret st a w hl r h)
 | _=>intro cx hP hg F hF n an root hL hLi hR hW hRR p hat C st K' r0 a w hl h;simp [ev] at h
end Go.Pv
