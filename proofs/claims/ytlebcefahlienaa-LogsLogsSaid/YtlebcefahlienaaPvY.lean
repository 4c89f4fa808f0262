/- The purifying layer, part 25: functions. -/
import Derived.Test.YtlebcefahlienaaPvXt
import Derived.RangeFuncLeaves
set_option linter.unusedVariables false
set_option linter.unusedSimpArgs false
namespace Go.Pv
variable {P:Program} {Γ:Cfg} {C:Type} {cx:Cx} {tm:Tm} {lk:Lk} {a:Act} {w:World} {Fz:Nat→Prop} {pos:Nat→Value} {U:Nat→Prop}
abbrev FzEnd (Fz:Nat→Prop) (lk:Lk) (pos:Nat→Value):Nat→Prop:=fun b=>Fz b ∨ Owned lk pos b
theorem res_map (r:RelIn cx tm lk a w Fz pos U) (hcv:cx.gh.cv = fun _=>none) (hsv:cx.sav = fun _=>none):AtomMap (cx.e Fz w lk pos) (E0 cx.P cx.G (FzEnd Fz lk pos) w) (resAtom lk):=by
 have hfut:Fut Fz w (FzEnd Fz lk pos) w:=fun b hb=>⟨.inl hb,rfl⟩
 refine ⟨hfut,?_,?_,?_,fun e k s p u hu=>⟨rfl,trivial⟩,rfl,rfl,fun i v h=>(by have h:cx.gh.cv i = some v:=h.2;rw [hcv] at h;cases h),fun i v h=>(by have h:cx.sav i = some v:=h;rw [hsv] at h;cases h)⟩
 · intro k s p u hu
   simp only [resAtom]
   split
   · rename_i s' o hlk
     split
     · rename_i hs
       subst hs
       split
       · rename_i c hg
         split
         · rename_i hc
           exact ⟨rfl,ref_frozen r hlk hu hg (fun cs h=>h) (fun t x e=>by subst e;rfl) hc hfut rfl rfl (fun b hb=>⟨.inr ⟨k,s,o,hlk,hb⟩,rfl⟩)⟩
         · exact ⟨rfl,trivial⟩
       · exact ⟨rfl,trivial⟩
     · exact ⟨rfl,trivial⟩
   · exact ⟨rfl,trivial⟩
 · intro e k s u hu
   simp only [resAtom]
   split
   · rename_i s' e' xs hlk
     split
     · rename_i hs
       obtain ⟨rfl,rfl⟩:=hs
       exact ⟨rfl,sl_frozen r hlk hu hfut (fun b hb=>⟨.inr ⟨k,s,_,hlk,hb⟩,rfl⟩)⟩
     · exact ⟨rfl,trivial⟩
   · exact ⟨rfl,trivial⟩
 · intro k s u hu
   simp only [resAtom]
   split
   · rename_i s' kt vt es hlk
     split
     · rename_i hs
       subst hs
       exact ⟨rfl,mp_frozen r hlk hu hfut (fun b hb=>⟨.inr ⟨k,s,_,hlk,hb⟩,rfl⟩)⟩
     · exact ⟨rfl,trivial⟩
   · exact ⟨rfl,trivial⟩
theorem pure_T {A:E} {v:V} {u:Value} (hp:v.pure = true) (h:RepT A v u):RepG A v u:=by
 cases v <;> first | exact h | simp [V.pure,V.arg] at hp
theorem res_rep (r:RelIn cx tm lk a w Fz pos U) (hcv:cx.gh.cv = fun _=>none) (hsv:cx.sav = fun _=>none) {T:TypeId} {v:V} {u:Value} (h:RepT (cx.e Fz w lk pos) v u) (hp:(nilArg Γ T (v.res lk)).pure = true):RepG (E0 cx.P cx.G (FzEnd Fz lk pos) w) (nilArg Γ T (v.res lk)) u:=by
 have m:=res_map r hcv hsv
 have hT:(∀ vs,v ≠ .tup vs)→RepT (E0 cx.P cx.G (FzEnd Fz lk pos) w) (v.res lk) u:=by
   intro hn
   have h2:=mapT_rep m h
   cases v <;> first | exact h2 | exact absurd rfl (hn _)
 by_cases hn:∀ vs,v ≠ .tup vs
 · exact pure_T hp (nilArg_rep (hT hn))
 · exfalso
   obtain ⟨vs,rfl⟩:∃ vs,v = .tup vs:=by
     cases v <;> first | exact ⟨_,rfl⟩ | exact absurd (fun vs h=>by cases h) hn
   have:nilArg Γ T ((V.tup vs).res lk) = .tup vs:=by
     unfold nilArg
     split
     · cases Γ.own (900000 + T) <;> rfl
     · rfl
   rw [this] at hp
   simp [V.pure,V.arg] at hp
def readR (tmps:Array Value):ResultVar→Sem Value
 | .tmp t=>pure (tmps.getD t undef)
 | .cell a t=>do loadVar t (← asAddr (tmps.getD a undef))
theorem run_mapM_list {α β:Type} {f:α→Sem β}:∀ (l:List α) (us:List β),Pt (fun x u=>(f x).run P w = .ok u w) l us→(l.mapM f).run P w = .ok us w
 | [],us,h=>by have h:us = []:=h;subst h;simp
 | x :: l,us,⟨u,r,he,h1,h2⟩=>by
   subst he
   rw [List.mapM_cons]
   simp [h1,run_mapM_list l r h2]
theorem run_results {fn:Func} {tmps:Array Value} {us:List Value} (h:Pt (fun rv u=>(readR tmps rv).run P w = .ok u w) fn.results.toList us) :
   (results fn tmps).run P w = .ok (if h:us.toArray.size = 1 then us.toArray[0] else .tuple us.toArray) w:=by
 have hm:(fn.results.mapM (readR tmps)).run P w = .ok us.toArray w:=by
   rw [Array.mapM_eq_mapM_toList]
   have:=run_mapM_list _ _ h
   simp [this]
 have he:results fn tmps = (do let vs ← fn.results.mapM (readR tmps);pure (if h:vs.size = 1 then vs[0] else .tuple vs)):=by
   unfold results
   congr 1
 rw [he]
 simp only [Sem.run_bind,hm,Result.andThen_ok,Sem.run_pure]
theorem res_vals (hΓ:CfgOk P Γ) (hP:cx.P = P) (hg:cx.G = Γ.glob) {st:St} (r:RelIn cx st.tm st.lk a w Fz pos U) (hcv:cx.gh.cv = fun _=>none) (hsv:cx.sav = fun _=>none) {r0:C}:∀ (Ts:List TypeId) (rs:List ResultVar) (K':List V→Option C),resVals Γ st Ts rs K' = some r0 →
   ∃ vs us,K' vs = some r0∧Pt (fun rv u=>(readR a.tmps rv).run P w = .ok u w) rs us∧(puresOk vs = true→Pt (RepG (E0 cx.P cx.G (FzEnd Fz st.lk pos) w)) vs us)
 | [],[],K',h=>⟨[],[],h,rfl,fun _=>rfl⟩
 | [],_ :: _,K',h=>by simp [resVals] at h
 | _ :: _,[],K',h=>by simp [resVals] at h
 | T :: Ts,rv :: rs,K',h=>by
   simp only [resVals] at h
   -- the first
   have key:∃ v u,(resVals Γ st Ts rs fun vs=>K' (v :: vs)) = some r0∧(readR a.tmps rv).run P w = .ok u w∧(v.pure = true→RepG (E0 cx.P cx.G (FzEnd Fz st.lk pos) w) v u):=by
     cases rv with
     | tmp t =>
       exact ⟨_,a.tmps.getD t undef,h,by simp [readR],fun hp=>res_rep r hcv hsv (r.tmps t) hp⟩
     | cell ad T' =>
       simp only [resVal] at h
       rw [nat_load] at h
       cases he:evLoad Γ st.lk T' (st.tm ad) some with
       | none=>rw [he] at h;simp at h
       | some e =>
         rw [he] at h
         simp only [Option.bind_some] at h
         -- as a load
         obtain ⟨ad',u,g1,g2,g3,g4⟩:=load_rep (x:=.tmp ad) hΓ hP r hg he
         have g1:a.tmps.getD ad undef = .pointer (some ad'):=g1
         refine ⟨_,u,h,?_,fun hp=>res_rep r hcv hsv g4 hp⟩
         have g2:(loadVar T' ad').run P w = .ok u w:=by
           simpa [Instr.loadAt,Instr.sureAddr] using g2
         simp [readR,g1,asAddr,g2]
   obtain ⟨v,u,h1,h2,h3⟩:=key
   obtain ⟨vs,us,h4,h5,h6⟩:=res_vals hΓ hP hg r hcv hsv Ts rs _ h1
   refine ⟨v :: vs,u :: us,h4,⟨u,us,rfl,h2,h5⟩,fun hp=>?_⟩
   simp only [puresOk,Bool.and_eq_true] at hp
   exact ⟨u,us,rfl,h3 hp.1,h6 hp.2⟩
theorem retV_rep {A:E} {vs:List V} {us:List Value} (hp:puresOk vs = true) (h:Pt (RepG A) vs us):RepT A (retV vs) (if h:us.toArray.size = 1 then us.toArray[0] else .tuple us.toArray):=by
 have hl:=Pt.length _ _ h
 match vs,us,h with
 | [],us,h =>
   have h:us = []:=h
   subst h
   exact ⟨[],rfl,rfl⟩
 | [v],us,h =>
   obtain ⟨u,r,rfl,h1,h2⟩:=h
   have h2:r = []:=h2
   subst h2
   simp only [puresOk,Bool.and_eq_true] at hp
   show RepT A v u
   have:=hp.1
   cases v <;> first | exact h1 | simp [V.pure,V.arg] at this
 | v :: v2 :: vs,us,h =>
   have hs:¬ us.toArray.size = 1:=by simp at hl;simp [hl]
   rw [dif_neg hs]
   exact ⟨us,rfl,h⟩
theorem start_tmps {A:E} {args:List V} {vs:List Value} (hargs:Pt (RepG A) args vs) (n:Nat):∀ t,RepT A ((args ++ List.replicate n V.undef).getD t .junk) ((vs ++ List.replicate n undef).getD t undef):=by
 intro t
 have hl:=Pt.length _ _ hargs
 rcases Nat.lt_or_ge t args.length with h | h
 · obtain ⟨u,h1,h2⟩:=Pt.get _ _ hargs t args[t] (by simp [h])
   have e1:(args ++ List.replicate n V.undef).getD t .junk = args[t]:=by simp [List.getD_eq_getElem?_getD,List.getElem?_append_left h,h]
   have e2:(vs ++ List.replicate n undef).getD t undef = u:=by
     rw [List.getD_eq_getElem?_getD,List.getElem?_append_left (by omega),h1];rfl
   rw [e1,e2]
   generalize args[t] = v at h2
   cases v <;> first | exact h2 | exact h2.elim
 · have e1:(args ++ List.replicate n V.undef).getD t .junk = .undef ∨ (args ++ List.replicate n V.undef).getD t .junk = .junk:=by
     rw [List.getD_eq_getElem?_getD,List.getElem?_append_right h,List.getElem?_replicate]
     split
     · exact .inl rfl
     · exact .inr rfl
   have e2:(vs ++ List.replicate n undef).getD t undef = undef:=by
     rw [List.getD_eq_getElem?_getD,List.getElem?_append_right (by omega),List.getElem?_replicate]
     split <;> rfl
   rw [e2]
   rcases e1 with e1 | e1
   · rw [e1];rfl
   · rw [e1];trivial
theorem RelIn.shut (r:RelIn cx tm lk a w Fz pos U) (hq:cx.w0.heap.size ≤ cx.q0) {d:Deferred} {ds:List Deferred} (hd:a.defers = d :: ds):∃ D,d = { target:=.collected D,args:=#[] }∧w.heap[D]? = some (.deferred (some [])) ∧
   RelIn cx tm lk { a with defers:=ds } (w.putObj D (.deferred none)) Fz pos U:=by
 obtain ⟨D,h1,h2,h3,h4,h5⟩:=r.defers d (by rw [hd];simp)
 have hn:¬ WrO lk pos U D:=by
   rintro (⟨k,s,o,g1,g2⟩ | g1)
   · exact (r.objs k s o g1).noMark g2 _ h2
   · exact h4 g1
 have hfut:Fut Fz w Fz (w.putObj D (.deferred none)):=fun b hb=>⟨hb,putObj_other fun e=>h5 (by rw [← e];exact hb)⟩
 have hnd:=r.dnd
 rw [hd,List.nodup_cons] at hnd
 refine ⟨D,h1,h2,r.toHeld.putL _ hn h5 (by omega),r.size,fun d' hd'=>?_,hnd.2,fun t=>RepT.mono (A:=cx.e Fz w lk pos) (B:=cx.e Fz (w.putObj D (.deferred none)) lk pos) ⟨rfl,rfl,fun _ _ h=>h,fun _ _ h=>h,hfut,fun k s o h=>⟨s,o,h,Nat.le_refl _,fun _=>Ext.mk (Obj.alike_refl _) rfl⟩⟩ _ _ (r.tmps t)⟩
 obtain ⟨D',e1,e2,e3,e4,e5⟩:=r.defers d' (by rw [hd];exact List.mem_cons_of_mem _ hd')
 refine ⟨D',e1,(putObj_other fun e=>?_).trans e2,e3,e4,e5⟩
 subst e
 rw [← h1] at e1
 rw [e1] at hd'
 exact hnd.1 hd'
theorem leaves_marks {F:Fence} {n:Nat} {fn:Func} {R:Ending→World→Prop} (hq:cx.w0.heap.size ≤ cx.q0) (fin:∀ a w,RelIn cx tm lk a w Fz pos U→a.defers = []→∃ v,(results fn a.tmps).run P w = .ok v w∧R (.returned v) w) :
   ∀ (ds:List Deferred) (a:Act) (w:World),a.defers = ds→RelIn cx tm lk a w Fz pos U→LeavesInM F n P fn a.tmps R ds .returning w
 | [],a,w,hd,r=>by
   obtain ⟨v,h1,h2⟩:=fin a w r hd
   exact ⟨v,h1,h2⟩
 | d :: ds,a,w,hd,r=>by
   obtain ⟨D,h1,h2,h3⟩:=r.shut hq hd
   refine ⟨by simp,.inl ⟨D,w.putObj D (.deferred none),by rw [h1],run_takeDeferred h2,?_⟩⟩
   exact leaves_marks hq fin ds { a with defers:=ds } _ rfl h3
def LOkF (P:Program) (Γ:Cfg) (an:Ann) (fn:Func):Prop:=∀ c,fn.body = some c→LOk P Γ an c∧LOk P Γ an.inR c∧ROk Γ an c
def AnnOk (an:Ann) (nt:Nat):Prop:=(∀ p,an.R p = none) ∨ an.ntR = nt
def Cx.pure (P:Program) (G:Nat→Option V) (w:World) (Fz:Nat→Prop) (nt:Nat):Cx :=
 { P:=P,G:=G,w0:=w,Fz0:=Fz,nt:=nt,Wr:=fun _=>False,gh:=ghNone (fun _=>none),frame:=fun _ _ _ _ _ _ h=>h.elim,cbok:=fun i x vs x' y h=>by cases i <;> simp [ghNone,Cbs.at,Cbs.call] at h,sav:=fun _=>none,q0:=w.heap.size,og:=fun _=>none,ogG:=fun _ _ h=>by cases h }
theorem start_tm (args:List V) (m:Nat) (t:Nat):({ tmps:={ length:=args.length + m,ups:=indexed 0 args,dflt:=.undef },objs:=[] }:St).tm t = (args ++ List.replicate m V.undef).getD t .junk:=by
 simp only [St.tm,Tms.get,findT_indexed,Nat.zero_le,if_true,Nat.sub_zero,List.getD_eq_getElem?_getD]
 by_cases h:t < args.length
 · rw [List.getElem?_append_left h]
   simp [h]
 · rw [List.getElem?_append_right (by omega),List.getElem?_replicate,List.getElem?_eq_none (by omega)]
   by_cases h2:t < args.length + m
   · have:Nat.blt t (args.length + m) = true:=by simpa using h2
     rw [this,if_pos (by omega)];rfl
   · have:Nat.blt t (args.length + m) = false:=by
       cases hb:Nat.blt t (args.length + m) with
       | false=>rfl
       | true=>exact absurd (by simpa using hb) h2
     rw [this,if_neg (by omega)];rfl
theorem fn_soundK (hΓ:CfgOk P Γ) {f:FuncId} {fn:Func} (hf:P.funcs[f]? = some fn) (an:Ann) (hL:LOkF P Γ an fn) {args:List V} (hA:AnnOk an (args.length + (fn.ntmps - args.length))) {K':V→Option C} {r0:C} (h:evFn Γ an fn args K' = some r0) :
   ∀ Fz w vs,Inv Γ.glob Fz w→Pt (RepG (E0 P Γ.glob Fz w)) args vs→CallsT P f vs.toArray Fz w fun Fz' w' v=>∃ rv,K' rv = some r0∧RepT (E0 P Γ.glob Fz' w') rv v:=by
 intro Fz w vs hinv hargs
 unfold evFn at h
 split at h
 · simp at h
 · rename_i c hb
   have hl:=Pt.length _ _ hargs
   obtain ⟨m,hm⟩:∃ m,m = fn.ntmps - args.length:=⟨_,rfl⟩
   rw [← hm] at h hA
   let cx:Cx:=Cx.pure P Γ.glob w Fz (args.length + m)
   let st:St:={ tmps:={ length:=args.length + m,ups:=indexed 0 args,dflt:=.undef },objs:=[] }
   have hargs2:Pt (RepG (cx.e Fz w (fun _=>none) (fun _=>undef))) args vs:=hargs
   have hr:RelS cx st.s2 { tmps:=vs.toArray ++ Array.replicate (fn.ntmps - vs.toArray.size) undef,defers:=[] } w:=by
     refine ⟨Fz,fun _=>undef,fun _=>False,⟨fun k s o h=>?_,fun k s o b h=>?_,fun k s o k' s' o' b h=>?_,StepW.refl hinv.lt,hinv,fun b h=>h.elim,fun k s t run x h=>?_,fun k o q h hq=>(by cases hq),fun b h=>h.elim⟩,by simp [cx,Cx.pure,hl,hm],fun d hd=>by simp at hd,List.nodup_nil,fun t=>?_⟩
     · simp [St.s2,St.lk,st,lookObj] at h
     · simp [St.s2,St.lk,st,lookObj] at h
     · simp [St.s2,St.lk,st,lookObj] at h
     · simp [St.s2,St.lk,st,lookObj] at h
     · have h1:=start_tmps hargs2 m t
       have e2:(vs.toArray ++ Array.replicate (fn.ntmps - vs.toArray.size) undef).getD t undef = (vs ++ List.replicate m undef).getD t undef:=by
         rw [Array.getD_eq_getD_getElem?,List.getD_eq_getElem?_getD,← Array.getElem?_toList]
         simp [hl,hm]
       show RepT _ (st.tm t) ((vs.toArray ++ Array.replicate (fn.ntmps - vs.toArray.size) undef).getD t undef)
       rw [e2,start_tm]
       exact h1
   obtain ⟨hL1,hL2,hL3⟩:=hL c hb
   refine callsIn_wide.1 (callsIn_of_wp_marks (n:=0) hf hb trivial (ev_sound hΓ c cx rfl rfl Fence.wide wide_wide 0 an c hL1 hL2 hL3 (fun _=>rfl) (hA.imp id fun h=>⟨rfl,rfl,h,Nat.le_refl _⟩) 1 ⟨Nat.le_refl _,1,by simp [codeAt]⟩ st _ _ _ w rfl h hr _ fun e st' a' w' hl' r' h'=>?_))
   obtain ⟨Fz',pos,U,r'⟩:=r'
   have r':RelIn cx st'.tm st'.lk a' w' Fz' pos U:=r'
   have fin:(resVals Γ st' fn.resultTypes.toList fn.results.toList fun vs=>if puresOk vs = true then K' (retV vs) else none) = some r0 →
       LeavesInM Fence.wide 0 P fn a'.tmps (fun e w''=>∃ v_1 Fz'',e = .returned v_1∧Step Fz w Fz'' w''∧∃ rv,K' rv = some r0∧RepT (E0 P Γ.glob Fz'' w'') rv v_1) a'.defers .returning w':=by
     intro hres
     refine leaves_marks (cx:=cx) (Nat.le_refl _) (fun a1 w1 r1 hd1=>?_) a'.defers a' w' rfl r'
     obtain ⟨vs',us,h1,h2,h3⟩:=res_vals hΓ rfl rfl r1 rfl rfl _ _ _ hres
     split at h1
     · rename_i hp
       refine ⟨_,run_results h2,_,FzEnd Fz' st'.lk pos,rfl,⟨r1.step.os,r1.step.tape,r1.step.output,r1.step.size,fun b hb=>r1.step.block b hb (fun h=>h),fun b hb=>?_,fun b hb=>?_⟩,retV vs',h1,retV_rep hp (h3 hp)⟩
       · refine Iff.trans ?_ (r1.step.fz b hb (fun h=>h))
         refine ⟨fun h=>h.resolve_right fun ⟨k,s,o,h1,h2⟩=>?_,.inl⟩
         rcases (r1.own k s o b h1 h2).2 with h4 | h4
         · have:b < w.heap.size:=hb
           have h4:w.heap.size ≤ b:=h4
           omega
         · exact h4
       · rcases hb with hb | ⟨k,s,o,h1,h2⟩
         · exact r1.step.lt b hb
         · exact (r1.objs k s o h1).lt h2
     · simp at h1
   cases e with
   | normal=>exact fin h'
   | exit id=>simp at h'
   | ret=>exact fin h'
end Go.Pv
