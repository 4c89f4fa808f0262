/- The purifying layer, part 15: calls. -/
import Derived.Test.YtlebcefahlienaaPvNa
set_option linter.unusedVariables false
set_option linter.unusedSimpArgs false
namespace Go.Pv
variable {P:Program} {Γ:Cfg} {cx:Cx} {tm:Tm} {lk:Lk} {a:Act} {w:World} {Fz:Nat→Prop} {pos:Nat→Value} {U:Nat→Prop}
theorem arg_rep {A B:E} (hP:B.P = A.P) (hG:B.G = A.G) (hf:Fut A.Fz A.w B.Fz B.w) {v:V} {u:Value} (ha:v.arg = true) (h:RepA A v u):RepA B v u:=by
 cases v <;> simp only [V.arg,V.atom,Bool.false_eq_true] at ha <;> simp only [RepA] at h ⊢
 case dat t x=>rw [hP,hG];exact RepA0.mono hf _ _ h
 case clo a b g=>rw [hP,hG];exact RepA0.mono hf _ _ h
 case nilf=>exact h
 case nils=>exact h
 case eptr u' =>
   obtain ⟨b,off,c,T,fz,cells,h1,h2,h3,h4,h5⟩:=h
   exact ⟨b,off,c,T,fz,cells,h1,(hf b h2).1,(hf b h2).2.trans h3,by rw [hP,hG];exact RepP.mono hf _ _ h4,h5⟩
theorem args_rep {A B:E} (hP:B.P = A.P) (hG:B.G = A.G) (hf:Fut A.Fz A.w B.Fz B.w):∀ (vs:List V) (us:List Value),argsOk vs = true→Pt (RepA A) vs us→Pt (RepA B) vs us
 | [],us,_,h=>h
 | v :: vs,us,ha,⟨u,r,he,h1,h2⟩=>by
   simp only [argsOk,Bool.and_eq_true] at ha
   exact ⟨u,r,he,arg_rep hP hG hf ha.1 h1,args_rep hP hG hf vs r ha.2 h2⟩
theorem arg_G {A:E} {v:V} {u:Value} (ha:v.arg = true):RepG A v u ↔ RepA A v u:=by
 cases v <;> simp only [V.arg,V.atom,Bool.false_eq_true] at ha <;> exact Iff.rfl
theorem args_G {A:E}:∀ (vs:List V) (us:List Value),argsOk vs = true→Pt (RepA A) vs us→Pt (RepG A) vs us
 | [],us,_,h=>h
 | v :: vs,us,ha,⟨u,r,he,h1,h2⟩=>by
   simp only [argsOk,Bool.and_eq_true] at ha
   exact ⟨u,r,he,(arg_G ha.1).2 h1,args_G vs r ha.2 h2⟩
theorem pure_rep {A B:E} (hP:B.P = A.P) (hG:B.G = A.G) (hf:Fut A.Fz A.w B.Fz B.w) {v:V} {u:Value} (ha:v.pure = true) (h:RepT A v u):RepG B v u:=by
 by_cases hn:v.arg = true
 · exact (arg_G hn).2 (arg_rep hP hG hf hn (by cases v <;> simp only [V.arg,V.atom,Bool.false_eq_true] at hn <;> exact h))
 · cases v <;> simp only [V.pure] at ha <;> first | exact absurd ha hn | skip
   obtain ⟨us,h1,h2⟩:=h
   exact ⟨us,h1,args_rep hP hG hf _ _ ha h2⟩
theorem pures_rep {A B:E} (hP:B.P = A.P) (hG:B.G = A.G) (hf:Fut A.Fz A.w B.Fz B.w):∀ (vs:List V) (us:List Value),puresOk vs = true→Pt (RepT A) vs us→Pt (RepG B) vs us
 | [],us,_,h=>h
 | v :: vs,us,ha,⟨u,r,he,h1,h2⟩=>by
   simp only [puresOk,Bool.and_eq_true] at ha
   exact ⟨u,r,he,pure_rep hP hG hf ha.1 h1,pures_rep hP hG hf vs r ha.2 h2⟩
theorem nil_lst (Fz:Nat→Prop) (w:World) (e:Ty):RepD Fz w (.lst e) ([]:List e.T) (.slice none 0 0) :=
 ⟨[.slice none 0 0],⟨none,0,0,[],rfl,rfl,Nat.le_refl _,rfl,.inl ⟨rfl,rfl⟩⟩,rfl⟩
theorem nilF_rep {A:E} {v:V} {t:Option Ty} {cs:List Value} (h:RepF A v cs):RepF A (nilF v t) cs:=by
 unfold nilF
 split
 · rename_i e
   obtain ⟨u,rfl,_,hu⟩:=h
   have hu:u = .slice none 0 0:=hu
   rw [hu]
   exact ⟨none,0,0,[],rfl,rfl,Nat.le_refl _,rfl,.inl ⟨rfl,rfl⟩⟩
 · exact h
theorem nilL_rep {A:E}:∀ (vs:List V) (ts:List (Option Ty)) (cs:List Value),All2 (RepF A) vs cs→All2 (RepF A) (nilL vs ts) cs
 | v :: vs,t :: ts,cs,⟨c1,c2,he,h1,h2⟩=>⟨c1,c2,he,nilF_rep h1,nilL_rep vs ts c2 h2⟩
 | [],_,_,h=>by simpa [nilL] using h
 | _ :: _,[],_,h=>by simpa [nilL] using h
theorem nilK_rep {A:E} {k:K} {v:V} {u:Value} (h:RepT A v u):RepT A (nilK k v) u:=by
 unfold nilK
 split
 · unfold nilF
   split
   · have h:u = .slice none 0 0:=h
     rw [h];exact nil_lst _ _ _
   · exact h
 · rename_i fs
   obtain ⟨cs,hu,hc⟩:=h
   exact ⟨cs,hu,nilL_rep _ _ _ hc⟩
 · exact h
theorem nilArg_rep {A:E} {T:TypeId} {v:V} {u:Value} (h:RepT A v u):RepT A (nilArg Γ T v) u:=by
 unfold nilArg
 split
 · cases Γ.own (900000 + T)
   · exact coll_rep (nilK_rep h)
   · exact coll_rep h
 · exact coll_rep h
theorem nilArgs_rep {A:E}:∀ (Ts:List TypeId) (vs:List V) (us:List Value),Pt (RepT A) vs us→Pt (RepT A) (nilArgs Γ Ts vs) us
 | [],vs,us,h=>by simpa [nilArgs] using h
 | _ :: _,[],us,h=>by simpa [nilArgs] using h
 | T :: Ts,v :: vs,us,⟨u,r,he,h1,h2⟩=>⟨u,r,he,nilArg_rep h1,nilArgs_rep Ts vs r h2⟩
theorem vals_rep (r:RelIn cx tm lk a w Fz pos U) (hg:cx.G = Γ.glob):∀ l:List Operand,Pt (RepT (cx.e Fz w lk pos)) (l.map (Γ.val tm)) (l.map a.eval)
 | []=>rfl
 | x :: l=>⟨a.eval x,l.map a.eval,rfl,val_rep r hg x,vals_rep r hg l⟩
theorem run_enter' {o:Oper} {f:Operand} {args:Array Operand} {Ts:Array TypeId} {g:FuncId} {fi caps:Array Value} (ho:o.op = .call ⟨.value f,args,Ts⟩) (hv:a.eval f = .func (.func g) fi caps) (hb:HasBody P g) :
   (execOp a.eval o).run P w = .ok (.enter g (fi ++ (args.toList.map a.eval).toArray ++ caps)) w:=by
 obtain ⟨fn,h1,h2,h3⟩:=hb
 have hn:fn.body ≠ none:=by intro hq;rw [hq] at h2;simp at h2
 have h4 : fn.name ≠ "runtime.NumGoroutine" := by intro hq; rw [hq] at h3; simp at h3
 unfold execOp
 simp [ho,resolve,hv,Deferred.ofValue,invoke,callFunc,h1,h4,hn,run_program]
 congr 2
 apply Array.ext'
 simp
theorem run_enter {o:Oper} {f:Operand} {args:Array Operand} {Ts:Array TypeId} {g:FuncId} {caps:Array Value} (ho:o.op = .call ⟨.value f,args,Ts⟩) (hv:a.eval f = .func (.func g) #[] caps) (hb:HasBody P g) :
   (execOp a.eval o).run P w = .ok (.enter g ((args.toList.map a.eval).toArray ++ caps)) w:=by
 have:=run_enter' (P:=P) (w:=w) ho hv hb
 simpa using this
theorem Ok.enter {o:Oper} {g:FuncId} {vs:Array Value} {rv:V} (r:RelIn cx tm lk a w Fz pos U) (hrun:(execOp a.eval o).run P w = .ok (.enter g vs) w)
   (hc:CallsT P g vs Fz w fun Fz' w' v=>RepT (cx.e Fz' w' lk pos) rv v):Ok P cx tm lk o a w { val:=rv }:=by
 refine .inr (.inr (.inl ⟨g,vs,w,hrun,Calls.mono hc fun e w' he=>?_⟩))
 obtain ⟨v,Fz',rfl,hs,hv⟩:=he
 exact ⟨v,rfl,Fz',pos,U,(r.call hs).value o.dst hv⟩
theorem from0 {Fz':Nat→Prop} {w':World} {rv:V} {v:Value} (hP:cx.P = P) (hG:cx.G = Γ.glob) (h:RepT (E0 P Γ.glob Fz' w') rv v):RepT (cx.e Fz' w' lk pos) rv v :=
 RepT.mono (A:=E0 P Γ.glob Fz' w') (B:=cx.e Fz' w' lk pos) ⟨hP,hG,(fun _ _ h=>by cases h),(fun _ _ h=>by cases h),Fut.refl _ _,fun k s o h=>by cases h⟩ _ _ h
def Owned (lk:Lk) (pos:Nat→Value) (b:Nat):Prop:=∃ k s o,lk k = some (s,o)∧VB (pos k) b
theorem snap_rep (r:RelIn cx tm lk a w Fz pos U) {v:V} {u:Value} (h:RepT (cx.e Fz w lk pos) v u):RepT (cx.e (fun b=>Fz b ∨ Owned lk pos b) w lk pos) (v.snap lk) u:=by
 have hf:Fut Fz w (fun b=>Fz b ∨ Owned lk pos b) w:=fun b hb=>⟨.inl hb,rfl⟩
 have hle:Le (cx.e Fz w lk pos) (cx.e (fun b=>Fz b ∨ Owned lk pos b) w lk pos):=⟨rfl,rfl,fun _ _ h=>h,fun _ _ h=>h,hf,fun k s o h=>⟨s,o,h,Nat.le_refl _,fun _=>Ext.mk (Obj.alike_refl _) rfl⟩⟩
 unfold V.snap
 split
 · rename_i e k s
   obtain ⟨_,s',ob,hlk,hle',hval⟩:=h
   have hlk:lk k = some (s',ob):=hlk
   split
   · rename_i s2 e' xs hlk2
     rw [hlk] at hlk2
     simp only [Option.some.injEq,Prod.mk.injEq] at hlk2
     obtain ⟨rfl,rfl⟩:=hlk2
     split
     · rename_i hc
       obtain ⟨rfl,rfl⟩:=hc
       obtain ⟨_,hv⟩:=hval rfl
       have hv:u = pos k:=hv
       have hR:=r.objs k s _ hlk
       simp only [RepO] at hR
       rcases hR with ⟨hp,hxs⟩ | ⟨b,off,cap,cells,TT,hp,hbk,hc1,hc2,hc3,cs,hall,hpre⟩
       · rw [hv,hp,hxs];exact nil_lst _ _ _
       · refine ⟨[u],⟨some ⟨b,off,none⟩,xs.length,cap,cs,by rw [hv,hp],rfl,hc1,All2.mono (fun x cs hx=>hx.mono hf) _ _ hall,.inr ⟨b,off,cells,TT,(0,0),rfl,.inr ⟨k,s,_,hlk,by rw [hp];rfl⟩,hbk,hpre⟩⟩,rfl⟩
     · trivial
   · trivial
 · rename_i k s
   obtain ⟨_,s',ob,hlk,hle',hval⟩:=h
   have hlk:lk k = some (s',ob):=hlk
   split
   · rename_i s2 kt vt es hlk2
     rw [hlk] at hlk2
     simp only [Option.some.injEq,Prod.mk.injEq] at hlk2
     obtain ⟨rfl,rfl⟩:=hlk2
     split
     · rename_i hc
       subst hc
       have hv:u = pos k:=(hval rfl).2
       have hR:=r.objs k s _ hlk
       simp only [RepO] at hR
       obtain ⟨b,ents,clock,hp,hbk,hcl,hm⟩:=hR
       refine ⟨[u],⟨some b,by rw [hv,hp],.inr ⟨b,ents,clock,rfl,.inr ⟨k,s,_,hlk,by rw [hp];rfl⟩,hbk,hcl,MapRep.mono (fun x u ⟨c,hc,hu⟩=>⟨c,hc.mono hf,hu⟩) (fun x u ⟨c,hc,hu⟩=>⟨c,hc.mono hf,hu⟩) _ _ _ hm⟩⟩,rfl⟩
     · trivial
   · trivial
 · exact RepT.mono hle _ _ h
theorem snaps_rep (r:RelIn cx tm lk a w Fz pos U):∀ (vs:List V) (us:List Value),Pt (RepT (cx.e Fz w lk pos)) vs us→Pt (RepT (cx.e (fun b=>Fz b ∨ Owned lk pos b) w lk pos)) (vs.map (V.snap lk)) us
 | [],_,h=>h
 | v :: vs,us,⟨u,r',he,h1,h2⟩=>⟨u,r',he,snap_rep r h1,snaps_rep r vs r' h2⟩
theorem scalar_C {F1 F2:Nat→Prop} {w1 w2:World}:∀ (t:Ty) (x:t.T) (cs:List Value),t.scalar = true→RepC F1 w1 t x cs→RepC F2 w2 t x cs
 | .int _,_,_,_,h=>h
 | .bool,_,_,_,h=>h
 | .str,_,_,_,h=>h
 | .unit,_,_,_,h=>h
 | .pair a b,x,cs,hs,⟨c1,c2,h,h1,h2⟩=>by
   simp only [Ty.scalar,Bool.and_eq_true] at hs
   exact ⟨c1,c2,h,scalar_C a _ _ hs.1 h1,scalar_C b _ _ hs.2 h2⟩
 | .arr n e,x,cs,hs,⟨h1,h2⟩=>⟨h1,All2.mono (fun x cs h=>scalar_C e x cs hs h) _ _ h2⟩
theorem scalar1_rep {A B:E} {v:V} {u:Value} (hs:v.scalar1 = true) (h:RepG A v u):RepG B v u:=by
 cases v <;> simp only [V.scalar1,Bool.false_eq_true] at hs
 obtain ⟨cs,hc,hu⟩:=h
 exact ⟨cs,scalar_C _ _ _ hs hc,hu⟩
theorem scalars_rep {A B:E}:∀ (vs:List V) (us:List Value),scalars vs = true→Pt (RepG A) vs us→Pt (RepG B) vs us
 | [],_,_,h=>h
 | v :: vs,us,hs,⟨u,r',he,h1,h2⟩=>by
   simp only [scalars,Bool.and_eq_true] at hs
   exact ⟨u,r',he,scalar1_rep hs.1 h1,scalars_rep vs r' hs.2 h2⟩
theorem scalar_rep {A B:E} {v:V} {u:Value} (hs:v.scalar = true) (h:RepT A v u):RepT B v u:=by
 cases v
 case dat t x=>exact scalar1_rep (A:=A) (B:=B) (v:=.dat t x) hs h
 case tup vs =>
   obtain ⟨us,h1,h2⟩:=h
   exact ⟨us,h1,scalars_rep vs us hs h2⟩
 all_goals simp [V.scalar,V.scalar1] at hs
theorem argsAs_rep {A:E}:∀ (t:Ty) (vs:List V) (us:List Value) (x:t.T),argsAs t vs = some x→Pt (RepT A) vs us→RepArgs A.Fz A.w t x us
 | .unit,[],us,x,h,hp=>hp
 | .unit,_ :: _,us,x,h,hp=>by simp [argsAs] at h
 | .pair t u,[],us,x,h,hp=>by simp [argsAs] at h
 | .pair t u,v :: vs,us,x,h,⟨y,r,he,h1,h2⟩=>by
   simp only [argsAs] at h
   split at h
   · rename_i x1 x2 hx1 hx2
     simp only [Option.some.injEq] at h
     subst h
     have:=as_some hx1
     subst this
     exact ⟨y,r,he,h1,argsAs_rep u vs r x2 hx2 h2⟩
   · simp at h
 | .int _,vs,us,x,h,hp=>by simp [argsAs] at h
 | .bool,vs,us,x,h,hp=>by simp [argsAs] at h
 | .str,vs,us,x,h,hp=>by simp [argsAs] at h
 | .lst _,vs,us,x,h,hp=>by simp [argsAs] at h
 | .arr _ _,vs,us,x,h,hp=>by simp [argsAs] at h
 | .map _ _,vs,us,x,h,hp=>by simp [argsAs] at h
theorem spread_rep {Fz:Nat→Prop} {w:World} {G:Nat→Option V}:∀ (t:Ty) (x:t.T) (vs:List Value),RepArgs Fz w t x vs→Pt (RepG (E0 P G Fz w)) (spread t x) vs
 | .unit,_,vs,h=>h
 | .pair t u,x,vs,⟨v,r,he,h1,h2⟩=>⟨v,r,he,h1,spread_rep u x.2 r h2⟩
 | .int _,_,_,h=>h.elim
 | .bool,_,_,h=>h.elim
 | .str,_,_,h=>h.elim
 | .lst _,_,_,h=>h.elim
 | .arr _ _,_,_,h=>h.elim
 | .map _ _,_,_,h=>h.elim
theorem clo_ok (hΓ:CfgOk P Γ) {A:E} (hP:A.P = P) (hG:A.G = Γ.glob) {f:FuncId} {caps:List V} {us:List Value} {a b:Ty} (hf:Γ.fnTy f = some (a,b)) (hc:argsOk caps = true) (h:Pt (RepA A) caps us) :
   CloOk A.P A.G A.Fz A.w f #[] us.toArray a b (fun x=>Γ.call f (spread a x ++ caps) (fun r=>r.as b)):=by
 rw [hP,hG]
 refine ⟨hΓ.fnTy f _ hf,fun Fz' w' hfut hinv x vs y hargs hg=>?_⟩
 simp only at hg
 rw [hΓ.nat] at hg
 cases hcall:Γ.call f (spread a x ++ caps) some with
 | none=>rw [hcall] at hg;simp at hg
 | some r =>
   rw [hcall] at hg
   simp only [Option.bind_some] at hg
   have:=as_some hg
   subst this
   have hfn:=hΓ.ok _ _ _ hcall Fz' w' (vs ++ us) hinv (Pt.append _ _ _ _ (spread_rep a x vs hargs) (args_G _ _ hc (args_rep (A:=A) (B:=E0 P Γ.glob Fz' w') hP.symm hG.symm hfut _ _ hc h)))
   rw [show #[] ++ vs.toArray ++ us.toArray = (vs ++ us).toArray by simp]
   exact Calls.mono hfn fun e w' ⟨v,Fz',h1,h2,h3⟩=>⟨v,Fz',h1,h2,h3⟩
theorem toClo_rep (hΓ:CfgOk P Γ) {A:E} (hP:A.P = P) (hG:A.G = Γ.glob) {v:V} {u:Value} (h:RepT A v u):RepT A (v.toClo Γ) u:=by
 unfold V.toClo
 split
 · rename_i f caps
   split
   · rename_i a b hf
     cases hc:argsOk caps with
     | false=>exact h
     | true =>
       obtain ⟨us,h1,h2⟩:=h
       exact ⟨f,#[],us.toArray,h1,clo_ok hΓ hP hG hf hc h2⟩
   · exact h
 · exact h
theorem toCloB_rep (hΓ:CfgOk P Γ) {A:E} (hP:A.P = P) (hG:A.G = Γ.glob) {v:V} {cs:List Value} (h:RepB A v cs):RepB A (v.toClo Γ) cs:=by
 unfold V.toClo
 split
 · rename_i f caps
   split
   · rename_i a b hf
     cases hc:argsOk caps with
     | false=>exact h
     | true =>
       obtain ⟨u,rfl,h1,us,h2,h3⟩:=h
       exact ⟨u,rfl,h1,f,#[],us.toArray,h2,clo_ok hΓ hP hG hf hc h3⟩
   · exact h
 · exact h
theorem toClos_rep (hΓ:CfgOk P Γ) {A:E} (hP:A.P = P) (hG:A.G = Γ.glob):∀ (vs:List V) (us:List Value),Pt (RepT A) vs us→Pt (RepT A) (vs.map (V.toClo Γ)) us
 | [],_,h=>h
 | v :: vs,us,⟨u,r',he,h1,h2⟩=>⟨u,r',he,toClo_rep hΓ hP hG h1,toClos_rep hΓ hP hG vs r' h2⟩
theorem ok_call {o:Oper} {f:Operand} {args:Array Operand} {Ts:Array TypeId} (ho:o.op = .call ⟨.value f,args,Ts⟩) (hΓ:CfgOk P Γ) (hP:cx.P = P) (r:RelIn cx tm lk a w Fz pos U) (hg:cx.G = Γ.glob) {e:Eff}
   (he:evCall Γ lk (Γ.val tm f) (nilArgs Γ Ts.toList (args.toList.map (Γ.val tm))) some = some e):Ok P cx tm lk o a w e:=by
 have hf:=val_rep r hg f
 have hargs:=nilArgs_rep (Γ:=Γ) Ts.toList _ _ (vals_rep r hg args.toList)
 unfold evCall at he
 generalize Γ.val tm f = vf at he hf
 generalize nilArgs Γ Ts.toList (args.toList.map (Γ.val tm)) = va at he hargs
 have hinv:Inv Γ.glob Fz w:=by have:=r.inv;rwa [hg] at this
 cases vf <;> (try simp only at he) <;> try (simp at he;done)
 case fn g caps =>
   split at he
   · rename_i hcaps
     obtain ⟨us,hv,hpt⟩:=hf
     split at he
     · rename_i hpure
       rw [hΓ.nat] at he
       cases hcall:Γ.call g (va.map (V.toClo Γ) ++ caps) some with
       | none=>rw [hcall] at he;simp at he
       | some rv =>
         rw [hcall] at he
         simp only [Option.bind_some,Option.some.injEq] at he
         subst he
         refine Ok.enter r (run_enter ho hv (hΓ.body _ _ _ hcall)) ?_
         have hfn:=hΓ.ok _ _ _ hcall Fz w (args.toList.map a.eval ++ us) hinv
           (Pt.append _ _ _ _ (pures_rep (A:=cx.e Fz w lk pos) (B:=E0 P Γ.glob Fz w) hP.symm hg.symm (Fut.refl _ _) _ _ hpure (toClos_rep hΓ hP hg _ _ hargs)) (args_G _ _ hcaps (args_rep (A:=cx.e Fz w lk pos) (B:=E0 P Γ.glob Fz w) hP.symm hg.symm (Fut.refl _ _) _ _ hcaps hpt)))
         rw [show (args.toList.map a.eval).toArray ++ us.toArray = (args.toList.map a.eval ++ us).toArray by simp]
         exact Calls.mono hfn fun e w' ⟨v,Fz',h1,h2,h3⟩=>⟨v,Fz',h1,h2,from0 hP hg h3⟩
     · split at he
       · rename_i hpure
         rw [hΓ.nat] at he
         cases hcall:Γ.call g ((va.map (V.snap lk)).map (V.toClo Γ) ++ caps) some with
         | none=>rw [hcall] at he;simp at he
         | some rv =>
           rw [hcall] at he
           simp only [Option.bind_some] at he
           split at he
           · rename_i hsc
             simp only [Option.some.injEq] at he
             subst he
             refine Ok.enter r (run_enter ho hv (hΓ.body _ _ _ hcall)) ?_
             have hf2:Fut Fz w (fun b=>Fz b ∨ Owned lk pos b) w:=fun b hb=>⟨.inl hb,rfl⟩
             have hlt2:∀ b,(Fz b ∨ Owned lk pos b)→b < w.heap.size:=by
               rintro b (h | ⟨k,s,o',h1,h2⟩)
               · exact r.step.lt b h
               · exact (r.objs k s o' h1).lt h2
             have hinv2:=hinv.step hf2 hlt2
             have hfn:=hΓ.ok _ _ _ hcall (fun b=>Fz b ∨ Owned lk pos b) w (args.toList.map a.eval ++ us) hinv2
               (Pt.append _ _ _ _ (pures_rep (A:=cx.e (fun b=>Fz b ∨ Owned lk pos b) w lk pos) (B:=E0 P Γ.glob (fun b=>Fz b ∨ Owned lk pos b) w) hP.symm hg.symm (Fut.refl _ _) _ _ hpure (toClos_rep hΓ hP hg _ _ (snaps_rep r _ _ hargs))) (args_G _ _ hcaps (args_rep (A:=cx.e Fz w lk pos) (B:=E0 P Γ.glob (fun b=>Fz b ∨ Owned lk pos b) w) hP.symm hg.symm hf2 _ _ hcaps hpt)))
             rw [show (args.toList.map a.eval).toArray ++ us.toArray = (args.toList.map a.eval ++ us).toArray by simp]
             refine Calls.mono hfn fun e w' ⟨v,Fz',h1,h2,h3⟩=>⟨v,Fz,h1,⟨h2.os,h2.tape,h2.output,h2.size,h2.block,fun _ _=>Iff.rfl,fun b hb=>Nat.lt_of_lt_of_le (r.step.lt b hb) h2.size⟩,scalar_rep hsc h3⟩
           · simp at he
       · simp at he
   · simp at he
 case clo t u g =>
   split at he
   · rename_i x hx
     cases hgx:g x with
     | none=>rw [hgx] at he;simp at he
     | some y =>
       rw [hgx] at he
       simp only [Option.bind_some,Option.some.injEq] at he
       subst he
       obtain ⟨f',fi,caps,hv,hb,hclo⟩:=hf
       have hb:HasBody P f':=by have:cx.P = P:=hP;rw [← this];exact hb
       refine Ok.enter r (run_enter' ho hv hb) ?_
       have hc:=hclo Fz w (Fut.refl _ _) r.inv x _ y (argsAs_rep _ _ _ _ hx hargs) hgx
       have hc:CallsT P f' (fi ++ (args.toList.map a.eval).toArray ++ caps) Fz w fun Fz'' w'' v=>RepD Fz'' w'' u y v:=by rw [← hP];exact hc
       exact Calls.mono hc fun e w' ⟨v,Fz',h1,h2,h3⟩=>⟨v,Fz',h1,h2,h3⟩
   · simp at he
theorem argsOk_app:∀ xs ys:List V,argsOk (xs ++ ys) = true→argsOk xs = true∧argsOk ys = true
 | [],ys,h=>⟨rfl,h⟩
 | x :: xs,ys,h=>by
   simp only [List.cons_append,argsOk,Bool.and_eq_true] at h ⊢
   exact ⟨⟨h.1,(argsOk_app xs ys h.2).1⟩,(argsOk_app xs ys h.2).2⟩
theorem ok_bind {o:Oper} {f:FuncId} {first caps:Array Operand} (ho:o.op = .makeFunc (.func f) first caps) (hΓ:CfgOk P Γ) (hP:cx.P = P) (r:RelIn cx tm lk a w Fz pos U) (hg:cx.G = Γ.glob) {ta tb:Ty} (hf:Γ.fnTy f = some (ta,tb))
   (hc:argsOk (first.toList.map (Γ.val tm) ++ caps.toList.map (Γ.val tm)) = true) :
   Ok P cx tm lk o a w { val:=.clo ta tb fun x=>Γ.call f (first.toList.map (Γ.val tm) ++ (spread ta x ++ caps.toList.map (Γ.val tm))) (fun r=>r.as tb) }:=by
 have hc1:=(argsOk_app _ _ hc).1
 have hc2:=(argsOk_app _ _ hc).2
 have key:∀ l:List Operand,argsOk (l.map (Γ.val tm)) = true→Pt (RepA (cx.e Fz w lk pos)) (l.map (Γ.val tm)) (l.map a.eval):=by
   intro l
   induction l with
   | nil=>intro _;rfl
   | cons x l ih =>
     intro hm
     simp only [argsOk,List.map_cons,Bool.and_eq_true] at hm
     refine ⟨a.eval x,l.map a.eval,rfl,?_,ih hm.2⟩
     have hx:=val_rep r hg x
     generalize Γ.val tm x = v at hx hm
     cases v <;> first | exact hx | (simp [V.arg] at hm;done)
 refine Ok.value r rfl (u:=.func (.func f) (first.map a.eval) (caps.map a.eval)) ?_ ?_
 · unfold execOp;simp [ho,Instr.makeFunc]
 · refine ⟨f,first.map a.eval,caps.map a.eval,rfl,?_⟩
   have hP':(cx.e Fz w lk pos).P = P:=hP
   have hG':(cx.e Fz w lk pos).G = Γ.glob:=hg
   show CloOk (cx.e Fz w lk pos).P (cx.e Fz w lk pos).G _ _ _ _ _ _ _ _
   rw [hP',hG']
   refine ⟨hΓ.fnTy f _ hf,fun Fz' w' hfut hinv x vs y hargs hgx=>?_⟩
   simp only at hgx
   rw [hΓ.nat] at hgx
   cases hcall:Γ.call f (first.toList.map (Γ.val tm) ++ (spread ta x ++ caps.toList.map (Γ.val tm))) some with
   | none=>rw [hcall] at hgx;simp at hgx
   | some r' =>
     rw [hcall] at hgx
     simp only [Option.bind_some] at hgx
     have:=as_some hgx
     subst this
     have hfn:=hΓ.ok _ _ _ hcall Fz' w' (first.toList.map a.eval ++ (vs ++ caps.toList.map a.eval)) hinv (Pt.append _ _ _ _ (args_G _ _ hc1 (args_rep (A:=cx.e Fz w lk pos) (B:=E0 P Γ.glob Fz' w') hP.symm hg.symm hfut _ _ hc1 (key _ hc1))) (Pt.append _ _ _ _ (spread_rep ta x vs hargs) (args_G _ _ hc2 (args_rep (A:=cx.e Fz w lk pos) (B:=E0 P Γ.glob Fz' w') hP.symm hg.symm hfut _ _ hc2 (key _ hc2)))))
     rw [show first.map a.eval ++ vs.toArray ++ caps.map a.eval = (first.toList.map a.eval ++ (vs ++ caps.toList.map a.eval)).toArray by apply Array.ext';simp]
     exact Calls.mono hfn fun e w' ⟨v,Fz',h1,h2,h3⟩=>⟨v,Fz',h1,h2,h3⟩
end Go.Pv
