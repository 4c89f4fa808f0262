/- The purifying layer, part 15b: calls that are handed objects; functions told from outside. -/
import Derived.Test.YtlebcefahlienaaPvOa
set_option linter.unusedVariables false
set_option linter.unusedSimpArgs false
namespace Go.Pv
variable {P:Program} {Γ:Cfg} {cx:Cx} {tm:Tm} {lk:Lk} {a:Act} {w:World} {Fz:Nat→Prop} {pos:Nat→Value} {U:Nat→Prop}
theorem move_ref {A B:E} {k s k2 s2:Nat} {p:List Nat} {o o':Obj} {u:Value} (h:RepA A (.ref k s p) u) (hk:A.lk k = some (s,o)) (hk':B.lk k2 = some (s2,o')) (hal:Ext o (A.pos k) o' (B.pos k2)):RepA B (.ref k2 s2 p) u:=by
 obtain ⟨h1,s',o1,hlk,hle,hv⟩:=h
 rw [hk] at hlk
 simp only [Option.some.injEq,Prod.mk.injEq] at hlk
 obtain ⟨rfl,rfl⟩:=hlk
 exact ⟨h1,s2,o',hk',Nat.le_refl _,fun _=>(hv rfl).ext hal⟩
theorem move_row {A B:E} {e:Ty} {k s k2 s2 p:Nat} {o o':Obj} {u:Value} (h:RepA A (.row e k s p) u) (hk:A.lk k = some (s,o)) (hk':B.lk k2 = some (s2,o')) (hal:Ext o (A.pos k) o' (B.pos k2)):RepA B (.row e k2 s2 p) u:=by
 obtain ⟨h1,s',o1,hlk,hle,hv⟩:=h
 rw [hk] at hlk
 simp only [Option.some.injEq,Prod.mk.injEq] at hlk
 obtain ⟨rfl,rfl⟩:=hlk
 exact ⟨h1,s2,o',hk',Nat.le_refl _,fun _=>(hv rfl).ext hal⟩
theorem move_sl {A B:E} {k s k2 s2:Nat} {e:Ty} {o o':Obj} {u:Value} (h:RepA A (.sl e k s) u) (hk:A.lk k = some (s,o)) (hk':B.lk k2 = some (s2,o')) (hal:Ext o (A.pos k) o' (B.pos k2)):RepA B (.sl e k2 s2) u:=by
 obtain ⟨h1,s',o1,hlk,hle,hv⟩:=h
 rw [hk] at hlk
 simp only [Option.some.injEq,Prod.mk.injEq] at hlk
 obtain ⟨rfl,rfl⟩:=hlk
 exact ⟨h1,s2,o',hk',Nat.le_refl _,fun _=>⟨(hal.isVec (hv rfl).1).1,(hv rfl).2.trans (hal.isVec (hv rfl).1).2.symm⟩⟩
theorem move_mp {A B:E} {k s k2 s2:Nat} {o o':Obj} {u:Value} (h:RepA A (.mp k s) u) (hk:A.lk k = some (s,o)) (hk':B.lk k2 = some (s2,o')) (hal:Ext o (A.pos k) o' (B.pos k2)):RepA B (.mp k2 s2) u:=by
 obtain ⟨h1,s',o1,hlk,hle,hv⟩:=h
 rw [hk] at hlk
 simp only [Option.some.injEq,Prod.mk.injEq] at hlk
 obtain ⟨rfl,rfl⟩:=hlk
 exact ⟨h1,s2,o',hk',Nat.le_refl _,fun _=>⟨(hal.isMp (hv rfl).1).1,(hv rfl).2.trans (hal.isMp (hv rfl).1).2.symm⟩⟩
theorem shift_ref {A B:E} {k s s' c k2:Nat} {p:List Nat} {o o':Obj} {u:Value} (h:RepA A (.ref k s p) u) (hk:A.lk k = some (s',o)) (hk':B.lk k2 = some (c + s',o')) (hal:Ext o (A.pos k) o' (B.pos k2)):RepA B (.ref k2 (c + s) p) u:=by
 obtain ⟨h1,s1,o1,hlk,hle,hv⟩:=h
 rw [hk] at hlk
 simp only [Option.some.injEq,Prod.mk.injEq] at hlk
 obtain ⟨rfl,rfl⟩:=hlk
 exact ⟨h1,c + s',o',hk',by omega,fun hs=>(hv (by omega)).ext hal⟩
theorem shift_row {A B:E} {e:Ty} {k s s' c k2 p:Nat} {o o':Obj} {u:Value} (h:RepA A (.row e k s p) u) (hk:A.lk k = some (s',o)) (hk':B.lk k2 = some (c + s',o')) (hal:Ext o (A.pos k) o' (B.pos k2)):RepA B (.row e k2 (c + s) p) u:=by
 obtain ⟨h1,s1,o1,hlk,hle,hv⟩:=h
 rw [hk] at hlk
 simp only [Option.some.injEq,Prod.mk.injEq] at hlk
 obtain ⟨rfl,rfl⟩:=hlk
 exact ⟨h1,c + s',o',hk',by omega,fun hs=>(hv (by omega)).ext hal⟩
theorem shift_sl {A B:E} {k s s' c k2:Nat} {e:Ty} {o o':Obj} {u:Value} (h:RepA A (.sl e k s) u) (hk:A.lk k = some (s',o)) (hk':B.lk k2 = some (c + s',o')) (hal:Ext o (A.pos k) o' (B.pos k2)):RepA B (.sl e k2 (c + s)) u:=by
 obtain ⟨h1,s1,o1,hlk,hle,hv⟩:=h
 rw [hk] at hlk
 simp only [Option.some.injEq,Prod.mk.injEq] at hlk
 obtain ⟨rfl,rfl⟩:=hlk
 exact ⟨h1,c + s',o',hk',by omega,fun hs=>⟨(hal.isVec (hv (by omega)).1).1,(hv (by omega)).2.trans (hal.isVec (hv (by omega)).1).2.symm⟩⟩
theorem shift_mp {A B:E} {k s s' c k2:Nat} {o o':Obj} {u:Value} (h:RepA A (.mp k s) u) (hk:A.lk k = some (s',o)) (hk':B.lk k2 = some (c + s',o')) (hal:Ext o (A.pos k) o' (B.pos k2)):RepA B (.mp k2 (c + s)) u:=by
 obtain ⟨h1,s1,o1,hlk,hle,hv⟩:=h
 rw [hk] at hlk
 simp only [Option.some.injEq,Prod.mk.injEq] at hlk
 obtain ⟨rfl,rfl⟩:=hlk
 exact ⟨h1,c + s',o',hk',by omega,fun hs=>⟨(hal.isMp (hv (by omega)).1).1,(hv (by omega)).2.trans (hal.isMp (hv (by omega)).1).2.symm⟩⟩
theorem ref_lk {A:E} {k s:Nat} {p:List Nat} {u:Value} (h:RepA A (.ref k s p) u):∃ s' o,A.lk k = some (s',o):=let ⟨_,s',o,h,_⟩:=h;⟨s',o,h⟩
theorem sl_lk {A:E} {k s:Nat} {e:Ty} {u:Value} (h:RepA A (.sl e k s) u):∃ s' o,A.lk k = some (s',o):=let ⟨_,s',o,h,_⟩:=h;⟨s',o,h⟩
theorem row_lk {A:E} {e:Ty} {k s p:Nat} {u:Value} (h:RepA A (.row e k s p) u):∃ s' o,A.lk k = some (s',o):=let ⟨_,s',o,h,_⟩:=h;⟨s',o,h⟩
theorem mp_lk {A:E} {k s:Nat} {u:Value} (h:RepA A (.mp k s) u):∃ s' o,A.lk k = some (s',o):=let ⟨_,s',o,h,_⟩:=h;⟨s',o,h⟩
theorem idxK_get:∀ (ks:List Nat) (k i j:Nat),idxK k ks i = some j→i ≤ j∧ks[j - i]? = some k
 | [],k,i,j,h=>by simp [idxK] at h
 | k' :: r,k,i,j,h=>by
   simp only [idxK] at h
   cases hb:Nat.beq k' k with
   | true =>
     rw [hb] at h
     simp only [cond_true,Option.some.injEq] at h
     subst h
     rw [Nat.eq_of_beq_eq_true hb]
     exact ⟨Nat.le_refl _,by simp⟩
   | false =>
     rw [hb] at h
     obtain ⟨h1,h2⟩:=idxK_get r k (i + 1) j h
     refine ⟨by omega,?_⟩
     rw [show j - i = (j - (i + 1)) + 1 by omega]
     simpa using h2
theorem objsOf_get {lk:Lk}:∀ (ks:List Nat) (os:List Obj),objsOf lk ks = some os→os.length = ks.length∧∀ (i k:Nat),ks[i]? = some k→∃ s o,lk k = some (s,o)∧os[i]? = some o
 | [],os,h=>by simp only [objsOf,Option.some.injEq] at h;subst h;exact ⟨rfl,fun i k h=>by simp at h⟩
 | k :: r,os,h=>by
   simp only [objsOf] at h
   split at h
   · rename_i q l hq hl
     simp only [Option.some.injEq] at h
     subst h
     obtain ⟨h1,h2⟩:=objsOf_get r l hl
     refine ⟨by simp [h1],fun i k' hk=>?_⟩
     cases i with
     | zero=>simp only [List.getElem?_cons_zero,Option.some.injEq] at hk;subst hk;exact ⟨q.1,q.2,hq,rfl⟩
     | succ i=>obtain ⟨s,o,g1,g2⟩:=h2 i k' (by simpa using hk);exact ⟨s,o,g1,by simpa using g2⟩
   · simp at h
theorem reachK_nodup {lk:Lk}:∀ (n:Nat) (todo acc ks:List Nat),reachK lk n todo acc = some ks→acc.Nodup→ks.Nodup
 | _,[],acc,ks,h,ha=>by
   cases ‹Nat› <;> (simp only [reachK,Option.some.injEq] at h;subst h;exact ha)
 | 0,_ :: _,acc,ks,h,ha=>by simp [reachK] at h
 | n + 1,k :: todo,acc,ks,h,ha=>by
   simp only [reachK] at h
   cases hc:acc.contains k with
   | true=>rw [hc] at h;exact reachK_nodup n todo acc ks h ha
   | false =>
     rw [hc] at h
     simp only [cond_false] at h
     split at h
     · rename_i q hq
       refine reachK_nodup n _ _ ks h ?_
       rw [List.nodup_append]
       refine ⟨ha,by simp,fun x hx y hy hxy=>?_⟩
       simp only [List.mem_singleton] at hy
       subst hy hxy
       have:acc.contains x = true:=by simpa using hx
       rw [hc] at this;cases this
     · simp at h
theorem noGh_mem:∀ (os:List Obj),noGh os = true→∀ o ∈ os,∀ t run x,o ≠ .gh t run x
 | [],_,o,h,_,_,_=>by simp at h
 | o' :: r,hn,o,h,t,run,x=>by
   have hr:noGh r = true∧∀ t run x,o' ≠ .gh t run x:=by
     cases o' <;> simp only [noGh] at hn <;> first | exact ⟨hn,by intro _ _ _ h;cases h⟩ | (simp at hn;done)
   rcases List.mem_cons.1 h with rfl | h
   · exact hr.2 t run x
   · exact noGh_mem r hr.1 o h t run x
theorem fitAll_mem:∀ (os:List Obj),fitAll os = true→∀ o ∈ os,o.fitOk = true
 | [],_,o,h=>by simp at h
 | o' :: r,hn,o,h=>by
   simp only [fitAll,Bool.and_eq_true] at hn
   rcases List.mem_cons.1 h with rfl | h
   · exact hn.1
   · exact fitAll_mem r hn.2 o h
def posG (ks:List Nat) (pos:Nat→Value):Nat→Value:=fun k=>if gB < k then (match ks[k - gB - 1]? with | some k'=>pos k' | none=>undef) else undef
def WrG (ks:List Nat) (pos:Nat→Value):Nat→Prop:=fun b=>∃ k,k ∈ ks∧VB (pos k) b
def ghNone (cv:Nat→Option Value):GhSem:=⟨.unit,⟨fun _ _=>none,.unit,fun _ _=>none⟩,fun _ _ _ _=>False,cv⟩
def Cx.hand (cx:Cx) (w:World) (Fz:Nat→Prop) (Wr:Nat→Prop):Cx :=
 { P:=cx.P,G:=cx.G,w0:=w,Fz0:=Fz,nt:=0,Wr:=Wr,gh:=ghNone (fun _=>none),frame:=fun _ _ _ _ _ _ h=>h.elim,cbok:=fun i x vs x' y h=>by cases i <;> simp [ghNone,Cbs.at,Cbs.call] at h,sav:=cx.sav,q0:=w.heap.size,og:=fun _=>none,ogG:=fun _ _ h=>by cases h }
theorem lkG_get {o0:Obj} {os:List Obj} {k s:Nat} {o:Obj} (h:lkG (o0 :: os) k = some (s,o)):s = 0∧gB ≤ k∧((k = gB∧o = o0) ∨ ∃ i,k = gB + 1 + i∧os[i]? = some o):=by
 simp only [lkG] at h
 split at h
 · rename_i hk
   simp only [Option.map_eq_some_iff,Prod.mk.injEq] at h
   obtain ⟨o',h1,h2,rfl⟩:=h
   refine ⟨h2.symm,hk,?_⟩
   cases hi:k - gB with
   | zero=>rw [hi] at h1;simp only [List.getElem?_cons_zero,Option.some.injEq] at h1;exact .inl ⟨by omega,h1.symm⟩
   | succ i=>rw [hi] at h1;exact .inr ⟨i,by omega,by simpa using h1⟩
 · simp at h
section
variable {ks:List Nat} {os0:List Obj}
theorem toG_map (r:Held cx lk w Fz pos U) (hnd:ks.Nodup) (hos:objsOf lk ks = some os0) (o0:Obj) (cx2:Cx) (hP:cx2.P = cx.P) (hG:cx2.G = cx.G) (hsv:∀ i v,cx.sav i = some v→cx2.sav i = some v) :
   AtomMap (cx.e Fz w lk pos) (cx2.e Fz w (lkG (o0 :: os0.map (Obj.mapV (toG ks lk)))) (posG ks pos)) (toG ks lk):=by
 obtain ⟨hlen,hget⟩:=objsOf_get ks os0 hos
 have key:∀ k i s o,idxK k ks 1 = some i→lk k = some (s,o)→lkG (o0 :: os0.map (Obj.mapV (toG ks lk))) (gB + i) = some (0,o.mapV (toG ks lk))∧posG ks pos (gB + i) = pos k:=by
   intro k i s o hi hlk
   obtain ⟨h1,h2⟩:=idxK_get ks k 1 i hi
   obtain ⟨s2,o2,g1,g2⟩:=hget _ _ h2
   rw [hlk] at g1
   simp only [Option.some.injEq,Prod.mk.injEq] at g1
   obtain ⟨rfl,rfl⟩:=g1
   obtain ⟨j,rfl⟩:∃ j,i = j + 1:=⟨i - 1,by omega⟩
   refine ⟨?_,?_⟩
   · unfold lkG
     rw [if_pos (by omega),show gB + (j + 1) - gB = j + 1 by omega]
     simp only [List.getElem?_cons_succ,List.getElem?_map]
     rw [show j + 1 - 1 = j by omega] at g2
     rw [g2];rfl
   · unfold posG
     rw [if_pos (by omega),show gB + (j + 1) - gB - 1 = j by omega]
     rw [show j + 1 - 1 = j by omega] at h2
     rw [h2]
 refine ⟨Fut.refl _ _,fun k s p u hu=>?_,fun e k s u hu=>?_,fun k s u hu=>?_,fun e k s p u hu=>?_,hP,hG,fun i u hu=>⟨rfl,trivial⟩,hsv⟩
 · simp only [toG]
   split
   · rename_i i s' o hi hlk
     split
     · rename_i hs
       subst hs
       obtain ⟨h1,h2⟩:=key k i s o hi hlk
       exact ⟨rfl,move_ref hu hlk h1 (Ext.mk (mapV_alike o) h2)⟩
     · exact ⟨rfl,trivial⟩
   · exact ⟨rfl,trivial⟩
 · simp only [toG]
   split
   · rename_i i s' o hi hlk
     split
     · rename_i hs
       subst hs
       obtain ⟨h1,h2⟩:=key k i s o hi hlk
       exact ⟨rfl,move_sl hu hlk h1 (Ext.mk (mapV_alike o) h2)⟩
     · exact ⟨rfl,trivial⟩
   · exact ⟨rfl,trivial⟩
 · simp only [toG]
   split
   · rename_i i s' o hi hlk
     split
     · rename_i hs
       subst hs
       obtain ⟨h1,h2⟩:=key k i s o hi hlk
       exact ⟨rfl,move_mp hu hlk h1 (Ext.mk (mapV_alike o) h2)⟩
     · exact ⟨rfl,trivial⟩
   · exact ⟨rfl,trivial⟩
 · simp only [toG]
   split
   · rename_i i s' o hi hlk
     split
     · rename_i hs
       subst hs
       obtain ⟨h1,h2⟩:=key k i s o hi hlk
       exact ⟨rfl,move_row hu hlk h1 (Ext.mk (mapV_alike o) h2)⟩
     · exact ⟨rfl,trivial⟩
   · exact ⟨rfl,trivial⟩
theorem nodup_at {l:List Nat} (h:l.Nodup) {i j k:Nat} (hi:l[i]? = some k) (hj:l[j]? = some k):i = j:=by
 exact (List.getElem?_inj (List.getElem?_eq_some_iff.1 hi).1 h).1 (hi.trans hj.symm)
theorem held_handX (r:Held cx lk w Fz pos U) (hnd:ks.Nodup) (hos:objsOf lk ks = some os0) (hfit:fitAll (os0.map (Obj.mapV (toG ks lk))) = true) (hno:noGh os0 = true) (cx2:Cx) (hP:cx2.P = cx.P) (hG:cx2.G = cx.G) (hsv:∀ i v,cx.sav i = some v→cx2.sav i = some v)
   (hw:cx2.w0 = w) (hF:cx2.Fz0 = Fz) (hog:cx2.og = fun _=>none) (hWr:∀ b,WrG ks pos b→cx2.Wr b) (hW2:∀ b,cx2.Wr b→¬ Fz b) (o0:Obj) (h0:∀ E:E,RepO E o0 undef) {U2:Nat→Prop} (hgh:∀ t run x,o0 = .gh t run x→∃ J cv,cx2.gh = ⟨t,run,J,cv⟩∧J x U2 Fz w)
   (hU2:∀ b,U2 b→b < w.heap.size∧¬ Fz b∧cx2.Wr b∧¬ WrG ks pos b) :
   Held cx2 (lkG (o0 :: os0.map (Obj.mapV (toG ks lk)))) w Fz (posG ks pos) U2:=by
 obtain ⟨hlen,hget⟩:=objsOf_get ks os0 hos
 have m:=toG_map r hnd hos o0 cx2 hP hG hsv
 have back:∀ i o,(os0.map (Obj.mapV (toG ks lk)))[i]? = some o→∃ k s o1,ks[i]? = some k∧lk k = some (s,o1)∧o = o1.mapV (toG ks lk)∧o1 ∈ os0∧posG ks pos (gB + 1 + i) = pos k:=by
   intro i o h
   simp only [List.getElem?_map,Option.map_eq_some_iff] at h
   obtain ⟨o1,h1,rfl⟩:=h
   have hi:i < ks.length:=by have:=(List.getElem?_eq_some_iff.1 h1).1;omega
   obtain ⟨s,o2,g1,g2⟩:=hget i ks[i] (by simp [hi])
   rw [h1] at g2
   simp only [Option.some.injEq] at g2
   subst g2
   refine ⟨ks[i],s,o1,by simp [hi],g1,rfl,List.mem_of_getElem? h1,?_⟩
   unfold posG
   rw [if_pos (by omega),show gB + 1 + i - gB - 1 = i by omega]
   simp [hi]
 refine ⟨fun k s o h=>?_,fun k s o b h hb=>?_,fun k s o k' s' o' b h h' hb hb'=>?_,by rw [hw,hF];exact StepW.refl r.step.lt,by rw [hw,hF,hG];exact r.inv,by rw [hF];exact hW2,fun k s t run x h=>?_,fun k o q h hq=>(by rw [hog] at hq;cases hq),fun b hb=>?_⟩
 · obtain ⟨rfl,hk,(⟨rfl,rfl⟩ | ⟨i,rfl,hi⟩)⟩:=lkG_get h
   · have:posG ks pos gB = undef:=by simp [posG]
     rw [this];exact h0 _
   · obtain ⟨k0,s0,o1,g1,g2,rfl,g3,g4⟩:=back i o hi
     rw [g4]
     exact mapO_rep m (fitAll_mem _ hfit _ (List.mem_map_of_mem g3)) (fun _ _=>rfl) (r.objs k0 s0 o1 g2)
 · obtain ⟨rfl,hk,(⟨rfl,rfl⟩ | ⟨i,rfl,hi⟩)⟩:=lkG_get h
   · simp [posG,VB_undef] at hb
   · obtain ⟨k0,s0,o1,g1,g2,rfl,g3,g4⟩:=back i o hi
     rw [g4] at hb
     exact ⟨(r.own k0 s0 o1 b g2 hb).1,.inr (hWr b ⟨k0,List.mem_of_getElem? g1,hb⟩)⟩
 · obtain ⟨rfl,hk,(⟨rfl,rfl⟩ | ⟨i,rfl,hi⟩)⟩:=lkG_get h
   · simp [posG,VB_undef] at hb
   · obtain ⟨k0,s0,o1,g1,g2,rfl,g3,g4⟩:=back i o hi
     obtain ⟨rfl,hk',(⟨rfl,rfl⟩ | ⟨j,rfl,hj⟩)⟩:=lkG_get h'
     · simp [posG,VB_undef] at hb'
     · obtain ⟨k1,s1,o2,f1,f2,rfl,f3,f4⟩:=back j o' hj
       rw [g4] at hb
       rw [f4] at hb'
       have:=r.inj k0 s0 o1 k1 s1 o2 b g2 f2 hb hb'
       subst this
       rw [nodup_at hnd g1 f1]
 · obtain ⟨rfl,hk,(⟨rfl,h2⟩ | ⟨i,rfl,hi⟩)⟩:=lkG_get h
   · obtain ⟨J,cv,g1,g2⟩:=hgh t run x h2.symm
     exact ⟨rfl,J,cv,g1,g2⟩
   · obtain ⟨k0,s0,o1,g1,g2,h3,g3,g4⟩:=back i _ hi
     exfalso
     cases o1 <;> simp only [Obj.mapV,reduceCtorEq] at h3
     exact noGh_mem _ hno _ g3 _ _ _ rfl
 · obtain ⟨h1,h2,h3,h4⟩:=hU2 b hb
   refine ⟨h1,h2,.inr h3,fun k s o h hb'=>?_⟩
   obtain ⟨rfl,hk,(⟨rfl,rfl⟩ | ⟨i,rfl,hi⟩)⟩:=lkG_get h
   · simp [posG,VB_undef] at hb'
   · obtain ⟨k0,s0,o1,g1,g2,rfl,g3,g4⟩:=back i o hi
     rw [g4] at hb'
     exact h4 ⟨k0,List.mem_of_getElem? g1,hb'⟩
theorem held_hand (r:Held cx lk w Fz pos U) (hnd:ks.Nodup) (hos:objsOf lk ks = some os0) (hfit:fitAll (os0.map (Obj.mapV (toG ks lk))) = true) (hno:noGh os0 = true) {Wr:Nat→Prop} (hWr:∀ b,WrG ks pos b→Wr b) (hW2:∀ b,Wr b→¬ Fz b) :
   Held (cx.hand w Fz Wr) (lkG (.gone :: os0.map (Obj.mapV (toG ks lk)))) w Fz (posG ks pos) (fun _=>False) :=
 held_handX r hnd hos hfit hno (cx.hand w Fz Wr) rfl rfl (fun _ _ h=>h) rfl rfl rfl hWr hW2 .gone (fun _=>NB_undef) (fun _ _ _ h=>by cases h) (fun b h=>h.elim)
end
theorem outs_look {ks0:List Nat} {d m:Nat}:∀ (ks:List Nat) (outs:List (Nat×Obj)) (wr:List (Nat×Nat×Obj)),backOuts ks0 lk d m ks outs = some wr→ks.Nodup →
   outs.length = ks.length∧(∀ (i k:Nat),ks[i]? = some k→∀ lk0,∃ s o q,lk k = some (s,o)∧outs[i]? = some q∧(q.2.mapV (fromG ks0 lk d m)).fitOk = true∧updLk wr lk0 k = some (s + q.1,q.2.mapV (fromG ks0 lk d m))) ∧
     ∀ k,k ∉ ks→∀ lk0,updLk wr lk0 k = lk0 k
 | [],outs,wr,h,_=>by
   cases outs with
   | nil=>simp only [backOuts,Option.some.injEq] at h;subst h;exact ⟨rfl,fun i k h=>by simp at h,fun k _ lk0=>rfl⟩
   | cons _ _=>simp [backOuts] at h
 | k0 :: r,[],wr,h,_=>by simp [backOuts] at h
 | k0 :: r,q :: outs,wr,h,hnd=>by
   simp only [backOuts] at h
   split at h
   · rename_i u wr' hu hw
     cases hf:(q.2.mapV (fromG ks0 lk d m)).fitOk with
     | false=>rw [hf] at h;simp at h
     | true =>
       rw [hf] at h
       simp only [cond_true,Option.some.injEq] at h
       subst h
       rw [List.nodup_cons] at hnd
       obtain ⟨h1,h2,h3⟩:=outs_look r outs wr' hw hnd.2
       refine ⟨by simp [h1],fun i k hk lk0=>?_,fun k hk lk0=>?_⟩
       · cases i with
         | zero =>
           simp only [List.getElem?_cons_zero,Option.some.injEq] at hk
           subst hk
           refine ⟨u.1,u.2,q,hu,rfl,hf,?_⟩
           simp only [updLk]
           rw [h3 k0 hnd.1]
           simp [updLk1]
         | succ i =>
           obtain ⟨s,o,q',g1,g2,g3,g4⟩:=h2 i k (by simpa using hk) (updLk1 lk0 k0 (u.1 + q.1) (q.2.mapV (fromG ks0 lk d m)))
           exact ⟨s,o,q',g1,by simpa using g2,g3,g4⟩
       · simp only [List.mem_cons,not_or] at hk
         simp only [updLk]
         rw [h3 k hk.2]
         simp [updLk1,hk.1]
   · simp at h
theorem exs_look {ks:List Nat} {d m:Nat}:∀ (exs:List Obj) (j:Nat) (wr:List (Nat×Nat×Obj)),backExs ks lk d m j exs = some wr →
   (∀ (i:Nat) o,exs[i]? = some o→∀ lk0,(o.mapV (fromG ks lk d m)).fitOk = true∧xKey d (j + i) ∉ ks∧updLk wr lk0 (xKey d (j + i)) = some (nextS lk (xKey d (j + i)),o.mapV (fromG ks lk d m))) ∧
     ∀ k,(∀ i,i < exs.length→k ≠ xKey d (j + i))→∀ lk0,updLk wr lk0 k = lk0 k
 | [],j,wr,h=>by simp only [backExs,Option.some.injEq] at h;subst h;exact ⟨fun i o h=>by simp at h,fun k _ lk0=>rfl⟩
 | o0 :: r,j,wr,h=>by
   simp only [backExs] at h
   split at h
   · rename_i wr' hw
     cases hf:((o0.mapV (fromG ks lk d m)).fitOk && !ks.contains (xKey d j)) with
     | false=>rw [hf] at h;simp at h
     | true =>
       rw [hf] at h
       simp only [cond_true,Option.some.injEq] at h
       subst h
       simp only [Bool.and_eq_true,Bool.not_eq_true',List.contains_eq_mem,decide_eq_false_iff_not] at hf
       obtain ⟨h2,h3⟩:=exs_look r (j + 1) wr' hw
       refine ⟨fun i o hi lk0=>?_,fun k hk lk0=>?_⟩
       · cases i with
         | zero =>
           simp only [List.getElem?_cons_zero,Option.some.injEq] at hi
           subst hi
           refine ⟨hf.1,hf.2,?_⟩
           simp only [updLk,Nat.add_zero]
           rw [h3 _ (fun i _=>by unfold xKey;omega)]
           simp [updLk1]
         | succ i =>
           obtain ⟨g1,g2,g3⟩:=h2 i o (by simpa using hi) (updLk1 lk0 (xKey d j) (nextS lk (xKey d j)) (o0.mapV (fromG ks lk d m)))
           rw [show j + (i + 1) = j + 1 + i by omega]
           exact ⟨g1,g2,g3⟩
       · simp only [updLk]
         rw [h3 k (fun i hi=>by have:=hk (i + 1) (by simp only [List.length_cons];omega);rw [show j + 1 + i = j + (i + 1) by omega];exact this)]
         have:=hk 0 (by simp)
         simp [updLk1]
         intro e;exact absurd e (by simpa using this)
   · simp at h
theorem lkX_get {outs:List (Nat×Obj)} {exs:List Obj} (hl:outs.length < 100000) {k s:Nat} {o:Obj} (h:lkX outs exs k = some (s,o)) :
   (∃ j,k = eB + j∧s = 0∧exs[j]? = some o) ∨ ∃ i,k = gB + i∧i < 100000∧outs[i]? = some (s,o):=by
 unfold lkX at h
 split at h
 · rename_i hk
   simp only [Option.map_eq_some_iff,Prod.mk.injEq] at h
   obtain ⟨o',h1,h2,rfl⟩:=h
   exact .inl ⟨k - eB,by omega,h2.symm,h1⟩
 · split at h
   · rename_i hk
     refine .inr ⟨k - gB,by omega,?_,h⟩
     have:=(List.getElem?_eq_some_iff.1 h).1
     omega
   · simp at h
theorem lkX_out {outs:List (Nat×Obj)} {exs:List Obj} {i:Nat} (hi:i < 100000):lkX outs exs (gB + i) = outs[i]?:=by
 unfold lkX
 rw [if_neg (by unfold eB gB;omega),if_pos (by omega),show gB + i - gB = i by omega]
theorem lkX_ex {outs:List (Nat×Obj)} {exs:List Obj} (j:Nat):lkX outs exs (eB + j) = (exs[j]?).map fun o=>(0,o):=by
 unfold lkX
 rw [if_pos (by omega),show eB + j - eB = j by omega]
def posB (ks:List Nat) (pos pos2:Nat→Value) (d m:Nat):Nat→Value:=fun k =>
 if xKey d 0 ≤ k∧k < xKey d m then pos2 (eB + (k - xKey d 0)) else match idxK k ks 1 with | some i=>pos2 (gB + i) | none=>pos k
theorem idxK_none:∀ (ks:List Nat) (k i:Nat),k ∉ ks→idxK k ks i = none
 | [],_,_,_=>rfl
 | k' :: r,k,i,h=>by
   simp only [List.mem_cons,not_or] at h
   simp only [idxK]
   have:Nat.beq k' k = false:=by
     cases hb:Nat.beq k' k with
     | false=>rfl
     | true=>exact absurd (Nat.eq_of_beq_eq_true hb).symm h.1
   rw [this]
   exact idxK_none r k (i + 1) h.2
theorem idxK_some:∀ (ks:List Nat) (k i:Nat),k ∈ ks→∃ j,idxK k ks i = some j
 | [],_,_,h=>by simp at h
 | k' :: r,k,i,h=>by
   simp only [idxK]
   cases hb:Nat.beq k' k with
   | true=>exact ⟨i,rfl⟩
   | false =>
     rcases List.mem_cons.1 h with rfl | h
     · simp at hb
     · exact idxK_some r k (i + 1) h
theorem idxK_at {ks:List Nat} (hnd:ks.Nodup) {k i:Nat} (h:ks[i]? = some k):idxK k ks 1 = some (i + 1):=by
 obtain ⟨j,hj⟩:=idxK_some ks k 1 (List.mem_of_getElem? h)
 obtain ⟨h1,h2⟩:=idxK_get ks k 1 j hj
 have:=nodup_at hnd h h2
 rw [hj];congr 1;omega
section
variable {ks:List Nat} {d:Nat} {outs:List (Nat×Obj)} {exs:List Obj} {wa wb:List (Nat×Nat×Obj)} {g0:Nat×Obj}
theorem look_back (hnd:ks.Nodup) (ha:backOuts ks lk d exs.length ks outs = some wa) (hb:backExs ks lk d exs.length 0 exs = some wb) (k:Nat) :
   (∃ j o,k = xKey d j∧exs[j]? = some o∧k ∉ ks∧(o.mapV (fromG ks lk d exs.length)).fitOk = true∧updLk (wa ++ wb) lk k = some (nextS lk k,o.mapV (fromG ks lk d exs.length))∧∀ pos pos2,posB ks pos pos2 d exs.length k = pos2 (eB + j)) ∨
   (∃ i s o q,ks[i]? = some k∧lk k = some (s,o)∧outs[i]? = some q∧(q.2.mapV (fromG ks lk d exs.length)).fitOk = true∧updLk (wa ++ wb) lk k = some (s + q.1,q.2.mapV (fromG ks lk d exs.length))∧∀ pos pos2,posB ks pos pos2 d exs.length k = pos2 (gB + (i + 1))) ∨
   (k ∉ ks∧updLk (wa ++ wb) lk k = lk k∧∀ pos pos2,posB ks pos pos2 d exs.length k = pos k):=by
 obtain ⟨h1,h2,h3⟩:=outs_look ks outs wa ha hnd
 obtain ⟨h4,h5⟩:=exs_look exs 0 wb hb
 simp only [updLk_append]
 by_cases hx:xKey d 0 ≤ k∧k < xKey d exs.length
 · left
   obtain ⟨j,hj,rfl⟩:∃ j,j < exs.length∧k = xKey d j:=⟨k - xKey d 0,by unfold xKey at hx ⊢;omega,by unfold xKey at hx ⊢;omega⟩
   obtain ⟨g1,g2,g3⟩:=h4 j exs[j] (by simp [hj]) (updLk wa lk)
   simp only [Nat.zero_add] at g2 g3
   refine ⟨j,exs[j],rfl,by simp [hj],g2,g1,g3,fun pos pos2=>?_⟩
   unfold posB
   rw [if_pos hx,show xKey d j - xKey d 0 = j by unfold xKey;omega]
 · right
   have hout:∀ lk0,updLk wb lk0 k = lk0 k:=fun lk0=>h5 k (fun i hi=>by unfold xKey at hx ⊢;omega) lk0
   rw [hout]
   by_cases hk:k ∈ ks
   · left
     obtain ⟨i,hi⟩:=List.mem_iff_getElem?.1 hk
     obtain ⟨s,o,q,g1,g2,g3,g4⟩:=h2 i k hi lk
     refine ⟨i,s,o,q,hi,g1,g2,g3,g4,fun pos pos2=>?_⟩
     unfold posB
     rw [if_neg hx,idxK_at hnd hi]
   · right
     refine ⟨hk,h3 k hk lk,fun pos pos2=>?_⟩
     unfold posB
     rw [if_neg hx,idxK_none ks k 1 hk]
theorem from_map {cx2:Cx} {Fz':Nat→Prop} {w':World} {pos2:Nat→Value} (hnd:ks.Nodup) (ha:backOuts ks lk d exs.length ks outs = some wa) (hb:backExs ks lk d exs.length 0 exs = some wb) (hl:(g0 :: outs).length < 100000)
   (hP:cx.P = cx2.P) (hG:cx.G = cx2.G) (hcv:cx2.gh.cv = fun _=>none) (hsv:∀ i v,cx2.sav i = some v→cx.sav i = some v) :
   AtomMap (cx2.e Fz' w' (lkX (g0 :: outs) exs) pos2) (cx.e Fz' w' (updLk (wa ++ wb) lk) (posB ks pos pos2 d exs.length)) (fromG ks lk d exs.length):=by
 have key:∀ k s o,lkX (g0 :: outs) exs k = some (s,o)→keyBack ks lk d exs.length k = none ∨ ∃ q o',keyBack ks lk d exs.length k = some q∧updLk (wa ++ wb) lk q.1 = some (q.2 + s,o')∧o.alike o'∧posB ks pos pos2 d exs.length q.1 = pos2 k:=by
   intro k s o h
   rcases lkX_get hl h with ⟨j,rfl,rfl,hj⟩ | ⟨i,rfl,hi,ho⟩
   · right
     have e1:keyBack ks lk d exs.length (eB + j) = some (xKey d j,nextS lk (xKey d j)):=by
       unfold keyBack keyBackN
       have:Nat.ble eB (eB + j) = true:=by simp
       have hj2:Nat.blt j exs.length = true:=by have:=(List.getElem?_eq_some_iff.1 hj).1;simpa using this
       rw [this,show eB + j - eB = j by omega,hj2];rfl
     refine ⟨_,o.mapV (fromG ks lk d exs.length),e1,?_,by cases o <;> simp [Obj.alike,Obj.mapV],?_⟩
     · obtain ⟨h4,h5⟩:=exs_look exs 0 wb hb
       obtain ⟨g1,g2,g3⟩:=h4 j o hj (updLk wa lk)
       simp only [Nat.zero_add] at g3
       rw [updLk_append];simpa using g3
     · have hjl:=(List.getElem?_eq_some_iff.1 hj).1
       unfold posB
       rw [if_pos (by unfold xKey;constructor <;> omega),show xKey d j - xKey d 0 = j by unfold xKey;omega]
   · cases i with
     | zero =>
       left
       unfold keyBack keyBackN
       have h1:Nat.ble eB (gB + 0) = false:=by unfold eB gB;rfl
       have h2:Nat.blt gB (gB + 0) = false:=by unfold gB;rfl
       rw [h1,h2];rfl
     | succ i =>
       right
       simp only [List.getElem?_cons_succ] at ho
       obtain ⟨h1,h2,h3⟩:=outs_look ks outs wa ha hnd
       have hi2:i < ks.length:=by have:=(List.getElem?_eq_some_iff.1 ho).1;omega
       have hki:ks[i]? = some ks[i]:=by simp [hi2]
       obtain ⟨s1,o1,q,g1,g2,g3,g4⟩:=h2 i ks[i] hki lk
       rw [ho] at g2
       simp only [Option.some.injEq] at g2
       subst g2
       have e1:keyBack ks lk d exs.length (gB + (i + 1)) = some (ks[i],s1):=by
         unfold keyBack keyBackN
         have h1:Nat.ble eB (gB + (i + 1)) = false:=by
           cases hb:Nat.ble eB (gB + (i + 1)) with
           | false=>rfl
           | true=>have:=Nat.le_of_ble_eq_true hb;unfold eB gB at this;omega
         have h2:Nat.blt gB (gB + (i + 1)) = true:=by simp
         rw [h1,h2,show gB + (i + 1) - gB - 1 = i by omega]
         simp only [cond_false,cond_true,hki,g1]
       rcases look_back hnd ha hb ks[i] with ⟨j,o2,_,_,f1,_⟩ | ⟨i2,s2,o2,q2,f1,f2,f3,f4,f5,f6⟩ | ⟨f1,_⟩
       · exact absurd (List.mem_of_getElem? hki) f1
       · have:=nodup_at hnd hki f1
         subst this
         rw [g1] at f2
         simp only [Option.some.injEq,Prod.mk.injEq] at f2
         obtain ⟨rfl,rfl⟩:=f2
         rw [ho] at f3
         simp only [Option.some.injEq] at f3
         subst f3
         exact ⟨_,_,e1,f5,by cases o <;> simp [Obj.alike,Obj.mapV],f6 pos pos2⟩
       · exact absurd (List.mem_of_getElem? hki) f1
 refine ⟨Fut.refl _ _,fun k s p u hu=>?_,fun e k s u hu=>?_,fun k s u hu=>?_,fun e k s p u hu=>?_,hP,hG,fun i u hu=>(by have h:cx2.gh.cv i = some u:=hu.2;rw [hcv] at h;cases h),hsv⟩
 · obtain ⟨s',o,h1⟩:=ref_lk hu
   simp only [fromG]
   rcases key k s' o h1 with h | ⟨q,o',h2,h3,h4,h5⟩
   · rw [h];exact ⟨rfl,trivial⟩
   · rw [h2];exact ⟨rfl,shift_ref hu h1 h3 (Ext.mk h4 h5)⟩
 · obtain ⟨s',o,h1⟩:=sl_lk hu
   simp only [fromG]
   rcases key k s' o h1 with h | ⟨q,o',h2,h3,h4,h5⟩
   · rw [h];exact ⟨rfl,trivial⟩
   · rw [h2];exact ⟨rfl,shift_sl hu h1 h3 (Ext.mk h4 h5)⟩
 · obtain ⟨s',o,h1⟩:=mp_lk hu
   simp only [fromG]
   rcases key k s' o h1 with h | ⟨q,o',h2,h3,h4,h5⟩
   · rw [h];exact ⟨rfl,trivial⟩
   · rw [h2];exact ⟨rfl,shift_mp hu h1 h3 (Ext.mk h4 h5)⟩
 · obtain ⟨s',o,h1⟩:=row_lk hu
   simp only [fromG]
   rcases key k s' o h1 with h | ⟨q,o',h2,h3,h4,h5⟩
   · rw [h];exact ⟨rfl,trivial⟩
   · rw [h2];exact ⟨rfl,shift_row hu h1 h3 (Ext.mk h4 h5)⟩
end
theorem A_G {A:E} {v:V} {u:Value} (h:RepA A v u):RepG A v u:=by cases v <;> first | exact h | exact h.elim
theorem A_Gs {A:E}:∀ (vs:List V) (us:List Value),Pt (RepA A) vs us→Pt (RepG A) vs us:=fun vs us h=>Pt.mono (fun _ _ h=>A_G h) vs us h
theorem T_G {A:E} {v:V} {u:Value} (hn:v.isTup = false) (h:RepT A v u):RepG A v u:=by cases v <;> first | exact h | simp [V.isTup] at hn
theorem T_Gs {A:E}:∀ (vs:List V) (us:List Value),noTups vs = true→Pt (RepT A) vs us→Pt (RepG A) vs us
 | [],_,_,h=>h
 | v :: vs,us,hn,⟨u,r,he,h1,h2⟩=>by
   simp only [noTups,Bool.and_eq_true,Bool.not_eq_true'] at hn
   exact ⟨u,r,he,T_G hn.1 h1,T_Gs vs r hn.2 h2⟩
theorem noTups_left:∀ (vs us:List V),noTups (vs ++ us) = true→noTups vs = true
 | [],_,_=>rfl
 | v :: vs,us,h=>by
   simp only [List.cons_append,noTups,Bool.and_eq_true] at h ⊢
   exact ⟨h.1,noTups_left vs us h.2⟩
theorem mapG_reps {A B:E} {f:V→V} (m:AtomMap A B f) (vs:List V) (us:List Value) (h:Pt (RepG A) vs us):Pt (RepG B) (vs.map (V.mapG f)) us:=Pt.map (V.mapG f) (fun _ _ h=>mapG_rep m h) vs us h
theorem RelIn.back (r:RelIn cx tm lk a w Fz pos U) {ks:List Nat} (hnd:ks.Nodup) {os:List Obj} (hos:objsOf lk ks = some os) (hno:noGh os = true) {d:Nat} {outs:List (Nat×Obj)} {exs:List Obj} {wa wb:List (Nat×Nat×Obj)} {g0:Nat×Obj} {o0:Obj}
   (ha:backOuts ks lk d exs.length ks outs = some wa) (hb:backExs ks lk d exs.length 0 exs = some wb) {Fz':Nat→Prop} {w':World} {pos2:Nat→Value} {U2:Nat→Prop}
   (h2:Held (cx.hand w Fz (WrG ks pos)) (lkX (g0 :: outs) exs) w' Fz' pos2 U2) (hl:(g0 :: outs).length < 100000)
   (hal:∀ (i:Nat) s o o',(g0 :: outs)[i]? = some (s,o')→(o0 :: os.map (Obj.mapV (toG ks lk)))[i]? = some o→s = 0→Ext o (posG ks pos (gB + i)) o' (pos2 (gB + i))) :
   RelIn cx tm (updLk (wa ++ wb) lk) a w' Fz' (posB ks pos pos2 d exs.length) U∧AtomMap ((cx.hand w Fz (WrG ks pos)).e Fz' w' (lkX (g0 :: outs) exs) pos2) (cx.e Fz' w' (updLk (wa ++ wb) lk) (posB ks pos pos2 d exs.length)) (fromG ks lk d exs.length):=by
 obtain ⟨hlen,hget⟩:=objsOf_get ks os hos
 have m:=from_map (cx:=cx) (cx2:=cx.hand w Fz (WrG ks pos)) (Fz':=Fz') (w':=w') (pos2:=pos2) (pos:=pos) (g0:=g0) hnd ha hb hl rfl rfl rfl (fun _ _ h=>h)
 refine ⟨?_,m⟩
 have hWr:∀ b,WrG ks pos b→∃ k s o,k ∈ ks∧lk k = some (s,o)∧VB (pos k) b:=by
   rintro b ⟨k,hk,hb⟩
   obtain ⟨i,hi⟩:=List.mem_iff_getElem?.1 hk
   obtain ⟨s,o,g1,_⟩:=hget i k hi
   exact ⟨k,s,o,hk,g1,hb⟩
 have hs2:StepW (WrG ks pos) Fz w Fz' w':=h2.step
 have hWFz:∀ b,WrG ks pos b→¬ Fz b:=fun b h=>by obtain ⟨k,s,o,_,h1,h3⟩:=hWr b h;exact (r.own k s o b h1 h3).1
 have hfut:Fut Fz w Fz' w':=hs2.fut r.step.lt hWFz
 have hUn:∀ b,U b→¬ WrG ks pos b:=fun b hu h=>by obtain ⟨k,s,o,_,h1,h3⟩:=hWr b h;exact (r.ugh b hu).2.2.2 k s o h1 h3
 have h0n:∀ b,b < cx.w0.heap.size→¬ cx.Wr b→¬ WrG ks pos b:=fun b hb hw h=>by
   obtain ⟨k,s,o,_,h1,h3⟩:=hWr b h
   rcases (r.own k s o b h1 h3).2 with h | h
   · omega
   · exact hw h
 have hnear:Near cx.w0 cx.Wr U Fz w Fz' w':=by
   refine ⟨hs2.os,hs2.tape,hs2.output,hs2.size,fun b hb=>?_,fun b hb=>?_,hfut,hs2.lt⟩
   · rcases hb with hb | ⟨h1,h3⟩
     · exact hs2.block b (r.ugh b hb).1 (hUn b hb)
     · exact hs2.block b (Nat.lt_of_lt_of_le h1 r.step.size) (h0n b h1 h3)
   · rcases hb with hb | ⟨h1,h3⟩
     · exact hs2.fz b (r.ugh b hb).1 (hUn b hb)
     · exact hs2.fz b (Nat.lt_of_lt_of_le h1 r.step.size) (h0n b h1 h3)
 -- what other objects have is as it was
 have hother:∀ k s o b,k ∉ ks→lk k = some (s,o)→VB (pos k) b→b < w.heap.size∧¬ WrG ks pos b:=fun k s o b hk h hb=>by
   refine ⟨(r.objs k s o h).lt hb,fun hw=>?_⟩
   obtain ⟨k1,s1,o1,g1,g2,g3⟩:=hWr b hw
   exact hk (by rw [r.inj k s o k1 s1 o1 b h g2 hb g3];exact g1)
 have hlook:=fun k=>look_back (lk:=lk) hnd ha hb k
 have hout:∀ (i:Nat) q,outs[i]? = some q→lkX (g0 :: outs) exs (gB + (i + 1)) = some q:=fun i q h=>by
   have hi:i + 1 < 100000:=by have:=(List.getElem?_eq_some_iff.1 h).1;simp only [List.length_cons] at hl;omega
   rw [lkX_out hi];simpa using h
 have hex:∀ (j:Nat) o,exs[j]? = some o→lkX (g0 :: outs) exs (eB + j) = some (0,o):=fun j o h=>by rw [lkX_ex,h];rfl
 have hle:Le (cx.e Fz w lk pos) (cx.e Fz' w' (updLk (wa ++ wb) lk) (posB ks pos pos2 d exs.length)):=by
   refine ⟨rfl,rfl,fun _ _ h=>h,fun _ _ h=>h,hfut,fun k s o h=>?_⟩
   have h:lk k = some (s,o):=h
   rcases hlook k with ⟨j,o2,f1,f2,f3,f4,f5,f6⟩ | ⟨i,s2,o2,q,f1,f2,f3,f4,f5,f6⟩ | ⟨f1,f2,f3⟩
   · refine ⟨_,_,f5,?_,fun e=>?_⟩
     · have:=nextS_lt (k:=k) (lk:=lk) h;omega
     · have:=nextS_lt (k:=k) (lk:=lk) h;omega
   · rw [h] at f2
     simp only [Option.some.injEq,Prod.mk.injEq] at f2
     obtain ⟨rfl,rfl⟩:=f2
     refine ⟨_,_,f5,by omega,fun e=>?_⟩
     obtain ⟨s3,o3,g1,g2⟩:=hget i k f1
     rw [h] at g1
     simp only [Option.some.injEq,Prod.mk.injEq] at g1
     obtain ⟨rfl,rfl⟩:=g1
     have g3:=hal (i + 1) q.1 (o.mapV (toG ks lk)) q.2 (by simpa using f3) (by simp [g2]) (by omega)
     have g4:posG ks pos (gB + (i + 1)) = pos k:=by
       unfold posG
       rw [if_pos (by omega),show gB + (i + 1) - gB - 1 = i by omega,f1]
     rw [g4,← f6 pos pos2] at g3
     exact (Ext.mk (mapV_alike o) rfl).trans (g3.trans (Ext.mk (mapV_alike q.2) rfl))
   · exact ⟨s,o,f2.trans h,Nat.le_refl _,fun _=>Ext.mk (Obj.alike_refl _) (f3 _ _)⟩
 -- where each object comes from
 have cls:∀ k s o,updLk (wa ++ wb) lk k = some (s,o)→(∃ k2 s2 o2,((∃ j,k = xKey d j∧k2 = eB + j) ∨ ∃ i,ks[i]? = some k∧k2 = gB + (i + 1)∧i < 99999)∧lkX (g0 :: outs) exs k2 = some (s2,o2)∧o = o2.mapV (fromG ks lk d exs.length) ∧
     (o2.mapV (fromG ks lk d exs.length)).fitOk = true∧posB ks pos pos2 d exs.length k = pos2 k2) ∨ (k ∉ ks∧lk k = some (s,o)∧posB ks pos pos2 d exs.length k = pos k):=by
   intro k s o h
   rcases hlook k with ⟨j,o2,f1,f2,f3,f4,f5,f6⟩ | ⟨i,s2,o2,q,f1,f2,f3,f4,f5,f6⟩ | ⟨f1,f2,f3⟩
   · rw [h] at f5
     simp only [Option.some.injEq,Prod.mk.injEq] at f5
     exact .inl ⟨_,_,o2,.inl ⟨j,f1,rfl⟩,hex j o2 f2,f5.2,f4,f6 _ _⟩
   · rw [h] at f5
     simp only [Option.some.injEq,Prod.mk.injEq] at f5
     exact .inl ⟨_,q.1,q.2,.inr ⟨i,f1,rfl,by have:=(List.getElem?_eq_some_iff.1 f3).1;simp only [List.length_cons] at hl;omega⟩,hout i q f3,f5.2,f4,f6 _ _⟩
   · exact .inr ⟨f1,f2.symm.trans h,f3 _ _⟩
 have hblk:∀ k2 s2 o2 b,lkX (g0 :: outs) exs k2 = some (s2,o2)→VB (pos2 k2) b→¬ Fz' b∧(w.heap.size ≤ b ∨ WrG ks pos b):=fun k2 s2 o2 b h hb=>h2.own k2 s2 o2 b h hb
 have hfar:∀ k2 s2 o2 k s o b,lkX (g0 :: outs) exs k2 = some (s2,o2)→VB (pos2 k2) b→k ∉ ks→lk k = some (s,o)→¬ VB (pos k) b:=by
   intro k2 s2 o2 k s o b h1 h3 hk h4 h5
   obtain ⟨g1,g2⟩:=hother k s o b hk h4 h5
   rcases (hblk k2 s2 o2 b h1 h3).2 with h | h
   · omega
   · exact g2 h
 refine ⟨⟨fun k s o h=>?_,fun k s o b h hb'=>?_,fun k s o k' s' o' b h h' hb1 hb2=>?_,?_,r.inv0,r.wr0,fun k s t run x h=>?_,fun k o q h hq=>?_,fun b hu=>?_⟩,r.size,fun dd hd=>?_,r.dnd,fun t=>RepT.mono hle _ _ (r.tmps t)⟩
 · rcases cls k s o h with ⟨k2,s2,o2,_,f1,rfl,f2,f3⟩ | ⟨f1,f2,f3⟩
   · rw [f3]
     exact mapO_rep m f2 (fun _ _=>rfl) (h2.objs k2 s2 o2 f1)
   · rw [f3]
     refine RepO.mono hle _ _ (fun b hb'=>?_) (r.objs k s o f2)
     obtain ⟨g1,g2⟩:=hother k s o b f1 f2 hb'
     exact hs2.block b g1 g2
 · rcases cls k s o h with ⟨k2,s2,o2,_,f1,rfl,f2,f3⟩ | ⟨f1,f2,f3⟩
   · rw [f3] at hb'
     obtain ⟨g1,g2⟩:=hblk k2 s2 o2 b f1 hb'
     refine ⟨g1,?_⟩
     rcases g2 with g2 | g2
     · exact .inl (Nat.le_trans r.step.size g2)
     · obtain ⟨k1,s1,o1,_,e1,e2⟩:=hWr b g2
       exact (r.own k1 s1 o1 b e1 e2).2
   · rw [f3] at hb'
     obtain ⟨g1,g2⟩:=hother k s o b f1 f2 hb'
     exact ⟨fun hf=>(r.own k s o b f2 hb').1 ((hs2.fz b g1 g2).1 hf),(r.own k s o b f2 hb').2⟩
 · rcases cls k s o h with ⟨k2,s2,o2,f0,f1,rfl,f2,f3⟩ | ⟨f1,f2,f3⟩
   · rw [f3] at hb1
     rcases cls k' s' o' h' with ⟨k3,s3,o3,g0',g1,rfl,g2,g3⟩ | ⟨g1,g2,g3⟩
     · rw [g3] at hb2
       have:=h2.inj k2 s2 o2 k3 s3 o3 b f1 g1 hb1 hb2
       subst this
       rcases f0 with ⟨j,rfl,rfl⟩ | ⟨i,hi,rfl,hi2⟩
       · rcases g0' with ⟨j',rfl,e⟩ | ⟨i',hi',e,hi2'⟩
         · rw [show j' = j by omega]
         · unfold eB gB at e;omega
       · rcases g0' with ⟨j',rfl,e⟩ | ⟨i',hi',e,hi2'⟩
         · unfold eB gB at e;omega
         · have:i' = i:=by omega
           subst this
           rw [hi] at hi';exact Option.some.inj hi'
     · rw [g3] at hb2
       exact absurd hb2 (hfar k2 s2 o2 k' s' o' b f1 hb1 g1 g2)
   · rw [f3] at hb1
     rcases cls k' s' o' h' with ⟨k3,s3,o3,g0',g1,rfl,g2,g3⟩ | ⟨g1,g2,g3⟩
     · rw [g3] at hb2
       exact absurd hb1 (hfar k3 s3 o3 k s o b g1 hb2 f1 f2)
     · rw [g3] at hb2
       exact r.inj k s o k' s' o' b f2 g2 hb1 hb2
 · exact ⟨hnear.os.trans r.step.os,hnear.tape.trans r.step.tape,hnear.output.trans r.step.output,Nat.le_trans r.step.size hnear.size,fun b hb' hw=>(hnear.same b (.inr ⟨hb',hw⟩)).trans (r.step.block b hb' hw),
     fun b hb' hw=>(hnear.fz b (.inr ⟨hb',hw⟩)).trans (r.step.fz b hb' hw),hnear.lt⟩
 · rcases cls k s _ h with ⟨k2,s2,o2,_,f1,f2,_,_⟩ | ⟨f1,f2,f3⟩
   · exfalso
     cases o2 <;> simp only [Obj.mapV,reduceCtorEq] at f2
     obtain ⟨_,J,cv,g1,g2⟩:=h2.gh k2 s2 _ _ _ f1
     have g1:ghNone (fun _=>none) = _:=g1
     unfold ghNone at g1
     cases g1
     exact g2
   · obtain ⟨g1,J,cv,g2,g3⟩:=r.gh k s t run x f2
     refine ⟨g1,J,cv,g2,?_⟩
     have hf:=cx.frame
     rw [g2] at hf
     exact hf x U Fz w Fz' w' g3 hnear
 · have hold:∀ s1 o1,lk k = some (s1,o1)→∃ s2 o2,updLk (wa ++ wb) lk k = some (s2,o2)∧s1 ≤ s2∧(s1 = s2→Ext o1 (pos k) o2 (posB ks pos pos2 d exs.length k)):=fun s1 o1 h1=>hle.lk k s1 o1 h1
   cases hlk:lk k with
   | none =>
     exfalso
     rcases hlook k with ⟨j,o2,f1,f2,f3,f4,f5,f6⟩ | ⟨i,s2,o2,q2,f1,f2,f3,f4,f5,f6⟩ | ⟨f1,f2,f3⟩
     · rw [h] at f5
       simp only [Option.some.injEq,Prod.mk.injEq] at f5
       have:=nextS_pos (lk:=lk) (k:=k)
       omega
     · rw [hlk] at f2;cases f2
     · rw [f2,hlk] at h;cases h
   | some q1 =>
     obtain ⟨s1,o1⟩:=q1
     obtain ⟨s2,o2,e1,e2,e3⟩:=hold s1 o1 hlk
     rw [h] at e1
     simp only [Option.some.injEq,Prod.mk.injEq] at e1
     obtain ⟨rfl,rfl⟩:=e1
     obtain rfl:s1 = 0:=by omega
     exact (r.orig k o1 q hlk hq).trans (e3 rfl)
 · obtain ⟨g1,g2,g3,g4⟩:=r.ugh b hu
   refine ⟨Nat.lt_of_lt_of_le g1 hnear.size,fun hf=>g2 ((hnear.fz b (.inl hu)).1 hf),g3,fun k s o h hb'=>?_⟩
   rcases cls k s o h with ⟨k2,s2,o2,_,f1,rfl,f2,f3⟩ | ⟨f1,f2,f3⟩
   · rw [f3] at hb'
     rcases (hblk k2 s2 o2 b f1 hb').2 with h | h
     · omega
     · exact hUn b hu h
   · rw [f3] at hb'
     exact g4 k s o f2 hb'
 · obtain ⟨D,e1,e2,e3,e4,e5⟩:=r.defers dd hd
   have hnW:¬ WrG ks pos D:=fun hw=>by
     obtain ⟨k1,s1,o1,_,g1,g2⟩:=hWr D hw
     exact (r.objs k1 s1 o1 g1).noMark g2 _ e2
   have hD:=(Array.getElem?_eq_some_iff.1 e2).1
   exact ⟨D,e1,(hs2.block D hD hnW).trans e2,e3,e4,fun hf=>e5 ((hs2.fz D hD hnW).1 hf)⟩
theorem RelIn.told (r:RelIn cx tm lk a w Fz pos U) {s:Nat} {t:Ty} {run:Cbs t} {x x':t.T} (hlk:lk gB = some (s,.gh t run x)) {J:t.T→(Nat→Prop)→(Nat→Prop)→World→Prop} {cv:Nat→Option Value}
   (hgh:cx.gh = ⟨t,run,J,cv⟩) {Fz' U':Nat→Prop} {w':World} (hJ:J x' U' Fz' w') (hs:StepW U Fz w Fz' w') (hU:∀ b,U' b→b < w'.heap.size∧¬ Fz' b∧(U b ∨ w.heap.size ≤ b)) :
   RelIn cx tm (updLk1 lk gB s (.gh t run x')) a w' Fz' pos U':=by
 have hUF:∀ b,U b→¬ Fz b:=fun b h=>(r.ugh b h).2.1
 have hfut:Fut Fz w Fz' w':=hs.fut r.step.lt hUF
 have hlook:∀ k,k ≠ gB→updLk1 lk gB s (.gh t run x') k = lk k:=fun k hk=>by simp [updLk1,hk]
 have hat:updLk1 lk gB s (.gh t run x') gB = some (s,.gh t run x'):=by simp [updLk1]
 have hp0:NB (pos gB):=r.objs gB s _ hlk
 have hle:Le (cx.e Fz w lk pos) (cx.e Fz' w' (updLk1 lk gB s (.gh t run x')) pos):=by
   refine ⟨rfl,rfl,fun _ _ h=>h,fun _ _ h=>h,hfut,fun k s1 o h=>?_⟩
   by_cases hk:k = gB
   · subst hk
     have h:lk gB = some (s1,o):=h
     rw [hlk] at h
     simp only [Option.some.injEq,Prod.mk.injEq] at h
     obtain ⟨rfl,rfl⟩:=h
     exact ⟨s,_,hat,Nat.le_refl _,fun _=>⟨trivial,rfl⟩⟩
   · exact ⟨s1,o,(hlook k hk).trans h,Nat.le_refl _,fun _=>Ext.mk (Obj.alike_refl _) rfl⟩
 have hob:∀ k s1 o b,lk k = some (s1,o)→VB (pos k) b→b < w.heap.size∧¬ U b:=fun k s1 o b h hb=>⟨(r.objs k s1 o h).lt hb,fun hu=>(r.ugh b hu).2.2.2 k s1 o h hb⟩
 have hsame:∀ k s1 o,updLk1 lk gB s (.gh t run x') k = some (s1,o)→(k = gB∧s1 = s∧o = .gh t run x') ∨ (k ≠ gB∧lk k = some (s1,o)):=by
   intro k s1 o h
   by_cases hk:k = gB
   · subst hk
     rw [hat] at h
     simp only [Option.some.injEq,Prod.mk.injEq] at h
     exact .inl ⟨rfl,h.1.symm,h.2.symm⟩
   · exact .inr ⟨hk,(hlook k hk).symm.trans h⟩
 have h0U:∀ b,b < cx.w0.heap.size→¬ cx.Wr b→¬ U b:=fun b hb hw hu=>(r.ugh b hu).2.2.1.elim (fun h=>by omega) hw
 refine ⟨⟨fun k s1 o h=>?_,fun k s1 o b h hb=>?_,fun k s1 o k' s1' o' b h h' hb hb'=>?_,⟨hs.os.trans r.step.os,hs.tape.trans r.step.tape,hs.output.trans r.step.output,Nat.le_trans r.step.size hs.size,fun b hb hw=>?_,fun b hb hw=>?_,hs.lt⟩,r.inv0,r.wr0,fun k s1 t1 run1 x1 h=>?_,fun k o q h hq=>?_,fun b hb=>?_⟩,r.size,fun d hd=>?_,r.dnd,fun t=>RepT.mono hle _ _ (r.tmps t)⟩
 · rcases hsame k s1 o h with ⟨rfl,rfl,rfl⟩ | ⟨hk,h1⟩
   · exact hp0
   · exact RepO.mono hle _ _ (fun b hb=>hs.block b (hob k s1 o b h1 hb).1 (hob k s1 o b h1 hb).2) (r.objs k s1 o h1)
 · rcases hsame k s1 o h with ⟨rfl,rfl,rfl⟩ | ⟨hk,h1⟩
   · exact absurd hb (hp0 _)
   · obtain ⟨g1,g2⟩:=hob k s1 o b h1 hb
     exact ⟨fun hf=>(r.own k s1 o b h1 hb).1 ((hs.fz b g1 g2).1 hf),(r.own k s1 o b h1 hb).2⟩
 · rcases hsame k s1 o h with ⟨rfl,rfl,rfl⟩ | ⟨hk,h1⟩
   · exact absurd hb (hp0 _)
   · rcases hsame k' s1' o' h' with ⟨rfl,rfl,rfl⟩ | ⟨hk',h1'⟩
     · exact absurd hb' (hp0 _)
     · exact r.inj k s1 o k' s1' o' b h1 h1' hb hb'
 · exact (hs.block b (Nat.lt_of_lt_of_le hb r.step.size) (h0U b hb hw)).trans (r.step.block b hb hw)
 · exact (hs.fz b (Nat.lt_of_lt_of_le hb r.step.size) (h0U b hb hw)).trans (r.step.fz b hb hw)
 · rcases hsame k s1 _ h with ⟨rfl,rfl,h2⟩ | ⟨hk,h1⟩
   · cases h2
     exact ⟨rfl,J,cv,hgh,hJ⟩
   · exact absurd (r.gh k s1 t1 run1 x1 h1).1 hk
 · rcases hsame k 0 o h with ⟨rfl,h1,rfl⟩ | ⟨hk,h1⟩
   · exact (r.orig gB (.gh t run x) q (by rw [h1];exact hlk) hq).trans (Ext.mk trivial rfl)
   · exact r.orig k o q h1 hq
 · obtain ⟨h1,h2,h3⟩:=hU b hb
   refine ⟨h1,h2,?_,fun k s1 o h hb'=>?_⟩
   · rcases h3 with h3 | h3
     · exact (r.ugh b h3).2.2.1
     · exact .inl (Nat.le_trans r.step.size h3)
   · rcases hsame k s1 o h with ⟨rfl,rfl,rfl⟩ | ⟨hk,h1⟩
     · exact absurd hb' (hp0 _)
     · obtain ⟨g1,g2⟩:=hob k s1 o b h1 hb'
       rcases h3 with h3 | h3
       · exact g2 h3
       · omega
 · obtain ⟨D,e1,e2,e3,e4,e5⟩:=r.defers d hd
   have hD:=(Array.getElem?_eq_some_iff.1 e2).1
   refine ⟨D,e1,(hs.block D hD e4).trans e2,e3,fun hu=>?_,fun hf=>e5 ((hs.fz D hD e4).1 hf)⟩
   rcases (hU D hu).2.2 with h | h
   · exact e4 h
   · omega
theorem pures_G {A B:E} (hP:B.P = A.P) (hG:B.G = A.G) (hf:Fut A.Fz A.w B.Fz B.w) (vs:List V) (us:List Value) (hp:puresOk vs = true) (h:Pt (RepT A) vs us):Pt (RepG B) vs us:=pures_rep hP hG hf vs us hp h
theorem ok_callX {o:Oper} {f:Operand} {args:Array Operand} {Ts:Array TypeId} {d:Nat} (ho:o.op = .call ⟨.value f,args,Ts⟩) (hΓ:CfgOk P Γ) (hP:cx.P = P) (r:RelIn cx tm lk a w Fz pos U) (hg:cx.G = Γ.glob) {e:Eff}
   (he:evCallX Γ lk d (Γ.val tm f) (nilArgs Γ Ts.toList (args.toList.map (Γ.val tm))) some = some e):Ok P cx tm lk o a w e:=by
 have hf:=val_rep r hg f
 have hargs:=nilArgs_rep (Γ:=Γ) Ts.toList _ _ (vals_rep r hg args.toList)
 unfold evCallX at he
 generalize Γ.val tm f = vf at he hf
 generalize nilArgs Γ Ts.toList (args.toList.map (Γ.val tm)) = va at he hargs
 have hinv:Inv Γ.glob Fz w:=by have:=r.inv;rwa [hg] at this
 cases vf <;> (try simp only at he) <;> try (simp at he;done)
 case fn g caps =>
   obtain ⟨us,hv,hpt⟩:=hf
   split at he
   · rename_i ks hks
     split at he
     · rename_i os hos
       cases hc:(noTups (va.map (V.toClo Γ) ++ caps) && fitAll (os.map (Obj.mapV (toG ks lk))) && noGh os) with
       | false=>rw [hc] at he;simp at he
       | true =>
         rw [hc] at he
         simp only [cond_true] at he
         simp only [Bool.and_eq_true] at hc
         obtain ⟨⟨hnt,hfit⟩,hno⟩:=hc
         rw [hΓ.natX] at he
         cases hcall:Γ.callX g ((va.map (V.toClo Γ) ++ caps).map (V.mapG (toG ks lk))) (.gone :: os.map (Obj.mapV (toG ks lk))) (fun a b c=>some (a,b,c)) with
         | none=>rw [hcall] at he;simp at he
         | some q =>
           rw [hcall] at he
           obtain ⟨rv,outs,exs⟩:=q
           simp only [Option.bind_some] at he
           split at he
           · rename_i e' hback
             simp only [Option.some.injEq] at he
             subst he
             have hnd:=reachK_nodup _ _ _ _ hks (by simp)
             unfold backX at hback
             split at hback
             · rename_i g0 outs
               split at hback
               · rename_i wa wb ha hb
                 simp only [Option.some.injEq] at hback
                 subst hback
                 obtain ⟨hlen,hget⟩:=objsOf_get ks os hos
                 have hWFz:∀ b,WrG ks pos b→¬ Fz b:=by
                   rintro b ⟨k,hk,hb⟩
                   obtain ⟨i,hi⟩:=List.mem_iff_getElem?.1 hk
                   obtain ⟨s,o,g1,_⟩:=hget i k hi
                   exact (r.own k s o b g1 hb).1
                 have hheld:=held_hand r.toHeld hnd hos hfit hno (Wr:=WrG ks pos) (fun _ h=>h) hWFz
                 have mt:=toG_map r.toHeld hnd hos .gone (cx.hand w Fz (WrG ks pos)) rfl rfl (fun _ _ h=>h)
                 have hvs:Pt (RepG (cx.e Fz w lk pos)) (va.map (V.toClo Γ) ++ caps) (args.toList.map a.eval ++ us) :=
                   Pt.append _ _ _ _ (T_Gs _ _ (noTups_left _ _ hnt) (toClos_rep hΓ hP hg _ _ hargs)) (A_Gs _ _ hpt)
                 have hfn:=hΓ.okX _ _ _ _ hcall (cx.hand w Fz (WrG ks pos)) (posG ks pos) (fun _=>False) (args.toList.map a.eval ++ us) hP hg hheld (mapG_reps mt _ _ hvs)
                 have hrun:=run_enter (w:=w) ho hv (hΓ.bodyX _ _ _ _ hcall)
                 rw [show (args.toList.map a.eval).toArray ++ us.toArray = (args.toList.map a.eval ++ us).toArray by simp] at hrun
                 refine .inr (.inr (.inl ⟨_,_,_,hrun,Calls.mono hfn fun e w' hq=>?_⟩))
                 obtain ⟨v,Fz',pos2,U2,rfl,h2,hrv,hlen2,hl,hal⟩:=hq
                 obtain ⟨r2,m2⟩:=r.back (d:=d) hnd hos hno ha hb h2 (by rw [hlen2];exact hl) hal
                 exact ⟨v,rfl,Fz',_,U,r2.value o.dst (mapT_rep m2 hrv)⟩
               · simp at hback
             · simp at hback
           · simp at he
     · simp at he
   · simp at he
 case cb i =>
   split at he
   · rename_i s t run x hlk
     cases hp:puresOk va with
     | false=>rw [hp] at he;simp at he
     | true =>
       rw [hp] at he
       simp only [cond_true] at he
       rw [Cbs.call_at] at he
       split at he
       · rename_i q hrun
         obtain ⟨x',y⟩:=q
         simp only at he
         cases hs:y.scalar with
         | false=>rw [hs] at he;simp at he
         | true =>
           rw [hs] at he
           simp only [cond_true,Option.some.injEq] at he
           subst he
           obtain ⟨_,J,cv,hgh,hJ⟩:=r.gh gB s t run x hlk
           have hcb:=cx.cbok
           rw [hgh] at hcb
           obtain ⟨fv,h1,h2,h3⟩:=hcb i x va x' y hrun hp hs U Fz w (args.toList.map a.eval) hJ (fun b hb=>⟨(r.ugh b hb).1,(r.ugh b hb).2.1⟩) r.inv
             (pures_G (A:=cx.e Fz w lk pos) (B:=E0 cx.P cx.G Fz w) rfl rfl (Fut.refl _ _) _ _ hp hargs)
           obtain ⟨_,hv⟩:=hf
           have hv:cx.gh.cv i = some (a.eval f):=hv
           rw [hgh] at hv
           have hv:cv i = some (a.eval f):=hv
           have h1:cv i = some fv:=h1
           rw [h1] at hv
           simp only [Option.some.injEq] at hv
           have fin:∀ (e:Ending) (w':World),(∃ v Fz' U',e = .returned v∧RepT (E0 cx.P cx.G Fz' w') y v∧J x' U' Fz' w'∧StepW U Fz w Fz' w'∧∀ b,U' b→b < w'.heap.size∧¬ Fz' b∧(U b ∨ w.heap.size ≤ b)) →
               ∃ v,e = .returned v∧∃ Fz' pos' U',RelIn cx (updTm tm cx.nt o.dst y) (updLk [(gB,s,.gh t run x')] lk) (a.put o.dst v) w' Fz' pos' U':=by
             rintro e w' ⟨v,Fz',U',rfl,g1,g2,g3,g4⟩
             exact ⟨v,rfl,Fz',pos,U',(r.told hlk hgh g2 g3 g4).value o.dst (scalar_rep hs g1)⟩
           unfold CallV at h3
           split at h3
           · rename_i f' fs caps _
             obtain ⟨h4,h5,h6⟩:=h3
             rw [h4] at hv
             have hb:HasBody P f':=by rw [← hP];exact h5
             refine .inr (.inr (.inl ⟨_,_,_,run_enter (w:=w) ho hv.symm hb,Calls.mono (by rw [← hP];exact h6) fin⟩))
           · rename_i l fs caps _
             obtain ⟨h4,fn,tmps,assign,body,h5,h6⟩:=h3
             rw [h4] at hv
             refine .inr (.inr (.inr ⟨l,fn,tmps,assign,body,?_,RoundIn.mono (by rw [← hP];exact h6) fin⟩))
             have h5:(Instr.yield l (args.toList.map a.eval).toArray).run P w = .ok (.round l fn tmps assign body) w:=by rw [← hP];exact h5
             unfold execOp
             simp [ho,resolve,← hv,Deferred.ofValue,invoke]
             rw [show Array.map a.eval args = (args.toList.map a.eval).toArray by apply Array.ext';simp]
             exact h5
           · exact h3.elim
       · simp at he
   · simp at he
theorem callX_rel (hΓ:CfgOk P Γ) (hP:cx.P = P) (r:RelIn cx tm lk a w Fz pos U) (hg:cx.G = Γ.glob) {g:FuncId} {caps va:List V} {us ua:List Value} {d:Nat} (hpt:Pt (RepA (cx.e Fz w lk pos)) caps us) (hva:Pt (RepT (cx.e Fz w lk pos)) va ua) {e:Eff}
   (he:evCallX Γ lk d (.fn g caps) va some = some e):HasBody P g∧Calls P g (ua ++ us).toArray w fun en w'=>∃ v Fz' pos',en = .returned v∧RelIn cx tm (updLk e.wr lk) a w' Fz' pos' U∧RepT (cx.e Fz' w' (updLk e.wr lk) pos') e.val v:=by
 unfold evCallX at he
 simp only at he
 split at he
 · rename_i ks hks
   split at he
   · rename_i os hos
     cases hc:(noTups (va.map (V.toClo Γ) ++ caps) && fitAll (os.map (Obj.mapV (toG ks lk))) && noGh os) with
     | false=>rw [hc] at he;simp at he
     | true =>
       rw [hc] at he
       simp only [cond_true] at he
       simp only [Bool.and_eq_true] at hc
       obtain ⟨⟨hnt,hfit⟩,hno⟩:=hc
       rw [hΓ.natX] at he
       cases hcall:Γ.callX g ((va.map (V.toClo Γ) ++ caps).map (V.mapG (toG ks lk))) (.gone :: os.map (Obj.mapV (toG ks lk))) (fun a b c=>some (a,b,c)) with
       | none=>rw [hcall] at he;simp at he
       | some q =>
         rw [hcall] at he
         obtain ⟨rv,outs,exs⟩:=q
         simp only [Option.bind_some] at he
         split at he
         · rename_i e' hback
           simp only [Option.some.injEq] at he
           subst he
           have hnd:=reachK_nodup _ _ _ _ hks (by simp)
           unfold backX at hback
           split at hback
           · rename_i g0 outs
             split at hback
             · rename_i wa wb ha hb
               simp only [Option.some.injEq] at hback
               subst hback
               obtain ⟨hlen,hget⟩:=objsOf_get ks os hos
               have hWFz:∀ b,WrG ks pos b→¬ Fz b:=by
                 rintro b ⟨k,hk,hb⟩
                 obtain ⟨i,hi⟩:=List.mem_iff_getElem?.1 hk
                 obtain ⟨s,o,g1,_⟩:=hget i k hi
                 exact (r.own k s o b g1 hb).1
               have hheld:=held_hand r.toHeld hnd hos hfit hno (Wr:=WrG ks pos) (fun _ h=>h) hWFz
               have mt:=toG_map r.toHeld hnd hos .gone (cx.hand w Fz (WrG ks pos)) rfl rfl (fun _ _ h=>h)
               have hvs:Pt (RepG (cx.e Fz w lk pos)) (va.map (V.toClo Γ) ++ caps) (ua ++ us) :=
                 Pt.append _ _ _ _ (T_Gs _ _ (noTups_left _ _ hnt) (toClos_rep hΓ hP hg _ _ hva)) (A_Gs _ _ hpt)
               have hfn:=hΓ.okX _ _ _ _ hcall (cx.hand w Fz (WrG ks pos)) (posG ks pos) (fun _=>False) (ua ++ us) hP hg hheld (mapG_reps mt _ _ hvs)
               refine ⟨hΓ.bodyX _ _ _ _ hcall,Calls.mono hfn fun en w' hq=>?_⟩
               obtain ⟨v,Fz',pos2,U2,rfl,h2,hrv,hlen2,hl,hal⟩:=hq
               obtain ⟨r2,m2⟩:=r.back (d:=d) hnd hos hno ha hb h2 (by rw [hlen2];exact hl) hal
               exact ⟨v,Fz',_,rfl,r2,mapT_rep m2 hrv⟩
             · simp at hback
           · simp at hback
         · simp at he
   · simp at he
 · simp at he
end Go.Pv
