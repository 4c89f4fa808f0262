/- The purifying layer, part 24: freezing, forgetting, results. -/
import Derived.Test.YtlebcefahlienaaPvW
import Derived.Scope
set_option linter.unusedVariables false
set_option linter.unusedSimpArgs false
namespace Go.Pv
variable {P:Program} {Γ:Cfg} {C:Type} {cx:Cx} {tm:Tm} {lk:Lk} {a:Act} {w:World} {Fz:Nat→Prop} {pos:Nat→Value} {U:Nat→Prop}
theorem look_map (p:Nat→Bool) (g:Nat×Obj→Nat×Obj):∀ (l:List (Nat×Nat×Obj)) (x:Nat),lookObj ((l.filter fun q=>p q.1).map fun q=>(q.1,g q.2)) x = if p x then (lookObj l x).map g else none
 | [],x=>by simp [lookObj]
 | (k,s,o) :: r,x=>by
   simp only [List.filter_cons]
   by_cases hp:p k = true
   · rw [if_pos hp]
     simp only [List.map_cons,lookObj,look_map p g r x]
     by_cases hk:k = x
     · subst hk;simp [hp]
     · simp [hk]
   · rw [if_neg hp]
     rw [look_map p g r x]
     by_cases hk:k = x
     · subst hk;simp [hp]
     · simp [lookObj,hk]
theorem objsOk_look:∀ (l:List (Nat×Nat×Obj)),objsOk l = true→∀ k s o,lookObj l k = some (s,o)→o.fitOk = true
 | [],_,k,s,o,h=>by simp [lookObj] at h
 | (k',s',o') :: r,hok,k,s,o,h=>by
   simp only [objsOk,Bool.and_eq_true] at hok
   simp only [lookObj] at h
   split at h
   · simp only [Option.some.injEq,Prod.mk.injEq] at h
     obtain ⟨rfl,rfl⟩:=h
     exact hok.1
   · exact objsOk_look r hok.2 k s o h
theorem RelIn.remap (r:RelIn cx tm lk a w Fz pos U) {f:V→V} {Fz':Nat→Prop} {tm':Tm} {lk':Lk} (ht:∀ t,tm' t = (tm t).mapT f ∨ tm' t = .junk)
   (hl:∀ k s o,lk' k = some (s,o)→∃ s0 o0,lk k = some (s0,o0)∧o = o0.mapV f∧o.fitOk = true∧(isG k = true→s = 0→s0 = 0)) (m:AtomMap (cx.e Fz w lk pos) (cx.e Fz' w lk' pos) f)
   (hown:∀ k s o b,lk' k = some (s,o)→VB (pos k) b→¬ Fz' b) (hn:Near cx.w0 cx.Wr U Fz w Fz' w) (hD:∀ d ∈ a.defers,∀ D,w.heap[D]? = some (.deferred (some []))→¬ Fz D→¬ Fz' D):RelIn cx tm' lk' a w Fz' pos U:=by
 refine ⟨⟨fun k s o h=>?_,fun k s o b h hb=>?_,fun k s o k' s' o' b h h' hb hb'=>?_,⟨r.step.os,r.step.tape,r.step.output,r.step.size,r.step.block,fun b hb hw=>(hn.fz b (.inr ⟨hb,hw⟩)).trans (r.step.fz b hb hw),hn.lt⟩,r.inv0,r.wr0,fun k s t run x h=>?_,fun k o q h hq=>?_,fun b hb=>?_⟩,r.size,fun d hd=>let ⟨D,e1,e2,e3,e4,e5⟩:=r.defers d hd;⟨D,e1,e2,e3,e4,hD d hd D e2 e5⟩,r.dnd,fun t=>?_⟩
 · obtain ⟨s0,o0,h1,rfl,h2,_⟩:=hl k s o h
   exact mapO_rep m h2 (fun _ _=>rfl) (r.objs k s0 o0 h1)
 · obtain ⟨s0,o0,h1,_,_⟩:=hl k s o h
   exact ⟨hown k s o b h hb,(r.own k s0 o0 b h1 hb).2⟩
 · obtain ⟨s0,o0,h1,_,_⟩:=hl k s o h
   obtain ⟨s1,o1,h2,_,_⟩:=hl k' s' o' h'
   exact r.inj k s0 o0 k' s1 o1 b h1 h2 hb hb'
 · obtain ⟨s0,o0,h1,h2,_⟩:=hl k s _ h
   cases o0 <;> simp only [Obj.mapV,reduceCtorEq] at h2
   cases h2
   obtain ⟨g1,J,cv,g2,g3⟩:=r.gh k s0 t run x h1
   refine ⟨g1,J,cv,g2,?_⟩
   have hf:=cx.frame
   rw [g2] at hf
   exact hf x U Fz w Fz' w g3 hn
 · obtain ⟨s0,o0,h1,rfl,_,h2⟩:=hl k 0 o h
   obtain rfl:s0 = 0:=h2 (cx.ogG k q hq) rfl
   exact (r.orig k o0 q h1 hq).trans (Ext.mk (mapV_alike o0) rfl)
 · obtain ⟨h1,h2,h3,h4⟩:=r.ugh b hb
   refine ⟨h1,fun h=>h2 ((hn.fz b (.inl hb)).1 h),h3,fun k s o h=>?_⟩
   obtain ⟨s0,o0,g1,_,_⟩:=hl k s o h
   exact h4 k s0 o0 g1
 · rcases ht t with h | h
   · rw [h];exact mapT_rep m (r.tmps t)
   · rw [h];trivial
theorem kept_ref {Fz':Nat→Prop} {lk':Lk} {f:V→V} {k s s2:Nat} {p:List Nat} {o:Obj} {u:Value} (h:RepA (cx.e Fz w lk pos) (.ref k s p) u) (hk:lk k = some (s,o)) (hk':lk' k = some (s2,o.mapV f)) :
   RepA (cx.e Fz' w lk' pos) (.ref k s2 p) u:=by
 obtain ⟨h1,s',o',hlk,hle,hv⟩:=h
 have hlk:lk k = some (s',o'):=hlk
 rw [hk] at hlk
 simp only [Option.some.injEq,Prod.mk.injEq] at hlk
 obtain ⟨rfl,rfl⟩:=hlk
 exact ⟨h1,s2,o.mapV f,hk',Nat.le_refl _,fun _=>(hv rfl).ext (Ext.mk (mapV_alike o) rfl)⟩
theorem kept_row {Fz':Nat→Prop} {lk':Lk} {f:V→V} {e:Ty} {k s s2 p:Nat} {o:Obj} {u:Value} (h:RepA (cx.e Fz w lk pos) (.row e k s p) u) (hk:lk k = some (s,o)) (hk':lk' k = some (s2,o.mapV f)) :
   RepA (cx.e Fz' w lk' pos) (.row e k s2 p) u:=by
 obtain ⟨h1,s',o',hlk,hle,hv⟩:=h
 have hlk:lk k = some (s',o'):=hlk
 rw [hk] at hlk
 simp only [Option.some.injEq,Prod.mk.injEq] at hlk
 obtain ⟨rfl,rfl⟩:=hlk
 exact ⟨h1,s2,o.mapV f,hk',Nat.le_refl _,fun _=>(hv rfl).ext (Ext.mk (mapV_alike o) rfl)⟩
theorem kept_sl {Fz':Nat→Prop} {lk':Lk} {f:V→V} {k s s2:Nat} {e:Ty} {o:Obj} {u:Value} (h:RepA (cx.e Fz w lk pos) (.sl e k s) u) (hk:lk k = some (s,o)) (hk':lk' k = some (s2,o.mapV f)) :
   RepA (cx.e Fz' w lk' pos) (.sl e k s2) u:=by
 obtain ⟨h1,s',o',hlk,hle,hv⟩:=h
 have hlk:lk k = some (s',o'):=hlk
 rw [hk] at hlk
 simp only [Option.some.injEq,Prod.mk.injEq] at hlk
 obtain ⟨rfl,rfl⟩:=hlk
 exact ⟨h1,s2,o.mapV f,hk',Nat.le_refl _,fun _=>⟨Obj.alike_isVec (mapV_alike o) (hv rfl).1,(hv rfl).2⟩⟩
theorem kept_mp {Fz':Nat→Prop} {lk':Lk} {f:V→V} {k s s2:Nat} {o:Obj} {u:Value} (h:RepA (cx.e Fz w lk pos) (.mp k s) u) (hk:lk k = some (s,o)) (hk':lk' k = some (s2,o.mapV f)) :
   RepA (cx.e Fz' w lk' pos) (.mp k s2) u:=by
 obtain ⟨h1,s',o',hlk,hle,hv⟩:=h
 have hlk:lk k = some (s',o'):=hlk
 rw [hk] at hlk
 simp only [Option.some.injEq,Prod.mk.injEq] at hlk
 obtain ⟨rfl,rfl⟩:=hlk
 exact ⟨h1,s2,o.mapV f,hk',Nat.le_refl _,fun _=>⟨((Ext.mk (v:=pos k) (mapV_alike o) rfl).isMp (hv rfl).1).1,(hv rfl).2⟩⟩
theorem stale_ref {Fz':Nat→Prop} {lk':Lk} {f:V→V} {k s s1:Nat} {p:List Nat} {o:Obj} {u:Value} (h:RepA (cx.e Fz w lk pos) (.ref k s p) u) (hk:lk k = some (s1,o)) (hk':lk' k = some (s1,o.mapV f)) :
   RepA (cx.e Fz' w lk' pos) (.ref k s p) u:=by
 by_cases he:s = s1
 · subst he;exact kept_ref h hk hk'
 · obtain ⟨h1,s',o',hlk,hle,hv⟩:=h
   have hlk:lk k = some (s',o'):=hlk
   rw [hk] at hlk
   simp only [Option.some.injEq,Prod.mk.injEq] at hlk
   obtain ⟨rfl,rfl⟩:=hlk
   exact ⟨h1,s1,o.mapV f,hk',hle,fun e=>absurd e he⟩
theorem stale_sl {Fz':Nat→Prop} {lk':Lk} {f:V→V} {k s s1:Nat} {e:Ty} {o:Obj} {u:Value} (h:RepA (cx.e Fz w lk pos) (.sl e k s) u) (hk:lk k = some (s1,o)) (hk':lk' k = some (s1,o.mapV f)) :
   RepA (cx.e Fz' w lk' pos) (.sl e k s) u:=by
 by_cases he:s = s1
 · subst he;exact kept_sl h hk hk'
 · obtain ⟨h1,s',o',hlk,hle,hv⟩:=h
   have hlk:lk k = some (s',o'):=hlk
   rw [hk] at hlk
   simp only [Option.some.injEq,Prod.mk.injEq] at hlk
   obtain ⟨rfl,rfl⟩:=hlk
   exact ⟨h1,s1,o.mapV f,hk',hle,fun e=>absurd e he⟩
theorem stale_row {Fz':Nat→Prop} {lk':Lk} {f:V→V} {e:Ty} {k s s1 p:Nat} {o:Obj} {u:Value} (h:RepA (cx.e Fz w lk pos) (.row e k s p) u) (hk:lk k = some (s1,o)) (hk':lk' k = some (s1,o.mapV f)) :
   RepA (cx.e Fz' w lk' pos) (.row e k s p) u:=by
 by_cases he:s = s1
 · subst he;exact kept_row h hk hk'
 · obtain ⟨h1,s',o',hlk,hle,hv⟩:=h
   have hlk:lk k = some (s',o'):=hlk
   rw [hk] at hlk
   simp only [Option.some.injEq,Prod.mk.injEq] at hlk
   obtain ⟨rfl,rfl⟩:=hlk
   exact ⟨h1,s1,o.mapV f,hk',hle,fun e=>absurd e he⟩
theorem stale_mp {Fz':Nat→Prop} {lk':Lk} {f:V→V} {k s s1:Nat} {o:Obj} {u:Value} (h:RepA (cx.e Fz w lk pos) (.mp k s) u) (hk:lk k = some (s1,o)) (hk':lk' k = some (s1,o.mapV f)) :
   RepA (cx.e Fz' w lk' pos) (.mp k s) u:=by
 by_cases he:s = s1
 · subst he;exact kept_mp h hk hk'
 · obtain ⟨h1,s',o',hlk,hle,hv⟩:=h
   have hlk:lk k = some (s',o'):=hlk
   rw [hk] at hlk
   simp only [Option.some.injEq,Prod.mk.injEq] at hlk
   obtain ⟨rfl,rfl⟩:=hlk
   exact ⟨h1,s1,o.mapV f,hk',hle,fun e=>absurd e he⟩
theorem map_tm (st:St) (f:V→V):∀ t,(st.tmps.mapV (V.mapT f)).get t = (st.tm t).mapT f:=fun t=>Tms.get_map _ rfl _ _
theorem frzWith_rep {st st':St} {key cur:Nat} {o:Obj} {f:V→V} (hlk:st.lk key = some (cur,o)) (h:frzWith key f st = some st') (r:RelIn cx st.tm st.lk a w Fz pos U)
   (hm:∀ lk',(∀ k s1 o1,k ≠ key→st.lk k = some (s1,o1)→lk' k = some (s1,o1.mapV f))→AtomMap (cx.e Fz w st.lk pos) (cx.e (fun b=>Fz b ∨ VB (pos key) b) w lk' pos) f):RelS cx st'.s2 a w∧st'.tmps.length = st.tmps.length∧st'.lk key = none:=by
 unfold frzWith at h
 cases hok:objsOk ((delObj key st.objs).map fun q=>(q.1,q.2.1,q.2.2.mapV f)) with
 | false=>rw [hok] at h;simp at h
 | true =>
   rw [hok] at h
   simp only [cond_true,Option.some.injEq] at h
   subst h
   have hlook:∀ x,lookObj ((delObj key st.objs).map fun q=>(q.1,q.2.1,q.2.2.mapV f)) x = if (x != key) = true then (st.lk x).map (fun q=>(q.1,q.2.mapV f)) else none:=by
     intro x
     exact look_map (fun k=>k != key) (fun q=>(q.1,q.2.mapV f)) st.objs x
   refine ⟨⟨fun b=>Fz b ∨ VB (pos key) b,pos,U,?_⟩,rfl,(hlook key).trans (by simp)⟩
   have hfut:Fut Fz w (fun b=>Fz b ∨ VB (pos key) b) w:=fun b hb=>⟨.inl hb,rfl⟩
   have hother:∀ k s1 o1,k ≠ key→st.lk k = some (s1,o1)→lookObj ((delObj key st.objs).map fun q=>(q.1,q.2.1,q.2.2.mapV f)) k = some (s1,o1.mapV f):=by
     intro k s1 o1 hk h1
     rw [hlook,if_pos (by simpa using hk),h1];rfl
   refine r.remap (f:=f) (fun t=>.inl (map_tm st _ t)) (fun k s o' hk=>?_) (hm _ hother) (fun k s o' b hk hb=>?_) ⟨rfl,rfl,rfl,Nat.le_refl _,fun _ _=>rfl,fun b hb=>?_,hfut,fun b hb=>?_⟩ (fun d hd D e2 e5 hf=>hf.elim e5 fun hv=>(r.objs key cur o hlk).noMark hv _ e2)
   · have hk:lookObj ((delObj key st.objs).map fun q=>(q.1,q.2.1,q.2.2.mapV f)) k = some (s,o'):=hk
     have hfit:=objsOk_look _ hok k s o' hk
     rw [hlook] at hk
     split at hk
     · simp only [Option.map_eq_some_iff] at hk
       obtain ⟨⟨s0,o0⟩,h1,h2⟩:=hk
       simp only [Prod.mk.injEq] at h2
       exact ⟨s0,o0,h1,h2.2.symm,hfit,fun _ hs=>by rw [h2.1];exact hs⟩
     · cases hk
   · have hk:lookObj ((delObj key st.objs).map fun q=>(q.1,q.2.1,q.2.2.mapV f)) k = some (s,o'):=hk
     rw [hlook] at hk
     split at hk
     · rename_i hne
       simp only [Option.map_eq_some_iff] at hk
       obtain ⟨⟨s0,o0⟩,h1,h2⟩:=hk
       rintro (hf | hf)
       · exact (r.own k s0 o0 b h1 hb).1 hf
       · have:=r.inj k s0 o0 key cur o b h1 hlk hb hf
         simp [this] at hne
     · cases hk
   · refine ⟨fun h=>h.resolve_right fun hv=>?_,.inl⟩
     rcases hb with hb | ⟨hb,hw⟩
     · exact (r.ugh b hb).2.2.2 key cur o hlk hv
     · rcases (r.own key cur o b hlk hv).2 with h | h
       · omega
       · exact hw h
   · rcases hb with hb | hb
     · exact r.step.lt b hb
     · exact (r.objs key cur o hlk).lt hb
theorem goneG_rep {st:St} {k:Nat} (hn:st.lk k = none) (r:RelS cx st.s2 a w):RelS cx (goneG k st).s2 a w∧(goneG k st).tmps.length = st.tmps.length:=by
 unfold goneG
 cases isG k with
 | false=>exact ⟨r,rfl⟩
 | true =>
   obtain ⟨Fz,pos,U,r⟩:=r
   have r:RelIn cx st.tm st.lk a w Fz pos U:=r
   refine ⟨⟨Fz,updPos pos k undef,U,?_⟩,rfl⟩
   have:=r.obj k 1000 .gone undef (fun s0 o0 h=>by rw [hn] at h;cases h) rfl rfl rfl (Nat.le_refl _) (fun _ _ _=>rfl) (fun b hb=>absurd hb (NB_undef b)) (fun _=>NB_undef) (h0:=by intro h;omega)
   show RelIn cx _ (lookObj (putObj k 1000 .gone st.objs)) a w Fz (updPos pos k undef) U
   rw [put_look];exact this
theorem gridAll_rep {Fz':Nat→Prop} {e:Ty} {rows:List (Option (List e.T))} {hs:Array Value} (hf:Fut Fz w Fz' w) (hrow:∀ i xs h,rows[i]? = some (some xs)→hs[i + 1]? = some h→RepVec Fz w e xs h) (hsz:hs.size = rows.length + 1) (hfz:∀ (p:Nat) g b,hs[p]? = some g→vblk g = some b→Fz' b) :
   ∀ (ids:List Nat) (xss:List (List e.T)),gridAll rows ids = some xss→∃ cells,All2 (RepC Fz' w (.lst e)) xss cells∧cells.length = ids.length∧xss.length = ids.length∧∀ (j:Nat) (u:Value),cells[j]? = some u→∃ i xs,ids[j]? = some i∧rows[i]? = some (some xs)∧hs[i + 1]? = some u
 | [],xss,h=>by
   simp only [gridAll,Option.some.injEq] at h
   subst h
   exact ⟨[],rfl,rfl,rfl,fun j u hu=>by simp at hu⟩
 | i :: ids,xss,h=>by
   simp only [gridAll] at h
   cases hr:rowOf rows i with
   | none=>rw [hr] at h;simp at h
   | some xs =>
     rw [hr] at h
     simp only [Option.bind_some] at h
     cases hg:gridAll rows ids with
     | none=>rw [hg] at h;simp at h
     | some l =>
       rw [hg] at h
       simp only [Option.bind_some,Option.some.injEq] at h
       subst h
       obtain ⟨cells,h1,h2,h3,h4⟩:=gridAll_rep hf hrow hsz hfz ids l hg
       have hri:=rowOf_some hr
       have hil:i < rows.length:=(List.getElem?_eq_some_iff.1 hri).1
       obtain ⟨u,hu⟩:∃ u,hs[i + 1]? = some u:=⟨hs[i + 1]'(by omega),by simp⟩
       refine ⟨u :: cells,⟨[u],cells,rfl,?_,h1⟩,by simp [h2],by simp [h3],fun j v hj=>?_⟩
       · rcases hrow i xs u hri hu with ⟨rfl,rfl⟩ | ⟨b,off,cap,c,T,rfl,hb,g1,g2,g3,cs,g4,g5⟩
         · exact ⟨none,0,0,[],rfl,rfl,Nat.le_refl _,rfl,.inl ⟨rfl,rfl⟩⟩
         · exact ⟨some ⟨b,off,none⟩,xs.length,cap,cs,rfl,rfl,g1,All2.mono (fun x cs hx=>hx.mono hf) _ _ g4,.inr ⟨b,off,c,T,(0,0),rfl,hfz _ _ b hu rfl,hb,g5⟩⟩
       · cases j with
         | zero =>
           simp only [List.getElem?_cons_zero,Option.some.injEq] at hj
           subst hj
           exact ⟨i,xs,rfl,hri,hu⟩
         | succ j=>exact h4 j v (by simpa using hj)
theorem grid_frozen (r:RelIn cx tm lk a w Fz pos U) {k s:Nat} {e:Ty} {ids:List Nat} {rows:List (Option (List e.T))} (hlk:lk k = some (s,.grid e (.ids ids) rows)) {xss:List (List e.T)} (hx:gridAll rows ids = some xss) {u:Value} (h:RepA (cx.e Fz w lk pos) (.row e k s 0) u) {lk':Lk} :
   RepA (cx.e (fun b=>Fz b ∨ VB (pos k) b) w lk' pos) (.dat (.lst (.lst e)) xss) u:=by
 obtain ⟨hs,hpos,G⟩:=grid_at r hlk
 have hu:=row_hdr (u:=u) hlk hpos h trivial
 have hf:Fut Fz w (fun b=>Fz b ∨ VB (pos k) b) w:=fun b hb=>⟨.inl hb,rfl⟩
 obtain ⟨cells,h1,h2,h3,h4⟩:=gridAll_rep hf G.row G.size (fun p g b g1 g2=>.inr (by rw [hpos];exact VB_hdr g1 g2)) ids xss hx
 rcases G.out u hu with ⟨rfl,hids⟩ | ⟨b,off,cap,c,T,hv,hb,g1,g2,g3,g4,g5⟩
 · subst hids
   simp only [gridAll,Option.some.injEq] at hx
   subst hx
   exact nil_lst _ _ _
 · refine ⟨[u],⟨some ⟨b,off,none⟩,ids.length,cap,cells,by rw [hv],h3,g1,h1,.inr ⟨b,off,c,T,(0,0),rfl,.inr (by rw [hpos];exact VB_hdr hu (by rw [hv];rfl)),hb,?_⟩⟩,rfl⟩
   have:cells = (c.toList.drop off).take ids.length:=by
     apply List.ext_getElem?
     intro j
     by_cases hj:j < ids.length
     · rw [List.getElem?_take,if_pos hj,List.getElem?_drop]
       have hc:cells[j]? = some (cells[j]'(by omega)):=by simp
       obtain ⟨i,xs,k1,k2,k3⟩:=h4 j _ hc
       rw [hc]
       have:=g5 j i xs _ k1 k2 k3
       simpa using this.symm
     · rw [List.getElem?_eq_none (by omega),List.getElem?_eq_none (by simp;omega)]
   rw [this]
   exact List.take_prefix _ _
theorem row_cell {Fz':Nat→Prop} {e:Ty} (hf:Fut Fz w Fz' w) {xs:List e.T} {u:Value} (h:RepVec Fz w e xs u) (hfz:∀ b,vblk u = some b→Fz' b):RepC Fz' w (.lst e) xs [u]:=by
 rcases h with ⟨rfl,rfl⟩ | ⟨b,off,cap,c,T,rfl,hb,g1,g2,g3,cs,g4,g5⟩
 · exact ⟨none,0,0,[],rfl,rfl,Nat.le_refl _,rfl,.inl ⟨rfl,rfl⟩⟩
 · exact ⟨some ⟨b,off,none⟩,xs.length,cap,cs,rfl,rfl,g1,All2.mono (fun x cs hx=>hx.mono hf) _ _ g4,.inr ⟨b,off,c,T,(0,0),rfl,hfz b rfl,hb,g5⟩⟩
theorem gridMap_rep {α:Type} {Fz':Nat→Prop} {e:Ty} {rows:List (Option (List e.T))} {hs:Array Value} (hf:Fut Fz w Fz' w) (hrow:∀ i xs h,rows[i]? = some (some xs)→hs[i + 1]? = some h→RepVec Fz w e xs h) (hsz:hs.size = rows.length + 1) (hfz:∀ (p:Nat) g b,hs[p]? = some g→vblk g = some b→Fz' b)
   {RK RK':α→Value→Prop} (hk:∀ x u,RK x u→RK' x u) :
   ∀ (n:Nat) (es:List (α×Nat)) (ys:List (α×List e.T)) (ents:List MapEntry),gridMap rows es = some ys→MapRep RK (fun i u=>u.oneCell' = true∧∀ (xs:List e.T) (h:Value),rows[i]? = some (some xs)→hs[i + 1]? = some h→u = h) n es ents →
     MapRep RK' (fun x u=>∃ cs,RepC Fz' w (.lst e) x cs∧u = pack (.lst e) cs) n ys ents
 | n,[],ys,ents,h,hm=>by
   simp only [gridMap,Option.some.injEq] at h
   subst h
   exact hm
 | n,q :: es,ys,ents,h,hm=>by
   simp only [gridMap] at h
   cases hr:rowOf rows q.2 with
   | none=>rw [hr] at h;simp at h
   | some xs =>
     rw [hr] at h
     simp only [Option.bind_some] at h
     cases hg:gridMap rows es with
     | none=>rw [hg] at h;simp at h
     | some l =>
       rw [hg] at h
       simp only [Option.bind_some,Option.some.injEq] at h
       subst h
       obtain ⟨e1,es1,he1,h1,h2,h3,h4⟩:=hm
       have hri:=rowOf_some hr
       have hil:q.2 < rows.length:=(List.getElem?_eq_some_iff.1 hri).1
       obtain ⟨u,hu⟩:∃ u,hs[q.2 + 1]? = some u:=⟨hs[q.2 + 1]'(by omega),by simp⟩
       have hv:=h2.2 xs u hri hu
       refine ⟨e1,es1,he1,hk _ _ h1,⟨[u],row_cell hf (hrow _ _ _ hri hu) (fun b hb=>hfz _ _ b hu hb),?_⟩,h3,gridMap_rep hf hrow hsz hfz hk (n + 1) es l es1 hg h4⟩
       rw [hv];rfl
theorem mgrid_frozen (r:RelIn cx tm lk a w Fz pos U) {k s:Nat} {e kt:Ty} {es:List (kt.T×Nat)} {rows:List (Option (List e.T))} (hlk:lk k = some (s,.grid e (.keys kt es) rows)) {ys:List (kt.T×List e.T)} (hx:gridMap rows es = some ys) {u:Value} (h:RepA (cx.e Fz w lk pos) (.row e k s 0) u) {lk':Lk} :
   RepA (cx.e (fun b=>Fz b ∨ VB (pos k) b) w lk' pos) (.dat (.map kt (.lst e)) ys) u:=by
 obtain ⟨hs,hpos,G⟩:=grid_at r hlk
 have hu:=row_hdr (u:=u) hlk hpos h trivial
 have hf:Fut Fz w (fun b=>Fz b ∨ VB (pos k) b) w:=fun b hb=>⟨.inl hb,rfl⟩
 obtain ⟨b,ents,clock,hv,hb,hcl,hm⟩:=G.out u hu
 have h2:=gridMap_rep hf G.row G.size (fun p g b g1 g2=>.inr (by rw [hpos];exact VB_hdr g1 g2)) (RK':=fun x u=>∃ cs,RepC (fun b=>Fz b ∨ VB (pos k) b) w kt x cs∧u = pack kt cs) (fun x u ⟨c,hc,hu⟩=>⟨c,hc.mono hf,hu⟩) 0 es ys _ hx hm
 exact ⟨[u],⟨some b,by rw [hv],.inr ⟨b,ents,clock,rfl,.inr (by rw [hpos];exact VB_hdr hu (by rw [hv];rfl)),hb,hcl,h2⟩⟩,rfl⟩
theorem frz1_rep (hΓ:CfgOk P Γ) (hP:cx.P = P) (hg:cx.G = Γ.glob) {st:St} {key:Nat} {K:St→Option C} {x:C} (h:frz1 Γ key st K = some x) (r:RelS cx st.s2 a w):∃ st',RelS cx st'.s2 a w∧st'.tmps.length = st.tmps.length∧K st' = some x:=by
 unfold frz1 at h
 split at h
 · rename_i cur e ids rows hlk
   cases hx:gridAll rows ids with
   | none=>rw [hx] at h;simp at h
   | some xss =>
     rw [hx] at h
     simp only [Option.bind_some] at h
     split at h
     · rename_i st' hst
       obtain ⟨Fz,pos,U,r⟩:=r
       have r:RelIn cx st.tm st.lk a w Fz pos U:=r
       refine Exists.intro (goneG key st') ((fun h=>⟨(goneG_rep h.2.2 h.1).1,(goneG_rep h.2.2 h.1).2.trans h.2.1,‹_›⟩) (frzWith_rep hlk hst r fun lk' hother=>?_))
       · have hfut:Fut Fz w (fun b=>Fz b ∨ VB (pos key) b) w:=fun b hb=>⟨.inl hb,rfl⟩
         refine ⟨hfut,fun k s p u hu=>?_,fun e2 k s u hu=>?_,fun k s u hu=>?_,fun e2 k s p u hu=>?_,rfl,rfl,fun _ _ h=>⟨rfl,h⟩,fun _ _ h=>h⟩
         · simp only [frzGAtom]
           split
           · exact ⟨rfl,trivial⟩
           · rename_i hk
             have hu2:=hu
             obtain ⟨_,s1,o1,g1,_⟩:=hu2
             exact ⟨rfl,stale_ref hu g1 (hother k s1 o1 hk g1)⟩
         · simp only [frzGAtom]
           split
           · exact ⟨rfl,trivial⟩
           · rename_i hk
             have hu2:=hu
             obtain ⟨_,s1,o1,g1,_⟩:=hu2
             exact ⟨rfl,stale_sl hu g1 (hother k s1 o1 hk g1)⟩
         · simp only [frzGAtom]
           split
           · exact ⟨rfl,trivial⟩
           · rename_i hk
             have hu2:=hu
             obtain ⟨_,s1,o1,g1,_⟩:=hu2
             exact ⟨rfl,stale_mp hu g1 (hother k s1 o1 hk g1)⟩
         · simp only [frzGAtom]
           split
           · rename_i hk
             subst hk
             split
             · rename_i hc
               obtain ⟨rfl,rfl⟩:=hc
               split
               · exact ⟨rfl,grid_frozen r hlk hx hu⟩
               · exact ⟨rfl,trivial⟩
             · exact ⟨rfl,trivial⟩
           · rename_i hk
             have hu2:=hu
             obtain ⟨_,s1,o1,g1,_⟩:=hu2
             exact ⟨rfl,stale_row hu g1 (hother k s1 o1 hk g1)⟩
     · simp at h
 · rename_i cur e kt es rows hlk
   cases hx:gridMap rows es with
   | none=>rw [hx] at h;simp at h
   | some xss =>
     rw [hx] at h
     simp only [Option.bind_some] at h
     split at h
     · rename_i st' hst
       obtain ⟨Fz,pos,U,r⟩:=r
       have r:RelIn cx st.tm st.lk a w Fz pos U:=r
       refine Exists.intro (goneG key st') ((fun h=>⟨(goneG_rep h.2.2 h.1).1,(goneG_rep h.2.2 h.1).2.trans h.2.1,‹_›⟩) (frzWith_rep hlk hst r fun lk' hother=>?_))
       · have hfut:Fut Fz w (fun b=>Fz b ∨ VB (pos key) b) w:=fun b hb=>⟨.inl hb,rfl⟩
         refine ⟨hfut,fun k s p u hu=>?_,fun e2 k s u hu=>?_,fun k s u hu=>?_,fun e2 k s p u hu=>?_,rfl,rfl,fun _ _ h=>⟨rfl,h⟩,fun _ _ h=>h⟩
         · simp only [frzGAtom]
           split
           · exact ⟨rfl,trivial⟩
           · rename_i hk
             have hu2:=hu
             obtain ⟨_,s1,o1,g1,_⟩:=hu2
             exact ⟨rfl,stale_ref hu g1 (hother k s1 o1 hk g1)⟩
         · simp only [frzGAtom]
           split
           · exact ⟨rfl,trivial⟩
           · rename_i hk
             have hu2:=hu
             obtain ⟨_,s1,o1,g1,_⟩:=hu2
             exact ⟨rfl,stale_sl hu g1 (hother k s1 o1 hk g1)⟩
         · simp only [frzGAtom]
           split
           · exact ⟨rfl,trivial⟩
           · rename_i hk
             have hu2:=hu
             obtain ⟨_,s1,o1,g1,_⟩:=hu2
             exact ⟨rfl,stale_mp hu g1 (hother k s1 o1 hk g1)⟩
         · simp only [frzGAtom]
           split
           · rename_i hk
             subst hk
             split
             · rename_i hc
               obtain ⟨rfl,rfl⟩:=hc
               split
               · exact ⟨rfl,mgrid_frozen r hlk hx hu⟩
               · exact ⟨rfl,trivial⟩
             · exact ⟨rfl,trivial⟩
           · rename_i hk
             have hu2:=hu
             obtain ⟨_,s1,o1,g1,_⟩:=hu2
             exact ⟨rfl,stale_row hu g1 (hother k s1 o1 hk g1)⟩
     · simp at h
 · rename_i cur o _ _ hlk
   split at h
   · rename_i st' hst
     obtain ⟨Fz,pos,U,r⟩:=r
     have r:RelIn cx st.tm st.lk a w Fz pos U:=r
     have hst:frzWith key (frzAtom Γ key cur o) st = some st':=by
       cases hok:o.frzOk Γ with
       | false=>rw [hok] at hst;simp at hst
       | true=>rw [hok] at hst;exact hst
     refine Exists.intro (goneG key st') ((fun h=>⟨(goneG_rep h.2.2 h.1).1,(goneG_rep h.2.2 h.1).2.trans h.2.1,‹_›⟩) (frzWith_rep hlk hst r fun lk' hother=>?_))
     · have hfut:Fut Fz w (fun b=>Fz b ∨ VB (pos key) b) w:=fun b hb=>⟨.inl hb,rfl⟩
       refine ⟨hfut,?_,?_,?_,?_,rfl,rfl,fun _ _ h=>⟨rfl,h⟩,fun _ _ h=>h⟩
       · intro k s p u hu
         simp only [frzAtom]
         split
         · rename_i hk
           subst hk
           split
           · rename_i hs
             subst hs
             split
             · rename_i c hg'
               split
               · rename_i hc
                 exact ⟨rfl,ref_frozen r hlk hu hg' (fun cs h=>toCloB_rep hΓ hP hg h) (fun t x e=>by subst e;rfl) hc hfut rfl rfl (fun b hb=>⟨.inr hb,rfl⟩)⟩
               · exact ⟨rfl,trivial⟩
             · exact ⟨rfl,trivial⟩
           · exact ⟨rfl,trivial⟩
         · rename_i hk
           refine ⟨rfl,?_⟩
           have hu2:=hu
           obtain ⟨_,s1,o1,h1,_⟩:=hu2
           exact stale_ref hu h1 (hother k s1 o1 hk h1)
       · intro e k s u hu
         simp only [frzAtom]
         split
         · rename_i hk
           subst hk
           split
           · rename_i hs
             subst hs
             split
             · rename_i e' xs
               split
               · rename_i he
                 subst he
                 exact ⟨rfl,sl_frozen r hlk hu hfut (fun b hb=>⟨.inr hb,rfl⟩)⟩
               · exact ⟨rfl,trivial⟩
             · exact ⟨rfl,trivial⟩
           · exact ⟨rfl,trivial⟩
         · rename_i hk
           refine ⟨rfl,?_⟩
           have hu2:=hu
           obtain ⟨_,s1,o1,h1,_⟩:=hu2
           exact stale_sl hu h1 (hother k s1 o1 hk h1)
       · intro k s u hu
         simp only [frzAtom]
         split
         · rename_i hk
           subst hk
           split
           · rename_i hs
             subst hs
             split
             · rename_i kt vt es
               exact ⟨rfl,mp_frozen r hlk hu hfut (fun b hb=>⟨.inr hb,rfl⟩)⟩
             · exact ⟨rfl,trivial⟩
           · exact ⟨rfl,trivial⟩
         · rename_i hk
           refine ⟨rfl,?_⟩
           have hu2:=hu
           obtain ⟨_,s1,o1,h1,_⟩:=hu2
           exact stale_mp hu h1 (hother k s1 o1 hk h1)
       · intro e k s p u hu
         simp only [frzAtom]
         split
         · exact ⟨rfl,trivial⟩
         · rename_i hk
           refine ⟨rfl,?_⟩
           have hu2:=hu
           obtain ⟨_,s1,o1,h1,_⟩:=hu2
           exact stale_row hu h1 (hother k s1 o1 hk h1)
   · simp at h
 · exact ⟨st,r,rfl,h⟩
theorem frz_rep (hΓ:CfgOk P Γ) (hP:cx.P = P) (hg:cx.G = Γ.glob):∀ (ks:List Nat) {st:St} {K:St→Option C} {x:C},frz Γ ks st K = some x→RelS cx st.s2 a w→∃ st',RelS cx st'.s2 a w∧st'.tmps.length = st.tmps.length∧K st' = some x
 | [],st,K,x,h,r=>⟨st,r,rfl,h⟩
 | k :: ks,st,K,x,h,r=>by
   simp only [frz] at h
   obtain ⟨st1,r1,l1,h⟩:=frz1_rep hΓ hP hg h r
   obtain ⟨st2,r2,l2,h⟩:=frz_rep hΓ hP hg ks h r1
   exact ⟨st2,r2,l2.trans l1,h⟩
theorem zip_at (g:Nat→V):∀ (ts:List Nat) (j:Nat),findT (ts.zip (ts.map g)) j = some (g j) ∨ findT (ts.zip (ts.map g)) j = none
 | [],j=>.inr rfl
 | t :: ts,j=>by
   simp only [List.map_cons,List.zip_cons_cons,findT]
   cases h:Nat.beq t j with
   | true=>rw [Nat.eq_of_beq_eq_true h];exact .inl rfl
   | false=>exact zip_at g ts j
theorem objsAt_look (g:Nat→Option Obj):∀ (ks:List Nat) (k:Nat),lookObj (objsAt ks (ks.map g)) k = if ks.contains k = true then (g k).map fun o=>(0,o) else none
 | [],k=>by simp [objsAt,lookObj]
 | k' :: ks,k=>by
   have ih:=objsAt_look g ks k
   simp only [List.map_cons]
   by_cases hk:k' = k
   · subst hk
     cases hg:g k' with
     | none =>
       simp only [objsAt,ih]
       simp [hg]
     | some o=>simp [objsAt,lookObj]
   · have hc:(k' :: ks).contains k = ks.contains k:=by
       simp only [List.contains_cons]
       have:(k == k') = false:=by simpa using fun h=>hk h.symm
       rw [this];simp
     rw [hc]
     cases hg:g k' with
     | none=>simp only [objsAt];exact ih
     | some o=>simp only [objsAt,lookObj,hk,if_false];exact ih
theorem lkN_some {lk:Lk} {k:Nat} {q:Nat×Obj} (h:lkN lk k = some q):lk k = some q∧(isG k = true→q.1 = 0):=by
 unfold lkN at h
 split at h
 · rename_i q' hq
   cases hc:(isG k && !Nat.beq q'.1 0) with
   | true=>rw [hc] at h;simp at h
   | false =>
     rw [hc] at h
     simp only [cond_false,Option.some.injEq] at h
     subst h
     refine ⟨hq,fun hg=>?_⟩
     rw [hg] at hc
     simp only [Bool.true_and,Bool.not_eq_false'] at hc
     exact Nat.eq_of_beq_eq_true hc
 · cases h
theorem norm_look {keepT keepK:List Nat} {st:St} (x:Nat):(norm keepT keepK st).lk x = if keepK.contains x = true then ((lkN st.lk x).map fun q=>q.2.mapV (renAtom keepK st.lk)).map (fun o=>(0,o)) else none:=by
 exact objsAt_look (fun k=>(lkN st.lk k).map fun q=>q.2.mapV (renAtom keepK st.lk)) keepK x
theorem norm_map {keepT keepK:List Nat} {st:St} (r:Held cx st.lk w Fz pos U):AtomMap (cx.e Fz w st.lk pos) (cx.e Fz w (norm keepT keepK st).lk pos) (renAtom keepK st.lk):=by
 have hkeep:∀ k s1 o1,keepK.contains k = true→lkN st.lk k = some (s1,o1)→(norm keepT keepK st).lk k = some (0,o1.mapV (renAtom keepK st.lk)):=by
   intro k s1 o1 hk h1
   rw [norm_look,if_pos hk,h1];rfl
 refine ⟨Fut.refl _ _,?_,?_,?_,?_,rfl,rfl,fun _ _ h=>⟨rfl,h⟩,fun _ _ h=>h⟩
 · intro k s p u hu
   simp only [renAtom]
   split
   · rename_i hk
     split
     · rename_i s1 o1 h1
       split
       · rename_i hs
         subst hs
         exact ⟨rfl,kept_ref hu (lkN_some h1).1 (hkeep k s o1 hk h1)⟩
       · exact ⟨rfl,trivial⟩
     · exact ⟨rfl,trivial⟩
   · exact ⟨rfl,trivial⟩
 · intro e k s u hu
   simp only [renAtom]
   split
   · rename_i hk
     split
     · rename_i s1 o1 h1
       split
       · rename_i hs
         subst hs
         exact ⟨rfl,kept_sl hu (lkN_some h1).1 (hkeep k s o1 hk h1)⟩
       · exact ⟨rfl,trivial⟩
     · exact ⟨rfl,trivial⟩
   · exact ⟨rfl,trivial⟩
 · intro k s u hu
   simp only [renAtom]
   split
   · rename_i hk
     split
     · rename_i s1 o1 h1
       split
       · rename_i hs
         subst hs
         exact ⟨rfl,kept_mp hu (lkN_some h1).1 (hkeep k s o1 hk h1)⟩
       · exact ⟨rfl,trivial⟩
     · exact ⟨rfl,trivial⟩
   · exact ⟨rfl,trivial⟩
 · intro e k s p u hu
   simp only [renAtom]
   split
   · rename_i hk
     split
     · rename_i s1 o1 h1
       split
       · rename_i hs
         subst hs
         exact ⟨rfl,kept_row hu (lkN_some h1).1 (hkeep k s o1 hk h1)⟩
       · exact ⟨rfl,trivial⟩
     · exact ⟨rfl,trivial⟩
   · exact ⟨rfl,trivial⟩
theorem norm_back {keepT keepK:List Nat} {st:St} {k s:Nat} {o':Obj} (hk:(norm keepT keepK st).lk k = some (s,o')):∃ s0 o0,st.lk k = some (s0,o0)∧o' = o0.mapV (renAtom keepK st.lk)∧(isG k = true→s0 = 0):=by
 rw [norm_look] at hk
 split at hk
 · simp only [Option.map_map,Option.map_eq_some_iff] at hk
   obtain ⟨⟨s0,o0⟩,h1,h2⟩:=hk
   simp only [Function.comp,Prod.mk.injEq] at h2
   exact ⟨s0,o0,(lkN_some h1).1,h2.2.symm,(lkN_some h1).2⟩
 · cases hk
theorem norm_in {keepT keepK:List Nat} {st:St} (hok:objsOk (norm keepT keepK st).objs = true) (r:RelIn cx st.tm st.lk a w Fz pos U):RelIn cx (norm keepT keepK st).tm (norm keepT keepK st).lk a w Fz pos U:=by
 refine r.remap (f:=renAtom keepK st.lk) (fun t=>?_) (fun k s o' hk=>?_) (norm_map r.toHeld) (fun k s o' b hk hb=>?_) ⟨rfl,rfl,rfl,Nat.le_refl _,fun _ _=>rfl,fun _ _=>Iff.rfl,Fut.refl _ _,r.step.lt⟩ (fun _ _ _ _ h=>h)
 · have:=zip_at (fun t=>(st.tm t).mapT (renAtom keepK st.lk)) keepT t
   rcases this with h | h
   · left
     show (match findT (keepT.zip (keepT.map fun t=>(st.tm t).mapT (renAtom keepK st.lk))) t with | some v=>v | none=>bif Nat.blt t st.tmps.length then V.junk else .junk) = _
     rw [h]
   · right
     show (match findT (keepT.zip (keepT.map fun t=>(st.tm t).mapT (renAtom keepK st.lk))) t with | some v=>v | none=>bif Nat.blt t st.tmps.length then V.junk else .junk) = _
     rw [h]
     cases Nat.blt t st.tmps.length <;> rfl
 · have hfit:=objsOk_look _ hok k s o' hk
   obtain ⟨s0,o0,h1,h2,h3⟩:=norm_back hk
   exact ⟨s0,o0,h1,h2,hfit,fun hg _=>h3 hg⟩
 · obtain ⟨s0,o0,h1,h2,_⟩:=norm_back hk
   exact (r.own k s0 o0 b h1 hb).1
theorem norm_rep {keepT keepK:List Nat} {st:St} (hok:objsOk (norm keepT keepK st).objs = true) (r:RelS cx st.s2 a w):RelS cx (norm keepT keepK st).s2 a w∧(norm keepT keepK st).tmps.length = st.tmps.length:=by
 obtain ⟨Fz,pos,U,r⟩:=r
 exact ⟨⟨Fz,pos,U,norm_in hok r⟩,rfl⟩
theorem codeAt_mono {root:Code}:∀ (k p:Nat) (c:Code),codeAt root k p = some c→codeAt root (k + 1) p = some c
 | 0,p,c,h=>by simp [codeAt] at h
 | k + 1,p,c,h=>by
   rw [codeAt] at h ⊢
   split at h
   · rename_i h1;rw [if_pos h1];exact h
   · rename_i h1
     rw [if_neg h1]
     cases hq:codeAt root k (p / 2) with
     | none=>rw [hq] at h;simp at h
     | some c'=>rw [codeAt_mono k (p / 2) c' hq];rw [hq] at h;exact h
theorem codeAt_le {root:Code} {k k' p:Nat} {c:Code} (h:codeAt root k p = some c) (hk:k ≤ k'):codeAt root k' p = some c:=by
 induction hk with
 | refl=>exact h
 | step _ ih=>exact codeAt_mono _ _ _ ih
theorem codeAt_fn {root:Code} {k k' p:Nat} {c c':Code} (h:codeAt root k p = some c) (h':codeAt root k' p = some c'):c = c':=by
 have h1:=codeAt_le h (Nat.le_max_left k k')
 have h2:=codeAt_le h' (Nat.le_max_right k k')
 rw [h1] at h2
 exact Option.some.inj h2
def AtP (root:Code) (p:Nat) (c:Code):Prop:=1 ≤ p∧∃ k,codeAt root k p = some c
theorem AtP.l {root:Code} {p:Nat} {c x:Code} (h:AtP root p c) (hc:(∃ y,c = .seq x y) ∨ (∃ o y,c = .cond o x y) ∨ (∃ id,c = .block id x) ∨ c = .loop x ∨ c = .scope x ∨ ∃ g ps y,c = .rangeFunc g ps x y):AtP root (2 * p) x:=by
 obtain ⟨h1,k,hk⟩:=h
 refine ⟨by omega,k + 1,?_⟩
 rw [codeAt,if_neg (by omega),show 2 * p / 2 = p by omega,hk]
 rcases hc with ⟨y,rfl⟩ | ⟨o,y,rfl⟩ | ⟨id,rfl⟩ | rfl | rfl | ⟨g,ps,y,rfl⟩ <;> simp only <;> rw [if_pos (by omega)]
theorem AtP.r {root:Code} {p:Nat} {c x:Code} (h:AtP root p c) (hc:(∃ y,c = .seq y x) ∨ (∃ o y,c = .cond o y x) ∨ ∃ g ps y,c = .rangeFunc g ps y x):AtP root (2 * p + 1) x:=by
 obtain ⟨h1,k,hk⟩:=h
 refine ⟨by omega,k + 1,?_⟩
 rw [codeAt,if_neg (by omega),show (2 * p + 1) / 2 = p by omega,hk]
 rcases hc with ⟨y,rfl⟩ | ⟨o,y,rfl⟩ | ⟨g,ps,y,rfl⟩ <;> simp only <;> rw [if_neg (by omega)]
def exOf:Ex→Exit
 | .normal=>.normal
 | .exit id=>.exit id
 | .ret=>.ret
theorem wpIn_loop_ghost {F:Fence} {n:Nat} {c:Code} {Q:Exit→Act→World→Prop} (I:Nat→Act→World→Prop) {m:Nat} (h₀:I m a w)
   (round:∀ m a w,I m a w→c.wpIn F n P (Exit.then (fun a' w'=>∃ m',m' < m∧I m' a' w') Q) a w):(Code.loop c).wpIn F n P Q a w:=by
 classical
 have least:∀ a w,(∃ m,I m a w)→∃ m,I m a w∧∀ k,k < m→¬ I k a w:=by
   intro a w ⟨m,hm⟩
   induction m using Nat.strongRecOn with
   | _ m ih =>
     by_cases h:∃ k,k < m∧I k a w
     · obtain ⟨k,hk,hi⟩:=h;exact ih k hk hi
     · exact ⟨m,hm,fun k hk hi=>h ⟨k,hk,hi⟩⟩
 let μ:Act→World→Nat:=fun a w=>if h:∃ m,I m a w then Classical.choose (least a w h) else 0
 have hμ:∀ a w,(∃ m,I m a w)→I (μ a w) a w∧∀ k,k < μ a w→¬ I k a w:=by
   intro a w h
   simp only [μ,dif_pos h]
   exact Classical.choose_spec (least a w h)
 refine wpIn_loop (fun a w=>∃ m,I m a w) μ ⟨m,h₀⟩ fun a w h=>?_
 obtain ⟨h1,h2⟩:=hμ a w h
 refine wpIn_mono (round _ a w h1) fun e a' w' hq=>?_
 cases e <;> first | exact hq | skip
 obtain ⟨m',hlt,hi⟩:=hq
 refine ⟨⟨m',hi⟩,?_⟩
 obtain ⟨h3,h4⟩:=hμ a' w' ⟨m',hi⟩
 rcases Nat.lt_or_ge (μ a' w') (μ a w) with h | h
 · exact h
 · exact absurd hi (h4 m' (by omega))
theorem leave_some {kT kK:List Nat} {K':Ex→St→Option C} {e:Ex} {st:St} {r:C} (h:leave kT kK K' e st = some r):objsOk (norm kT kK st).objs = true∧K' e (norm kT kK st) = some r:=by
 unfold leave at h
 cases hok:objsOk (norm kT kK st).objs with
 | true=>rw [hok] at h;exact ⟨rfl,h⟩
 | false=>rw [hok] at h;simp at h
end Go.Pv
