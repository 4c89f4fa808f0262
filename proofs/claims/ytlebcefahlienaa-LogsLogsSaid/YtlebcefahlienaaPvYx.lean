/- The purifying layer, part 25b: functions that are handed objects. -/
import Derived.Test.YtlebcefahlienaaPvY
set_option linter.unusedVariables false
set_option linter.unusedSimpArgs false
namespace Go.Pv
variable {P:Program} {Γ:Cfg} {C:Type} {cx:Cx} {tm:Tm} {lk:Lk} {a:Act} {w:World} {Fz:Nat→Prop} {pos:Nat→Value} {U:Nat→Prop}
theorem given_look:∀ (os:List Obj) (g k:Nat),lookObj (givenObjs g os) k = if g ≤ k then (os[k - g]?).map fun o=>(0,o) else none
 | [],g,k=>by simp [givenObjs,lookObj]
 | o :: r,g,k=>by
   simp only [givenObjs,lookObj]
   by_cases h:g = k
   · subst h;simp
   · rw [if_neg h,given_look r (g + 1) k]
     by_cases h2:g ≤ k
     · rw [if_pos h2,if_pos (by omega),show k - g = (k - (g + 1)) + 1 by omega];simp
     · rw [if_neg h2,if_neg (by omega)]
theorem endObj_some {exp:List Nat} {n:Nat} {lk:Lk} {k:Nat} {q:Nat×Obj} (h:endObj exp n lk k = some q):∃ o,lk k = some (q.1,o)∧q.2 = o.mapV (endAtom exp n lk)∧q.2.fitOk = true:=by
 unfold endObj at h
 split at h
 · rename_i q' hq
   cases hf:(q'.2.mapV (endAtom exp n lk)).fitOk with
   | false=>rw [hf] at h;simp at h
   | true =>
     rw [hf] at h
     simp only [cond_true,Option.some.injEq] at h
     subst h
     exact ⟨q'.2,hq,rfl,hf⟩
 · cases h
theorem endOuts_get {exp:List Nat} {n:Nat} {lk:Lk}:∀ (m k:Nat) (outs:List (Nat×Obj)),endOuts exp n lk k m = some outs→outs.length = m∧∀ i,i < m→∃ s o,lk (k + i) = some (s,o)∧outs[i]? = some (s,o.mapV (endAtom exp n lk))∧(o.mapV (endAtom exp n lk)).fitOk = true
 | 0,k,outs,h=>by simp only [endOuts,Option.some.injEq] at h;subst h;exact ⟨rfl,fun i hi=>by omega⟩
 | m + 1,k,outs,h=>by
   simp only [endOuts] at h
   split at h
   · rename_i q r hq hr
     simp only [Option.some.injEq] at h
     subst h
     obtain ⟨h1,h2⟩:=endOuts_get m (k + 1) r hr
     refine ⟨by simp [h1],fun i hi=>?_⟩
     cases i with
     | zero =>
       obtain ⟨o,g1,g2,g3⟩:=endObj_some hq
       exact ⟨q.1,o,g1,by rw [← g2];rfl,by rw [← g2];exact g3⟩
     | succ i =>
       obtain ⟨s,o,g1,g2,g3⟩:=h2 i (by omega)
       exact ⟨s,o,by rw [show k + (i + 1) = k + 1 + i by omega];exact g1,by simpa using g2,g3⟩
   · cases h
theorem endExs_get {exp:List Nat} {n:Nat} {lk:Lk}:∀ (l:List Nat) (exs:List Obj),endExs exp n lk l = some exs→exs.length = l.length∧∀ (i k:Nat),l[i]? = some k→∃ s o,lk k = some (s,o)∧exs[i]? = some (o.mapV (endAtom exp n lk))∧(o.mapV (endAtom exp n lk)).fitOk = true
 | [],exs,h=>by simp only [endExs,Option.some.injEq] at h;subst h;exact ⟨rfl,fun i k h=>by simp at h⟩
 | k0 :: r,exs,h=>by
   simp only [endExs] at h
   split at h
   · rename_i q l hq hl
     simp only [Option.some.injEq] at h
     subst h
     obtain ⟨h1,h2⟩:=endExs_get r l hl
     refine ⟨by simp [h1],fun i k hk=>?_⟩
     cases i with
     | zero =>
       simp only [List.getElem?_cons_zero,Option.some.injEq] at hk
       subst hk
       obtain ⟨o,g1,g2,g3⟩:=endObj_some hq
       exact ⟨q.1,o,g1,by rw [← g2];rfl,by rw [← g2];exact g3⟩
     | succ i =>
       obtain ⟨s,o,g1,g2,g3⟩:=h2 i k (by simpa using hk)
       exact ⟨s,o,g1,by simpa using g2,g3⟩
   · cases h
theorem isGiven_iff {n k:Nat}:isGiven n k = true ↔ gB ≤ k∧k < gB + n:=by
 unfold isGiven
 rw [Bool.and_eq_true,Nat.ble_eq,Nat.blt_eq]
theorem endKey_some {exp:List Nat} {n k:Nat} {q:Nat×Bool} (h:endKey exp n k = some q):(isGiven n k = true∧q = (k,true)) ∨ (isGiven n k = false∧∃ j,exp[j]? = some k∧q = (eB + j,false)):=by
 unfold endKey at h
 cases hg:isGiven n k with
 | true=>rw [hg] at h;simp only [cond_true,Option.some.injEq] at h;exact .inl ⟨rfl,h.symm⟩
 | false =>
   rw [hg] at h
   simp only [cond_false] at h
   split at h
   · rename_i j hj
     simp only [Option.some.injEq] at h
     obtain ⟨_,h2⟩:=idxK_get exp k 0 j hj
     exact .inr ⟨rfl,j,by simpa using h2,h.symm⟩
   · cases h
section
variable {exp:List Nat} {n:Nat} {st:St} {outs:List (Nat×Obj)} {exs:List Obj}
def Back (exp:List Nat) (n k:Nat):Prop:=isGiven n k = true ∨ k ∈ exp
abbrev FzX (Fz:Nat→Prop) (exp:List Nat) (n:Nat) (lk:Lk) (pos:Nat→Value):Nat→Prop:=fun b=>Fz b ∨ ∃ k s o,lk k = some (s,o)∧VB (pos k) b∧¬ Back exp n k
def posX (exp:List Nat) (pos:Nat→Value):Nat→Value:=fun k=>if eB ≤ k then (match exp[k - eB]? with | some k'=>pos k' | none=>undef) else pos k
theorem end_map (r:RelIn cx tm lk a w Fz pos U) (hn:n < 100000) (ho:endOuts exp n lk gB n = some outs) (hx:endExs exp n lk exp = some exs) (cx2:Cx) (hP:cx2.P = cx.P) (hG:cx2.G = cx.G) (hcv:cx2.gh.cv = cx.gh.cv) (hsv:cx.sav = fun _=>none) :
   AtomMap (cx.e Fz w lk pos) (cx2.e (FzX Fz exp n lk pos) w (lkX outs exs) (posX exp pos)) (endAtom exp n lk):=by
 obtain ⟨o1,o2⟩:=endOuts_get n gB outs ho
 obtain ⟨x1,x2⟩:=endExs_get exp exs hx
 have hfut:Fut Fz w (FzX Fz exp n lk pos) w:=fun b hb=>⟨.inl hb,rfl⟩
 have key:∀ k q s o,endKey exp n k = some q→lk k = some (s,o)→∃ o',lkX outs exs q.1 = some ((bif q.2 then s else 0),o')∧o.alike o'∧posX exp pos q.1 = pos k:=by
   intro k q s o hq hlk
   rcases endKey_some hq with ⟨h1,rfl⟩ | ⟨h1,j,h2,rfl⟩
   · obtain ⟨g1,g2⟩:=isGiven_iff.1 h1
     obtain ⟨i,rfl⟩:∃ i,k = gB + i:=⟨k - gB,by omega⟩
     obtain ⟨s',o',e1,e2,_⟩:=o2 i (by omega)
     rw [hlk] at e1
     simp only [Option.some.injEq,Prod.mk.injEq] at e1
     obtain ⟨rfl,rfl⟩:=e1
     refine ⟨_,by rw [lkX_out (by omega),e2];rfl,by cases o <;> simp [Obj.alike,Obj.mapV],?_⟩
     unfold posX
     rw [if_neg (by unfold eB gB;omega)]
   · obtain ⟨s',o',e1,e2,_⟩:=x2 j k h2
     rw [hlk] at e1
     simp only [Option.some.injEq,Prod.mk.injEq] at e1
     obtain ⟨rfl,rfl⟩:=e1
     refine ⟨_,by rw [lkX_ex,e2];rfl,by cases o <;> simp [Obj.alike,Obj.mapV],?_⟩
     unfold posX
     rw [if_pos (by omega),show eB + j - eB = j by omega,h2]
 have hnb:∀ k,endKey exp n k = none→¬ Back exp n k:=by
   intro k h hb
   unfold endKey at h
   cases hg:isGiven n k with
   | true=>rw [hg] at h;simp at h
   | false =>
     rw [hg] at h
     simp only [cond_false] at h
     rcases hb with hb | hb
     · rw [hg] at hb;cases hb
     · obtain ⟨j,hj⟩:=idxK_some exp k 0 hb
       rw [hj] at h;simp at h
 refine ⟨hfut,fun k s p u hu=>?_,fun e k s u hu=>?_,fun k s u hu=>?_,fun e k s p u hu=>?_,hP,hG,fun i u hu=>⟨rfl,hu.1,by have:=hu.2;show cx2.gh.cv i = _;rw [hcv];exact this⟩,fun i v h=>by have h:cx.sav i = some v:=h;rw [hsv] at h;cases h⟩
 · simp only [endAtom]
   split
   · rename_i q hq
     split
     · rename_i s' o hlk
       split
       · rename_i hs
         subst hs
         obtain ⟨o',e1,e2,e3⟩:=key k q s o hq hlk
         refine ⟨rfl,?_⟩
         cases hb:q.2 with
         | true=>rw [hb] at e1;exact move_ref hu hlk e1 (Ext.mk e2 e3)
         | false=>rw [hb] at e1;exact move_ref hu hlk e1 (Ext.mk e2 e3)
       · exact ⟨rfl,trivial⟩
     · exact ⟨rfl,trivial⟩
   · rename_i hq
     simp only [resAtom]
     split
     · rename_i s' o hlk
       split
       · rename_i hs
         subst hs
         split
         · rename_i c hg
           split
           · rename_i hc
             exact ⟨rfl,ref_frozen r hlk hu hg (fun cs h=>h) (fun t x e=>by subst e;rfl) hc hfut hP hG (fun b hb=>⟨.inr ⟨k,s,o,hlk,hb,hnb k hq⟩,rfl⟩)⟩
           · exact ⟨rfl,trivial⟩
         · exact ⟨rfl,trivial⟩
       · exact ⟨rfl,trivial⟩
     · exact ⟨rfl,trivial⟩
 · simp only [endAtom]
   split
   · rename_i q hq
     split
     · rename_i s' o hlk
       split
       · rename_i hs
         subst hs
         obtain ⟨o',e1,e2,e3⟩:=key k q s o hq hlk
         refine ⟨rfl,?_⟩
         cases hb:q.2 with
         | true=>rw [hb] at e1;exact move_sl hu hlk e1 (Ext.mk e2 e3)
         | false=>rw [hb] at e1;exact move_sl hu hlk e1 (Ext.mk e2 e3)
       · exact ⟨rfl,trivial⟩
     · exact ⟨rfl,trivial⟩
   · rename_i hq
     simp only [resAtom]
     split
     · rename_i s' e' xs hlk
       split
       · rename_i hs
         obtain ⟨rfl,rfl⟩:=hs
         exact ⟨rfl,sl_frozen r hlk hu hfut (fun b hb=>⟨.inr ⟨k,s,_,hlk,hb,hnb k hq⟩,rfl⟩)⟩
       · exact ⟨rfl,trivial⟩
     · exact ⟨rfl,trivial⟩
 · simp only [endAtom]
   split
   · rename_i q hq
     split
     · rename_i s' o hlk
       split
       · rename_i hs
         subst hs
         obtain ⟨o',e1,e2,e3⟩:=key k q s o hq hlk
         refine ⟨rfl,?_⟩
         cases hb:q.2 with
         | true=>rw [hb] at e1;exact move_mp hu hlk e1 (Ext.mk e2 e3)
         | false=>rw [hb] at e1;exact move_mp hu hlk e1 (Ext.mk e2 e3)
       · exact ⟨rfl,trivial⟩
     · exact ⟨rfl,trivial⟩
   · rename_i hq
     simp only [resAtom]
     split
     · rename_i s' kt vt es hlk
       split
       · rename_i hs
         subst hs
         exact ⟨rfl,mp_frozen r hlk hu hfut (fun b hb=>⟨.inr ⟨k,s,_,hlk,hb,hnb k hq⟩,rfl⟩)⟩
       · exact ⟨rfl,trivial⟩
     · exact ⟨rfl,trivial⟩
 · simp only [endAtom]
   split
   · rename_i q hq
     split
     · rename_i s' o hlk
       split
       · rename_i hs
         subst hs
         obtain ⟨o',e1,e2,e3⟩:=key k q s o hq hlk
         refine ⟨rfl,?_⟩
         cases hb:q.2 with
         | true=>rw [hb] at e1;exact move_row hu hlk e1 (Ext.mk e2 e3)
         | false=>rw [hb] at e1;exact move_row hu hlk e1 (Ext.mk e2 e3)
       · exact ⟨rfl,trivial⟩
     · exact ⟨rfl,trivial⟩
   · exact ⟨rfl,trivial⟩
theorem nodup_of (h:expOk exp = true):exp.Nodup∧∀ k ∈ exp,k < gB ∨ eB ≤ k:=by
 simp only [expOk,Bool.and_eq_true,decide_eq_true_eq,List.all_eq_true,Bool.or_eq_true,Nat.blt_eq,Nat.ble_eq] at h
 exact h
theorem held_end (r:RelIn cx tm lk a w Fz pos U) (hn:n < 100000) (he:expOk exp = true) (ho:endOuts exp n lk gB n = some outs) (hx:endExs exp n lk exp = some exs) (cx2:Cx) (hP:cx2.P = cx.P) (hG:cx2.G = cx.G) (hgh:cx2.gh = cx.gh) (hsv:cx.sav = fun _=>none)
   (hw:cx2.w0 = cx.w0) (hF:cx2.Fz0 = cx.Fz0) (hW:cx2.Wr = cx.Wr) (horig:∀ i,i < n→∀ o q,lk (gB + i) = some (0,o)→cx2.og (gB + i) = some q→Ext q.1 q.2 o (pos (gB + i))) :
   Held cx2 (lkX outs exs) w (FzX Fz exp n lk pos) (posX exp pos) U:=by
 have m:=end_map r hn ho hx cx2 hP hG (by rw [hgh]) hsv
 obtain ⟨o1,o2⟩:=endOuts_get n gB outs ho
 obtain ⟨x1,x2⟩:=endExs_get exp exs hx
 obtain ⟨hnd,hge⟩:=nodup_of he
 have hon:∀ b,(∃ k s o,lk k = some (s,o)∧VB (pos k) b∧¬ Back exp n k)→¬ Fz b∧(cx.w0.heap.size ≤ b ∨ cx.Wr b)∧b < w.heap.size∧¬ U b:=by
   rintro b ⟨k,s,o,g1,g2,_⟩
   exact ⟨(r.own k s o b g1 g2).1,(r.own k s o b g1 g2).2,(r.objs k s o g1).lt g2,fun hu=>(r.ugh b hu).2.2.2 k s o g1 g2⟩
 -- where each object comes from
 have src:∀ k s o,lkX outs exs k = some (s,o)→∃ k0 s0 o0,lk k0 = some (s0,o0)∧o = o0.mapV (endAtom exp n lk)∧o.fitOk = true∧posX exp pos k = pos k0∧Back exp n k0∧((k0 = k∧gB ≤ k∧k < gB + n∧s = s0) ∨ ∃ j,exp[j]? = some k0∧k = eB + j):=by
   intro k s o h
   rcases lkX_get (by omega) h with ⟨j,rfl,rfl,hj⟩ | ⟨i,rfl,hi,hj⟩
   · have hjl:j < exp.length:=by have:=(List.getElem?_eq_some_iff.1 hj).1;omega
     obtain ⟨s0,o0,e1,e2,e3⟩:=x2 j exp[j] (by simp [hjl])
     rw [hj] at e2
     simp only [Option.some.injEq] at e2
     subst e2
     refine ⟨exp[j],s0,o0,e1,rfl,e3,?_,.inr (by simp),.inr ⟨j,by simp [hjl],rfl⟩⟩
     unfold posX
     rw [if_pos (by omega),show eB + j - eB = j by omega]
     simp [hjl]
   · have hin:i < n:=by have:=(List.getElem?_eq_some_iff.1 hj).1;omega
     obtain ⟨s0,o0,e1,e2,e3⟩:=o2 i hin
     rw [hj] at e2
     simp only [Option.some.injEq,Prod.mk.injEq] at e2
     obtain ⟨rfl,rfl⟩:=e2
     refine ⟨gB + i,s,o0,e1,rfl,e3,?_,.inl (isGiven_iff.2 ⟨by omega,by omega⟩),.inl ⟨rfl,by omega,by omega,rfl⟩⟩
     unfold posX
     rw [if_neg (by unfold eB gB;omega)]
 have hnear:Near cx.w0 cx.Wr U Fz w (FzX Fz exp n lk pos) w:=by
   refine ⟨rfl,rfl,rfl,Nat.le_refl _,fun _ _=>rfl,fun b hb=>⟨fun h=>h.resolve_right fun hk=>?_,.inl⟩,fun b hb=>⟨.inl hb,rfl⟩,fun b hb=>hb.elim (r.step.lt b) fun hk=>(hon b hk).2.2.1⟩
   obtain ⟨g1,g2,g3,g4⟩:=hon b hk
   rcases hb with hb | ⟨hb1,hb2⟩
   · exact g4 hb
   · rcases g2 with g2 | g2
     · omega
     · exact hb2 g2
 refine ⟨fun k s o h=>?_,fun k s o b h hb=>?_,fun k s o k' s' o' b h h' hb hb'=>?_,?_,by rw [hG,hw,hF];exact r.inv0,by rw [hW,hF];exact r.wr0,fun k s t run x h=>?_,fun k o q h hq=>?_,fun b hb=>?_⟩
 · obtain ⟨k0,s0,o0,g1,rfl,g2,g3,_⟩:=src k s o h
   rw [g3]
   exact mapO_rep m g2 (fun _ _=>rfl) (r.objs k0 s0 o0 g1)
 · obtain ⟨k0,s0,o0,g1,rfl,g2,g3,g4,_⟩:=src k s o h
   rw [g3] at hb
   refine ⟨?_,by rw [hw,hW];exact (r.own k0 s0 o0 b g1 hb).2⟩
   rintro (hf | ⟨k1,s1,o1',e1,e2,e3⟩)
   · exact (r.own k0 s0 o0 b g1 hb).1 hf
   · have:=r.inj k0 s0 o0 k1 s1 o1' b g1 e1 hb e2
     subst this
     exact e3 g4
 · obtain ⟨k0,s0,o0,g1,_,_,g3,g4,g5⟩:=src k s o h
   obtain ⟨k1,s1,o1',f1,_,_,f3,f4,f5⟩:=src k' s' o' h'
   rw [g3] at hb
   rw [f3] at hb'
   have:=r.inj k0 s0 o0 k1 s1 o1' b g1 f1 hb hb'
   subst this
   rcases g5 with ⟨rfl,e1,e2,_⟩ | ⟨j,e1,rfl⟩
   · rcases f5 with ⟨rfl,_⟩ | ⟨j',e3,rfl⟩
     · rfl
     · exfalso
       rcases hge _ (List.mem_of_getElem? e3) with h | h
       · omega
       · have:eB = gB + 100000:=rfl
         omega
   · rcases f5 with ⟨rfl,e3,e4,_⟩ | ⟨j',e3,rfl⟩
     · exfalso
       rcases hge _ (List.mem_of_getElem? e1) with h | h
       · omega
       · have:eB = gB + 100000:=rfl
         omega
     · rw [nodup_at hnd e1 e3]
 · rw [hW,hF,hw]
   exact ⟨r.step.os,r.step.tape,r.step.output,r.step.size,r.step.block,fun b hb hw=>(hnear.fz b (.inr ⟨hb,hw⟩)).trans (r.step.fz b hb hw),hnear.lt⟩
 · obtain ⟨k0,s0,o0,g1,g2,_,_,_,g5⟩:=src k s _ h
   cases o0 <;> simp only [Obj.mapV,reduceCtorEq] at g2
   cases g2
   obtain ⟨e1,J,cv,e2,e3⟩:=r.gh k0 s0 t run x g1
   refine ⟨?_,J,cv,by rw [hgh];exact e2,?_⟩
   · rcases g5 with ⟨rfl,_⟩ | ⟨j,e4,rfl⟩
     · exact e1
     · exfalso
       subst e1
       rcases hge _ (List.mem_of_getElem? e4) with h | h
       · omega
       · unfold eB gB at h;omega
   · have hf:=cx.frame
     rw [e2] at hf
     exact hf x U Fz w _ w e3 hnear
 · obtain ⟨k0,s0,o0,g1,rfl,_,g3,_,g5⟩:=src k 0 o h
   rcases g5 with ⟨rfl,e1,e2,rfl⟩ | ⟨j,e1,rfl⟩
   · obtain ⟨i,rfl⟩:∃ i,k0 = gB + i:=⟨k0 - gB,by omega⟩
     exact (horig i (by omega) o0 q g1 hq).trans (Ext.mk (mapV_alike o0) g3)
   · exfalso
     have:=cx2.ogG _ q hq
     unfold isG at this
     rw [Bool.and_eq_true,Nat.ble_eq,Nat.blt_eq] at this
     omega
 · obtain ⟨h1,h2,h3,h4⟩:=r.ugh b hb
   refine ⟨h1,fun hf=>h2 ((hnear.fz b (.inl hb)).1 hf),by rw [hw,hW];exact h3,fun k s o h hb'=>?_⟩
   obtain ⟨k0,s0,o0,g1,_,_,g3,_⟩:=src k s o h
   rw [g3] at hb'
   exact h4 k0 s0 o0 g1 hb'
end
theorem res_repX {B:E} {T:TypeId} {f:V→V} (m:AtomMap (cx.e Fz w lk pos) B f) {v:V} {u:Value} (h:RepT (cx.e Fz w lk pos) v u):RepT B (nilArg Γ T (v.mapT f)) u:=nilArg_rep (mapT_rep m h)
theorem res_valsX (hΓ:CfgOk P Γ) (hP:cx.P = P) (hg:cx.G = Γ.glob) {st:St} {exp:List Nat} {n:Nat} (r:RelIn cx st.tm st.lk a w Fz pos U) {B:E} (m:AtomMap (cx.e Fz w st.lk pos) B (endAtom exp n st.lk)) {r0:C} :
   ∀ (Ts:List TypeId) (rs:List ResultVar) (K':List V→Option C),resValsX Γ exp n st Ts rs K' = some r0→∃ vs us,K' vs = some r0∧Pt (fun rv u=>(readR a.tmps rv).run P w = .ok u w) rs us∧Pt (RepT B) vs us
 | [],[],K',h=>⟨[],[],h,rfl,rfl⟩
 | [],_ :: _,K',h=>by simp [resValsX] at h
 | _ :: _,[],K',h=>by simp [resValsX] at h
 | T :: Ts,rv :: rs,K',h=>by
   simp only [resValsX] at h
   have key:∃ v u,(resValsX Γ exp n st Ts rs fun vs=>K' (v :: vs)) = some r0∧(readR a.tmps rv).run P w = .ok u w∧RepT B v u:=by
     cases rv with
     | tmp t=>exact ⟨_,a.tmps.getD t undef,h,by simp [readR],res_repX m (r.tmps t)⟩
     | cell ad T' =>
       simp only [resValX] at h
       rw [nat_load] at h
       cases he:evLoad Γ st.lk T' (st.tm ad) some with
       | none=>rw [he] at h;simp at h
       | some e =>
         rw [he] at h
         simp only [Option.bind_some] at h
         obtain ⟨ad',u,g1,g2,g3,g4⟩:=load_rep (x:=.tmp ad) hΓ hP r hg he
         have g1:a.tmps.getD ad undef = .pointer (some ad'):=g1
         refine ⟨_,u,h,?_,res_repX m g4⟩
         have g2:(loadVar T' ad').run P w = .ok u w:=by
           simpa [Instr.loadAt,Instr.sureAddr] using g2
         simp [readR,g1,asAddr,g2]
   obtain ⟨v,u,h1,h2,h3⟩:=key
   obtain ⟨vs,us,h4,h5,h6⟩:=res_valsX hΓ hP hg r m Ts rs _ h1
   exact ⟨v :: vs,u :: us,h4,⟨u,us,rfl,h2,h5⟩,⟨u,us,rfl,h3,h6⟩⟩
theorem retX_rep {A:E} {vs:List V} {us:List Value} (hp:noTups vs = true) (h:Pt (RepT A) vs us):RepT A (retV vs) (if h:us.toArray.size = 1 then us.toArray[0] else .tuple us.toArray):=by
 have hl:=Pt.length _ _ h
 match vs,us,h with
 | [],us,h =>
   have h:us = []:=h
   subst h
   exact ⟨[],rfl,rfl⟩
 | [v],us,h =>
   obtain ⟨u,r,rfl,h1,h2⟩:=h
   have h2:r = []:=h2
   subst h2
   exact h1
 | v :: v2 :: vs,us,h =>
   have hs:¬ us.toArray.size = 1:=by simp at hl;simp [hl]
   rw [dif_neg hs]
   exact ⟨us,rfl,T_Gs _ _ hp h⟩
theorem noSavL_mem:∀ (os:List Obj),noSavL os = true→∀ o ∈ os,o.isSav = false
 | [],_,o,h=>by simp at h
 | o' :: r,hn,o,h=>by
   have hr:noSavL r = true∧o'.isSav = false:=by
     cases o' <;> simp only [noSavL,Bool.false_eq_true] at hn <;> exact ⟨hn,rfl⟩
   rcases List.mem_cons.1 h with rfl | h
   · exact hr.2
   · exact noSavL_mem r hr.1 o h
theorem fn_soundX (hΓ:CfgOk P Γ) {f:FuncId} {fn:Func} (hf:P.funcs[f]? = some fn) (an:Ann) (hL:LOkF P Γ an fn) {exp:List Nat} {args:List V} {os:List Obj} (hA:AnnOk an (args.length + (fn.ntmps - args.length))) {K':V→List (Nat×Obj)→List Obj→Option C} {r0:C}
   (h:evFnX Γ an fn exp args os K' = some r0) :
   ∀ (cx:Cx) (pos:Nat→Value) (U:Nat→Prop) (us:List Value),cx.P = P→cx.G = Γ.glob→Held cx (lkG os) cx.w0 cx.Fz0 pos U→Pt (RepG (cx.e cx.Fz0 cx.w0 (lkG os) pos)) args us →
   Calls P f us.toArray cx.w0 fun e w'=>∃ v Fz' pos' U' rv outs exs,e = .returned v∧K' rv outs exs = some r0∧Held cx (lkX outs exs) w' Fz' pos' U'∧RepT (cx.e Fz' w' (lkX outs exs) pos') rv v∧outs.length = os.length∧os.length < 100000 ∧
     ∀ i s o o',outs[i]? = some (s,o')→os[i]? = some o→s = 0→Ext o (pos (gB + i)) o' (pos' (gB + i)):=by
 intro cx pos U us hP hG hheld hargs
 unfold evFnX at h
 split at h
 · simp at h
 · rename_i c hb
   cases hc:(Nat.blt os.length 100000 && noSavL os) with
   | false=>rw [hc] at h;simp at h
   | true =>
     rw [hc] at h
     simp only [cond_true] at h
     simp only [Bool.and_eq_true] at hc
     obtain ⟨hlt,hns⟩:=hc
     have hlt:os.length < 100000:=by simpa using hlt
     have hl:=Pt.length _ _ hargs
     obtain ⟨m,hm⟩:∃ m,m = fn.ntmps - args.length:=⟨_,rfl⟩
     rw [← hm] at h hA
     have hlkG:lookObj (givenObjs gB os) = lkG os:=by funext k;rw [given_look];rfl
     have hGk:∀ k q,lkG os k = some q→isG k = true:=by
       intro k q hk
       unfold lkG at hk
       split at hk
       · rename_i hk1
         simp only [Option.map_eq_some_iff] at hk
         obtain ⟨o,h1,_⟩:=hk
         have:=(List.getElem?_eq_some_iff.1 h1).1
         unfold isG
         rw [Bool.and_eq_true,Nat.ble_eq,Nat.blt_eq]
         exact ⟨hk1,by unfold eB gB at *;omega⟩
       · cases hk
     have hogG:∀ k q,(fun k=>(lkG os k).map fun q=>(q.2,pos k)) k = some q→isG k = true:=by
       intro k q hq
       simp only [Option.map_eq_some_iff] at hq
       obtain ⟨q',h1,_⟩:=hq
       exact hGk k q' h1
     let cxB:Cx:={ cx with nt:=args.length + m,sav:=fun _=>none,q0:=cx.w0.heap.size,og:=fun k=>(lkG os k).map fun q=>(q.2,pos k),ogG:=hogG }
     let st:St:={ tmps:={ length:=args.length + m,ups:=indexed 0 args,dflt:=.undef },objs:=givenObjs gB os }
     have hstl:st.lk = lkG os:=hlkG
     have hmem:∀ k s o,lkG os k = some (s,o)→o ∈ os:=by
       intro k s o hk
       unfold lkG at hk
       split at hk
       · simp only [Option.map_eq_some_iff,Prod.mk.injEq] at hk
         obtain ⟨o',h1,_,rfl⟩:=hk
         exact List.mem_of_getElem? h1
       · cases hk
     have hHB:Held cxB st.lk cx.w0 cx.Fz0 pos U:=by
       rw [hstl]
       refine ⟨fun k s o hk=>RepO_sv (cx.e cx.Fz0 cx.w0 (lkG os) pos) (fun _=>none) (noSavL_mem _ hns o (hmem k s o hk)) (hheld.objs k s o hk),hheld.own,hheld.inj,hheld.step,hheld.inv0,hheld.wr0,hheld.gh,fun k o q hk hq=>?_,hheld.ugh⟩
       have hq:(lkG os k).map (fun q=>(q.2,pos k)) = some q:=hq
       rw [hk] at hq
       simp only [Option.map_some,Option.some.injEq] at hq
       subst hq
       exact Ext.mk (Obj.alike_refl _) rfl
     have hargs2:Pt (RepG (cxB.e cx.Fz0 cx.w0 st.lk pos)) args us:=by
       rw [hstl]
       have e1:=RepG_sv (cx.e cx.Fz0 cx.w0 (lkG os) pos) (fun _=>none)
       have e2:RepG (cxB.e cx.Fz0 cx.w0 (lkG os) pos) = RepG (cx.e cx.Fz0 cx.w0 (lkG os) pos):=e1
       rw [e2];exact hargs
     have hr:RelS cxB st.s2 { tmps:=us.toArray ++ Array.replicate (fn.ntmps - us.toArray.size) undef,defers:=[] } cx.w0:=by
       refine ⟨cx.Fz0,pos,U,hHB,by simp [cxB,hl,hm],fun d hd=>by simp at hd,List.nodup_nil,fun t=>?_⟩
       have h1:=start_tmps hargs2 m t
       have e2:(us.toArray ++ Array.replicate (fn.ntmps - us.toArray.size) undef).getD t undef = (us ++ List.replicate m undef).getD t undef:=by
         rw [Array.getD_eq_getD_getElem?,List.getD_eq_getElem?_getD,← Array.getElem?_toList]
         simp [hl,hm]
       show RepT _ (st.tm t) ((us.toArray ++ Array.replicate (fn.ntmps - us.toArray.size) undef).getD t undef)
       rw [e2]
       have e3:st.tm t = (args ++ List.replicate m V.undef).getD t .junk:=start_tm args m t
       rw [e3]
       exact h1
     obtain ⟨hL1,hL2,hL3⟩:=hL c hb
     refine callsIn_wide.1 (callsIn_of_wp_marks (n:=0) hf hb trivial (ev_sound hΓ c cxB hP hG Fence.wide wide_wide 0 an c hL1 hL2 hL3 (fun _=>rfl) (hA.imp id fun h=>⟨rfl,rfl,h,Nat.le_refl _⟩) 1 ⟨Nat.le_refl _,1,by simp [codeAt]⟩ st _ _ _ cx.w0 rfl h hr _ fun e st' a' w' hl' r' h'=>?_))
     obtain ⟨Fz',pos',U',r'⟩:=r'
     have r':RelIn cxB st'.tm st'.lk a' w' Fz' pos' U':=r'
     have fin:∀ exp:List Nat,evEndX Γ fn exp os st' K' = some r0 →
         LeavesInM Fence.wide 0 P fn a'.tmps (fun e w''=>∃ v Fz'' pos'' U'' rv outs exs,e = .returned v∧K' rv outs exs = some r0∧Held cx (lkX outs exs) w'' Fz'' pos'' U''∧RepT (cx.e Fz'' w'' (lkX outs exs) pos'') rv v∧outs.length = os.length∧os.length < 100000 ∧
           ∀ i s o o',outs[i]? = some (s,o')→os[i]? = some o→s = 0→Ext o (pos (gB + i)) o' (pos'' (gB + i))) a'.defers .returning w':=by
       intro exp hres
       unfold evEndX at hres
       cases hexp:expOk exp with
       | false=>rw [hexp] at hres;simp at hres
       | true =>
       rw [hexp,cond_true] at hres
       refine leaves_marks (cx:=cxB) (Nat.le_refl _) (fun a1 w1 r1 hd1=>?_) a'.defers a' w' rfl r'
       cases ho:endOuts exp os.length st'.lk gB os.length with
       | none =>
         exfalso
         rw [ho] at hres
         have:∀ (Ts:List TypeId) (rs:List ResultVar),(resValsX Γ exp os.length st' Ts rs fun vs=>(none:Option C)) ≠ some r0:=by
           intro Ts
           induction Ts with
           | nil=>intro rs;cases rs <;> simp [resValsX]
           | cons T Ts ih =>
             intro rs
             cases rs with
             | nil=>simp [resValsX]
             | cons q rs =>
               intro hh
               simp only [resValsX] at hh
               cases q with
               | tmp t=>exact ih rs hh
               | cell ad T' =>
                 simp only [resValX] at hh
                 rw [nat_load] at hh
                 cases he:evLoad Γ st'.lk T' (st'.tm ad) some with
                 | none=>rw [he] at hh;simp at hh
                 | some e=>rw [he] at hh;exact ih rs hh
         exact this _ _ hres
       | some outs =>
         cases hx:endExs exp os.length st'.lk exp with
         | none =>
           exfalso
           rw [ho,hx] at hres
           have:∀ (Ts:List TypeId) (rs:List ResultVar),(resValsX Γ exp os.length st' Ts rs fun vs=>(none:Option C)) ≠ some r0:=by
             intro Ts
             induction Ts with
             | nil=>intro rs;cases rs <;> simp [resValsX]
             | cons T Ts ih =>
               intro rs
               cases rs with
               | nil=>simp [resValsX]
               | cons q rs =>
                 intro hh
                 simp only [resValsX] at hh
                 cases q with
                 | tmp t=>exact ih rs hh
                 | cell ad T' =>
                   simp only [resValX] at hh
                   rw [nat_load] at hh
                   cases he:evLoad Γ st'.lk T' (st'.tm ad) some with
                   | none=>rw [he] at hh;simp at hh
                   | some e=>rw [he] at hh;exact ih rs hh
           exact this _ _ hres
         | some exs =>
           rw [ho,hx] at hres
           have m2:=end_map r1 hlt ho hx cx rfl rfl rfl rfl
           have hor:∀ i,i < os.length→∀ o,st'.lk (gB + i) = some (0,o)→∃ o0,os[i]? = some o0∧Ext o0 (pos (gB + i)) o (pos' (gB + i)):=by
             intro i hi o hk
             have hgi:lkG os (gB + i) = some (0,os[i]):=by
               unfold lkG
               rw [if_pos (by omega),show gB + i - gB = i by omega]
               simp [hi]
             have:=r1.orig (gB + i) o (os[i],pos (gB + i)) hk (by show (lkG os (gB + i)).map _ = _;rw [hgi];rfl)
             exact ⟨os[i],by simp [hi],this⟩
           have hH:=held_end r1 hlt hexp ho hx cx rfl rfl rfl rfl rfl rfl rfl (fun i hi o q hk hq=>by
             obtain ⟨o0,e1,e2⟩:=hor i hi o hk
             have hgi:lkG os (gB + i) = some (0,o0):=by
               unfold lkG
               rw [if_pos (by omega),show gB + i - gB = i by omega,e1];rfl
             exact (hheld.orig (gB + i) o0 q hgi hq).trans e2)
           obtain ⟨vs',us',h1,h2,h3⟩:=res_valsX (cx:=cxB) hΓ hP hG r1 m2 _ _ _ hres
           cases hnt:noTups vs' with
           | false=>rw [hnt] at h1;simp at h1
           | true =>
             rw [hnt] at h1
             simp only [cond_true] at h1
             obtain ⟨g1,g2⟩:=endOuts_get os.length gB outs ho
             refine ⟨_,run_results h2,_,_,_,U',retV vs',outs,exs,rfl,h1,hH,retX_rep hnt h3,g1,hlt,fun i s o o' hi hoi hs=>?_⟩
             subst hs
             have hil:i < os.length:=(List.getElem?_eq_some_iff.1 hoi).1
             obtain ⟨s0,o1,e1,e2,_⟩:=g2 i hil
             rw [hi] at e2
             simp only [Option.some.injEq,Prod.mk.injEq] at e2
             obtain ⟨rfl,rfl⟩:=e2
             obtain ⟨o0,e3,e4⟩:=hor i hil o1 e1
             rw [hoi] at e3
             simp only [Option.some.injEq] at e3
             subst e3
             refine e4.trans (Ext.mk (mapV_alike o1) ?_)
             unfold posX
             rw [if_neg (by unfold eB gB;omega)]
     cases e with
     | normal=>exact fin _ h'
     | exit id=>simp at h'
     | ret=>exact fin _ h'
end Go.Pv
