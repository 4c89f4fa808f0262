/- The purifying layer, part 24b: ranges over functions; code. -/
import Derived.Test.YtlebcefahlienaaPvX
import Derived.RangeFuncRecord
set_option linter.unusedVariables false
set_option linter.unusedSimpArgs false
namespace Go.Pv
variable {P:Program} {Γ:Cfg} {C:Type} {cx:Cx} {tm:Tm} {lk:Lk} {a:Act} {w:World} {Fz:Nat→Prop} {pos:Nat→Value} {U:Nat→Prop}
theorem RelIn.near (r:RelIn cx tm lk a w Fz pos U) {Fz':Nat→Prop} {w':World} (hn:Near cx.w0 cx.Wr U Fz w Fz' w') (ho:∀ k s o b,lk k = some (s,o)→VB (pos k) b→w'.heap[b]? = w.heap[b]?∧¬ Fz' b)
   (hd:∀ d ∈ a.defers,∀ D,d = { target:=.collected D,args:=#[] }→w.heap[D]? = some (.deferred (some []))→¬ U D→w'.heap[D]? = w.heap[D]?∧(Fz' D ↔ Fz D)):RelIn cx tm lk a w' Fz' pos U:=by
 have hle:Le (cx.e Fz w lk pos) (cx.e Fz' w' lk pos):=⟨rfl,rfl,fun _ _ h=>h,fun _ _ h=>h,hn.fut,fun k s o h=>⟨s,o,h,Nat.le_refl _,fun _=>Ext.mk (Obj.alike_refl _) rfl⟩⟩
 refine ⟨r.toHeld.near hn ho,r.size,fun d h=>?_,r.dnd,fun t=>RepT.mono hle _ _ (r.tmps t)⟩
 obtain ⟨D,h1,h2,h3,h4,h5⟩:=r.defers d h
 exact ⟨D,h1,(hd d h D h1 h2 h4).1.trans h2,h3,h4,fun hf=>h5 ((hd d h D h1 h2 h4).2.1 hf)⟩
def Cx.rebase (cx:Cx) (w:World) (Fz Wr:Nat→Prop) (sav:Nat→Option Value) (h1:cx.w0.heap.size ≤ w.heap.size) (h2:∀ b,Wr b→cx.w0.heap.size ≤ b ∨ cx.Wr b):Cx :=
 have hb:∀ b,b < cx.w0.heap.size∧¬ cx.Wr b→b < w.heap.size∧¬ Wr b:=fun b h=>⟨Nat.lt_of_lt_of_le h.1 h1,fun hw=>(h2 b hw).elim (fun k=>by have:=h.1;omega) h.2⟩
 { cx with w0:=w,Fz0:=Fz,Wr:=Wr,sav:=sav,frame:=fun x U F1 w1 F2 w2 hJ hn=>cx.frame x U F1 w1 F2 w2 hJ ⟨hn.os,hn.tape,hn.output,hn.size,fun b h=>hn.same b (h.imp id (hb b)),fun b h=>hn.fz b (h.imp id (hb b)),hn.fut,hn.lt⟩ }
abbrev WrO (lk:Lk) (pos:Nat→Value) (U:Nat→Prop):Nat→Prop:=fun b=>Owned lk pos b ∨ U b
theorem Held.wrO (r:Held cx lk w Fz pos U):∀ b,WrO lk pos U b→cx.w0.heap.size ≤ b ∨ cx.Wr b:=by
 rintro b (⟨k,s,o,h1,h2⟩ | h)
 · exact (r.own k s o b h1 h2).2
 · exact (r.ugh b h).2.2.1
theorem Held.wrFz (r:Held cx lk w Fz pos U):∀ b,WrO lk pos U b→¬ Fz b:=by
 rintro b (⟨k,s,o,h1,h2⟩ | h)
 · exact (r.own k s o b h1 h2).1
 · exact (r.ugh b h).2.1
theorem Held.rebase (r:Held cx lk w Fz pos U) (sav:Nat→Option Value) (hsv:∀ i v,cx.sav i = some v→sav i = some v):Held (cx.rebase w Fz (WrO lk pos U) sav r.step.size r.wrO) lk w Fz pos U:=by
 have hle:Le (cx.e Fz w lk pos) ((cx.rebase w Fz (WrO lk pos U) sav r.step.size r.wrO).e Fz w lk pos):=⟨rfl,rfl,fun _ _ h=>h,hsv,Fut.refl _ _,fun k s o h=>⟨s,o,h,Nat.le_refl _,fun _=>Ext.mk (Obj.alike_refl _) rfl⟩⟩
 refine ⟨fun k s o h=>RepO.mono hle _ _ (fun _ _=>rfl) (r.objs k s o h),fun k s o b h hb=>⟨(r.own k s o b h hb).1,.inr (.inl ⟨k,s,o,h,hb⟩)⟩,r.inj,StepW.refl r.step.lt,r.inv,r.wrFz,r.gh,r.orig,fun b hb=>?_⟩
 obtain ⟨h1,h2,h3,h4⟩:=r.ugh b hb
 exact ⟨h1,h2,.inr (.inr hb),h4⟩
theorem rebase_le {w:World} {Fz Wr:Nat→Prop} {sav:Nat→Option Value} {h1:cx.w0.heap.size ≤ w.heap.size} {h2:∀ b,Wr b→cx.w0.heap.size ≤ b ∨ cx.Wr b} (hsv:∀ i v,cx.sav i = some v→sav i = some v) {F1:Nat→Prop} {w1:World} :
   Le (cx.e F1 w1 lk pos) ((cx.rebase w Fz Wr sav h1 h2).e F1 w1 lk pos):=⟨rfl,rfl,fun _ _ h=>h,hsv,Fut.refl _ _,fun k s o h=>⟨s,o,h,Nat.le_refl _,fun _=>Ext.mk (Obj.alike_refl _) rfl⟩⟩
theorem sameA_rep {A B:E} (hP:B.P = A.P) (hG:B.G = A.G) (hf:Fut A.Fz A.w B.Fz B.w) (hcv:∀ i v,A.cv i = some v→B.cv i = some v) {v u:V} {x:Value} (h:sameA v u = true) (ha:RepA A v x) (hb:RepA B u x):RepA B v x:=by
 cases v with
 | ref k s p =>
   cases u <;> simp only [sameA,V.arg,V.atom,V.isJunk,Bool.false_or,Bool.or_self,Bool.false_eq_true] at h
   simp only [Bool.and_eq_true,decide_eq_true_eq] at h
   obtain ⟨⟨h1,h2⟩,h3⟩:=h
   rw [Nat.eq_of_beq_eq_true h1,Nat.eq_of_beq_eq_true h2,h3];exact hb
 | sl e k s =>
   cases u <;> simp only [sameA,V.arg,V.atom,V.isJunk,Bool.false_or,Bool.or_self,Bool.false_eq_true] at h
   simp only [Bool.and_eq_true,decide_eq_true_eq] at h
   obtain ⟨⟨h1,h2⟩,h3⟩:=h
   rw [h1,Nat.eq_of_beq_eq_true h2,Nat.eq_of_beq_eq_true h3];exact hb
 | mp k s =>
   cases u <;> simp only [sameA,V.arg,V.atom,V.isJunk,Bool.false_or,Bool.or_self,Bool.false_eq_true] at h
   simp only [Bool.and_eq_true] at h
   rw [Nat.eq_of_beq_eq_true h.1,Nat.eq_of_beq_eq_true h.2];exact hb
 | dat t y=>exact arg_rep hP hG hf rfl ha
 | clo p q g=>exact arg_rep hP hG hf rfl ha
 | nilf=>exact ha
 | eptr y =>
   obtain ⟨b,off,c,T,fz,cells,h1,h2,h3,h4,h5⟩:=ha
   exact ⟨b,off,c,T,fz,cells,h1,(hf b h2).1,(hf b h2).2.trans h3,by rw [hP,hG];exact RepP.mono hf _ _ h4,h5⟩
 | junk=>trivial
 | cb i=>exact ⟨ha.1,hcv _ _ ha.2⟩
 | nils=>exact ha
 | undef=>exact ha
 | fn f caps=>exact ha.elim
 | agg fs=>exact ha.elim
 | tup fs=>exact ha.elim
 | row e k s p =>
   cases u <;> simp only [sameA,V.arg,V.atom,V.isJunk,Bool.false_or,Bool.or_self,Bool.false_eq_true] at h
   simp only [Bool.and_eq_true,decide_eq_true_eq] at h
   obtain ⟨⟨⟨h1,h2⟩,h3⟩,h4⟩:=h
   rw [h1,Nat.eq_of_beq_eq_true h2,Nat.eq_of_beq_eq_true h3,Nat.eq_of_beq_eq_true h4];exact hb
theorem sameAs_rep {A B:E} (hP:B.P = A.P) (hG:B.G = A.G) (hf:Fut A.Fz A.w B.Fz B.w) (hcv:∀ i v,A.cv i = some v→B.cv i = some v):∀ (vs us:List V) (xs:List Value),sameAs vs us = true→Pt (RepA A) vs xs→Pt (RepA B) us xs→Pt (RepA B) vs xs
 | [],us,xs,_,h,_=>h
 | v :: vs,[],xs,h,_,_=>by simp [sameAs] at h
 | v :: vs,u :: us,xs,h,⟨x,r,he,h1,h2⟩,⟨y,r',he',h3,h4⟩=>by
   subst he
   simp only [List.cons.injEq] at he'
   obtain ⟨rfl,rfl⟩:=he'
   simp only [sameAs,Bool.and_eq_true] at h
   exact ⟨x,r,rfl,sameA_rep hP hG hf hcv h.1 h1 h3,sameAs_rep hP hG hf hcv vs us r h.2 h2 h4⟩
theorem sameL_rep {A B:E} (hP:B.P = A.P) (hG:B.G = A.G) (hf:Fut A.Fz A.w B.Fz B.w) (hcv:∀ i v,A.cv i = some v→B.cv i = some v) {v u:V} {x:Value} (h:sameL v u = true) (ha:RepT A v x) (hb:RepT B u x):RepT B v x:=by
 by_cases hfn:∃ f vs g us,v = .fn f vs∧u = .fn g us
 · obtain ⟨f,vs,g,us,rfl,rfl⟩:=hfn
   simp only [sameL,Bool.and_eq_true] at h
   obtain ⟨xs,h1,h2⟩:=ha
   obtain ⟨ys,h3,h4⟩:=hb
   rw [h1] at h3
   have:xs = ys:=by
     simp only [Value.func.injEq,true_and] at h3
     have:=h3.2
     simpa using this
   subst this
   exact ⟨xs,h1,sameAs_rep hP hG hf hcv _ _ _ h.2 h2 h4⟩
 · have hs:sameA v u = true:=by
     cases v <;> cases u <;> first | exact h | exact absurd ⟨_,_,_,_,rfl,rfl⟩ hfn
   have hv:RepT A v x→RepA A v x:=by
     intro k
     cases v <;> first | exact k | (simp [sameA,V.arg,V.atom,V.isJunk] at hs;done)
   have hv2:RepA B v x→RepT B v x:=by
     intro k
     cases v <;> first | exact k | exact k.elim
   have hu:RepA B v x ∨ (RepT B u x→RepA B u x):=by
     cases u <;> first | (exact .inr fun k=>k) | skip
     all_goals
       left
       cases v <;> first
         | (exact sameA_rep (A:=A) (B:=B) (u:=.junk) hP hG hf hcv rfl (hv ha) trivial)
         | (simp [sameA,V.arg,V.atom,V.isJunk] at hs;done)
         | exact (hv ha).elim
         | skip
     all_goals
       obtain ⟨b,off,c,T,fz,cells,h1,h2,h3,h4,h5⟩:=hv ha
       exact ⟨b,off,c,T,fz,cells,h1,(hf b h2).1,(hf b h2).2.trans h3,by rw [hP,hG];exact RepP.mono hf _ _ h4,h5⟩
   rcases hu with h1 | h1
   · exact hv2 h1
   · exact hv2 (sameA_rep hP hG hf hcv hs (hv ha) (h1 hb))
end Go.Pv
