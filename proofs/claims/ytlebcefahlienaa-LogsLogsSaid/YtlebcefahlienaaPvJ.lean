/- The purifying layer, part 10: variables that are made and written. -/
import Derived.Test.YtlebcefahlienaaPvI
set_option linter.unusedVariables false
set_option linter.unusedSimpArgs false
namespace Go.Pv
variable {P:Program} {Γ:Cfg} {cx:Cx} {tm:Tm} {lk:Lk} {a:Act} {w:World} {Fz:Nat→Prop} {pos:Nat→Value} {U:Nat→Prop}
theorem collL_rep {A:E}:∀ (fs:List V) (q:D) (cs:List Value),collL fs = some q→All2 (RepF A) fs cs→RepC A.Fz A.w q.1 q.2 cs∧q.1.isAgg = true
 | [],q,cs,h,hc=>by
   simp only [collL,Option.some.injEq] at h;subst h
   exact ⟨hc,rfl⟩
 | v :: r,q,cs,h,⟨c1,c2,he,h1,h2⟩=>by
   cases v <;> simp only [collL] at h <;> try (simp at h;done)
   rename_i t x
   cases hr:collL r with
   | none=>rw [hr] at h;simp at h
   | some q' =>
     rw [hr] at h
     simp only [Option.some.injEq] at h;subst h
     exact ⟨⟨c1,c2,he,h1,(collL_rep r q' c2 hr h2).1⟩,rfl⟩
theorem coll_rep {A:E} {v:V} {u:Value} (h:RepT A v u):RepT A v.coll u:=by
 cases v <;> try exact h
 rename_i fs
 simp only [V.coll]
 cases hq:collL fs with
 | none=>exact h
 | some q =>
   obtain ⟨cs,rfl,hc⟩:=h
   obtain ⟨h1,h2⟩:=collL_rep fs q cs hq hc
   exact ⟨cs,h1,by simp [pack,h2]⟩
theorem collB_rep {A:E} {v:V} {cs:List Value} (h:RepB A v cs):RepB A v.coll cs:=by
 cases v <;> try exact h
 rename_i fs
 simp only [V.coll]
 cases hq:collL fs with
 | none=>exact h
 | some q=>exact (collL_rep fs q cs hq h).1
theorem repA_one {A:E} {v:V} {u:Value} (h:RepA A v u) (hj:v.isJunk = false) (hu:v ≠ .undef) (hd:∀ t x,v ≠ .dat t x):u.oneCell' = true:=by
 cases v <;> simp only [RepA] at h <;> try exact h.elim
 · exact absurd rfl (hd _ _)
 · simp [V.isJunk] at hj
 · exact absurd rfl hu
 · exact h.1
 · obtain ⟨b,off,c,T,fz,cells,rfl,_⟩:=h;rfl
 · exact h.1
 · rw [h];rfl
 · exact h.1
 · obtain ⟨f,fi,caps,rfl,_⟩:=h;rfl
 · rw [h];rfl
 · exact h.1
 · exact h.1
theorem val_cells {A:E} {v:V} {u:Value} (h:RepT A v u) (hi:v.isVal = true):RepB A v u.cells.toList:=by
 have hj:v.isJunk = false:=by cases v <;> simp_all [V.isVal,V.isJunk]
 have hu:v ≠ .undef:=by rintro rfl;simp [V.isVal] at hi
 have ht:∀ vs,v ≠ .tup vs:=by rintro vs rfl;simp [V.isVal] at hi
 have hone:∀ u:Value,u.oneCell' = true→u.cells.toList = [u]:=by intro u hu;cases u <;> simp_all [Value.oneCell',Value.cells]
 cases v
 case dat t x =>
   obtain ⟨cs,hc,rfl⟩:=h
   show RepC _ _ t x _
   rw [pack_cells hc];exact hc
 case agg fs =>
   obtain ⟨cs,rfl,hc⟩:=h
   simpa [RepB,Value.cells] using hc
 case tup vs=>exact absurd rfl (ht vs)
 case undef=>exact absurd rfl hu
 case junk=>simp [V.isJunk] at hj
 case fn f caps =>
   obtain ⟨us,rfl,hc⟩:=h
   exact ⟨_,by rfl,rfl,us,rfl,hc⟩
 all_goals
   simp only [RepT,RepG,RepL] at h
   have h1:=repA_one h hj hu (by simp)
   exact ⟨u,hone u h1,h1,h⟩
theorem nextS_pos {lk:Lk} {k:Nat}:0 < nextS lk k:=by unfold nextS;split <;> omega
theorem nextS_lt {lk:Lk} {k s:Nat} {o:Obj} (h:lk k = some (s,o)):s < nextS lk k:=by simp [nextS,h]
theorem Le.new (Fz:Nat→Prop) (w:World) (lk:Lk) (pos:Nat→Value) (k s:Nat) (o:Obj) (v:Value) (hs:∀ s0 o0,lk k = some (s0,o0)→s0 < s):Le (cx.e Fz w lk pos) (cx.e Fz w (updLk1 lk k s o) (updPos pos k v)):=by
 refine ⟨rfl,rfl,fun _ _ h=>h,fun _ _ h=>h,Fut.refl _ _,fun k' s' o' h=>?_⟩
 by_cases hk:k' = k
 · subst hk
   have:=hs s' o' h
   exact ⟨s,o,by simp [updLk1],Nat.le_of_lt this,fun e=>by omega⟩
 · exact ⟨s',o',by simpa [updLk1,hk] using h,Nat.le_refl _,fun _=>Ext.mk (Obj.alike_refl _) (by simp [updPos,hk])⟩
theorem RelIn.nilvec (r:RelIn cx tm lk a w Fz pos U) (k s:Nat) (e:Ty) (hs:∀ s0 o0,lk k = some (s0,o0)→s0 < s) (hp:0 < s:=by first | exact nextS_pos | omega):RelIn cx tm (updLk1 lk k s (.vec e [])) a w Fz (updPos pos k (.slice none 0 0)) U :=
 r.obj k s (.vec e []) (.slice none 0 0) (fun s0 o0 h=>⟨Nat.le_of_lt (hs s0 o0 h),fun e=>by have:=hs s0 o0 h;omega⟩) rfl rfl rfl (Nat.le_refl _) (fun _ _ _=>rfl) (fun b hb=>by simp [VB,vblk] at hb) (fun _=>.inl ⟨rfl,rfl⟩)
theorem nils_sl (cx:Cx) (Fz:Nat→Prop) (w:World) (lk:Lk) (pos:Nat→Value) (k s:Nat) (e:Ty):RepL (cx.e Fz w (updLk1 lk k s (.vec e [])) (updPos pos k (.slice none 0 0))) (.sl e k s) (.slice none 0 0) :=
 ⟨rfl,s,.vec e [],by simp [updLk1],Nat.le_refl _,fun _=>⟨rfl,by simp [updPos]⟩⟩
theorem RelIn.thawF (r:RelIn cx tm lk a w Fz pos U) (lk0:Lk) (k j:Nat) (heq:lk (subKey k j) = lk0 (subKey k j)) (v:V) (t:Option Ty) {cs:List Value} (hv:RepF (cx.e Fz w lk pos) v cs) :
   ∃ pos',RelIn cx tm (updLk (thawF lk0 k j v t).2 lk) a w Fz pos' U∧Le (cx.e Fz w lk pos) (cx.e Fz w (updLk (thawF lk0 k j v t).2 lk) pos')∧RepF (cx.e Fz w (updLk (thawF lk0 k j v t).2 lk) pos') (thawF lk0 k j v t).1 cs ∧
     ∀ x,x ≠ subKey k j→updLk (thawF lk0 k j v t).2 lk x = lk x∧pos' x = pos x:=by
 unfold Pv.thawF
 split
 · rename_i e
   have hs:∀ s0 o0,lk (subKey k j) = some (s0,o0)→s0 < nextS lk0 (subKey k j):=fun s0 o0 h=>nextS_lt (by rw [← heq];exact h)
   simp only [RepF] at hv
   obtain ⟨u,rfl,h1,h2⟩:=hv
   have hu:u = .slice none 0 0:=h2
   subst hu
   exact ⟨_,r.nilvec _ _ e hs,Le.new Fz w lk pos _ _ _ _ hs,⟨_,rfl,rfl,nils_sl cx Fz w lk pos _ _ e⟩,fun x hx=>⟨by simp [updLk,updLk1,hx],by simp [updPos,hx]⟩⟩
 · exact ⟨pos,r,⟨rfl,rfl,fun _ _ h=>h,fun _ _ h=>h,Fut.refl _ _,fun k s o h=>⟨s,o,h,Nat.le_refl _,fun _=>Ext.mk (Obj.alike_refl _) rfl⟩⟩,hv,fun x _=>⟨rfl,rfl⟩⟩
theorem Le.trans {A B C:E} (h:Le A B) (k:Le B C):Le A C :=
 ⟨k.P.trans h.P,k.G.trans h.G,fun i v hv=>k.cv i v (h.cv i v hv),fun i v hv=>k.sv i v (h.sv i v hv),h.fut.trans k.fut,fun x s o hx=>by
   obtain ⟨s1,o1,h1,h2,h3⟩:=h.lk x s o hx
   obtain ⟨s2,o2,g1,g2,g3⟩:=k.lk x s1 o1 h1
   refine ⟨s2,o2,g1,Nat.le_trans h2 g2,fun e=>?_⟩
   exact (h3 (by omega)).trans (g3 (by omega))⟩
theorem Le.refl (A:E):Le A A:=⟨rfl,rfl,fun _ _ h=>h,fun _ _ h=>h,Fut.refl _ _,fun k s o h=>⟨s,o,h,Nat.le_refl _,fun _=>Ext.mk (Obj.alike_refl _) rfl⟩⟩
theorem updLk_append:∀ (a b:List (Nat×Nat×Obj)) (lk:Lk),updLk (a ++ b) lk = updLk b (updLk a lk)
 | [],b,lk=>rfl
 | (k,s,o) :: r,b,lk=>updLk_append r b _
theorem RelIn.thawL:∀ (fs:List V) (ts:List (Option Ty)) (j:Nat) {lk:Lk} {pos:Nat→Value} (r:RelIn cx tm lk a w Fz pos U) (lk0:Lk) (k:Nat) (heq:∀ i,j ≤ i→lk (subKey k i) = lk0 (subKey k i)) {cs:List Value}
   (hv:All2 (RepF (cx.e Fz w lk pos)) fs cs),
   ∃ pos',RelIn cx tm (updLk (thawL lk0 k j fs ts).2 lk) a w Fz pos' U∧Le (cx.e Fz w lk pos) (cx.e Fz w (updLk (thawL lk0 k j fs ts).2 lk) pos')∧All2 (RepF (cx.e Fz w (updLk (thawL lk0 k j fs ts).2 lk) pos')) (thawL lk0 k j fs ts).1 cs ∧
     ∀ x,(∀ i,j ≤ i→x ≠ subKey k i)→updLk (thawL lk0 k j fs ts).2 lk x = lk x∧pos' x = pos x
 | v :: vs,t :: ts,j,lk,pos,r,lk0,k,heq,cs,⟨c1,c2,he,h1,h2⟩=>by
   subst he
   obtain ⟨pos1,r1,le1,f1,o1⟩:=r.thawF lk0 k j (heq j (Nat.le_refl _)) v t h1
   obtain ⟨pos2,r2,le2,f2,o2⟩:=RelIn.thawL vs ts (j + 1) r1 lk0 k (fun i hi=>by
     rw [(o1 (subKey k i) (by unfold subKey;omega)).1];exact heq i (by omega)) (All2.mono (RepF.mono le1) _ _ h2)
   simp only [Pv.thawL,updLk_append]
   exact ⟨pos2,r2,le1.trans le2,⟨c1,c2,rfl,RepF.mono le2 _ _ f1,f2⟩,fun x hx=>by
     obtain ⟨p1,p2⟩:=o1 x (hx j (Nat.le_refl _))
     obtain ⟨q1,q2⟩:=o2 x (fun i hi=>hx i (by omega))
     exact ⟨q1.trans p1,q2.trans p2⟩⟩
 | [],ts,j,lk,pos,r,lk0,k,heq,cs,hv=>by
   exact ⟨pos,r,Le.refl _,hv,fun _ _=>⟨rfl,rfl⟩⟩
 | v :: vs,[],j,lk,pos,r,lk0,k,heq,cs,hv=>by
   exact ⟨pos,r,Le.refl _,hv,fun _ _=>⟨rfl,rfl⟩⟩
theorem repB_F {A:E} {v:V} {cs:List Value} (h:∀ fs,v ≠ .agg fs):RepB A v cs ↔ RepF A v cs:=by
 cases v <;> first | exact Iff.rfl | exact absurd rfl (h _)
theorem thawF_noagg {lk:Lk} {k j:Nat} {v:V} {t:Option Ty} (h:∀ fs,v ≠ .agg fs):∀ fs,(thawF lk k j v t).1 ≠ .agg fs:=by
 unfold thawF;split
 · intro fs h;cases h
 · exact h
theorem RelIn.thawK (r:RelIn cx tm lk a w Fz pos U) (k:Nat) (sh:K) (v:V) {cs:List Value} (hv:RepB (cx.e Fz w lk pos) v cs) :
   ∃ pos',RelIn cx tm (updLk (thawK lk k sh v).2 lk) a w Fz pos' U∧Le (cx.e Fz w lk pos) (cx.e Fz w (updLk (thawK lk k sh v).2 lk) pos')∧RepB (cx.e Fz w (updLk (thawK lk k sh v).2 lk) pos') (thawK lk k sh v).1 cs ∧
     ∀ x,(∀ i,x ≠ subKey k i)→updLk (thawK lk k sh v).2 lk x = lk x∧pos' x = pos x:=by
 by_cases hag:∃ fs,v = .agg fs
 · obtain ⟨fs,rfl⟩:=hag
   obtain ⟨pos',h1,h2,h3,h4⟩:=RelIn.thawL fs sh.fields 0 r lk k (fun _ _=>rfl) hv
   exact ⟨pos',h1,h2,h3,fun x hx=>h4 x (fun i _=>hx i)⟩
 · have hna:∀ fs,v ≠ .agg fs:=fun fs h=>hag ⟨fs,h⟩
   have hth:Pv.thawK lk k sh v = (match sh with | .d t=>Pv.thawF lk k 0 v (some t) | _=>(v,[])):=by
     cases v <;> first | exact absurd rfl (hna _) | rfl
   rw [hth]
   cases sh with
   | d t =>
     obtain ⟨pos',h1,h2,h3,h4⟩:=r.thawF lk k 0 rfl v (some t) ((repB_F hna).1 hv)
     exact ⟨pos',h1,h2,(repB_F (thawF_noagg hna)).2 h3,fun x hx=>h4 x (hx 0)⟩
   | leaf=>exact ⟨pos,r,Le.refl _,hv,fun _ _=>⟨rfl,rfl⟩⟩
   | st ks=>exact ⟨pos,r,Le.refl _,hv,fun _ _=>⟨rfl,rfl⟩⟩
theorem RelIn.newObj (r:RelIn cx tm lk a w Fz pos U) (k s:Nat) (o:Obj) (ob:Go.Obj) (v:Value) (hs:∀ s0 o0,lk k = some (s0,o0)→s0 < s) (hv:∀ b,VB v b→b = w.heap.size)
   (hrep:Le (cx.e Fz w lk pos) (cx.e Fz (w.alloc ob) (updLk1 lk k s o) (updPos pos k v))→RepO (cx.e Fz (w.alloc ob) (updLk1 lk k s o) (updPos pos k v)) o v) (hgh:∀ t run x,o ≠ .gh t run x:=by intro _ _ _ h;cases h) (hp:0 < s:=by first | exact nextS_pos | omega) :
   RelIn cx tm (updLk1 lk k s o) a (w.alloc ob) Fz (updPos pos k v) U:=by
 refine r.obj k s o v (fun s0 o0 h=>⟨Nat.le_of_lt (hs s0 o0 h),fun e=>by have:=hs s0 o0 h;omega⟩) rfl rfl rfl (by simp) (fun b hb _=>?_) (fun b hb=>.inr ?_) hrep hgh
 · exact Go.RowKit.Below.heap_alloc w ob b hb
 · exact Nat.le_of_eq (hv b hb).symm
theorem heap_alloc_at (w:World) (ob:Go.Obj):(w.alloc ob).heap[w.heap.size]? = some ob:=by
 show (w.heap.push ob)[w.heap.size]? = _
 simp
theorem updLk1_self (lk:Lk) (k s:Nat) (o:Obj):updLk1 lk k s o k = some (s,o):=by simp [updLk1]
theorem Ok.box {o:Oper} {T:TypeId} {d:Nat} {sh:K} {v:V} {cells:Array Value} (r:RelIn cx tm lk a w Fz pos U) (hd:o.dst = some d) (hrun:(execOp a.eval o).run P w = .ok (.value (.pointer (some ⟨w.heap.size,0,none⟩))) (w.alloc (.cells cells T)))
   (hv:RepB (cx.e Fz w lk pos) v cells.toList) {e:Eff} (he:evBox lk d sh v some = some e):Ok P cx tm lk o a w e:=by
 unfold evBox at he
 obtain ⟨pos1,r1,le1,f1,o1⟩:=r.thawK d sh v hv
 generalize thawK lk d sh v = th at he r1 le1 f1 o1
 obtain ⟨c,wr⟩:=th
 simp only at he r1 le1 f1 o1
 split at he
 · rename_i hfit
   simp only [Option.some.injEq] at he
   subst he
   have hns:∀ s0 o0,updLk wr lk d = some (s0,o0)→s0 < nextS lk d:=by
     intro s0 o0 h
     rw [(o1 d (fun i=>by unfold subKey;omega)).1] at h
     exact nextS_lt h
   have r2:=r1.newObj d (nextS lk d) (.box sh c) (.cells cells T) (.pointer (some ⟨w.heap.size,0,none⟩)) hns (fun b h=>(Option.some.inj h).symm)
     (fun hle=>⟨hfit,w.heap.size,cells,T,rfl,heap_alloc_at w _,RepB.mono hle _ _ f1⟩)
   refine .inl ⟨_,_,hrun,Fz,updPos pos1 d (.pointer (some ⟨w.heap.size,0,none⟩)),U,?_⟩
   have:=r2.value o.dst (v:=.ref d (nextS lk d) []) (u:=.pointer (some ⟨w.heap.size,0,none⟩))
     (by
       refine ⟨rfl,nextS lk d,.box sh c,updLk1_self _ _ _ _,Nat.le_refl _,fun _=>⟨0,⟨w.heap.size,0,none⟩,?_,?_,rfl⟩⟩
       · cases sh <;> simp [Obj.off,K.at,Ty.at]
       · simp [updPos,vaddr])
   simpa [updLk_append,updLk] using this
 · simp at he
theorem ok_box {o:Oper} {T:TypeId} {x:Operand} {d:Nat} {ti:TI} (ho:o.op = .box T x) (hd:o.dst = some d) (hΓ:CfgOk P Γ) (hT:Γ.ty T = some ti) (r:RelIn cx tm lk a w Fz pos U) (hg:cx.G = Γ.glob) (hj:(Γ.val tm x).isVal = true)
   {e:Eff} (he:evBox lk d ti.k (Γ.val tm x).coll some = some e):Ok P cx tm lk o a w e:=by
 have hx:=val_rep r hg x
 have hB:=collB_rep (val_cells hx hj)
 refine Ok.box (T:=T) (cells:=(a.eval x).cells) r hd ?_ hB he
 unfold execOp
 simp [ho,Instr.box,newVar,newRow]
theorem zfields_rep (A:E):∀ t:Ty,t.isChain = true→All2 (RepF A) (t.fields.map fun u=>zeroF (some u)) t.zcells
 | .unit,_=>rfl
 | .pair x y,h=>⟨x.zcells,y.zcells,rfl,by
     unfold zeroF
     cases x <;> first | exact zero_rep _ | exact ⟨.slice none 0 0,rfl,rfl,rfl⟩,zfields_rep A y h⟩
 | .int _,h=>by simp [Ty.isChain] at h
 | .bool,h=>by simp [Ty.isChain] at h
 | .str,h=>by simp [Ty.isChain] at h
 | .lst _,h=>by simp [Ty.isChain] at h
 | .arr _ _,h=>by simp [Ty.isChain] at h
 | .map _ _,h=>by simp [Ty.isChain] at h
theorem zst_rep (A:E):∀ (ks:List (Option Ty)) (cs:List Value),All2 zOk ks cs→All2 (RepF A) (ks.map zeroF) cs
 | [],_,h=>h
 | k :: ks,cs,⟨c1,c2,he,h1,h2⟩=>⟨c1,c2,he,by
     cases k with
     | none=>obtain ⟨u,rfl,hu⟩:=h1;exact ⟨u,rfl,hu,trivial⟩
     | some t =>
       have h1:c1 = t.zcells:=h1
       subst h1
       unfold zeroF
       cases t <;> first | exact zero_rep _ | exact ⟨.slice none 0 0,rfl,rfl,rfl⟩,zst_rep A ks c2 h2⟩
theorem alike_of:∀ (t u:Ty),t.alike u = true→t.size = u.size∧t.zcells = u.zcells
 | .lst _,u,h=>by cases u <;> first | exact ⟨rfl,rfl⟩ | cases h
 | .pair a b,u,h=>by
   cases u <;> try cases h
   rename_i c d
   simp only [Ty.alike,Bool.and_eq_true] at h
   obtain ⟨h1,h2⟩:=alike_of a c h.1
   obtain ⟨h3,h4⟩:=alike_of b d h.2
   exact ⟨by simp only [Ty.size,h1,h3],by simp only [Ty.zcells,h2,h4]⟩
 | .arr n a,u,h=>by
   cases u <;> try cases h
   rename_i m b
   simp only [Ty.alike,Bool.and_eq_true,decide_eq_true_eq] at h
   obtain ⟨h1,h2⟩:=alike_of a b h.2
   exact ⟨by simp only [Ty.size,h1,h.1],by simp only [Ty.zcells,h2,h.1]⟩
 | .int k,u,h=>by simp only [Ty.alike,decide_eq_true_eq] at h;subst h;exact ⟨rfl,rfl⟩
 | .bool,u,h=>by simp only [Ty.alike,decide_eq_true_eq] at h;subst h;exact ⟨rfl,rfl⟩
 | .str,u,h=>by simp only [Ty.alike,decide_eq_true_eq] at h;subst h;exact ⟨rfl,rfl⟩
 | .unit,u,h=>by simp only [Ty.alike,decide_eq_true_eq] at h;subst h;exact ⟨rfl,rfl⟩
 | .map k v,u,h=>by simp only [Ty.alike,decide_eq_true_eq] at h;subst h;exact ⟨rfl,rfl⟩
theorem alike_chain:∀ (t u:Ty),t.alike u = true→t.isChain = u.isChain
 | .pair a b,u,h=>by
   cases u <;> try cases h
   rename_i c d
   simp only [Ty.alike,Bool.and_eq_true] at h
   simp only [Ty.isChain,alike_chain b d h.2]
 | .lst _,u,h=>by cases u <;> first | rfl | cases h
 | .arr n a,u,h=>by cases u <;> first | rfl | cases h
 | .int k,u,h=>by simp only [Ty.alike,decide_eq_true_eq] at h;subst h;rfl
 | .bool,u,h=>by simp only [Ty.alike,decide_eq_true_eq] at h;subst h;rfl
 | .str,u,h=>by simp only [Ty.alike,decide_eq_true_eq] at h;subst h;rfl
 | .unit,u,h=>by simp only [Ty.alike,decide_eq_true_eq] at h;subst h;rfl
 | .map k v,u,h=>by simp only [Ty.alike,decide_eq_true_eq] at h;subst h;rfl
theorem partOf_or (t:Ty):∀ l:List Ty,t.partOf l = t ∨ t.alike (t.partOf l) = true
 | []=>.inl rfl
 | u :: r=>by
   have ih:=partOf_or t r
   cases u <;> simp only [Ty.partOf] <;> try exact ih
   rename_i e
   cases ha:t.alike e with
   | true=>exact .inr ha
   | false=>exact ih
theorem zero_B0 (A:E) {t:Ty} (hch:t.fields ≠ []→t.isChain = true):RepB A (K.d t).zero t.zcells:=by
 unfold K.zero
 split
 · rename_i heq;cases heq;exact ⟨.slice none 0 0,rfl,rfl,rfl⟩
 · rename_i t' hn heq
   cases heq
   split
   · rename_i hl
     exact zfields_rep A t (hch (by intro h0;simp [Ty.hasLst,h0] at hl))
   · exact zero_rep t
 · rename_i heq;cases heq
 · rename_i heq;cases heq
theorem zero_B (hΓ:CfgOk P Γ) {T:TypeId} {ti:TI} (hT:Γ.ty T = some ti) (A:E) {cs:List Value} (h:ZeroOk ti.k cs):RepB A ti.k.zero cs:=by
 have hch:∀ t,ti.k = .d t→t.fields ≠ []→t.isChain = true:=by
   intro t ht hne
   have hd:=(hΓ.ty T ti hT).desc
   unfold DescOk at hd
   split at hd
   · rw [hd.2] at ht;cases ht;simp [Ty.fields] at hne
   · rw [hd.2] at ht;cases ht;simp [Ty.fields] at hne
   · rw [hd.2] at ht;cases ht;simp [Ty.fields] at hne
   · rcases hd.2 with h | ⟨et,h,_⟩ <;> rw [h] at ht <;> cases ht
     simp [Ty.fields] at hne
   · obtain ⟨fields,_,_,_,h,_⟩:=hd;exact h t ht
   · obtain ⟨_,et,h,_⟩:=hd;rw [h] at ht;cases ht;simp [Ty.fields] at hne
   · rw [hd.2] at ht;cases ht
   · rw [hd.2] at ht;cases ht
 cases hk:ti.k with
 | leaf =>
   rw [hk] at h
   obtain ⟨u,rfl,hu⟩:=h
   exact ⟨u,rfl,hu,trivial⟩
 | st ks=>rw [hk] at h;exact zst_rep A ks cs h
 | d t =>
   rw [hk] at h
   have h:cs = t.zcells:=h
   subst h
   unfold K.zero
   split
   · rename_i heq;cases heq;exact ⟨.slice none 0 0,rfl,rfl,rfl⟩
   · rename_i t' hn heq
     cases heq
     split
     · rename_i hl
       exact zfields_rep A t (hch t hk (by intro h0;simp [Ty.hasLst,h0] at hl))
     · exact zero_rep t
   · rename_i heq;cases heq
   · rename_i heq;cases heq
theorem nilF_B {A:E} {v:V} {t:Option Ty} {cs:List Value} (h:RepF A v cs):RepF A (nilF v t) cs:=by
 unfold nilF
 split
 · obtain ⟨u,rfl,_,hu⟩:=h
   have hu:u = .slice none 0 0:=hu
   rw [hu]
   exact ⟨none,0,0,[],rfl,rfl,Nat.le_refl _,rfl,.inl ⟨rfl,rfl⟩⟩
 · exact h
theorem nilL_B {A:E}:∀ (vs:List V) (ts:List (Option Ty)) (cs:List Value),All2 (RepF A) vs cs→All2 (RepF A) (nilL vs ts) cs
 | v :: vs,t :: ts,cs,⟨c1,c2,he,h1,h2⟩=>⟨c1,c2,he,nilF_B h1,nilL_B vs ts c2 h2⟩
 | [],_,_,h=>by simpa [nilL] using h
 | _ :: _,[],_,h=>by simpa [nilL] using h
theorem nilK_B {A:E} {k:K} {v:V} {cs:List Value} (h:RepB A v cs):RepB A (nilK k v) cs:=by
 unfold nilK
 split
 · have h':RepF A (nilF .nils k.asTy') cs:=nilF_B h
   refine (repB_F fun fs hfs=>?_).2 h'
   revert hfs
   unfold nilF
   split <;> simp
 · exact nilL_B _ _ _ h
 · exact h
theorem zero_P (hΓ:CfgOk P Γ) {T:TypeId} {ti:TI} (hT:Γ.ty T = some ti) (A:E) {cs:List Value} (h:ZeroOk ti.k cs) (b:Bool):RepB A (bif b then ti.k.part else ti.k).zero cs:=by
 cases b with
 | false=>exact zero_B hΓ hT A h
 | true =>
   show RepB A ti.k.part.zero cs
   cases hk:ti.k with
   | leaf=>have:=zero_B hΓ hT A h;rw [hk] at this;exact this
   | st ks=>have:=zero_B hΓ hT A h;rw [hk] at this;exact this
   | d t =>
     show RepB A (K.d (t.partOf t.fields)).zero cs
     rcases partOf_or t t.fields with h1 | h1
     · rw [h1];have:=zero_B hΓ hT A h;rw [hk] at this;exact this
     · rw [hk] at h
       have h:cs = t.zcells:=h
       rw [h,(alike_of _ _ h1).2]
       refine zero_B0 A fun hne=>?_
       rw [← alike_chain _ _ h1]
       have hd:=(hΓ.ty T ti hT).desc
       unfold DescOk at hd
       split at hd
       · rw [hd.2] at hk;cases hk;exact absurd rfl hne
       · rw [hd.2] at hk;cases hk;exact absurd rfl hne
       · rw [hd.2] at hk;cases hk;exact absurd rfl hne
       · rcases hd.2 with h | ⟨et,h,_⟩ <;> rw [h] at hk <;> cases hk
         exact absurd rfl hne
       · obtain ⟨fields,_,_,_,h,_⟩:=hd;exact h t hk
       · obtain ⟨_,et,h,_⟩:=hd;rw [h] at hk;cases hk
         exact absurd rfl hne
       · rw [hd.2] at hk;cases hk
       · rw [hd.2] at hk;cases hk
theorem ok_alloc {o:Oper} {T:TypeId} {d:Nat} {ti:TI} (ho:o.op = .alloc T) (hd:o.dst = some d) (hΓ:CfgOk P Γ) (hT:Γ.ty T = some ti) (r:RelIn cx tm lk a w Fz pos U)
   {b:Bool} {e:Eff} (he:evBox lk d (alK Γ ti.k d) (bif b then nilK (alK Γ ti.k d) (alK Γ ti.k d).zero else (alK Γ ti.k d).zero) some = some e):Ok P cx tm lk o a w e:=by
 obtain ⟨i,hi,his,hib,z,hz,hzo,hza,_⟩:=(hΓ.ty T ti hT).info
 have hz0:RepB (cx.e Fz w lk pos) (alK Γ ti.k d).zero z.cells.toList:=zero_P hΓ hT (cx.e Fz w lk pos) hzo _
 refine Ok.box (T:=T) (cells:=z.cells) r hd ?_ (v:=bif b then nilK (alK Γ ti.k d) (alK Γ ti.k d).zero else (alK Γ ti.k d).zero) (by cases b <;> first | exact hz0 | exact nilK_B hz0) he
 unfold execOp
 simp [ho,Instr.alloc,newVar,newRow,zeroValue,typeInfo,hi,hz]
theorem ok_assign_nils {o:Oper} {x:Operand} {d:Nat} (ho:o.op = .assign x) (hd:o.dst = some d) (r:RelIn cx tm lk a w Fz pos U) (hg:cx.G = Γ.glob) (hx:Γ.val tm x = .nils) (e:Ty) :
   Ok P cx tm lk o a w { val:=.sl e d (nextS lk d),wr:=[(d,nextS lk d,.vec e [])] }:=by
 have h1:=val_rep r hg x
 rw [hx] at h1
 have h1:a.eval x = .slice none 0 0:=h1
 have r2:=r.nilvec d (nextS lk d) e (fun s0 o0 h=>nextS_lt h)
 refine .inl ⟨.slice none 0 0,w,?_,Fz,_,U,r2.value o.dst (nils_sl cx Fz w lk pos d _ e)⟩
 unfold execOp
 simp [ho,h1]
theorem RelIn.store (r:RelIn cx tm lk a w Fz pos U) {k s:Nat} {ob ob':Obj} (hlk:lk k = some (s,ob)) (hal:ob.alike ob') {b:Nat} {old new:Array Value} {T:TypeId} (hb:VB (pos k) b) (hh:w.heap[b]? = some (.cells old T (0,0)))
   (hrep:Le (cx.e Fz w lk pos) (cx.e Fz (w.setRow b new) (updLk1 lk k s ob') (updPos pos k (pos k)))→RepO (cx.e Fz (w.setRow b new) (updLk1 lk k s ob') (updPos pos k (pos k))) ob' (pos k)) (hgh:∀ t run x,ob' ≠ .gh t run x:=by intro _ _ _ h;cases h) :
   RelIn cx tm (updLk1 lk k s ob') a (w.setRow b new) Fz (updPos pos k (pos k)) U:=by
 refine r.obj k s ob' (pos k) (fun s0 o0 h=>?_) rfl rfl rfl (by simp) (fun b' hb' hne=>?_) (fun b' hb'=>.inl ⟨s,ob,hlk,hb'⟩) hrep hgh
 · rw [hlk] at h;simp only [Option.some.injEq,Prod.mk.injEq] at h
   obtain ⟨rfl,rfl⟩:=h
   exact ⟨Nat.le_refl _,fun _=>Ext.mk hal rfl⟩
 · refine setRow_other w b b' new (fun h=>hne ?_)
   exact h ▸ hb
theorem run_store_at {T:TypeId} {b o:Nat} {cur:Array Value} {T':TypeId} {w:World} {v:Value} (hh:w.heap[b]? = some (.cells cur T' (0,0))) (hsz:(sizeOf T).run P w = .ok v.cells.size w)
   (hle:o + v.cells.size ≤ cur.size) (hone:∀ u ∈ v.cells.toList,u.oneCell' = true) :
   (Instr.storeAt T (.pointer (some ⟨b,o,none⟩)) v).run P w = .ok () (w.setRow b (seg cur.toList o v.cells.toList).toArray):=by
 have h:=run_storeCells_at P b o T' v.cells.toList 0 cur w hh (by simpa using hle) hone
 simp only [Nat.add_zero] at h
 simp [Instr.storeAt,Instr.sureAddr,storeVar,hsz,h,seg]
theorem size_run (hΓ:CfgOk P Γ) {T:TypeId} {ti:TI} (hT:Γ.ty T = some ti) (w:World):(sizeOf T).run P w = .ok ti.k.size w:=by
 obtain ⟨i,hi,his,_⟩:=(hΓ.ty T ti hT).info
 simp [sizeOf,typeInfo,hi,his]
theorem prefix_seg {cs c d:List Value} {o m:Nat} (h:cs <+: c.drop o) (hl:m + d.length ≤ cs.length) (ho:o ≤ c.length):seg cs m d <+: (seg c (o + m) d).drop o:=by
 obtain ⟨t,ht⟩:=h
 have hc:c = c.take o ++ (cs ++ t):=by rw [ht,List.take_append_drop]
 have hlo:(c.take o).length = o:=by simp;omega
 rw [hc]
 have h1:=seg_right (c.take o) (cs ++ t) m d
 rw [hlo] at h1
 rw [h1,seg_left _ _ _ _ hl]
 rw [List.drop_left' hlo]
 exact List.prefix_append _ _
theorem ok_store {o:Oper} {T:TypeId} {x y:Operand} (ho:o.op = .store T x y) (hΓ:CfgOk P Γ) (r:RelIn cx tm lk a w Fz pos U) (hg:cx.G = Γ.glob) {e:Eff}
   (he:evStore Γ lk T (Γ.val tm x) (Γ.val tm y) some = some e):Ok P cx tm lk o a w e:=by
 have hv:=val_rep r hg x
 have hy:=val_rep r hg y
 have hrun:∀ w',(Instr.storeAt T (a.eval x) (a.eval y)).run P w = .ok () w'→(execOp a.eval o).run P w = .ok .skip w':=by
   intro w' hu;unfold execOp;simp [ho,hu]
 unfold evStore at he
 generalize Γ.val tm x = vx at he hv
 generalize Γ.val tm y = vy at he hy
 cases vx <;> simp only at he <;> try (simp at he;done)
 rename_i k s p
 obtain ⟨_,s',ob,hlk,hle,hval⟩:=hv
 have hlk':lk k = some (s',ob):=hlk
 rw [hlk'] at he
 cases ob <;> (try simp only at he) <;> try (simp at he;done)
 case box sh c =>
   split at he
   · rename_i hs
     subst hs
     obtain ⟨d,ad,hoff,had,hval⟩:=hval rfl
     unfold evStoreBox at he
     cases hat:K.at p sh with
     | none=>simp [Obj.off,hat] at hoff
     | some q =>
       obtain ⟨o1,k'⟩:=q
       rw [K.tyAt_of _ _ _ _ hat] at he
       simp only at he
       split at he
       · rename_i hok
         simp only [Bool.and_eq_true] at hok
         obtain ⟨⟨hok,hisv⟩,hfx⟩:=hok
         obtain ⟨ti,hT,hk1,hk2⟩:=okSize_iff hok
         have hd:d = o1:=by simp only [Obj.off,hat,Option.map_some,Option.some.injEq] at hoff;exact hoff.symm
         subst hd
         have hB:=collB_rep (val_cells hy hisv)
         have hthaw:∃ pos',RelIn cx tm (updLk (thawS lk k p k' vy.coll).2 lk) a w Fz pos' U∧Le (cx.e Fz w lk pos) (cx.e Fz w (updLk (thawS lk k p k' vy.coll).2 lk) pos') ∧
             RepB (cx.e Fz w (updLk (thawS lk k p k' vy.coll).2 lk) pos') (thawS lk k p k' vy.coll).1 (a.eval y).cells.toList ∧
               ∀ z,(∀ i,z ≠ subKey k i)→updLk (thawS lk k p k' vy.coll).2 lk z = lk z∧pos' z = pos z:=by
           unfold thawS
           split
           · rename_i j
             by_cases hag:∃ fs,vy.coll = .agg fs
             · obtain ⟨fs,hfs⟩:=hag
               rw [hfs]
               rw [hfs] at hB
               exact ⟨pos,r,Le.refl _,hB,fun _ _=>⟨rfl,rfl⟩⟩
             · have hna:∀ fs,vy.coll ≠ .agg fs:=fun fs h=>hag ⟨fs,h⟩
               obtain ⟨pos',h1,h2,h3,h4⟩:=r.thawF lk k j rfl vy.coll k'.asTy ((repB_F hna).1 hB)
               exact ⟨pos',h1,h2,(repB_F (thawF_noagg hna)).2 h3,fun z hz=>h4 z (hz j)⟩
           · exact r.thawK k k' vy.coll hB
         obtain ⟨pos1,r1,le1,f1,o1⟩:=hthaw
         generalize thawS lk k p k' vy.coll = th at he r1 le1 f1 o1 hfx
         obtain ⟨x',wr⟩:=th
         simp only at he r1 le1 f1 o1 hfx
         cases hup:V.upd x' p c with
         | none=>rw [hup] at he;simp at he
         | some c' =>
           rw [hup] at he
           simp only at he
           split at he
           · rename_i hfit'
             simp only [Option.some.injEq] at he
             subst he
             obtain ⟨hlk1,hpos1⟩:=o1 k (fun i=>by unfold subKey;omega)
             rw [hlk'] at hlk1
             obtain ⟨hfit,b,cells,T',hpos,hb,hBc⟩:=r1.objs k s _ hlk1
             have had':vaddr (pos k) = some ad:=had
             rw [← hpos1,hpos] at had'
             simp only [vaddr,Option.some.injEq] at had'
             subst had'
             have hcs:=(repB_value hfx f1)
             obtain ⟨g1,g2⟩:d + k'.size ≤ cells.toList.length∧cells.toList.length = sh.size:=by
               have:=(repB_value hfit hBc).1
               refine ⟨?_,this⟩
               rw [this]
               exact K_at_le p sh d k' hat
             have hszv:(a.eval y).cells.size = k'.size:=by have:=hcs.1;simpa using this
             have hst:=run_store_at (P:=P) (T:=T) (b:=b) (o:=d) (v:=a.eval y) hb (by rw [size_run hΓ hT,hk1,hszv]) (by simp at g1;omega) hcs.2.1
             have r2:=r1.store (ob':=.box sh c') hlk1 rfl (new:=(seg cells.toList d (a.eval y).cells.toList).toArray) (by rw [hpos];exact rfl) hb
               (fun hle2=>⟨hfit',b,_,T',hpos,setRow_heap w b cells _ T' _ hb,by
                 have:=upd_rep (A:=cx.e Fz w (updLk wr lk) pos1) hfit hat hfx hup hfit' hBc f1
                 simpa using RepB.mono hle2 _ _ this⟩)
             refine .inr (.inl ⟨_,hrun _ (by rw [hval];simpa using hst),Fz,updPos pos1 k (pos1 k),U,?_⟩)
             have:=r2.value o.dst (v:=.junk) (u:=undef) trivial
             simpa [updLk_append,updLk] using this
           · simp at he
       · simp at he
   · simp at he
 case vec e' xs =>
   split at he
   · rename_i hs
     subst hs
     obtain ⟨d,ad,hoff,had,hval⟩:=hval rfl
     cases p with
     | nil=>simp at he
     | cons i p =>
       cases hcl:vy.coll <;> rw [hcl] at he <;> simp only at he <;> try (simp at he;done)
       rename_i u z
       cases hat:Ty.at p e' with
       | none=>simp [Obj.off,hat] at hoff
       | some q =>
         obtain ⟨o1,t⟩:=q
         rw [Ty.tyAt_of _ _ _ _ hat] at he
         cases hset:Ty.set u z p e' (xs.getD i e'.zero) with
         | none=>rw [hset] at he;simp at he
         | some z' =>
           rw [hset] at he
           simp only at he
           split at he
           · rename_i hok
             split at he
             · rename_i hi
               simp only [Option.some.injEq] at he
               subst he
               simp only [Bool.and_eq_true,decide_eq_true_eq] at hok
               obtain ⟨ti,hT,hk1,hk2⟩:=okSize_iff hok.1
               have hd:d = i * e'.size + o1:=by simp only [Obj.off,hat,Option.map_some,Option.some.injEq] at hoff;exact hoff.symm
               subst hd
               have hR:=r.objs k s _ hlk'
               simp only [RepO] at hR
               rcases hR with ⟨_,hxs⟩ | ⟨b,off,cap,cells,T',hpos,hb,hc1,hc2,hc3,cs,hall,hpre⟩
               · subst hxs;simp at hi
               · have hyc:=coll_rep hy
                 rw [hcl] at hyc
                 obtain ⟨dc,hdc,hyv⟩:=hyc
                 have hycells:(a.eval y).cells.toList = dc:=by rw [hyv];exact pack_cells hdc
                 have had':vaddr (pos k) = some ad:=had
                 rw [hpos] at had'
                 simp only [vaddr,Option.some.injEq] at had'
                 subst had'
                 obtain ⟨k1,k2⟩:=getD_rep hall hi
                 obtain ⟨m1,m2⟩:=set_rep u z dc hdc p e' _ z' o1 t hset hat _ k1
                 subst m1
                 have hds:dc.length = u.size:=hdc.size
                 have hat2:=set_rep.at_le p e' o1 u hat
                 have hseg:=All2.set (fun x cs hx=>RepC.size e' x cs hx) xs cs hall i z' _ hi m2
                 have e1:cs.take (i * e'.size) ++ seg ((cs.drop (i * e'.size)).take e'.size) o1 dc ++ cs.drop (i * e'.size + e'.size) = seg cs (i * e'.size + o1) dc:=by
                   have hcs:cs = cs.take (i * e'.size) ++ ((cs.drop (i * e'.size)).take e'.size ++ cs.drop (i * e'.size + e'.size)):=by
                     rw [← List.drop_drop,List.take_append_drop,List.take_append_drop]
                   have hl1:(cs.take (i * e'.size)).length = i * e'.size:=by simp;omega
                   have hl2:((cs.drop (i * e'.size)).take e'.size).length = e'.size:=by simp;omega
                   conv=>rhs;rw [hcs]
                   have:=seg_right (cs.take (i * e'.size)) ((cs.drop (i * e'.size)).take e'.size ++ cs.drop (i * e'.size + e'.size)) o1 dc
                   rw [hl1] at this
                   rw [this,seg_left _ _ _ _ (by omega)]
                   simp
                 rw [e1] at hseg
                 have hlen:cs.length ≤ cells.toList.length - off:=by
                   obtain ⟨tl,ht⟩:=hpre
                   have:=congrArg List.length ht
                   simp at this
                   simp;omega
                 have hcl2:off + (i * e'.size + o1) + dc.length ≤ cells.size:=by simp at hlen;omega
                 have hsz:(a.eval y).cells.size = u.size:=by rw [← hds,← hycells];simp
                 have hst:=run_store_at (P:=P) (T:=T) (b:=b) (o:=off + (i * e'.size + o1)) (v:=a.eval y) hb (by rw [size_run hΓ hT,hk1,hsz];rfl) (by omega) (by rw [hycells];exact hdc.one)
                 have r2:=r.store (ob':=.vec e' (xs.set i z')) hlk' rfl (new:=(seg cells.toList (off + (i * e'.size + o1)) (a.eval y).cells.toList).toArray) (by rw [hpos];exact rfl) hb
                   (fun hle2=>.inr ⟨b,off,cap,_,T',by rw [hpos];simp,setRow_heap w b cells _ T' _ hb,by simpa using hc1,hc2,by rw [hycells];simpa [seg_length _ _ _ (show off + (i * e'.size + o1) + dc.length ≤ cells.toList.length by simpa using hcl2)] using hc3,_,
                     All2.mono (fun x cs hx=>hx.mono hle2.fut) _ _ hseg,by rw [hycells];simpa using prefix_seg hpre (by omega) (by simp;omega)⟩)
                 refine .inr (.inl ⟨_,hrun _ (by rw [hval];simpa using hst),Fz,updPos pos k (pos k),U,?_⟩)
                 have:=r2.value o.dst (v:=.junk) (u:=undef) trivial
                 simpa [updLk] using this
             · simp at he
           · simp at he
   · simp at he
where
 K_at_le:∀ (p:List Nat) (sh:K) (o:Nat) (k:K),K.at p sh = some (o,k)→o + k.size ≤ sh.size:=by
   intro p sh o k h
   cases sh with
   | d t =>
     simp only [K.at,Option.map_eq_some_iff] at h
     obtain ⟨⟨o2,u2⟩,g1,g2⟩:=h
     simp only [Prod.mk.injEq] at g2
     obtain ⟨rfl,rfl⟩:=g2
     exact set_rep.at_le p t o2 u2 g1
   | leaf=>cases p with
     | nil=>simp [K.at] at h;obtain ⟨rfl,rfl⟩:=h;simp
     | cons j p=>simp [K.at] at h
   | st ks=>cases p with
     | nil=>simp [K.at] at h;obtain ⟨rfl,rfl⟩:=h;simp
     | cons j p =>
       simp only [K.at] at h
       cases hff:ffield ks j with
       | none=>rw [hff] at h;simp at h
       | some z =>
         obtain ⟨o2,ft⟩:=z
         rw [hff] at h
         have:=ff_le ks j o2 ft hff
         cases ft with
         | none =>
           simp only at h
           split at h
           · simp only [Option.some.injEq,Prod.mk.injEq] at h
             obtain ⟨rfl,rfl⟩:=h
             exact this
           · simp at h
         | some t1 =>
           simp only [Option.map_eq_some_iff] at h
           obtain ⟨⟨o3,u3⟩,g1,g2⟩:=h
           simp only [Prod.mk.injEq] at g2
           obtain ⟨rfl,rfl⟩:=g2
           have:=set_rep.at_le p t1 o3 u3 g1
           simp only [fsize] at *
           simp only [K.size] at *
           omega
 ff_le:∀ (ks:List (Option Ty)) (j o:Nat) (ft:Option Ty),ffield ks j = some (o,ft)→o + fsize ft ≤ fsizes ks
   | x :: r,0,o,ft,h=>by simp [ffield] at h;obtain ⟨rfl,rfl⟩:=h;simp [fsizes]
   | x :: r,j + 1,o,ft,h=>by
     simp only [ffield,Option.map_eq_some_iff] at h
     obtain ⟨⟨o3,u3⟩,g1,g2⟩:=h
     simp only [Prod.mk.injEq] at g2
     obtain ⟨rfl,rfl⟩:=g2
     have:=ff_le r j o3 u3 g1
     simp only [fsizes];omega
end Go.Pv
