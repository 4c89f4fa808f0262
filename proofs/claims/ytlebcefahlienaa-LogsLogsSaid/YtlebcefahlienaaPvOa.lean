/- The purifying layer, part 15a: maps. -/
import Derived.Test.YtlebcefahlienaaPvO
import Derived.MapKept
set_option linter.unusedVariables false
set_option linter.unusedSimpArgs false
namespace Go.Pv
variable {P:Program} {Γ:Cfg} {cx:Cx} {tm:Tm} {lk:Lk} {a:Act} {w:World} {Fz:Nat→Prop} {pos:Nat→Value} {U:Nat→Prop}
def Hit {α β:Type} (eq:α→α→Bool) (x:α):List (α×β)→List MapEntry→Nat→Option (Nat×Value)→Prop
 | [],_,_,r=>r = none
 | q :: es,ents,i,r=>∃ e ents',ents = e :: ents'∧if eq x q.1 = true then r = some (i,e.val) else Hit eq x es ents' (i + 1) r
theorem findAsking_hit {k:Ty} {T:TypeId} (hk:keyTop P T k = true) {β:Type} {RV:β→Value→Prop} {x:k.T} {u:Value} (hx:RepD Fz w k x u) :
   ∀ (es:List (k.T×β)) (ents:List MapEntry) (n i:Nat),MapRep (RepD Fz w k) RV n es ents→∃ r,(Instr.findAsking T u ents i).run P w = .ok r w∧Hit k.beq x es ents i r
 | [],ents,n,i,h=>by
   have:ents = []:=h
   subst this
   exact ⟨none,by simp [Instr.findAsking],rfl⟩
 | q :: es,ents,n,i,⟨e,ents',he,h1,h2,h3,h4⟩=>by
   subst he
   simp only [keyTop,Bool.and_eq_true,decide_eq_true_eq] at hk
   have heq:=(key_eq (P:=P) k 9999 (by omega)).1 T x q.1 u e.key hk.1.1 hx h1
   obtain ⟨r,hr,hh⟩:=findAsking_hit (T:=T) (by simp only [keyTop,Bool.and_eq_true,decide_eq_true_eq];exact hk) hx es ents' (n + 1) (i + 1) h4
   cases hb:k.beq x q.1 with
   | true =>
     refine ⟨some (i,e.val),?_,e,ents',rfl,by simp [hb]⟩
     rw [hb] at heq
     simp [Instr.findAsking,Op.equal,Op.maxDepth,heq]
   | false =>
     refine ⟨r,?_,e,ents',rfl,by simp [hb];exact hh⟩
     rw [hb] at heq
     simp [Instr.findAsking,Op.equal,Op.maxDepth,heq,hr]
theorem sameNow_beq {k:Ty} {T:TypeId} {d:TypeDesc} (hk:keyB P k (.inl T) = true) (hd:P.underlying T = some d) {x y:k.T} {u v:Value} (hx:RepD Fz w k x u) (hy:RepD Fz w k y v) {b:Bool}
   (h:Instr.sameNow d u v = some b):b = k.beq x y:=by
 obtain ⟨cs,h1,rfl⟩:=hx
 obtain ⟨ds,h2,rfl⟩:=hy
 cases k
 case int k =>
   rw [show cs = _ from h1,show ds = _ from h2] at h
   cases d <;> simp [Instr.sameNow,pack,Ty.isAgg] at h
   rw [← h];rfl
 case bool =>
   rw [show cs = _ from h1,show ds = _ from h2] at h
   cases d <;> simp [Instr.sameNow,pack,Ty.isAgg] at h
   rw [← h];rfl
 case str =>
   rw [show cs = _ from h1,show ds = _ from h2] at h
   cases d <;> simp [Instr.sameNow,pack,Ty.isAgg] at h
   rw [← h,beq_toListBytes,toList_mk,toList_mk];rfl
 case lst e=>simp [keyB] at hk
 case map a b=>simp [keyB] at hk
 all_goals (cases d <;> simp [Instr.sameNow,pack,Ty.isAgg] at h)
theorem findNow_hit {k:Ty} {T:TypeId} {d:TypeDesc} (hk:keyB P k (.inl T) = true) (hd:P.underlying T = some d) {β:Type} {RV:β→Value→Prop} {x:k.T} {u:Value} (hx:RepD Fz w k x u) :
   ∀ (es:List (k.T×β)) (ents:List MapEntry) (n i:Nat) (r:Option (Nat×Value)),MapRep (RepD Fz w k) RV n es ents→Instr.findNow d u ents i = some r→Hit k.beq x es ents i r
 | [],ents,n,i,r,h,hr=>by
   have:ents = []:=h
   subst this
   simp only [Instr.findNow,Option.some.injEq] at hr
   exact hr.symm
 | q :: es,ents,n,i,r,⟨e,ents',he,h1,h2,h3,h4⟩,hr=>by
   subst he
   simp only [Instr.findNow] at hr
   split at hr
   · rename_i hs
     have:=sameNow_beq hk hd hx h1 hs
     simp only [Option.some.injEq] at hr
     exact ⟨e,ents',rfl,by rw [← this];simp [hr]⟩
   · rename_i hs
     have:=sameNow_beq hk hd hx h1 hs
     exact ⟨e,ents',rfl,by rw [← this];simp;exact findNow_hit hk hd hx es ents' (n + 1) (i + 1) r h4 hr⟩
   · simp at hr
theorem find_hit {k:Ty} {T:TypeId} (hk:keyTop P T k = true) {β:Type} {RV:β→Value→Prop} {x:k.T} {u:Value} (hx:RepD Fz w k x u)
   (es:List (k.T×β)) (ents:List MapEntry) (h:MapRep (RepD Fz w k) RV 0 es ents):∃ r,(Instr.findKey T u ents).run P w = .ok r w∧Hit k.beq x es ents 0 r:=by
 have hk':keyB P k (.inl T) = true:=by
   simp only [keyTop,Bool.and_eq_true] at hk;exact hk.1.1
 obtain ⟨d,hd,_⟩:=key_row hk'
 cases hf:Instr.findNow d u ents 0 with
 | some r=>exact ⟨r,by simp [Instr.findKey,run_underlying hd,hf],findNow_hit hk' hd hx es ents 0 0 r h hf⟩
 | none =>
   obtain ⟨r,hr,hh⟩:=findAsking_hit hk hx es ents 0 0 h
   exact ⟨r,by simp [Instr.findKey,run_underlying hd,hf,hr],hh⟩
section
variable {α β:Type} {eq:α→α→Bool} {RK:α→Value→Prop} {RV:β→Value→Prop}
theorem hit_look {x:α}:∀ (es:List (α×β)) (ents:List MapEntry) (n i:Nat) (r:Option (Nat×Value)),MapRep RK RV n es ents→Hit eq x es ents i r →
   (r = none∧mapFind eq x es = none) ∨ ∃ j v y,r = some (j,v)∧mapFind eq x es = some y∧RV y v
 | [],_,_,_,r,_,h=>.inl ⟨h,rfl⟩
 | q :: es,ents,n,i,r,⟨e,ents',he,h1,h2,h3,h4⟩,⟨e2,ents2,he2,h⟩=>by
   rw [he] at he2
   simp only [List.cons.injEq] at he2
   obtain ⟨rfl,rfl⟩:=he2
   simp only [mapFind]
   cases hb:eq x q.1 with
   | true =>
     rw [hb] at h
     exact .inr ⟨i,e.val,q.2,by simpa using h,by simp,h2⟩
   | false =>
     rw [hb] at h
     simp only [Bool.false_eq_true,if_false] at h ⊢
     exact hit_look es ents' (n + 1) (i + 1) r h4 h
theorem hit_put {x:α} (v:β):∀ (es:List (α×β)) (ents:List MapEntry) (n i:Nat) (r:Option (Nat×Value)),MapRep RK RV n es ents→Hit eq x es ents i r →
   (r = none∧mapPut eq x v es = es ++ [(x,v)]) ∨ ∃ m u q e,r = some (i + m,u)∧es[m]? = some q∧ents[m]? = some e∧eq x q.1 = true∧RK q.1 e.key∧mapPut eq x v es = es.set m (x,v)
 | [],_,_,_,r,_,h=>.inl ⟨h,rfl⟩
 | q :: es,ents,n,i,r,⟨e,ents',he,h1,h2,h3,h4⟩,⟨e2,ents2,he2,h⟩=>by
   rw [he] at he2
   simp only [List.cons.injEq] at he2
   obtain ⟨rfl,rfl⟩:=he2
   subst he
   simp only [mapPut]
   cases hb:eq x q.1 with
   | true =>
     rw [hb] at h
     exact .inr ⟨0,e.val,q,e,by simpa using h,rfl,rfl,hb,h1,by simp⟩
   | false =>
     rw [hb] at h
     simp only [Bool.false_eq_true,if_false] at h ⊢
     rcases hit_put v es ents' (n + 1) (i + 1) r h4 h with ⟨g1,g2⟩ | ⟨m,u,q2,e2,g1,g2,g3,g4,g5,g6⟩
     · exact .inl ⟨g1,by rw [g2];rfl⟩
     · exact .inr ⟨m + 1,u,q2,e2,by rw [g1,Nat.add_assoc,Nat.add_comm 1 m],by simpa using g2,by simpa using g3,g4,g5,by rw [g6];rfl⟩
theorem MapRep_push {x:α} {v:β} {e:MapEntry} (hk:RK x e.key) (hv:RV v e.val):∀ (n:Nat) (es:List (α×β)) (ents:List MapEntry),MapRep RK RV n es ents→e.born = n + es.length→MapRep RK RV n (es ++ [(x,v)]) (ents ++ [e])
 | n,[],ents,h,hb=>by
   have:ents = []:=h
   subst this
   exact ⟨e,[],rfl,hk,hv,by simpa using hb,rfl⟩
 | n,q :: es,ents,⟨e1,ents',he,h1,h2,h3,h4⟩,hb=>by
   subst he
   exact ⟨e1,ents' ++ [e],rfl,h1,h2,h3,MapRep_push hk hv (n + 1) es ents' h4 (by simp only [List.length_cons] at hb;omega)⟩
theorem MapRep_set {x:α} {v:β} {e':MapEntry} (hk:RK x e'.key) (hv:RV v e'.val):∀ (n m:Nat) (es:List (α×β)) (ents:List MapEntry) (e:MapEntry),MapRep RK RV n es ents→ents[m]? = some e→e'.born = e.born→MapRep RK RV n (es.set m (x,v)) (ents.set m e')
 | n,m,[],ents,e,h,he,_=>by
   have:ents = []:=h
   subst this
   simp at he
 | n,0,q :: es,ents,e,⟨e1,ents',he1,h1,h2,h3,h4⟩,he,hb=>by
   subst he1
   simp only [List.getElem?_cons_zero,Option.some.injEq] at he
   subst he
   exact ⟨e',ents',rfl,hk,hv,hb.trans h3,h4⟩
 | n,m + 1,q :: es,ents,e,⟨e1,ents',he1,h1,h2,h3,h4⟩,he,hb=>by
   subst he1
   simp only [List.getElem?_cons_succ] at he
   exact ⟨e1,ents'.set m e',rfl,h1,h2,h3,MapRep_set hk hv (n + 1) m es ents' e h4 he hb⟩
theorem MapRep_length:∀ (n:Nat) (es:List (α×β)) (ents:List MapEntry),MapRep RK RV n es ents→ents.length = es.length
 | n,[],ents,h=>by have:ents = []:=h;subst this;rfl
 | n,q :: es,ents,⟨e1,ents',he1,h1,h2,h3,h4⟩=>by subst he1;simp [MapRep_length (n + 1) es ents' h4]
theorem modify_set {α:Type} (f:α→α):∀ (l:List α) (j:Nat) (e:α),l[j]? = some e→l.modify j f = l.set j (f e)
 | [],_,_,h=>by simp at h
 | a :: r,0,e,h=>by simp at h;subst h;simp [List.modify]
 | a :: r,j + 1,e,h=>by simp at h;simp [List.modify_succ_cons,modify_set f r j e h]
end
theorem mapTy_ok (hΓ:CfgOk P Γ) {T:TypeId} {k v:Ty} (h:mapTy Γ T = some (k,v)) :
   ∃ kT vT,P.underlying T = some (.map kT vT)∧keyTop P kT k = true∧∃ i z,P.info? vT = some i∧i.zero = some z∧∀ (Fz:Nat→Prop) (w:World),RepD Fz w v v.zero z:=by
 unfold mapTy at h
 split at h
 · rename_i kT vT sh by_ hT
   cases hk:Γ.keys kT with
   | false=>rw [hk] at h;simp at h
   | true =>
     rw [hk] at h
     simp only [cond_true] at h
     split at h
     · rename_i d1 k1 b1 d2 v1 b2 hkT hvT
       simp only [Option.some.injEq,Prod.mk.injEq] at h
       obtain ⟨rfl,rfl⟩:=h
       obtain ⟨t,ht1,ht2⟩:=hΓ.keys kT _ hk hkT
       simp only [K.d.injEq] at ht1
       subst ht1
       obtain ⟨i,hi,his,hib,z,hz,hzo,hza,hzn⟩:=(hΓ.ty vT _ hvT).info
       refine ⟨kT,vT,(hΓ.ty T _ hT).desc.1,ht2,i,z,hi,hz,fun Fz w=>?_⟩
       have hzo:z.cells.toList = v1.zcells:=hzo
       refine ⟨v1.zcells,zero_rep v1,?_⟩
       unfold pack
       cases ha:v1.isAgg with
       | true =>
         have:=hza ha
         rw [this,← hzo]
         simp
       | false =>
         have hnagg:=hzn ha
         have hc:z.cells = #[z]:=by cases z <;> first | rfl | exact absurd rfl (hnagg _)
         rw [hc] at hzo
         simp [← hzo]
     · simp at h
 · simp at h
theorem ok_makeMap {o:Oper} {T:TypeId} {d:Nat} (ho:o.op = .makeMap T none) (hd:o.dst = some d) (r:RelIn cx tm lk a w Fz pos U) {e:Eff}
   (he:evMakeMap Γ lk d T some = some e):Ok P cx tm lk o a w e:=by
 unfold evMakeMap at he
 split at he
 · rename_i k v hT
   simp only [Option.some.injEq] at he
   subst he
   have r2:=r.newObj d (nextS lk d) (.map k v []) (.map #[] 0) (.map (some w.heap.size)) (fun s0 o0 h=>nextS_lt h) (fun b h=>(Option.some.inj h).symm)
     (fun _=>⟨w.heap.size,#[],0,rfl,heap_alloc_at w _,rfl,rfl⟩)
   refine .inl ⟨.map (some w.heap.size),w.alloc (.map #[] 0),?_,Fz,_,U,r2.value o.dst (v:=.mp d (nextS lk d)) (u:=.map (some w.heap.size)) ?_⟩
   · unfold execOp
     simp [ho,Instr.makeMap]
   · exact ⟨rfl,nextS lk d,_,updLk1_self _ _ _ _,Nat.le_refl _,fun _=>⟨trivial,by simp [updPos]⟩⟩
 · simp at he
def MapAt (Fz:Nat→Prop) (w:World) (k v:Ty) (es:List (k.T×v.T)) (u:Value):Prop :=
 ∃ r ents,u = .map r∧MapRep (RepD Fz w k) (RepD Fz w v) 0 es ents.toList∧(r = none∧ents = #[] ∨ ∃ b clock,r = some b∧w.heap[b]? = some (.map ents clock))
theorem lookup_run (hΓ:CfgOk P Γ) {T:TypeId} {k v:Ty} (hT:mapTy Γ T = some (k,v)) {es:List (k.T×v.T)} {m i:Value} (hm:MapAt Fz w k v es m) {x:k.T} (hx:RepD Fz w k x i) (ok:Bool) :
   ∃ y,RepD Fz w v ((mapFind k.beq x es).getD v.zero) y∧(Instr.lookup T m i ok).run P w = .ok (if ok then .tuple #[y,.bool (mapFind k.beq x es).isSome] else y) w:=by
 obtain ⟨kT,vT,hu,hk,inf,z,hi,hz,hzr⟩:=mapTy_ok hΓ hT
 obtain ⟨r,ents,rfl,hrep,hr⟩:=hm
 obtain ⟨res,hres,hhit⟩:=find_hit hk hx es ents.toList hrep
 have hk2:keyB P k (.inl kT) = true∧k.nest < 9000:=by
   simp only [keyTop,Bool.and_eq_true,decide_eq_true_eq] at hk;exact ⟨hk.1.1,hk.2⟩
 have hc:∀ em,(Instr.checkKey em 10000 kT i).run P w = .ok () w:=fun em=>(key_check em k 9999 (by omega)).1 kT x i hk2.1 hx
 have hz2:(zeroValue vT).run P w = .ok z w:=by simp [zeroValue,typeInfo,hi,hz]
 have fin:∃ y,RepD Fz w v ((mapFind k.beq x es).getD v.zero) y∧((match res with | some (_,v)=>pure (v,true) | none=>do pure (← zeroValue vT,false)):Sem (Value×Bool)).run P w = .ok (y,(mapFind k.beq x es).isSome) w:=by
   rcases hit_look es ents.toList 0 0 res hrep hhit with ⟨rfl,hf⟩ | ⟨j,vv,y,rfl,hf,hy⟩
   · exact ⟨z,by rw [hf];exact hzr Fz w,by simp [hz2,hf]⟩
   · exact ⟨vv,by rw [hf];exact hy,by simp [hf]⟩
 obtain ⟨y,hy1,hy2⟩:=fin
 refine ⟨y,hy1,?_⟩
 rcases hr with ⟨rfl,rfl⟩ | ⟨b,clock,rfl,hb⟩
 · simp only [Instr.lookup,Sem.run_bind,run_underlying hu,Result.andThen_ok,Sem.run_pure,hc]
   simp only [hres,Result.andThen_ok]
   cases res with
   | none =>
     simp only [Sem.run_bind] at hy2 ⊢
     rw [hz2] at hy2 ⊢
     simp only [Result.andThen_ok,Sem.run_pure] at hy2 ⊢
     simp only [Result.ok.injEq,Prod.mk.injEq,and_true] at hy2
     rw [← hy2.1,← hy2.2]
   | some q =>
     obtain ⟨j,vv⟩:=q
     simp only [Sem.run_pure,Result.ok.injEq,Prod.mk.injEq,and_true] at hy2
     simp only [Sem.run_bind,Sem.run_pure,Result.andThen_ok]
     rw [← hy2.1,← hy2.2]
 · simp only [Instr.lookup,Sem.run_bind,run_underlying hu,Result.andThen_ok,MapKept.run_getObj_map hb,Sem.run_pure,hc]
   simp only [hres,Result.andThen_ok]
   cases res with
   | none =>
     simp only [Sem.run_bind] at hy2 ⊢
     rw [hz2] at hy2 ⊢
     simp only [Result.andThen_ok,Sem.run_pure] at hy2 ⊢
     simp only [Result.ok.injEq,Prod.mk.injEq,and_true] at hy2
     rw [← hy2.1,← hy2.2]
   | some q =>
     obtain ⟨j,vv⟩:=q
     simp only [Sem.run_pure,Result.ok.injEq,Prod.mk.injEq,and_true] at hy2
     simp only [Sem.run_bind,Sem.run_pure,Result.andThen_ok]
     rw [← hy2.1,← hy2.2]
theorem dat_rep {A:E} {t:Ty} {x:t.T} {u:Value} (h:RepT A (.dat t x) u):RepD A.Fz A.w t x u:=h
theorem ok_lookK (hΓ:CfgOk P Γ) {o:Oper} {T:TypeId} {x i:Operand} {ok:Bool} (ho:o.op = .lookup T x i ok) (r:RelIn cx tm lk a w Fz pos U) (hg:cx.G = Γ.glob) {k v:Ty} (hT:mapTy Γ T = some (k,v))
   {es:List (k.T×v.T)} (hm:MapAt Fz w k v es (a.eval x)) {e:Eff} (he:lookK k v es (Γ.val tm i) ok some = some e):Ok P cx tm lk o a w e:=by
 unfold lookK at he
 split at he
 · rename_i y hy
   have hv:=coll_rep (val_rep r hg i)
   rw [as_some hy] at hv
   obtain ⟨z,hz1,hz2⟩:=lookup_run hΓ hT hm (dat_rep hv) ok
   cases ok with
   | true =>
     simp only [cond_true,Option.some.injEq] at he
     refine Ok.value r he.symm (u:=.tuple #[z,.bool (mapFind k.beq y es).isSome]) ?_ ?_
     · unfold execOp
       simp only [ho]
       simp [hz2]
     · exact ⟨[z,.bool (mapFind k.beq y es).isSome],rfl,z,[_],rfl,hz1,.bool _,[],rfl,mkBool (cx.e Fz w lk pos) _,rfl⟩
   | false =>
     simp only [cond_false,Option.some.injEq] at he
     refine Ok.value r he.symm (u:=z) ?_ hz1
     unfold execOp
     simp only [ho]
     simp [hz2]
 · simp at he
theorem ok_lookup (hΓ:CfgOk P Γ) {o:Oper} {T:TypeId} {x i:Operand} {ok:Bool} (ho:o.op = .lookup T x i ok) (r:RelIn cx tm lk a w Fz pos U) (hg:cx.G = Γ.glob)
   {e:Eff} (he:evLookup Γ lk T (Γ.val tm x) (Γ.val tm i) ok some = some e):Ok P cx tm lk o a w e:=by
 have hx:=val_rep r hg x
 unfold evLookup at he
 split at he
 · rename_i k v es hv
   rw [hv] at hx
   split at he
   · rename_i hT
     refine ok_lookK hΓ ho r hg hT ?_ he
     obtain ⟨cs,⟨rr,rfl,h2⟩,hu⟩:=dat_rep hx
     refine h2.elim (fun ⟨h3,h4⟩=>⟨none,#[],by rw [hu,h3];rfl,by rw [h4];rfl,.inl ⟨rfl,rfl⟩⟩) fun ⟨b,ents,clock,h3,h4,h5,h6,h7⟩=>⟨some b,ents,by rw [hu,h3];rfl,h7,.inr ⟨b,clock,rfl,h5⟩⟩
   · simp at he
 · rename_i key s hv
   rw [hv] at hx
   obtain ⟨_,s',ob,hlk,hle,hval⟩:=hx
   have hlk:lk key = some (s',ob):=hlk
   rw [hlk] at he
   cases ob <;> simp only at he <;> try (simp at he;done)
   rename_i k v es
   split at he
   · rename_i hT
     obtain ⟨hs,hT⟩:=hT
     refine ok_lookK hΓ ho r hg hT ?_ he
     obtain ⟨b,ents,clock,h3,h4,h5,h6⟩:=r.objs key s' _ hlk
     exact ⟨some b,ents,by rw [(hval hs).2];exact h3,h6,.inr ⟨b,clock,rfl,h4⟩⟩
   · simp at he
 · simp at he
theorem ok_mapUpdate (hΓ:CfgOk P Γ) {o:Oper} {T:TypeId} {m i x:Operand} (ho:o.op = .mapUpdate T m i x ∨ o.op = .insert T m i x) (r:RelIn cx tm lk a w Fz pos U) (hg:cx.G = Γ.glob)
   {e:Eff} (he:evMapUpdate Γ lk T (Γ.val tm m) (Γ.val tm i) (Γ.val tm x) some = some e):Ok P cx tm lk o a w e:=by
 have hm:=val_rep r hg m
 unfold evMapUpdate at he
 split at he
 · rename_i key s hv
   rw [hv] at hm
   obtain ⟨_,s',ob,hlk,hle,hval⟩:=hm
   have hlk:lk key = some (s',ob):=hlk
   rw [hlk] at he
   cases ob <;> simp only at he <;> try (simp at he;done)
   rename_i k v es hlk0
   split at he
   · rename_i hT
     obtain ⟨hs,hT⟩:=hT
     subst hs
     split at he
     · rename_i ka va hka hva
       simp only [Option.some.injEq] at he
       subst he
       have h1:=coll_rep (val_rep r hg i)
       rw [as_some hka] at h1
       have h1:=dat_rep h1
       have h2:=coll_rep (val_rep r hg x)
       rw [as_some hva] at h2
       have h2:=dat_rep h2
       obtain ⟨b,ents,clock,hpos,hb,hcl,hrep⟩:=r.objs key s _ hlk
       have hm:a.eval m = .map (some b):=(hval rfl).2.trans hpos
       obtain ⟨kT,vT,hu,hk,inf,z,hi,hz,hzr⟩:=mapTy_ok hΓ hT
       have hk2:keyB P k (.inl kT) = true∧k.nest < 9000:=by
         simp only [keyTop,Bool.and_eq_true,decide_eq_true_eq] at hk;exact ⟨hk.1.1,hk.2⟩
       have hc:∀ em,(Instr.checkKey em 10000 kT (a.eval i)).run P w = .ok () w:=fun em=>(key_check em k 9999 (by omega)).1 kT ka _ hk2.1 h1
       obtain ⟨res,hres,hhit⟩:=find_hit hk h1 es ents.toList hrep
       have run:∃ ents' clock',(Instr.mapUpdate T (.map (some b)) (a.eval i) (a.eval x)).run P w = .ok () { w with heap:=w.heap.setIfInBounds b (.map ents' clock') }∧clock' = ents'.size ∧
           MapRep (RepD Fz w k) (RepD Fz w v) 0 (mapPut k.beq ka va es) ents'.toList:=by
         rcases hit_put va es ents.toList 0 0 res hrep hhit with ⟨rfl,hp⟩ | ⟨j,u,q,e0,rfl,hq,he0,hbq,hrk,hp⟩
         · refine ⟨ents.push { key:=a.eval i,val:=a.eval x,born:=clock },clock + 1,?_,by simp [hcl],?_⟩
           · simp only [Instr.mapUpdate,Sem.run_bind,run_underlying hu,Result.andThen_ok,MapKept.run_getObj_map hb,hc]
             simp only [hres,Result.andThen_ok,MapKept.run_setObj_map _ hb]
           · rw [hp,Array.toList_push]
             refine MapRep_push (e:={ key:=a.eval i,val:=a.eval x,born:=clock }) h1 h2 0 es _ hrep ?_
             have:=MapRep_length 0 es _ hrep
             simp only [Array.length_toList] at this
             simp [hcl,this]
         · have hkey:e0.key = a.eval i:=by
             have hqe:ka = q.1:=(key_iff k _ hk2.1 ka q.1).1 hbq
             obtain ⟨c1,g1,g2⟩:=hrk
             obtain ⟨c2,g3,g4⟩:=h1
             rw [g2,g4,key_det k _ hk2.1 ka c2 c1 g3 (hqe ▸ g1)]
           have hst:=key_stays (P:=P) (w:=w) hk2.1 h1
           have he0':ents[j]? = some e0:=by rw [← Array.getElem?_toList];exact he0
           refine ⟨ents.modify j fun e=>{ e with key:=a.eval i,val:=a.eval x },clock,?_,by simp [hcl],?_⟩
           · simp only [Instr.mapUpdate,Sem.run_bind,run_underlying hu,Result.andThen_ok,MapKept.run_getObj_map hb,hc]
             simp only [hres,Result.andThen_ok,Nat.zero_add,he0',Option.map_some,Option.getD_some,hkey,Sem.run_bind,hst,MapKept.run_setObj_map _ hb]
           · rw [hp,Array.toList_modify,modify_set _ _ _ e0 he0]
             exact MapRep_set (e':={ e0 with key:=a.eval i,val:=a.eval x }) h1 h2 0 j es _ e0 hrep he0 rfl
       obtain ⟨ents',clock',hrun,hcl',hrep'⟩:=run
       have hvb:VB (pos key) b:=by rw [hpos];exact rfl
       have hlt:b < w.heap.size:=(r.objs key s _ hlk).lt hvb
       have r2:RelIn cx tm (updLk1 lk key s (.map k v (mapPut k.beq ka va es))) a { w with heap:=w.heap.setIfInBounds b (.map ents' clock') } Fz (updPos pos key (pos key)) U:=by
         refine r.obj key s _ (pos key) (fun s0 o0 h=>?_) rfl rfl rfl (by simp) (fun b' hb' hne=>?_) (fun b' hb'=>.inl ⟨s,_,hlk,hb'⟩) fun hle2=>?_
         · rw [hlk] at h;simp only [Option.some.injEq,Prod.mk.injEq] at h
           obtain ⟨rfl,rfl⟩:=h
           exact ⟨Nat.le_refl _,fun _=>⟨⟨rfl,rfl⟩,rfl⟩⟩
         · have:b ≠ b':=fun h=>hne (h ▸ hvb)
           simp [Array.getElem?_setIfInBounds,this]
         · refine ⟨b,ents',clock',hpos,?_,hcl',MapRep.mono (fun x u h=>RepD.mono hle2.fut h) (fun x u h=>RepD.mono hle2.fut h) _ _ _ hrep'⟩
           simp [Array.getElem?_setIfInBounds,hlt]
       refine .inr (.inl ⟨_,?_,Fz,_,U,r2.value o.dst (v:=.junk) (u:=undef) trivial⟩)
       rcases ho with ho | ho <;> (unfold execOp;simp only [ho];simp [hm,hrun])
     · simp at he
   · simp at he
 · simp at he
end Go.Pv
