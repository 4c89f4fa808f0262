/- The purifying layer: maps of rows. -/
import Derived.Test.YtlebcefahlienaaPvPha
import Derived.Test.YtlebcefahlienaaPvOa
set_option linter.unusedVariables false
set_option linter.unusedSimpArgs false
namespace Go.Pv
variable {P:Program} {Γ:Cfg} {cx:Cx} {tm:Tm} {lk:Lk} {a:Act} {w:World} {Fz:Nat→Prop} {pos:Nat→Value} {U:Nat→Prop}
theorem gmapTy_ok (hΓ:CfgOk P Γ) {T:TypeId} {k e:Ty} (h:mapTy Γ T = some (k,.lst e)) :
   ∃ kT vT,P.underlying T = some (.map kT vT)∧keyTop P kT k = true∧∃ i,P.info? vT = some i∧i.zero = some (.slice none 0 0):=by
 unfold mapTy at h
 split at h
 · rename_i kT vT sh by_ hT
   cases hk:Γ.keys kT with
   | false=>rw [hk] at h;simp at h
   | true =>
     rw [hk] at h
     simp only [cond_true] at h
     split at h
     · rename_i d1 k1 b1 d2 v1 b2 hkT hvT
       simp only [Option.some.injEq,Prod.mk.injEq] at h
       obtain ⟨rfl,rfl⟩:=h
       obtain ⟨t,ht1,ht2⟩:=hΓ.keys kT _ hk hkT
       simp only [K.d.injEq] at ht1
       subst ht1
       obtain ⟨i,hi,his,hib,z,hz,hzo,hza,hzn⟩:=(hΓ.ty vT _ hvT).info
       have hzo:z.cells.toList = (Ty.lst e).zcells:=hzo
       have hnagg:=hzn rfl
       have hc:z.cells = #[z]:=by cases z <;> first | rfl | exact absurd rfl (hnagg _)
       rw [hc] at hzo
       have hzo:[z] = [.slice none 0 0]:=hzo
       simp only [List.cons.injEq,and_true] at hzo
       exact ⟨kT,vT,(hΓ.ty T _ hT).desc.1,ht2,i,hi,by rw [hz,hzo]⟩
     · simp at h
 · simp at h
theorem lookR_run (hΓ:CfgOk P Γ) {T:TypeId} {k e:Ty} (hT:mapTy Γ T = some (k,.lst e)) {es:List (k.T×Nat)} {b:Nat} {ents:Array MapEntry} {clock:Nat} (hb:w.heap[b]? = some (.map ents clock)) {RV:Nat→Value→Prop}
   (hrep:MapRep (RepD Fz w k) RV 0 es ents.toList) {x:k.T} {i:Value} (hx:RepD Fz w k x i) :
   (mapFind k.beq x es = none∧(Instr.lookup T (.map (some b)) i false).run P w = .ok (.slice none 0 0) w) ∨ ∃ j y,mapFind k.beq x es = some j∧RV j y∧(Instr.lookup T (.map (some b)) i false).run P w = .ok y w:=by
 obtain ⟨kT,vT,hu,hk,inf,hi,hz⟩:=gmapTy_ok hΓ hT
 obtain ⟨res,hres,hhit⟩:=find_hit hk hx es ents.toList hrep
 have hk2:keyB P k (.inl kT) = true∧k.nest < 9000:=by
   simp only [keyTop,Bool.and_eq_true,decide_eq_true_eq] at hk;exact ⟨hk.1.1,hk.2⟩
 have hc:∀ em,(Instr.checkKey em 10000 kT i).run P w = .ok () w:=fun em=>(key_check em k 9999 (by omega)).1 kT x i hk2.1 hx
 have hz2:(zeroValue vT).run P w = .ok (.slice none 0 0) w:=by simp [zeroValue,typeInfo,hi,hz]
 rcases hit_look es ents.toList 0 0 res hrep hhit with ⟨rfl,hf⟩ | ⟨j,vv,y,rfl,hf,hy⟩
 · refine .inl ⟨hf,?_⟩
   simp only [Instr.lookup,Sem.run_bind,run_underlying hu,Result.andThen_ok,MapKept.run_getObj_map hb,Sem.run_pure,hc]
   simp only [hres,Result.andThen_ok,Sem.run_bind,hz2,Sem.run_pure]
   rfl
 · refine .inr ⟨_,_,hf,hy,?_⟩
   simp only [Instr.lookup,Sem.run_bind,run_underlying hu,Result.andThen_ok,MapKept.run_getObj_map hb,Sem.run_pure,hc]
   simp only [hres,Result.andThen_ok,Sem.run_bind,Sem.run_pure]
   rfl
theorem mapFind_mem {α β:Type} {eq:α→α→Bool} {x:α}:∀ {es:List (α×β)} {y:β},mapFind eq x es = some y→y ∈ es.map (·.2)
 | [],_,h=>by simp [mapFind] at h
 | q :: r,y,h=>by
   unfold mapFind at h
   split at h
   · simp only [Option.some.injEq] at h;subst h;simp
   · exact List.mem_cons_of_mem _ (mapFind_mem h)
theorem mapPut_mem {α β:Type} {eq:α→α→Bool} {x:α} {v:β}:∀ {es:List (α×β)} {y:β},y ∈ (mapPut eq x v es).map (·.2)→y = v ∨ y ∈ es.map (·.2)
 | [],y,h=>by simp [mapPut] at h;exact .inl h
 | q :: r,y,h=>by
   unfold mapPut at h
   split at h
   · simp only [List.map_cons,List.mem_cons] at h ⊢
     rcases h with h | h
     · exact .inl h
     · exact .inr (.inr h)
   · simp only [List.map_cons,List.mem_cons] at h ⊢
     rcases h with h | h
     · exact .inr (.inl h)
     · exact (mapPut_mem h).imp id .inr
theorem ok_gmap {o:Oper} {T:TypeId} {d:Nat} (ho:o.op = .makeMap T none) (hd:o.dst = some d) (r:RelIn cx tm lk a w Fz pos U) {e:Eff}
   (he:evGMap Γ lk d T some = some e):Ok P cx tm lk o a w e:=by
 unfold evGMap at he
 split at he
 · rename_i k et hT
   simp only [Option.some.injEq] at he
   subst he
   have r2:=r.newObj d (nextS lk d) (.grid et (.keys k []) []) (.map #[] 0) (.tuple #[.map (some w.heap.size)]) (fun s0 o0 h=>nextS_lt h) (fun b hb=>by
       obtain ⟨p,g,g1,g2⟩:=VB_tuple.1 hb
       have:=Array.mem_of_getElem? g1
       simp at this;subst this;exact (Option.some.inj g2).symm)
     (fun _=>⟨_,rfl,⟨rfl,fun i xs h h1 _=>by simp at h1,fun i h h1 _=>by simp at h1,fun h0 h1=>by
         simp only [List.getElem?_toArray,List.getElem?_cons_zero,Option.some.injEq] at h1
         subst h1
         exact ⟨w.heap.size,#[],0,rfl,heap_alloc_at w _,rfl,rfl⟩,fun p q h h' b h1 h2 _ _=>by
         have hp:=(Array.getElem?_eq_some_iff.1 h1).1
         have hq:=(Array.getElem?_eq_some_iff.1 h2).1
         simp at hp hq;omega,fun i hi=>by simp [Sp.all] at hi⟩⟩)
   refine .inl ⟨.map (some w.heap.size),w.alloc (.map #[] 0),?_,Fz,_,U,r2.value o.dst (v:=.row et d (nextS lk d) 0) (u:=.map (some w.heap.size)) (row_val (hs:=#[.map (some w.heap.size)]) (updLk1_self _ _ _ _) (by simp [updPos]) rfl rfl)⟩
   unfold execOp
   simp [ho,Instr.makeMap]
 · simp at he
theorem ok_glook (hΓ:CfgOk P Γ) {o:Oper} {T:TypeId} {x i:Operand} {ok:Bool} (ho:o.op = .lookup T x i ok) (r:RelIn cx tm lk a w Fz pos U) (hg:cx.G = Γ.glob)
   {e:Eff} (he:evGLook Γ lk T (Γ.val tm x) (Γ.val tm i) ok some = some e):Ok P cx tm lk o a w e:=by
 have hx:=val_rep r hg x
 unfold evGLook at he
 split at he
 · rename_i e1 g s hvx
   rw [hvx] at hx
   split at he
   · rename_i s' et k es rows k' e0 hlk hT
     cases hc:(decide (s = s') && decide (e1 = et) && decide (e0 = et) && decide (k' = k) && !ok) with
     | false=>rw [hc] at he;simp at he
     | true =>
       rw [hc] at he
       simp only [cond_true] at he
       simp only [Bool.and_eq_true,decide_eq_true_eq,Bool.not_eq_true'] at hc
       obtain ⟨⟨⟨⟨rfl,rfl⟩,rfl⟩,rfl⟩,rfl⟩:=hc
       split at he
       · rename_i y hy
         have hv:=coll_rep (val_rep r hg i)
         rw [as_some hy] at hv
         obtain ⟨hs,hpos,G⟩:=grid_at r hlk
         have hh0:=row_hdr hlk hpos hx trivial
         obtain ⟨b,ents,clock,hxv,hb,hcl,hrep⟩:=G.out _ hh0
         have hsz:=G.size
         simp only [Option.some.injEq] at he
         have hrun:∀ u,(Instr.lookup T (a.eval x) (a.eval i) false).run P w = .ok u w→(execOp a.eval o).run P w = .ok (.value u) w:=by
           intro u hu;unfold execOp;simp only [ho];simp [hu]
         have hext:∀ (rows':List (Option (List e0.T))) (hs':Array Value),(∀ p:Nat,(hs[p]?).isSome→hs'[p]? = hs[p]?)→(∀ p:Nat,p ≤ rows.length→aliveP rows' p→aliveP rows p)→Ext (.grid e0 (.keys k' es) rows) (pos g) (.grid e0 (.keys k' es) rows') (.tuple hs'):=by
           intro rows' hs' h1 h2
           rw [hpos]
           refine ⟨rfl,fun p hp=>?_⟩
           have hp:(hs[p]?).isSome = true:=hp
           refine ⟨by show (hs'[p]?).isSome = true;rw [h1 p hp];exact hp,fun ha=>⟨h2 p ?_ ha,h1 p hp⟩⟩
           obtain ⟨v,hv⟩:=Option.isSome_iff_exists.1 hp
           have:=(Array.getElem?_eq_some_iff.1 hv).1
           omega
         have hsame:∀ (od:Obj) (vd:Value),Ext (.grid e0 (.keys k' es) rows) (pos g) od vd→∀ s0 o0,lk g = some (s0,o0)→s0 ≤ s∧(s0 = s→Ext o0 (pos g) od vd):=by
           intro od vd hE s0 o0 h
           rw [hlk] at h
           simp only [Option.some.injEq,Prod.mk.injEq] at h
           obtain ⟨rfl,rfl⟩:=h
           exact ⟨Nat.le_refl _,fun _=>hE⟩
         rcases lookR_run hΓ hT hb hrep (dat_rep hv) with ⟨hf,hr⟩ | ⟨j,u,hf,hu,hr⟩
         · rw [← hxv] at hr
           rw [hf] at he
           simp only [rowsLook] at he
           subst he
           have G2:=G.push (h:=.slice none 0 0) (xs:=[]) (.inl ⟨rfl,rfl⟩) (fun p g b _ _ h3=>by simp [vblk] at h3)
           obtain ⟨pos',r2,hp,hl⟩:=r.adopt g s (.grid e0 (.keys k' es) (rows ++ [some []])) (.tuple (hs.push (.slice none 0 0))) (gives_nil lk g) (w':=w)
             (hsame _ _ (hext _ _ (fun p hp=>by
               obtain ⟨v,hv⟩:=Option.isSome_iff_exists.1 hp
               have:=(Array.getElem?_eq_some_iff.1 hv).1
               rw [Array.getElem?_push,if_neg (by omega)]) fun p hp ha=>by
                 cases p with
                 | zero=>trivial
                 | succ j =>
                   obtain ⟨zs,hz⟩:=ha
                   rw [List.getElem?_append_left (by omega)] at hz
                   exact ⟨zs,hz⟩)) rfl rfl rfl (Nat.le_refl _) (fun _ _ _ _=>rfl)
             (fun b hb=>by
               obtain ⟨p,g',k1,k3⟩:=VB_tuple.1 hb
               rw [Array.getElem?_push] at k1
               split at k1
               · simp only [Option.some.injEq] at k1
                 subst k1;simp [vblk] at k3
               · exact .inl ⟨s,_,hlk,by rw [hpos];exact VB_hdr k1 k3⟩) (fun lk' pos' hle=>⟨_,rfl,G2⟩) (h0:=by intro _;rw [hlk];simp)
           exact .inl ⟨_,w,hrun _ hr,Fz,pos',U,r2.value o.dst (row_val hl hp rfl (by rw [Array.getElem?_push,if_pos hsz.symm]))⟩
         · rw [← hxv] at hr
           rw [hf] at he
           simp only [rowsLook] at he
           subst he
           have hjl:j < rows.length:=G.inb j (mapFind_mem hf)
           obtain ⟨pos',r2,hp,hl⟩:=r.adopt g s (.grid e0 (.keys k' es) rows) (.tuple hs) (gives_nil lk g) (w':=w)
             (hsame _ _ (hext _ _ (fun _ _=>rfl) fun _ _ h=>h)) rfl rfl rfl (Nat.le_refl _) (fun _ _ _ _=>rfl)
             (fun b hb=>.inl ⟨s,_,hlk,by rw [hpos];exact hb⟩) (fun lk' pos' hle=>⟨_,rfl,G⟩) (h0:=by intro _;rw [hlk];simp)
           refine .inl ⟨_,w,hrun _ hr,Fz,pos',U,r2.value o.dst (v:=.row e0 g s (j + 1)) (u:=u) ⟨hu.1,s,_,hl,Nat.le_refl _,fun _=>?_⟩⟩
           have hp':(cx.e Fz w (updLk ([] ++ [(g,s,.grid e0 (.keys k' es) rows)]) lk) pos').pos g = .tuple hs:=hp
           rw [hp']
           obtain ⟨h,hh⟩:=G.hdr (p:=j + 1) (by omega)
           refine ⟨rfl,by show (hs[j + 1]?).isSome = true;rw [hh];rfl,fun ha=>?_⟩
           obtain ⟨zs,hz⟩:=ha
           show hs[j + 1]? = some u
           rw [hh,hu.2 zs h hz hh]
       · simp at he
   · simp at he
 · simp at he
theorem ok_gput (hΓ:CfgOk P Γ) {o:Oper} {T:TypeId} {m i x:Operand} (ho:o.op = .mapUpdate T m i x) (r:RelIn cx tm lk a w Fz pos U) (hg:cx.G = Γ.glob)
   {e:Eff} (he:evGPut Γ lk T (Γ.val tm m) (Γ.val tm i) (Γ.val tm x) some = some e):Ok P cx tm lk o a w e:=by
 have hm:=val_rep r hg m
 have hx:=val_rep r hg x
 unfold evGPut at he
 split at he
 · rename_i e1 g s e2 g2 s2 j hvm hvx
   rw [hvm] at hm
   rw [hvx] at hx
   split at he
   · rename_i s' et k es rows k' e0 hlk hT
     cases hc:(decide (s = s') && decide (e1 = et) && decide (e0 = et) && decide (k' = k) && decide (e2 = et) && decide (g2 = g) && decide (s2 = s')) with
     | false=>rw [hc] at he;simp at he
     | true =>
       rw [hc] at he
       simp only [cond_true] at he
       simp only [Bool.and_eq_true,decide_eq_true_eq] at hc
       obtain ⟨⟨⟨⟨⟨⟨rfl,rfl⟩,rfl⟩,rfl⟩,rfl⟩,rfl⟩,rfl⟩:=hc
       split at he
       · rename_i ka hka
         cases hrow:rowOf rows j with
         | none=>rw [hrow] at he;simp at he
         | some xs =>
         rw [hrow] at he
         simp only [Option.bind_some,Option.some.injEq] at he
         subst he
         have hri:=rowOf_some hrow
         have h1:=coll_rep (val_rep r hg i)
         rw [as_some hka] at h1
         have h1:=dat_rep h1
         obtain ⟨hs,hpos,G⟩:=grid_at r hlk
         have hh0:=row_hdr hlk hpos hm trivial
         have hhj:hs[j + 1]? = some (a.eval x):=row_hdr hlk hpos hx ⟨xs,hri⟩
         obtain ⟨b,ents,clock,hmv,hb,hcl,hrep⟩:=G.out _ hh0
         have hone:=(G.row j xs _ hri hhj).one
         have h2:(a.eval x).oneCell' = true∧∀ (ys:List e2.T) (h:Value),rows[j]? = some (some ys)→hs[j + 1]? = some h→a.eval x = h:=⟨hone,fun ys h _ hh=>by rw [hhj] at hh;exact Option.some.inj hh⟩
         obtain ⟨kT,vT,hu,hk,inf,hi,hz⟩:=gmapTy_ok hΓ hT
         have hk2:keyB P k' (.inl kT) = true∧k'.nest < 9000:=by
           simp only [keyTop,Bool.and_eq_true,decide_eq_true_eq] at hk;exact ⟨hk.1.1,hk.2⟩
         have hc:∀ em,(Instr.checkKey em 10000 kT (a.eval i)).run P w = .ok () w:=fun em=>(key_check em k' 9999 (by omega)).1 kT ka _ hk2.1 h1
         obtain ⟨res,hres,hhit⟩:=find_hit hk h1 es ents.toList hrep
         have run:∃ ents' clock',(Instr.mapUpdate T (.map (some b)) (a.eval i) (a.eval x)).run P w = .ok () { w with heap:=w.heap.setIfInBounds b (.map ents' clock') }∧clock' = ents'.size ∧
             MapRep (RepD Fz w k') (fun i u=>u.oneCell' = true∧∀ (xs:List e2.T) (h:Value),rows[i]? = some (some xs)→hs[i + 1]? = some h→u = h) 0 (mapPut k'.beq ka j es) ents'.toList:=by
           rcases hit_put j es ents.toList 0 0 res hrep hhit with ⟨rfl,hp⟩ | ⟨n,u,q,e0,rfl,hq,he0,hbq,hrk,hp⟩
           · refine ⟨ents.push { key:=a.eval i,val:=a.eval x,born:=clock },clock + 1,?_,by simp [hcl],?_⟩
             · simp only [Instr.mapUpdate,Sem.run_bind,run_underlying hu,Result.andThen_ok,MapKept.run_getObj_map hb,hc]
               simp only [hres,Result.andThen_ok,MapKept.run_setObj_map _ hb]
             · rw [hp,Array.toList_push]
               refine MapRep_push (e:={ key:=a.eval i,val:=a.eval x,born:=clock }) h1 h2 0 es _ hrep ?_
               have:=MapRep_length 0 es _ hrep
               simp only [Array.length_toList] at this
               simp [hcl,this]
           · have hkey:e0.key = a.eval i:=by
               have hqe:ka = q.1:=(key_iff k' _ hk2.1 ka q.1).1 hbq
               obtain ⟨c1,g1,g2⟩:=hrk
               obtain ⟨c2,g3,g4⟩:=h1
               rw [g2,g4,key_det k' _ hk2.1 ka c2 c1 g3 (hqe ▸ g1)]
             have hst:=key_stays (P:=P) (w:=w) hk2.1 h1
             have he0':ents[n]? = some e0:=by rw [← Array.getElem?_toList];exact he0
             refine ⟨ents.modify n fun e=>{ e with key:=a.eval i,val:=a.eval x },clock,?_,by simp [hcl],?_⟩
             · simp only [Instr.mapUpdate,Sem.run_bind,run_underlying hu,Result.andThen_ok,MapKept.run_getObj_map hb,hc]
               simp only [hres,Result.andThen_ok,Nat.zero_add,he0',Option.map_some,Option.getD_some,hkey,Sem.run_bind,hst,MapKept.run_setObj_map _ hb]
             · rw [hp,Array.toList_modify,modify_set _ _ _ e0 he0]
               exact MapRep_set (e':={ e0 with key:=a.eval i,val:=a.eval x }) h1 h2 0 n es _ e0 hrep he0 rfl
         obtain ⟨ents',clock',hrun,hcl',hrep'⟩:=run
         have hlt:b < w.heap.size:=(Array.getElem?_eq_some_iff.1 hb).1
         have hvb0:vblk (a.eval m) = some b:=by rw [hmv];rfl
         have hoth:∀ b',b' ≠ b→({ w with heap:=w.heap.setIfInBounds b (.map ents' clock') }:World).heap[b']? = w.heap[b']?:=fun b' hb'=>by
           have:b ≠ b':=fun h=>hb' h.symm
           simp [Array.getElem?_setIfInBounds,this]
         have G2:∀ Fz',Fut Fz w Fz' { w with heap:=w.heap.setIfInBounds b (.map ents' clock') }→RepGrid Fz' { w with heap:=w.heap.setIfInBounds b (.map ents' clock') } e2 (.keys k' (mapPut k'.beq ka j es)) rows hs:=by
           intro Fz' hf
           refine ⟨G.size,fun i xs h h1 h2=>(G.row i xs h h1 h2).mono hf fun b' hb'=>hoth b' fun he=>?_,G.gone,fun h0 h1=>?_,G.apart,fun n hn=>?_⟩
           · have:=G.apart 0 (i + 1) _ h b hh0 h2 hvb0 (he ▸ hb');omega
           · rw [hh0] at h1
             simp only [Option.some.injEq] at h1
             subst h1
             refine ⟨b,ents',clock',hmv,by simp [Array.getElem?_setIfInBounds,hlt],hcl',MapRep.mono (fun x u h=>RepD.mono hf h) (fun _ _ h=>h) _ _ _ hrep'⟩
           · rcases mapPut_mem hn with h | h
             · rw [h];exact (List.getElem?_eq_some_iff.1 hri).1
             · exact G.inb n h
         obtain ⟨pos',r2,hp,hl⟩:=r.adopt g2 s2 (.grid e2 (.keys k' (mapPut k'.beq ka j es)) rows) (.tuple hs) (gives_nil lk g2) (w':={ w with heap:=w.heap.setIfInBounds b (.map ents' clock') })
             (fun s0 o0 h=>by
               rw [hlk] at h
               simp only [Option.some.injEq,Prod.mk.injEq] at h
               obtain ⟨rfl,rfl⟩:=h
               exact ⟨Nat.le_refl _,fun _=>by rw [hpos];exact ⟨rfl,fun p hp=>⟨hp,fun ha=>⟨ha,rfl⟩⟩⟩⟩) rfl rfl rfl (by simp) (fun b' hb' hn _=>hoth b' fun h=>hn _ _ hlk (by rw [hpos,h];exact VB_hdr hh0 hvb0))
             (fun b hb=>.inl ⟨s2,_,hlk,by rw [hpos];exact hb⟩) (fun lk' pos' hle=>⟨_,rfl,G2 _ hle.fut⟩) (h0:=by intro _;rw [hlk];simp)
         refine .inr (.inl ⟨_,?_,Fz,_,U,r2.value o.dst (v:=.junk) (u:=undef) trivial⟩)
         unfold execOp;simp only [ho];simp [hmv,hrun]
       · simp at he
   · simp at he
 · simp at he
end Go.Pv
