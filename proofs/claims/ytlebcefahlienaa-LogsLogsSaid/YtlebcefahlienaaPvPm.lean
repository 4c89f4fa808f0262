/- The purifying layer, part 15m: ranges over maps. -/
import Derived.Test.YtlebcefahlienaaPvPi
import Derived.Maps.RangeRun
set_option linter.unusedVariables false
set_option linter.unusedSimpArgs false
namespace Go.Pv
variable {P:Program} {Γ:Cfg} {cx:Cx} {tm:Tm} {lk:Lk} {a:Act} {w:World} {Fz:Nat→Prop} {pos:Nat→Value} {U:Nat→Prop}
theorem MapRep_get {α β:Type} {RK:α→Value→Prop} {RV:β→Value→Prop}:∀ (n:Nat) (es:List (α×β)) (ents:List MapEntry),MapRep RK RV n es ents→∀ (i:Nat) (q:α×β),es[i]? = some q→∃ e,ents[i]? = some e∧RK q.1 e.key∧RV q.2 e.val∧e.born = n + i
 | _,[],_,_,i,q,h=>by simp at h
 | n,q0 :: r,es,⟨e,es',he,h1,h2,hb,h3⟩,0,q,h=>by
   subst he
   simp only [List.getElem?_cons_zero,Option.some.injEq] at h
   subst h
   exact ⟨e,rfl,h1,h2,by omega⟩
 | n,q0 :: r,es,⟨e,es',he,h1,h2,hb,h3⟩,i + 1,q,h=>by
   subst he
   obtain ⟨e',g1,g2,g3,g4⟩:=MapRep_get (n + 1) r es' h3 i q (by simpa using h)
   exact ⟨e',by simpa using g1,g2,g3,by omega⟩
theorem MapRep_born {α β:Type} {RK:α→Value→Prop} {RV:β→Value→Prop}:∀ (n:Nat) (es:List (α×β)) (ents:List MapEntry),MapRep RK RV n es ents→ents.map (·.born) = List.range' n es.length
 | _,[],es,h=>by have:es = []:=h;subst this;rfl
 | n,q :: r,es,⟨e,es',he,_,_,hb,h3⟩=>by
   subst he
   simp only [List.map_cons,hb,List.length_cons,List.range'_succ,MapRep_born (n + 1) r es' h3]
theorem ok_rangeMap {o:Oper} {T:TypeId} {x:Operand} {d:Nat} (ho:o.op = .range T x) (hd:o.dst = some d) (hΓ:CfgOk P Γ) (r:RelIn cx tm lk a w Fz pos U) (hg:cx.G = Γ.glob) {e:Eff}
   (he:evRangeMap Γ lk d T (Γ.val tm x) some = some e):Ok P cx tm lk o a w e:=by
 have hx:=val_rep r hg x
 unfold evRangeMap at he
 split at he
 · rename_i k v es hv
   split at he
   · rename_i hT
     simp only [Option.some.injEq] at he
     subst he
     rw [hv] at hx
     obtain ⟨kT,vT,hu,_⟩:=mapTy_ok hΓ hT
     obtain ⟨cs,hcs,hval⟩:=hx
     obtain ⟨rr,rfl,hcase⟩:=hcs
     have hval:a.eval x = .map rr:=hval
     have hns:∀ s0 o0,lk d = some (s0,o0)→s0 < nextS lk d:=fun s0 o0 h=>nextS_lt h
     have fin:∀ ob:Go.Obj,(Instr.range T (a.eval x)).run P w = .ok (.pointer (some ⟨w.heap.size,0,none⟩)) (w.alloc ob) →
         (∀ lk' pos',Le (cx.e Fz w lk pos) (cx.e Fz (w.alloc ob) lk' pos')→RepO (cx.e Fz (w.alloc ob) lk' pos') (.mi k v es [] none) (.pointer (some ⟨w.heap.size,0,none⟩))) →
         Ok P cx tm lk o a w { val:=.ref d (nextS lk d) [],wr:=[(d,nextS lk d,.mi k v es [] none)] }:=by
       intro ob hrun hrep
       have r2:=r.newObj d (nextS lk d) (.mi k v es [] none) ob (.pointer (some ⟨w.heap.size,0,none⟩)) hns (fun b h=>(Option.some.inj h).symm) (fun hle=>hrep _ _ hle)
       refine .inl ⟨.pointer (some ⟨w.heap.size,0,none⟩),w.alloc ob,?_,Fz,updPos pos d (.pointer (some ⟨w.heap.size,0,none⟩)),U,?_⟩
       · unfold execOp;simp [ho,hrun]
       · have:=r2.value o.dst (v:=.ref d (nextS lk d) []) (u:=.pointer (some ⟨w.heap.size,0,none⟩))
           ⟨rfl,nextS lk d,_,updLk1_self _ _ _ _,Nat.le_refl _,fun _=>⟨0,⟨w.heap.size,0,none⟩,rfl,by simp [updPos,vaddr],rfl⟩⟩
         simpa [updLk] using this
     rcases hcase with ⟨rfl,hes⟩ | ⟨b,ents,clock,rfl,hfz,hb,hcl,hm⟩
     · refine fin _ (by rw [hval];exact run_range_nilMap w T kT vT hu) fun lk' pos' hle=>⟨w.heap.size,rfl,.inl ⟨heap_alloc_at w _,hes⟩,fun q hq=>by cases hq⟩
     · refine fin _ (by rw [hval];exact run_range_map w T kT vT b ents clock hu hb) fun lk' pos' hle=>⟨w.heap.size,rfl,.inr ⟨b,ents,clock,heap_alloc_at w _,hfz,(hle.fut b hfz).2.trans hb,hcl,?_⟩,fun q hq=>by cases hq⟩
       exact MapRep.mono (fun x u ⟨c,hc,hu⟩=>⟨c,hc.mono hle.fut,hu⟩) (fun x u ⟨c,hc,hu⟩=>⟨c,hc.mono hle.fut,hu⟩) _ _ _ hm
   · simp at he
 · simp at he
theorem ok_entry {o:Oper} {x:Operand} (ho:o.op = .entry x) (r:RelIn cx tm lk a w Fz pos U) (hg:cx.G = Γ.glob) {e:Eff} (he:evEntry lk (Γ.val tm x) some = some e):Ok P cx tm lk o a w e:=by
 have hx:=val_rep r hg x
 unfold evEntry at he
 split at he
 · rename_i k s hv
   rw [hv] at hx
   split at he
   · rename_i s' kt vt es seen q hlk
     split at he
     · rename_i hs
       subst hs
       simp only [Option.some.injEq] at he
       obtain ⟨_,s2,ob,h2,_,hval⟩:=hx
       have h2:lk k = some (s2,ob):=h2
       rw [hlk] at h2
       simp only [Option.some.injEq,Prod.mk.injEq] at h2
       obtain ⟨rfl,rfl⟩:=h2
       obtain ⟨d,ad,hoff,had,hu⟩:=hval rfl
       obtain ⟨rb,hpos,hcase,hcur⟩:=r.objs k s _ hlk
       obtain ⟨i,hi,hqi⟩:=hcur q rfl
       have had:vaddr (pos k) = some ad:=had
       rw [hpos] at had
       simp only [vaddr,Option.some.injEq] at had
       subst had
       simp only [Obj.off,Option.some.injEq] at hoff
       subst hoff
       rcases hcase with ⟨_,hes⟩ | ⟨b,ents,since,hr,hfz,hb,hsz,hm⟩
       · subst hes;simp at hqi
       · obtain ⟨ent,g1,⟨ck,hck,hkey⟩,⟨cv,hcv,hval2⟩,g4⟩:=MapRep_get 0 es ents.toList hm i q hqi
         obtain ⟨init,hinit⟩:=List.getLast?_eq_some_iff.1 hi
         have hsa:seen.toArray = init.toArray.push ent.born:=by
           rw [g4,hinit];simp
         rw [hsa] at hr
         have hrun:=run_entry_at (P:=P) w rb b since init.toArray ents since ent hr hb (List.mem_of_getElem? g1) (by rw [MapRep_born 0 es _ hm];exact List.nodup_range')
         refine Ok.value r he.symm (u:=.tuple #[ent.key,ent.val]) ?_ ⟨[ent.key,ent.val],rfl,ent.key,[ent.val],rfl,⟨ck,hck,hkey⟩,ent.val,[],rfl,⟨cv,hcv,hval2⟩,rfl⟩
         have hu:a.eval x = .pointer (some ⟨rb,0,none⟩):=by simpa using hu
         unfold execOp
         simp [ho,hu,hrun]
     · simp at he
   · simp at he
 · simp at he
end Go.Pv
