/- The purifying layer, part 11: literals, slices, append. -/
import Derived.Test.YtlebcefahlienaaPvJ
import Derived.Laws.MakeOwn
import Derived.Laws.Slices
set_option linter.unusedVariables false
set_option linter.unusedSimpArgs false
namespace Go.Pv
variable {P:Program} {Γ:Cfg} {cx:Cx} {tm:Tm} {lk:Lk} {a:Act} {w:World} {Fz:Nat→Prop} {pos:Nat→Value} {U:Nat→Prop}
theorem part_run {T:TypeId} {cs:Array Value} {o n:Nat} {d:TypeDesc} (hd:P.underlying T = some d) (hs:(sizeOf T).run P w = .ok n w) (c:List Value) (hc:(cs.toList.drop o).take n = c) (hl:o + n ≤ cs.size) :
   (d.isRow = true→(part T cs o).run P w = .ok (.agg c.toArray) w)∧(d.isRow = false→n = 1→∃ v,c = [v]∧(part T cs o).run P w = .ok v w):=by
 have hag:(isAgg T).run P w = .ok d.isRow w:=by
   unfold isAgg
   rw [Sem.run_bind,run_underlying hd w]
   cases d <;> simp [TypeDesc.isRow]
 constructor
 · intro h
   rw [h] at hag
   have:cs.extract o (o + n) = c.toArray:=by
     apply Array.ext'
     simp [← hc,List.extract_eq_take_drop]
   simp [part,hag,hs,this]
 · intro h hn
   subst hn
   rw [h] at hag
   have ho:o < cs.size:=by omega
   refine ⟨cs[o],?_,?_⟩
   · rw [← hc,List.drop_eq_getElem_cons (by simpa using ho)];simp
   · simp [part,hag,ho]
theorem pack_part {Fz:Nat→Prop} {T:TypeId} {t:Ty} {x:t.T} {cs:Array Value} {o:Nat} {d:TypeDesc} (hd:P.underlying T = some d) (hrow:d.isRow = t.isAgg) (hs:(sizeOf T).run P w = .ok t.size w)
   (hr:RepC Fz w t x ((cs.toList.drop o).take t.size)) (hl:o + t.size ≤ cs.size):∃ v,(part T cs o).run P w = .ok v w∧RepD Fz w t x v:=by
 obtain ⟨h1,h2⟩:=part_run (P:=P) (w:=w) hd hs _ rfl hl
 cases ha:t.isAgg with
 | true=>exact ⟨_,h1 (by rw [hrow,ha]),_,hr,by simp [pack,ha]⟩
 | false =>
   obtain ⟨u,hu,hp⟩:=leaf_one hr ha
   have hsz:t.size = 1:=by have:=hr.size;rw [hu] at this;simpa using this.symm
   obtain ⟨v,hv,hrun⟩:=h2 (by rw [hrow,ha]) hsz
   refine ⟨v,hrun,_,hr,?_⟩
   rw [hp]
   have:[u] = [v]:=by rw [← hu,← hv]
   simpa using this.symm
theorem ok_field {o:Oper} {T:TypeId} {x:Operand} {j:Nat} (ho:o.op = .field T x j) (hΓ:CfgOk P Γ) (r:RelIn cx tm lk a w Fz pos U) (hg:cx.G = Γ.glob) {e:Eff}
   (he:evField Γ T (Γ.val tm x) j some = some e):Ok P cx tm lk o a w e:=by
 have hv:=coll_rep (val_rep r hg x)
 unfold evField at he
 cases hT:Γ.ty T with
 | none=>rw [hT] at he;simp at he
 | some ti =>
   obtain ⟨d,sh,by_⟩:=ti
   rw [hT] at he
   cases d <;> simp only at he <;> try (simp at he;done)
   rename_i fs
   obtain ⟨fields,hu,hagg,_,hchain,hfld⟩:=struct_desc hΓ hT
   generalize (Γ.val tm x).coll = vx at he hv
   cases vx <;> simp only at he <;> try (simp at he;done)
   rename_i t y
   split at he
   · rename_i hsh
     subst hsh
     cases hfg:t.fieldGet y j with
     | none=>rw [hfg] at he;simp at he
     | some q =>
       rw [hfg] at he
       simp only [Option.some.injEq] at he
       obtain ⟨o1,hfa⟩:=fieldGet_at t y j q hfg
       obtain ⟨f,hf,hok⟩:=hfld j o1 (some q.1) (fieldAt_ffield t j o1 q.1 hfa)
       obtain ⟨cs,hc,hval⟩:=hv
       have hag:t.isAgg = true:=hagg
       have hval:a.eval x = .agg cs.toArray:=by rw [hval];simp [pack,hag]
       obtain ⟨_,g2,g3⟩:=fieldGet_rep t y j q o1 q.1 hfg hfa cs hc
       obtain ⟨d,hd,hrow⟩:=hok.row
       obtain ⟨i,hi,his⟩:=hok.info
       obtain ⟨v,hv1,hv2⟩:=pack_part (P:=P) (w:=w) (T:=f.type) (cs:=cs.toArray) (o:=o1) hd hrow (by simp [sizeOf,typeInfo,hi,his,fsize]) (by simpa using g2) (by simpa using g3)
       refine Ok.value r he.symm (u:=v) ?_ hv2
       unfold execOp
       simp [ho,hval,Instr.field,run_underlying hu,hf,asAgg,hok.off,hv1]
   · simp at he
theorem ok_index {o:Oper} {T:TypeId} {x i:Operand} (ho:o.op = .index T x i) (hΓ:CfgOk P Γ) (r:RelIn cx tm lk a w Fz pos U) (hg:cx.G = Γ.glob) {e:Eff}
   (he:evIndex Γ T (Γ.val tm x) (Γ.val tm i) some = some e):Ok P cx tm lk o a w e:=by
 have hv:=val_rep r hg x
 have hiv:=val_rep r hg i
 unfold evIndex at he
 generalize Γ.val tm i = vi at he hiv
 cases vi <;> (try simp only at he) <;> try (simp at he;done)
 rename_i ti n
 cases ti <;> (try simp only at he) <;> try (simp at he;done)
 rename_i ik
 revert n
 intro (n:Int) he hiv
 have hin:a.eval i = .int ik n:=repInt hiv
 have hrun:∀ u,(Instr.index T (a.eval x) (.int ik n)).run P w = .ok u w→(execOp a.eval o).run P w = .ok (.value u) w:=by
   intro u hu;unfold execOp;simp [ho,hin,hu]
 generalize Γ.val tm x = vx at he hv
 split at he
 · rename_i m et xs m' E m'' et' by_ hT
   split at he
   · rename_i heq
     obtain ⟨rfl,rfl⟩:=heq
     split at he
     · rename_i hb
       simp only [Option.some.injEq] at he
       obtain ⟨hu,_,hel⟩:=arr_desc hΓ hT
       obtain ⟨cs,hc,hval⟩:=hv
       obtain ⟨hlen,hall⟩:=hc
       have hval:a.eval x = .agg cs.toArray:=by rw [hval];simp [pack,Ty.isAgg]
       have hnn:n.toNat < (xs:List et.T).length:=by omega
       obtain ⟨g1,g2⟩:=getD_rep hall hnn
       obtain ⟨d,hd,hrow⟩:=hel.2
       obtain ⟨v,hv1,hv2⟩:=pack_part (P:=P) (w:=w) (T:=E) (cs:=cs.toArray) (o:=n.toNat * et.size) hd hrow (sizeOf_run hel w) (by simpa using g1) (by simpa using g2)
       refine Ok.value r he.symm (u:=v) (hrun _ ?_) hv2
       rw [hval]
       simp [Instr.index,run_underlying hu,asIntOf,hb,sizeOf_run hel,hv1]
     · simp at he
   · simp at he
 · rename_i s b hT
   split at he
   · rename_i hb
     simp only [Option.some.injEq] at he
     have hu:=((hΓ.ty T _ hT).desc).1
     have hval:=repStr hv
     refine Ok.value r he.symm (u:=.int .u8 (((s:List UInt8).getD n.toNat 0).toNat:Int)) (hrun _ ?_) (mkInt _ _ _)
     rw [hval]
     have h0:0 ≤ n:=hb.1
     have hlt:n.toNat < (s:List UInt8).length:=by omega
     have hget:(⟨(s:List UInt8).toArray⟩:ByteArray)[n.toNat]? = some ((s:List UInt8).getD n.toNat 0):=by
       have:n.toNat < (⟨(s:List UInt8).toArray⟩:ByteArray).size:=by simpa [ByteArray.size] using hlt
       rw [getElem?_pos (⟨(s:List UInt8).toArray⟩:ByteArray) n.toNat this]
       simp [ByteArray.getElem_eq_getElem_data,List.getD_eq_getElem?_getD,hlt]
     simp [Instr.index,run_underlying hu,asIntOf,h0,hget]
   · simp at he
 · simp at he
theorem fill_one (cells:Array Value) (off:Nat):∀ (d:List Value) (j:Nat),off + j + d.length ≤ cells.size →
   (d.zipIdx j).foldl (fun (cs:Array Value) (x:Value×Nat)=>cs.setIfInBounds (off + x.2) x.1) cells = (seg cells.toList (off + j) d).toArray:=by
 intro d
 induction d generalizing cells with
 | nil=>intro j _;simp [seg]
 | cons v d ih =>
   intro j hj
   simp only [List.zipIdx_cons,List.foldl_cons]
   have hlt:off + j < cells.size:=by simp at hj;omega
   rw [ih (cells.setIfInBounds (off + j) v) (j + 1) (by simp at hj ⊢;omega)]
   apply Array.ext'
   simp only [seg,Array.toList_setIfInBounds]
   have hl:off + j < cells.toList.length:=by simpa using hlt
   have h1:(cells.toList.set (off + j) v).take (off + (j + 1)) = cells.toList.take (off + j) ++ [v]:=by
     rw [List.set_eq_take_append_cons_drop,if_pos hl,List.take_append]
     simp only [List.length_take,Nat.min_eq_left (Nat.le_of_lt hl)]
     rw [List.take_of_length_le (by simp;omega),show off + (j + 1) - (off + j) = 1 by omega]
     simp
   have h2:(cells.toList.set (off + j) v).drop (off + (j + 1) + d.length) = cells.toList.drop (off + j + (v :: d).length):=by
     rw [List.drop_set_of_lt (by omega)]
     congr 1
     simp;omega
   rw [h1,h2]
   simp
theorem nilTo_rep {A:E} {e:Ty} {v:V} {u:Value} (h:RepT A v u):RepT A (nilTo e v) u:=by
 cases v <;> try exact h
 unfold nilTo
 cases e <;> try exact h
 rename_i e
 have h:u = .slice none 0 0:=h
 subst h
 exact ⟨[.slice none 0 0],⟨none,0,0,[],rfl,rfl,Nat.le_refl _,rfl,.inl ⟨rfl,rfl⟩⟩,rfl⟩
theorem as_some {v:V} {t:Ty} {y:t.T} (h:v.as t = some y):v = .dat t y:=by
 unfold V.as at h
 split at h
 · split at h
   · rename_i he
     subst he
     simp only [Option.some.injEq] at h
     rw [h]
   · simp at h
 · simp at h
theorem fill_elems {A:E} {e:Ty} (place:Nat→Option (Nat×Nat)) (n:Nat) (hplace:∀ i,i < n→place i = some (i * e.size,e.size)):∀ (parts:List (Nat×V)) (xs zs:List e.T) (us:List (Nat×Value)) (cells:Array Value),
   Pt (fun (q:Nat×V) (u:Nat×Value)=>q.1 = u.1∧RepT A q.2 u.2) parts us→All2 (RepC A.Fz A.w e) xs cells.toList→xs.length = n→fillElems e parts xs = some zs →
   ∃ cells',Instr.fill place cells us = some cells'∧All2 (RepC A.Fz A.w e) zs cells'.toList∧zs.length = n
 | [],xs,zs,us,cells,hp,hc,hn,h=>by
   have:us = []:=hp
   subst this
   simp only [fillElems,Option.some.injEq] at h;subst h
   exact ⟨cells,rfl,hc,hn⟩
 | (j,v) :: parts,xs,zs,us,cells,⟨u,r,he,⟨h1,h2⟩,h3⟩,hc,hn,h=>by
   subst he
   obtain ⟨i,u⟩:=u
   simp only at h1 h2
   subst h1
   simp only [fillElems] at h
   cases hy:(nilTo e v.coll).as e with
   | none=>rw [hy] at h;simp at h
   | some y =>
     rw [hy] at h
     simp only at h
     split at h
     · rename_i hj
       have hrep:=nilTo_rep (e:=e) (coll_rep h2)
       rw [as_some hy] at hrep
       obtain ⟨d,hd,hu⟩:=hrep
       have hcells:u.cells.toList = d:=by rw [hu];exact pack_cells hd
       have hds:u.cells.size = e.size:=by rw [← hd.size,← hcells];simp
       have hsz:=All2.size (fun x cs hx=>RepC.size e x cs hx) xs _ hc
       have hle:j * e.size + e.size ≤ cells.size:=by
         have:(j + 1) * e.size ≤ xs.length * e.size:=Nat.mul_le_mul_right _ hj
         rw [Nat.add_mul,Nat.one_mul] at this
         simp at hsz;omega
       have hset:=All2.set (fun x cs hx=>RepC.size e x cs hx) xs _ hc j y d hj hd
       have hf:=fill_one cells (j * e.size) u.cells.toList 0 (by simp;omega)
       simp only [Nat.add_zero] at hf
       obtain ⟨cells',g1,g2,g3⟩:=fill_elems place n hplace parts (xs.set j y) zs r (seg cells.toList (j * e.size) d).toArray h3 (by
         have:d.length = e.size:=hd.size
         simp only [seg,this];exact hset) (by simpa using hn) h
       refine ⟨cells',?_,g2,g3⟩
       have hne:¬ (u.cells.size ≠ e.size ∨ j * e.size + u.cells.size > cells.size):=by omega
       have hf':u.cells.zipIdx.foldl (fun (cs:Array Value) (x:Value×Nat)=>cs.setIfInBounds (j * e.size + x.2) x.1) cells = (seg cells.toList (j * e.size) d).toArray:=by
         rw [← hcells,← hf]
         rw [← Array.foldl_toList]
         simp
       simp only [Instr.fill,hplace j (by omega)]
       rw [if_neg (by simpa using hne)]
       have hf2:u.cells.zipIdx.foldl (fun (cs:Array Value) x=>match x with | (c,j_1)=>cs.setIfInBounds (j * e.size + j_1) c) cells = (seg cells.toList (j * e.size) d).toArray:=hf'
       rw [hf2];exact g1
     · simp at h
theorem fill_fields {A:E} (ts:List (Option Ty)) (place:Nat→Option (Nat×Nat)) (hplace:∀ j o ft,ffield ts j = some (o,ft)→place j = some (o,fsize ft)):∀ (parts:List (Nat×V)) (fs gs:List V) (us:List (Nat×Value)) (cells:Array Value),
   Pt (fun (q:Nat×V) (u:Nat×Value)=>q.1 = u.1∧RepT A q.2 u.2) parts us→All2 (RepF A) fs cells.toList→fitsL fs ts = true→fillFields ts parts fs = some gs →
   ∃ cells',Instr.fill place cells us = some cells'∧All2 (RepF A) gs cells'.toList∧fitsL gs ts = true
 | [],fs,gs,us,cells,hp,hc,hn,h=>by
   have:us = []:=hp
   subst this
   simp only [fillFields,Option.some.injEq] at h;subst h
   exact ⟨cells,rfl,hc,hn⟩
 | (j,v) :: parts,fs,gs,us,cells,⟨u,r,he,⟨h1,h2⟩,h3⟩,hc,hn,h=>by
   subst he
   obtain ⟨i,u⟩:=u
   simp only at h1 h2
   subst h1
   simp only [fillFields] at h
   split at h
   · rename_i hok
     simp only [Bool.and_eq_true,decide_eq_true_eq] at hok
     obtain ⟨⟨hisv,hj⟩,hfit⟩:=hok
     have hB:=collB_rep (val_cells h2 hisv)
     obtain ⟨o1,ft,hff⟩:∃ o ft,ffield ts j = some (o,ft):=ffield_some fs ts j hn hj
     obtain ⟨v0,hv0,hvf,hvr,hle⟩:=flds_rep fs ts j o1 ft _ hn hff hc
     have hget:=upd_rep.fitsL_get _ _ j o1 ft hfit hff
     rw [List.getElem?_set_self hj] at hget
     simp only [Option.map_some,Option.some.injEq] at hget
     have hna:∀ fs,v.coll ≠ .agg fs:=by
       intro fs h;rw [h] at hget;cases ft <;> simp [V.fitsF] at hget
     have hF:=(repB_F hna).1 hB
     have hds:u.cells.toList.length = fsize ft:=repF_size hget hF
     have hset:=flds_set (A:=A) fs ts j o1 ft _ v.coll u.cells.toList 0 hn hff hc (by omega) (fun v' c hv' hc'=>by
       rw [hv0] at hv'
       simp only [Option.some.injEq] at hv'
       subst hv'
       rw [seg_all _ _ (by rw [repF_size hvf hc'];omega)];exact hF)
     simp only [Nat.add_zero] at hset
     have hle':o1 + u.cells.size ≤ cells.size:=by simp at hle hds;omega
     have hf:=fill_one cells o1 u.cells.toList 0 (by simp;omega)
     simp only [Nat.add_zero] at hf
     obtain ⟨cells',g1,g2,g3⟩:=fill_fields ts place hplace parts (fs.set j v.coll) gs r (seg cells.toList o1 u.cells.toList).toArray h3 (by simpa using hset) hfit h
     refine ⟨cells',?_,g2,g3⟩
     have hne:¬ (u.cells.size ≠ fsize ft ∨ o1 + u.cells.size > cells.size):=by simp at hds;omega
     have hf':u.cells.zipIdx.foldl (fun (cs:Array Value) (x:Value×Nat)=>cs.setIfInBounds (o1 + x.2) x.1) cells = (seg cells.toList o1 u.cells.toList).toArray:=by
       rw [← hf,← Array.foldl_toList]
       simp
     simp only [Instr.fill,hplace j o1 ft hff]
     rw [if_neg (by simpa using hne)]
     have hf2:u.cells.zipIdx.foldl (fun (cs:Array Value) x=>match x with | (c,j_1)=>cs.setIfInBounds (o1 + j_1) c) cells = (seg cells.toList o1 u.cells.toList).toArray:=hf'
     rw [hf2];exact g1
   · simp at h
where
 ffield_some:∀ (fs:List V) (ts:List (Option Ty)) (j:Nat),fitsL fs ts = true→j < fs.length→∃ o ft,ffield ts j = some (o,ft)
   | v :: vs,t :: ts,0,_,_=>⟨0,t,rfl⟩
   | v :: vs,t :: ts,j + 1,hf,hj=>by
     simp only [fitsL,Bool.and_eq_true] at hf
     obtain ⟨o,ft,h⟩:=ffield_some vs ts j hf.2 (by simpa using hj)
     exact ⟨fsize t + o,ft,by simp [ffield,h]⟩
   | [],ts,j,_,hj=>by simp at hj
   | v :: vs,[],j,hf,_=>by simp [fitsL] at hf
theorem zeroF_fits:∀ ts:List (Option Ty),fitsL (ts.map zeroF) ts = true
 | []=>rfl
 | t :: ts=>by
   simp only [List.map_cons,fitsL,Bool.and_eq_true]
   refine ⟨?_,zeroF_fits ts⟩
   cases t with
   | none=>rfl
   | some t=>cases t <;> simp [zeroF,V.fitsF]
theorem parts_rep (r:RelIn cx tm lk a w Fz pos U) (hg:cx.G = Γ.glob):∀ l:List (Nat×Operand),
   Pt (fun (q:Nat×V) (u:Nat×Value)=>q.1 = u.1∧RepT (cx.e Fz w lk pos) q.2 u.2) (l.map fun q=>(q.1,Γ.val tm q.2)) (l.map fun q=>(q.1,a.eval q.2))
 | []=>rfl
 | q :: l=>⟨_,_,rfl,⟨rfl,val_rep r hg q.2⟩,parts_rep r hg l⟩
theorem madeCells_flat (z:List Value) (n:Nat):((Array.range (n * z.length)).map (z.toArray[· % z.toArray.size]!)).toList = (List.replicate n z).flatten:=by
 simp only [Array.toList_map,Array.toList_range,List.size_toArray]
 induction n with
 | zero=>simp
 | succ n ih =>
   rw [Nat.succ_mul,List.range_add,List.map_append,ih]
   rw [List.replicate_succ',List.flatten_append]
   congr 1
   simp only [List.map_map,List.flatten_cons,List.flatten_nil,List.append_nil]
   apply List.ext_getElem
   · simp
   · intro i h1 h2
     simp only [List.getElem_map,List.getElem_range,Function.comp]
     have hi:i < z.length:=by simpa using h2
     have:(n * z.length + i) % z.length = i:=by rw [Nat.mul_comm,Nat.mul_add_mod];exact Nat.mod_eq_of_lt hi
     rw [this]
     simp [hi]
theorem ok_build {o:Oper} {T:TypeId} {parts:Array (Nat×Operand)} (ho:o.op = .build T parts) (hΓ:CfgOk P Γ) (r:RelIn cx tm lk a w Fz pos U) (hg:cx.G = Γ.glob) {e:Eff}
   (he:evBuild Γ T (parts.toList.map fun q=>(q.1,Γ.val tm q.2)) some = some e):Ok P cx tm lk o a w e:=by
 have hparts:=parts_rep r hg parts.toList
 have hpl:(parts.map fun (q:Nat×Operand)=>(q.1,a.eval q.2)).toList = parts.toList.map fun q=>(q.1,a.eval q.2):=by simp
 unfold evBuild at he
 split at he
 · rename_i fs sh by_ hT
   obtain ⟨fields,hu,hagg,hsz,hchain,hfld⟩:=struct_desc hΓ hT
   obtain ⟨i,hi,his,hib,z,hz,hzo,hza,_⟩:=(hΓ.ty T _ hT).info
   have hza:=hza hagg
   cases hfill:fillFields sh.fields (parts.toList.map fun q=>(q.1,Γ.val tm q.2)) (sh.fields.map zeroF) with
   | none=>rw [hfill] at he;simp at he
   | some gs =>
     rw [hfill] at he
     simp only [Option.some.injEq] at he
     -- the fields' places
     have hmapM:∃ places:List (Nat×Nat),fields.toList.mapM (fun f=>(P.info? f.type).map fun i=>(f.offset,i.size)) = some places∧∀ j o ft,ffield sh.fields j = some (o,ft)→places[j]? = some (o,fsize ft):=by
       have:∀ l:List Field,(∀ f ∈ l,∃ i,P.info? f.type = some i)→∃ ps:List (Nat×Nat),l.mapM (fun f=>(P.info? f.type).map fun i=>(f.offset,i.size)) = some ps∧∀ (j:Nat) (f:Field),l[j]? = some f→∃ i,P.info? f.type = some i∧ps[j]? = some (f.offset,i.size):=by
         intro l
         induction l with
         | nil=>intro _;exact ⟨[],by simp,by simp⟩
         | cons f l ih =>
           intro hl
           obtain ⟨i,hi⟩:=hl f (by simp)
           obtain ⟨ps,h1,h2⟩:=ih fun g hg=>hl g (by simp [hg])
           refine ⟨(f.offset,i.size) :: ps,by simp [List.mapM_cons,hi,h1],?_⟩
           intro j g hg
           cases j with
           | zero=>simp at hg;subst hg;exact ⟨i,hi,rfl⟩
           | succ j=>simp at hg;obtain ⟨i',h3,h4⟩:=h2 j g hg;exact ⟨i',h3,by simpa using h4⟩
       have hall:∀ f ∈ fields.toList,∃ i,P.info? f.type = some i:=by
         intro f hf
         obtain ⟨j,hj,rfl⟩:=List.getElem_of_mem hf
         have hj':j < sh.fields.length:=by rw [← hsz];simpa using hj
         obtain ⟨o1,ft,hff⟩:=fill_fields.ffield_some (sh.fields.map zeroF) sh.fields j (zeroF_fits _) (by simpa using hj')
         obtain ⟨f,hf2,hok⟩:=hfld j o1 ft hff
         obtain ⟨i,hi,_⟩:=hok.info
         have hj2:j < fields.size:=by simpa using hj
         rw [Array.getElem?_eq_getElem hj2] at hf2
         simp only [Option.some.injEq] at hf2
         refine ⟨i,?_⟩
         simp only [Array.getElem_toList]
         rw [hf2];exact hi
       obtain ⟨ps,h1,h2⟩:=this fields.toList hall
       refine ⟨ps,h1,fun j o1 ft hff=>?_⟩
       obtain ⟨f,hf,hok⟩:=hfld j o1 ft hff
       obtain ⟨i,hi,his⟩:=hok.info
       obtain ⟨i',hi',hp⟩:=h2 j f (by simpa using hf)
       rw [hi] at hi'
       simp only [Option.some.injEq] at hi'
       subst hi'
       simp [hp,hok.off,his]
     obtain ⟨places,hp1,hp2⟩:=hmapM
     have hzF:All2 (RepF (cx.e Fz w lk pos)) (sh.fields.map zeroF) z.cells.toList:=by
       have hzB:=zero_B hΓ hT (cx.e Fz w lk pos) hzo
       cases sh with
       | leaf=>simp [K.isAgg] at hagg
       | st ks=>exact hzB
       | d t =>
         have hzo:z.cells.toList = t.zcells:=hzo
         rw [hzo]
         show All2 _ ((t.fields.map some).map zeroF) _
         rw [List.map_map]
         exact zfields_rep (cx.e Fz w lk pos) t (hchain t rfl)
     obtain ⟨cells',g1,g2,g3⟩:=fill_fields (A:=cx.e Fz w lk pos) sh.fields (places.toArray[·]?) (fun j o1 ft h=>by simpa using hp2 j o1 ft h) _ _ gs _ z.cells hparts hzF (zeroF_fits _) hfill
     refine Ok.value r he.symm (u:=.agg cells') ?_ (coll_rep ⟨cells'.toList,by simp,g2⟩)
     have hb:P.built T (parts.map fun (q:Nat×Operand)=>(q.1,a.eval q.2)).toList = some cells':=by
       unfold Program.built
       simp only [hi,hu,hz,hp1]
       rw [hpl];exact g1
     have:=run_build w T _ cells' hb
     unfold execOp
     simp only [ho,Sem.run_bind,this,Result.andThen_ok,Sem.run_pure]
 · rename_i n E m et by_ hT
   split at he
   · rename_i hnm
     subst hnm
     obtain ⟨hu,_,hel⟩:=arr_desc hΓ hT
     obtain ⟨i,hi,his,hib,z,hz,hzo,hza,_⟩:=(hΓ.ty T _ hT).info
     cases hfill:fillElems et (parts.toList.map fun q=>(q.1,Γ.val tm q.2)) (List.replicate n et.zero) with
     | none=>rw [hfill] at he;simp at he
     | some xs =>
       rw [hfill] at he
       simp only [Option.some.injEq] at he
       have hzc:All2 (RepC Fz w et) (List.replicate n et.zero) z.cells.toList:=by
         have hzo:z.cells.toList = (Ty.arr n et).zcells:=hzo
         rw [hzo]
         exact All2.replicate (zero_rep et) n
       obtain ⟨cells',g1,g2,g3⟩:=fill_elems (A:=cx.e Fz w lk pos) (fun i=>some (i * et.size,et.size)) n (fun _ _=>rfl) _ _ xs _ z.cells hparts hzc (by simp) hfill
       refine Ok.value r he.symm (u:=.agg cells') ?_ ⟨cells'.toList,⟨g3,g2⟩,by simp [pack,Ty.isAgg]⟩
       obtain ⟨ie,hie,hies⟩:=hel.1
       have hb:P.built T (parts.map fun (q:Nat×Operand)=>(q.1,a.eval q.2)).toList = some cells':=by
         unfold Program.built
         simp only [hi,hu,hz,hie]
         rw [hpl,hies];exact g1
       have:=run_build w T _ cells' hb
       unfold execOp
       simp only [ho,Sem.run_bind,this,Result.andThen_ok,Sem.run_pure]
   · simp at he
 · simp at he
theorem RelIn.newVec (r:RelIn cx tm lk a w Fz pos U) (d:Nat) (e:Ty) (xs:List e.T) (cells:Array Value) (E:TypeId) (off cap:Nat) (hoff:off = 0) (hlen:xs.length ≤ cap) (hcap:cap ≤ maxLen) (hsz:cap * e.size ≤ cells.size)
   {cs:List Value} (hall:All2 (RepC Fz w e) xs cs) (hp:cs <+: cells.toList) :
   RelIn cx tm (updLk1 lk d (nextS lk d) (.vec e xs)) a (w.alloc (.cells cells E)) Fz (updPos pos d (.slice (some ⟨w.heap.size,0,none⟩) xs.length cap)) U:=by
 refine r.newObj d (nextS lk d) (.vec e xs) (.cells cells E) _ (fun s0 o0 h=>nextS_lt h) (fun b h=>(Option.some.inj h).symm) fun hle=>.inr ⟨w.heap.size,0,cap,cells,E,rfl,heap_alloc_at w _,hlen,hcap,by simpa using hsz,cs,All2.mono (fun x cs hx=>hx.mono hle.fut) _ _ hall,by simpa using hp⟩
theorem sl_new (cx:Cx) (Fz:Nat→Prop) (w:World) (lk:Lk) (pos:Nat→Value) (d s:Nat) (e:Ty) (xs:List e.T) (v:Value) (h1:v.oneCell' = true):RepT (cx.e Fz w (updLk1 lk d s (.vec e xs)) (updPos pos d v)) (.sl e d s) v :=
 ⟨h1,s,.vec e xs,by simp [updLk1],Nat.le_refl _,fun _=>⟨rfl,by simp [updPos]⟩⟩
theorem elemZ_iff {E:TypeId} {e:Ty} (hΓ:CfgOk P Γ) (h:elemZ Γ E e = true):0 < e.size∧∃ i z,P.info? E = some i∧i.size = e.size∧i.zero = some z∧z.cells.toList = e.zcells:=by
 unfold elemZ at h
 split at h
 · rename_i td t n hti
   simp only [Bool.and_eq_true,decide_eq_true_eq] at h
   obtain ⟨i,hi,his,hib,z,hz,hzo,_⟩:=(hΓ.ty E _ hti).info
   obtain ⟨h1,h2⟩:=alike_of _ _ h.1
   exact ⟨h.2,i,z,hi,his.trans h1,hz,Eq.trans hzo h2⟩
 · simp at h
theorem elemOk_iff {E:TypeId} {e:Ty} (hΓ:CfgOk P Γ) (h:elemOk Γ E e = true):0 < e.size∧∃ i z,P.info? E = some i∧i.size = e.size∧i.bytes ≤ 65536∧i.zero = some z∧z.cells.toList = e.zcells:=by
 unfold elemOk at h
 split at h
 · rename_i td t n hti
   simp only [Bool.and_eq_true,decide_eq_true_eq] at h
   obtain ⟨i,hi,his,hib,z,hz,hzo,_⟩:=(hΓ.ty E _ hti).info
   obtain ⟨h1,h2⟩:=alike_of _ _ h.1.1
   exact ⟨h.2,i,z,hi,his.trans h1,by rw [hib];exact h.1.2,hz,Eq.trans hzo h2⟩
 · simp at h
theorem heap_alloc_old (w:World) (o:Go.Obj) {r:Nat} (h:r < w.heap.size):(w.alloc o).heap[r]? = w.heap[r]?:=by
 show (w.heap.push o)[r]? = w.heap[r]?
 simp [Array.getElem?_push,Nat.ne_of_lt h]
theorem ok_buildSlice {o:Oper} {T:TypeId} {n d:Nat} {parts:Array (Nat×Operand)} (ho:o.op = .buildSlice T n parts) (hd:o.dst = some d) (hΓ:CfgOk P Γ) (r:RelIn cx tm lk a w Fz pos U) (hg:cx.G = Γ.glob) {e:Eff}
   (he:evBuildSlice Γ lk d T n (parts.toList.map fun q=>(q.1,Γ.val tm q.2)) some = some e):Ok P cx tm lk o a w e:=by
 have hparts:=parts_rep r hg parts.toList
 have hpl:(parts.map fun (q:Nat×Operand)=>(q.1,a.eval q.2)).toList = parts.toList.map fun q=>(q.1,a.eval q.2):=by simp
 unfold evBuildSlice at he
 split at he
 · rename_i E et by_ hT
   split at he
   · rename_i hok
     simp only [Bool.and_eq_true,decide_eq_true_eq] at hok
     obtain ⟨hu,hel⟩:=slice_desc hΓ hT
     obtain ⟨hpos,i,z,hi,his,hz,hzc⟩:=elemZ_iff hΓ hok.1
     cases hfill:fillElems et (parts.toList.map fun q=>(q.1,Γ.val tm q.2)) (List.replicate n et.zero) with
     | none=>rw [hfill] at he;simp at he
     | some xs =>
       rw [hfill] at he
       simp only at he
       -- the cells before they are filled
       have hzl:z.cells.toList.length = et.size:=by rw [hzc];exact (zero_rep (Fz:=Fz) (w:=w) et).size
       have hzs:z.cells.size = et.size:=by simpa using hzl
       have hc0:All2 (RepC Fz w et) (List.replicate n et.zero) ((Array.range (n * et.size)).map (z.cells[· % z.cells.size]!)).toList:=by
         have:=madeCells_flat z.cells.toList n
         rw [hzl] at this
         have e1:z.cells.toList.toArray = z.cells:=by simp
         rw [e1] at this
         rw [this,hzc]
         exact All2.replicate (zero_rep et) n
       obtain ⟨cells',g1,g2,g3⟩:=fill_elems (A:=cx.e Fz w lk pos) (fun i=>some (i * et.size,et.size)) n (fun _ _=>rfl) _ _ xs _ _ hparts hc0 (by simp) hfill
       have hcs:=All2.size (fun x cs hx=>RepC.size et x cs hx) xs _ g2
       have hnl:n ≤ maxLen:=by
         have:n ≤ n * et.size:=Nat.le_mul_of_pos_right n hpos
         unfold maxLen;omega
       have hexec:(execOp a.eval o).run P w = .ok (.value (.slice (some ⟨w.heap.size,0,none⟩) n n)) (w.alloc (.cells cells' E)):=by
         have g1:Instr.fill (fun i=>some (i * et.size,et.size)) ((Array.range (n * et.size)).map (z.cells[· % z.cells.size]!)) (parts.toList.map fun q=>(q.1,a.eval q.2)) = some cells':=g1
         have hsmall:¬ (16777216 < n * et.size):=by omega
         unfold execOp
         by_cases hn0:n * et.size = 0
         · rw [hn0] at g1
           have h0:Array.range 0 = #[]:=rfl
           rw [h0,Array.map_empty] at g1
           simp [ho,Instr.buildSlice,run_underlying hu,sizeOf,typeInfo,hi,his,hn0,newRow,h0,g1]
         · simp [ho,Instr.buildSlice,run_underlying hu,sizeOf,typeInfo,zeroValue,hi,his,hz,hsmall,hn0,newRow,g1]
       cases hown:Γ.own d with
       | true =>
         rw [hown] at he
         simp only [cond_true,Option.some.injEq] at he
         subst he
         have r2:=r.newVec d et xs cells' E 0 n rfl (by omega) hnl (by rw [g3] at hcs;simp at hcs;omega) g2 (List.prefix_refl _)
         refine .inl ⟨_,_,hexec,Fz,updPos pos d (.slice (some ⟨w.heap.size,0,none⟩) xs.length n),U,?_⟩
         have:=r2.value o.dst (v:=.sl et d (nextS lk d)) (u:=.slice (some ⟨w.heap.size,0,none⟩) n n) (by
           rw [← g3];rw [g3];rw [← g3]
           exact sl_new cx Fz _ lk pos d (nextS lk d) et xs _ rfl)
         simpa [updLk] using this
       | false =>
         rw [hown] at he
         simp only [cond_false,Option.some.injEq] at he
         subst he
         have hstep:Step Fz w (fun b=>Fz b ∨ b = w.heap.size) (w.alloc (.cells cells' E)):=by
           refine ⟨rfl,rfl,rfl,by simp,fun b hb=>heap_alloc_old w _ hb,fun b hb=>⟨fun h=>h.resolve_right (by omega),.inl⟩,fun b hb=>?_⟩
           · have hsz:(w.alloc (.cells cells' E)).heap.size = w.heap.size + 1:=by simp
             rw [hsz]
             rcases hb with hb | hb
             · have:=r.step.lt b hb;omega
             · omega
         have r3:=r.call hstep
         refine .inl ⟨_,_,hexec,fun b=>Fz b ∨ b = w.heap.size,pos,U,?_⟩
         have:=r3.value o.dst (v:=.dat (.lst et) xs) (u:=.slice (some ⟨w.heap.size,0,none⟩) n n)
           ⟨[.slice (some ⟨w.heap.size,0,none⟩) n n],⟨some ⟨w.heap.size,0,none⟩,n,n,cells'.toList,rfl,g3,Nat.le_refl _,
             All2.mono (fun x cs hx=>hx.mono (hstep.fut r.step.lt)) _ _ g2,.inr ⟨w.heap.size,0,cells',E,(0,0),rfl,.inr rfl,heap_alloc_at _ _,List.prefix_refl _⟩⟩,rfl⟩
         simpa [updLk] using this
   · simp at he
 · simp at he
theorem ok_makeSlice_aux {o:Oper} {T E:TypeId} {et:Ty} {d:Nat} {n c:Operand} (ho:o.op = .makeSlice T n c) (hd:o.dst = some d) (hΓ:CfgOk P Γ) (r:RelIn cx tm lk a w Fz pos U) (hu:P.underlying T = some (.slice E)) (hok:elemOk Γ E et = true)
   (x:Int) (hmk:mkOk x x) (hn:a.eval n = .int .i64 x) (hc:a.eval c = .int .i64 x) :
   Ok P cx tm lk o a w { val:=.sl et d (nextS lk d),wr:=[(d,nextS lk d,.vec et (List.replicate x.toNat et.zero))] }:=by
 obtain ⟨hpos,i,z,hi,his,hib,hz,hzc⟩:=elemOk_iff hΓ hok
 obtain ⟨_,h0,hmax⟩:=hmk
 have hzl:z.cells.toList.length = et.size:=by rw [hzc];exact (zero_rep (Fz:=Fz) (w:=w) et).size
 have hzs:z.cells.size = et.size:=by simpa using hzl
 have hby:(i.bytes:Int) * x ≤ 281474976710656:=by
   have h1:(i.bytes:Int) * x ≤ 65536 * 1073741824:=Int.mul_le_mul (by omega) hmax h0 (by omega)
   omega
 have hrun:=run_make (P:=P) w T E i z hu hi hz .i64 .i64 x x h0 (Int.le_refl _) hby (by omega)
 have hcells:(madeCells z.cells (x.toNat * i.size)).toList = (List.replicate x.toNat et.zcells).flatten:=by
   have:=madeCells_flat z.cells.toList x.toNat
   rw [hzl] at this
   have e1:z.cells.toList.toArray = z.cells:=by simp
   rw [e1] at this
   rw [his,← hzc];exact this
 have r2:=r.newVec d et (List.replicate x.toNat et.zero) (madeCells z.cells (x.toNat * i.size)) E 0 x.toNat rfl (by simp) (by unfold maxLen;omega) (by rw [size_madeCells,his];exact Nat.le_refl _)
   (All2.replicate (zero_rep et) x.toNat) (by rw [hcells];exact List.prefix_refl _)
 refine .inl ⟨.slice (some ⟨w.heap.size,0,none⟩) x.toNat x.toNat,w.alloc (.cells (madeCells z.cells (x.toNat * i.size)) E),?_,Fz,updPos pos d (.slice (some ⟨w.heap.size,0,none⟩) (List.replicate x.toNat et.zero).length x.toNat),U,?_⟩
 · unfold execOp
   simp only [ho,Sem.run_bind,hn,hc,hrun,Result.andThen_ok,Sem.run_pure]
 · have:=r2.value o.dst (v:=.sl et d (nextS lk d)) (u:=.slice (some ⟨w.heap.size,0,none⟩) x.toNat x.toNat) (by
     have:=sl_new cx Fz (w.alloc (.cells (madeCells z.cells (x.toNat * i.size)) E)) lk pos d (nextS lk d) et (List.replicate x.toNat et.zero) (.slice (some ⟨w.heap.size,0,none⟩) (List.replicate x.toNat et.zero).length x.toNat) rfl
     simpa using this)
   simpa [updLk] using this
theorem ok_makeSlice {o:Oper} {T:TypeId} {d:Nat} {n c:Operand} (ho:o.op = .makeSlice T n c) (hd:o.dst = some d) (hΓ:CfgOk P Γ) (r:RelIn cx tm lk a w Fz pos U) (hg:cx.G = Γ.glob) {e:Eff}
   (he:evMakeSlice Γ lk d T (Γ.val tm n) (Γ.val tm c) some = some e):Ok P cx tm lk o a w e:=by
 have hn:=val_rep r hg n
 have hc:=val_rep r hg c
 unfold evMakeSlice at he
 split at he
 · rename_i E et by_ x y hT hvn hvc
   split at he
   · rename_i hok
     split at he
     · rename_i hmk
       simp only [Option.some.injEq] at he
       subst he
       obtain ⟨hu,hel⟩:=slice_desc hΓ hT
       rw [hvn] at hn;rw [hvc] at hc
       have hn:=repInt hn
       have hc:=repInt hc
       have hxy:x = y:=hmk.1
       subst hxy
       exact ok_makeSlice_aux ho hd hΓ r hu hok x hmk hn hc
     · simp at he
   · simp at he
 · simp at he
end Go.Pv
