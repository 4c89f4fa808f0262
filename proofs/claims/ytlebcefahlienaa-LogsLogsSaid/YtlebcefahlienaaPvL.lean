/- The purifying layer, part 12: append, slices of slices, len, conversions. -/
import Derived.Test.YtlebcefahlienaaPvK
set_option linter.unusedVariables false
set_option linter.unusedSimpArgs false
namespace Go.Pv
variable {P:Program} {Γ:Cfg} {cx:Cx} {tm:Tm} {lk:Lk} {a:Act} {w:World} {Fz:Nat→Prop} {pos:Nat→Value} {U:Nat→Prop}
theorem slice_src (r:RelIn cx tm lk a w Fz pos U) {e:Ty} {v:V} {u:Value} {ys:List e.T} (h:RepT (cx.e Fz w lk pos) v u) (hs:sliceOf lk e v = some ys) :
   ∃ ad cap cells,u = .slice ad ys.length cap∧All2 (RepC Fz w e) ys cells∧ys.length ≤ cap ∧
     ((ad = ad∧ys = [] ) ∨ ∃ b off c T fz,ad = some ⟨b,off,none⟩∧w.heap[b]? = some (.cells c T fz)∧cells <+: c.toList.drop off):=by
 unfold sliceOf at hs
 split at hs
 · rename_i t xs
   split at hs
   · rename_i he
     subst he
     simp only [Option.some.injEq] at hs
     subst hs
     obtain ⟨cs,hc,hu⟩:=h
     obtain ⟨ad,len,cap,cells,rfl,hlen,hcap,hall,hlies⟩:=hc
     have hlen:(xs:List t.T).length = len:=hlen
     subst hlen
     refine ⟨ad,cap,cells,hu,hall,hcap,?_⟩
     rcases hlies with ⟨h1,h2⟩ | ⟨b,off,c,T,fz,h1,_,h3,h4⟩
     · exact .inl ⟨h1,List.eq_nil_of_length_eq_zero h2⟩
     · exact .inr ⟨b,off,c,T,fz,h1,h3,h4⟩
   · simp at hs
 · rename_i t k s
   split at hs
   · rename_i s' t' xs hlk
     split at hs
     · rename_i heq
       obtain ⟨rfl,rfl⟩:=heq
       split at hs
       · rename_i he
         subst he
         simp only [Option.some.injEq] at hs
         subst hs
         obtain ⟨_,s2,ob,hlk2,hle,hval⟩:=h
         have hlk2:lk k = some (s2,ob):=hlk2
         rw [hlk] at hlk2
         simp only [Option.some.injEq,Prod.mk.injEq] at hlk2
         obtain ⟨rfl,rfl⟩:=hlk2
         have hv2:u = pos k:=(hval rfl).2
         have hR:=r.objs k s _ hlk
         simp only [RepO] at hR
         rcases hR with ⟨hp,hxs⟩ | ⟨b,off,cap,cells,T,hp,hb,h1,h2,h3,cs,hall,hpre⟩
         · rw [hp] at hv2
           subst hxs
           exact ⟨none,0,[],hv2,rfl,Nat.le_refl _,.inl ⟨rfl,rfl⟩⟩
         · rw [hp] at hv2
           exact ⟨some ⟨b,off,none⟩,cap,cs,hv2,hall,h1,.inr ⟨b,off,cells,T,_,rfl,hb,hpre⟩⟩
       · simp at hs
     · simp at hs
   · simp at hs
 · simp only [Option.some.injEq] at hs
   subst hs
   have hu:u = .slice none 0 0:=h
   exact ⟨none,0,[],hu,rfl,Nat.le_refl _,.inl ⟨rfl,rfl⟩⟩
 · simp at hs
theorem src_of {e:Ty} {T E:TypeId} {ys:List e.T} {u:Value} {ad:Option Addr} {cap:Nat} {cells:List Value} (hu:P.underlying T = some (.slice E)) (hv:u = .slice ad ys.length cap) (hall:All2 (RepC Fz w e) ys cells)
   (had:(ad = ad∧ys = []) ∨ ∃ b off c T fz,ad = some ⟨b,off,none⟩∧w.heap[b]? = some (.cells c T fz)∧cells <+: c.toList.drop off):Src P e.size T u ys.length cells w:=by
 subst hv
 have hlen:=All2.size (fun x cs hx=>RepC.size e x cs hx) _ _ hall
 have hone:=All2.one (fun x cs hx=>RepC.one e x cs hx) _ _ hall
 rcases had with ⟨_,rfl⟩ | ⟨b,off,c,T',fz,rfl,hb,hp⟩
 · have:cells = []:=hall
   subst this
   cases ad with
   | none=>exact Src.ofNil w hu cap
   | some a=>exact Src.ofSlice w hu a 0 cap [] (by simp) (fun j v hv=>by simp at hv) (by simp)
 · refine Src.ofSlice w hu ⟨b,off,none⟩ ys.length cap cells hlen (fun j v hv=>?_) hone
   rw [Addr.add_mid]
   obtain ⟨t,ht⟩:=hp
   have:(c.toList.drop off)[j]? = some v:=by rw [← ht,List.getElem?_append_left (List.getElem?_eq_some_iff.1 hv).1];exact hv
   rw [List.getElem?_drop] at this
   simp [World.cell?,hb,← this]
theorem run_append_room_row {T T' ty E:TypeId} {i:TypeInfo} (ht:P.underlying T = some (.slice E)) (hi:P.info? E = some i) {b off n cap m:Nat} {u:Value} {news:List Value} {cur:Array Value} {TT:TypeId}
   (hs:Src P i.size T' u m news w) (hb:w.heap[b]? = some (.cells cur TT (0,0))) (hroom:n + m ≤ cap) (hfit:off + n * i.size + news.length ≤ cur.size) :
   (Builtin.append_ #[T,T'] ty #[.slice (some ⟨b,off,none⟩) n cap,u]).run P w = .ok (.slice (some ⟨b,off,none⟩) (n + m) cap) (w.setRow b (seg cur.toList (off + n * i.size) news).toArray):=by
 have hst:=run_storeCells_at P b (off + n * i.size) TT news 0 cur w hb (by simpa using hfit) hs.one
 simp only [Nat.add_zero] at hst
 rcases hs.kind with ⟨e',hk⟩ | hk <;> simp [Builtin.append_,run_underlying ht,run_underlying hk,sizeOf,typeInfo,hi,hs.len,hroom,hs.cells,Addr.add_lit,hst,seg]
theorem size_zeroCells' (z:Array Value) (n:Nat):(Builtin.zeroCells z n).size = n * z.size:=by simp [Builtin.zeroCells]
theorem RelIn.grown (r:RelIn cx tm lk a w Fz pos U) (k s:Nat) (hs:∀ s0 o0,lk k = some (s0,o0)→s0 < s) (e:Ty) (zs:List e.T) (cells:Array Value) (E:TypeId) (cap:Nat) (hlen:zs.length ≤ cap) (hcap:cap ≤ maxLen) (hsz:cap * e.size ≤ cells.size)
   {cs:List Value} (hall:All2 (RepC Fz w e) zs cs) (hp:cs <+: cells.toList) (hp0:0 < s:=by first | exact nextS_pos | omega) :
   RelIn cx tm (updLk1 lk k s (.vec e zs)) a (w.drew.alloc (.cells cells E)) Fz (updPos pos k (.slice (some ⟨w.heap.size,0,none⟩) zs.length cap)) U:=by
 have hr:RelIn cx tm lk a w.drew Fz pos U:=r.call ⟨rfl,rfl,rfl,Nat.le_refl _,fun _ _=>rfl,fun _ _=>Iff.rfl,r.step.lt⟩
 refine hr.newObj k s (.vec e zs) (.cells cells E) _ hs (fun b h=>(Option.some.inj h).symm) fun hle=>.inr ⟨w.heap.size,0,cap,cells,E,rfl,heap_alloc_at w.drew _,hlen,hcap,by simpa using hsz,cs,All2.mono (fun x cs hx=>hx.mono ?_) _ _ hall,by simpa using hp⟩
 exact hle.fut
theorem ok_append {o:Oper} {T T':TypeId} {x y:Operand} {d:Nat} (ho:o.op = .call ⟨.builtin .append,#[x,y],#[T,T']⟩) (hd:o.dst = some d) (hΓ:CfgOk P Γ) (r:RelIn cx tm lk a w Fz pos U) (hg:cx.G = Γ.glob) {e:Eff}
   (he:evAppend Γ lk d T T' (Γ.val tm x) (Γ.val tm y) some = some e):Ok P cx tm lk o a w e:=by
 have hx:=val_rep r hg x
 have hy:=val_rep r hg y
 have hrun:∀ u w',(Builtin.append_ #[T,T'] o.type #[a.eval x,a.eval y]).run P w = .ok u w'→(execOp a.eval o).run P w = .ok (.value u) w':=by
   intro u w' hu
   unfold execOp
   simp [ho,resolve,invoke,builtin,hu]
 unfold evAppend at he
 split at he
 · rename_i E et by_ hT
   split at he
   · rename_i hok
     simp only [Bool.and_eq_true,beq_iff_eq,decide_eq_true_eq] at hok
     obtain ⟨rfl,hel⟩:=hok
     obtain ⟨hu,_⟩:=slice_desc hΓ hT
     obtain ⟨hpos,i,z,hi,his,hib,hz,hzc⟩:=elemOk_iff hΓ hel
     have hzl:z.cells.toList.length = et.size:=by rw [hzc];exact (zero_rep (Fz:=Fz) (w:=w) et).size
     have hzs:z.cells.size = et.size:=by simpa using hzl
     cases hsrc:sliceOf lk et (Γ.val tm y) with
     | none=>rw [hsrc] at he;simp at he
     | some ys =>
       rw [hsrc] at he
       obtain ⟨ad,ycap,news,hyv,hnews,hycap,had⟩:=slice_src r hy hsrc
       have hS:Src P i.size T (a.eval y) ys.length news w:=by rw [his];exact src_of hu hyv hnews had
       have hnl:news.length = ys.length * et.size:=All2.size (fun x cs hx=>RepC.size et x cs hx) _ _ hnews
       -- the new row
       have grow:∀ (k s:Nat) (hs:∀ s0 o0,lk k = some (s0,o0)→s0 < s) (hp0:0 < s) (xs:List et.T) (base:Option Addr) (cap:Nat) (olds:List Value),a.eval x = .slice base xs.length cap→All2 (RepC Fz w et) xs olds →
           (Builtin.firstCells i.size xs.length (.slice base xs.length cap)).run P w.drew = .ok olds.toArray w.drew→cap < xs.length + ys.length→xs.length + ys.length ≤ maxCount →
           Ok P cx tm lk o a w { val:=.sl et k s,wr:=[(k,s,.vec et (xs ++ ys))] }:=by
         intro k s hs hp0 xs base cap olds hxv hall hold hlt hmax
         have hmax':xs.length + ys.length ≤ 1073741824:=hmax
         have hfit:Builtin.nextslicecap (xs.length + ys.length) cap * i.bytes ≤ 281474976710656:=by
           refine growslice_fits hlt ?_
           calc (xs.length + ys.length) * i.bytes ≤ 1073741824 * 65536:=Nat.mul_le_mul hmax' hib
             _ ≤ 140737488355328:=by omega
         have hr:=run_append_grow_src (P:=P) w T T o.type E i z hu hi hz base xs.length cap olds hold (a.eval y) ys.length news hS hlt (by omega) hfit
         have hge:=grownCap_ge w (xs.length + ys.length) cap E
         have hcm:grownCap w (xs.length + ys.length) cap E ≤ maxLen:=grownCap_le_maxLen w _ cap E (by unfold maxLen;omega)
         have hol:olds.length = xs.length * et.size:=All2.size (fun x cs hx=>RepC.size et x cs hx) _ _ hall
         have hall2:=All2.append _ _ _ _ hall hnews
         have r2:=r.grown k s hs et (xs ++ ys) ((olds ++ news).toArray ++ Builtin.zeroCells z.cells (grownCap w (xs.length + ys.length) cap E - (xs.length + ys.length))) E (grownCap w (xs.length + ys.length) cap E) (by simpa using hge) hcm
           (by
             simp only [Array.size_append,List.size_toArray,size_zeroCells',hzs,List.length_append,hol,hnl,← Nat.add_mul]
             exact Nat.mul_le_mul_right _ (by omega)) hall2 (by simp only [Array.toList_append];exact List.prefix_append _ _)
         rw [← hxv] at hr
         refine .inl ⟨_,_,hrun _ _ hr,Fz,updPos pos k (.slice (some ⟨w.heap.size,0,none⟩) (xs ++ ys).length (grownCap w (xs.length + ys.length) cap E)),U,?_⟩
         have:=r2.value o.dst (v:=.sl et k s) (u:=.slice (some ⟨w.heap.size,0,none⟩) (xs ++ ys).length (grownCap w (xs.length + ys.length) cap E)) (sl_new cx Fz _ lk pos k s et (xs ++ ys) _ rfl)
         simpa [updLk] using this
       generalize Γ.val tm x = vx at he hx
       simp only at he
       split at he
       · rename_i u k s
         split at he
         · rename_i s' u' xs hlk
           split at he
           · rename_i heq
             obtain ⟨rfl,rfl⟩:=heq
             split at he
             · rename_i he2
               subst he2
               split at he
               · rename_i hmax
                 simp only [Option.some.injEq] at he
                 subst he
                 obtain ⟨_,s2,ob,hlk2,hle,hval⟩:=hx
                 have hlk2:lk k = some (s2,ob):=hlk2
                 rw [hlk] at hlk2
                 simp only [Option.some.injEq,Prod.mk.injEq] at hlk2
                 obtain ⟨rfl,rfl⟩:=hlk2
                 have hv2:a.eval x = pos k:=(hval rfl).2
                 have hns:∀ s0 o0,lk k = some (s0,o0)→s0 < s + 1:=by
                   intro s0 o0 h;rw [hlk] at h;simp only [Option.some.injEq,Prod.mk.injEq] at h;omega
                 have hR:=r.objs k s _ hlk
                 simp only [RepO] at hR
                 rcases hR with ⟨hp,hxs⟩ | ⟨b,off,cap,cells,TT,hp,hb,h1,h2,h3,cs,hall,hpre⟩
                 · subst hxs
                   rw [hp] at hv2
                   by_cases hm:ys.length = 0
                   · -- nothing is appended to nil
                     have hy0:ys = []:=List.eq_nil_of_length_eq_zero hm
                     subst hy0
                     have hn0:news = []:=List.eq_nil_of_length_eq_zero (by simpa using hnl)
                     subst hn0
                     have hr:(Builtin.append_ #[T,T] o.type #[a.eval x,a.eval y]).run P w = .ok (.slice none 0 0) w:=by
                       rw [hv2]
                       have hc:=hS.cells
                       have hl:=hS.len w
                       simp only [List.length_nil] at hc hl
                       simp [Builtin.append_,run_underlying hu,sizeOf,typeInfo,hi,hl,hc]
                     have r2:=r.nilvec k (s + 1) u hns
                     refine .inl ⟨_,_,hrun _ _ hr,Fz,updPos pos k (.slice none 0 0),U,?_⟩
                     have:=r2.value o.dst (v:=.sl u k (s + 1)) (u:=.slice none 0 0) (sl_new cx Fz w lk pos k (s + 1) u [] _ rfl)
                     simpa [updLk] using this
                   · refine grow k (s + 1) hns (Nat.succ_pos _) [] none 0 [] hv2 rfl (run_firstCells_none w.drew _ _ _ _) ?_ hmax
                     simp;omega
                 · rw [hp] at hv2
                   have hol:cs.length = xs.length * u.size:=All2.size (fun x cs hx=>RepC.size u x cs hx) _ _ hall
                   by_cases hroom:xs.length + ys.length ≤ cap
                   · have hcap:(xs.length + ys.length) * u.size ≤ cap * u.size:=Nat.mul_le_mul_right _ hroom
                     rw [Nat.add_mul] at hcap
                     have hr:=run_append_room_row (P:=P) (ty:=o.type) (off:=off) hu hi hS hb hroom (by rw [his,hnl];omega)
                     rw [← hv2] at hr
                     have hpre2:(cs ++ news) <+: (seg cells.toList (off + xs.length * u.size) news).drop off:=by
                       obtain ⟨t,ht⟩:=hpre
                       have hlo:off ≤ cells.toList.length:=by simp;omega
                       have h5:cells.toList.take (off + xs.length * u.size) = cells.toList.take off ++ cs:=by
                         have:cells.toList = cells.toList.take off ++ (cs ++ t):=by rw [ht,List.take_append_drop]
                         conv=>lhs;rw [this]
                         rw [List.take_append]
                         have hl1:(cells.toList.take off).length = off:=by simp;omega
                         rw [hl1,List.take_of_length_le (by rw [hl1];omega),show off + xs.length * u.size - off = cs.length by rw [hol];omega,List.take_left]
                       unfold seg
                       have hl1:(cells.toList.take off).length = off:=by simp;omega
                       rw [h5,List.append_assoc,List.append_assoc,List.drop_left' hl1]
                       rw [← List.append_assoc]
                       exact List.prefix_append _ _
                     have hall2:=All2.append _ _ _ _ hall hnews
                     have r2:=r.obj k (s + 1) (.vec u (xs ++ ys)) (.slice (some ⟨b,off,none⟩) (xs.length + ys.length) cap) (w':=w.setRow b (seg cells.toList (off + xs.length * i.size) news).toArray)
                       (fun s0 o0 h=>⟨Nat.le_of_lt (hns s0 o0 h),fun e=>by have:=hns s0 o0 h;omega⟩) rfl rfl rfl (by simp)
                       (fun b' hb' hne=>setRow_other w b b' _ (fun h=>hne (by rw [h];rfl)))
                       (fun b' hb'=>.inl ⟨s,_,hlk,by rw [hp];exact hb'⟩)
                       (fun hle=>.inr ⟨b,off,cap,_,TT,by simp,setRow_heap w b cells _ TT _ hb,by simpa using hroom,h2,by
                         rw [List.size_toArray,seg_length _ _ _ (by rw [his,hnl];simp;omega)];simpa using h3,_,All2.mono (fun x cs hx=>hx.mono hle.fut) _ _ hall2,by rw [his];simpa using hpre2⟩)
                     refine .inl ⟨_,_,hrun _ _ hr,Fz,updPos pos k (.slice (some ⟨b,off,none⟩) (xs.length + ys.length) cap),U,?_⟩
                     have:=r2.value o.dst (v:=.sl u k (s + 1)) (u:=.slice (some ⟨b,off,none⟩) (xs.length + ys.length) cap) (sl_new cx Fz _ lk pos k (s + 1) u (xs ++ ys) _ rfl)
                     simpa [updLk] using this
                   · have hrow:∀ j v,cs[j]? = some v→w.drew.cell? ((⟨b,off,none⟩:Addr).add j) = some v:=by
                       intro j v hv
                       rw [Addr.add_mid]
                       obtain ⟨t,ht⟩:=hpre
                       have:(cells.toList.drop off)[j]? = some v:=by rw [← ht,List.getElem?_append_left (List.getElem?_eq_some_iff.1 hv).1];exact hv
                       rw [List.getElem?_drop] at this
                       have hb':w.drew.heap[b]? = some (.cells cells TT (0,0)):=hb
                       simp [World.cell?,hb',← this]
                     exact grow k (s + 1) hns (Nat.succ_pos _) xs (some ⟨b,off,none⟩) cap cs hv2 hall (run_firstCells_some w.drew i.size xs.length ⟨b,off,none⟩ xs.length cap cs (by rw [his];exact hol) hrow) (by omega) hmax
               · simp at he
             · simp at he
           · simp at he
         · simp at he
       · split at he
         · rename_i hmax
           simp only [Option.some.injEq] at he
           subst he
           have hval:a.eval x = .slice none 0 0:=hx
           have hns:∀ s0 o0,lk d = some (s0,o0)→s0 < nextS lk d:=fun s0 o0 h=>nextS_lt h
           by_cases hm:ys.length = 0
           · have hy0:ys = []:=List.eq_nil_of_length_eq_zero hm
             subst hy0
             have hn0:news = []:=List.eq_nil_of_length_eq_zero (by simpa using hnl)
             subst hn0
             have hr:(Builtin.append_ #[T,T] o.type #[a.eval x,a.eval y]).run P w = .ok (.slice none 0 0) w:=by
               rw [hval]
               have hc:=hS.cells
               have hl:=hS.len w
               simp only [List.length_nil] at hc hl
               simp [Builtin.append_,run_underlying hu,sizeOf,typeInfo,hi,hl,hc]
             have r2:=r.nilvec d (nextS lk d) et hns
             refine .inl ⟨_,_,hrun _ _ hr,Fz,updPos pos d (.slice none 0 0),U,?_⟩
             have:=r2.value o.dst (v:=.sl et d (nextS lk d)) (u:=.slice none 0 0) (sl_new cx Fz w lk pos d (nextS lk d) et [] _ rfl)
             simpa [updLk] using this
           · have:=grow d (nextS lk d) hns nextS_pos [] none 0 [] hval rfl (run_firstCells_none w.drew _ _ _ _) (by simp;omega) (by simpa using hmax)
             simpa using this
         · simp at he
       · simp at he
   · simp at he
 · simp at he
theorem ok_len {o:Oper} {x:Operand} {T:TypeId} {Ts:Array TypeId} (ho:o.op = .call ⟨.builtin .len,#[x],Ts⟩) (hTs:Ts[0]? = some T) (hΓ:CfgOk P Γ) (r:RelIn cx tm lk a w Fz pos U) (hg:cx.G = Γ.glob) {e:Eff}
   (hT:(∃ E k b,Γ.ty T = some ⟨.slice E,k,b⟩∧((∃ t xs,Γ.val tm x = .dat (.lst t) xs) ∨ Γ.val tm x = .nils ∨ (∃ t k s,Γ.val tm x = .sl t k s) ∨ ∃ t k s p,Γ.val tm x = .row t k s p)) ∨ (∃ k b,Γ.ty T = some ⟨.str,k,b⟩∧∃ s,Γ.val tm x = .dat .str s) ∨
     (∃ K V k b,Γ.ty T = some ⟨.map K V,k,b⟩∧((∃ kt vt es,Γ.val tm x = .dat (.map kt vt) es) ∨ ∃ k s,Γ.val tm x = .mp k s)))
   (he:evLen lk (Γ.val tm x) some = some e):Ok P cx tm lk o a w e:=by
 have hx:=val_rep r hg x
 have hrun:∀ u,(Builtin.len_ Ts o.type #[a.eval x]).run P w = .ok u w→(execOp a.eval o).run P w = .ok (.value u) w:=by
   intro u hu;unfold execOp;simp [ho,resolve,invoke,builtin,hu]
 rcases hT with ⟨E,k,b,hT,hc⟩ | ⟨k,b,hT,s,hc⟩ | ⟨K,Vt,k,b,hT,hc⟩
 · have hu:=((hΓ.ty T _ hT).desc).1
   have hl:∀ ad n cap,a.eval x = .slice ad n cap→(execOp a.eval o).run P w = .ok (.value (.int .i64 n)) w:=fun ad n cap h=>hrun _ (by rw [h];simp [Builtin.len_,hTs,run_underlying hu,goInt])
   rcases hc with ⟨t,xs,hc⟩ | hc | ⟨t,k,s,hc⟩ | ⟨t,k,s,p,hc⟩
   · rw [hc] at he hx
     simp only [evLen,Option.some.injEq] at he
     obtain ⟨cs,hcs,hv⟩:=hx
     obtain ⟨ad,len,cap,cells,rfl,hlen,_⟩:=hcs
     refine Ok.value r he.symm (hl ad len cap hv) ?_
     have hlen:(xs:List t.T).length = len:=hlen
     rw [hlen];exact mkInt _ _ _
   · rw [hc] at he hx
     simp only [evLen,Option.some.injEq] at he
     have hx:a.eval x = .slice none 0 0:=hx
     exact Ok.value r he.symm (hl none 0 0 hx) (mkInt _ _ _)
   · rw [hc] at he
     have hs:∃ xs:List t.T,True:=⟨[],trivial⟩
     simp only [evLen] at he
     rw [hc] at hx
     obtain ⟨_,s2,ob,hlk2,hle,hval⟩:=hx
     have hlk2:lk k = some (s2,ob):=hlk2
     rw [hlk2] at he
     cases ob <;> (try simp only at he) <;> try (simp at he;done)
     rename_i t' xs
     split at he
     · rename_i hs
       subst hs
       simp only [Option.some.injEq] at he
       have hv2:a.eval x = pos k:=(hval rfl).2
       have hR:=r.objs k s _ hlk2
       simp only [RepO] at hR
       rcases hR with ⟨hp,hxs⟩ | ⟨b,off,cap,cells,TT,hp,_⟩
       · rw [hp] at hv2
         subst hxs
         exact Ok.value r he.symm (hl none 0 0 hv2) (mkInt _ _ _)
       · rw [hp] at hv2
         exact Ok.value r he.symm (hl _ _ _ hv2) (mkInt _ _ _)
     · simp at he
   · rw [hc] at he hx
     simp only [evLen] at he
     obtain ⟨_,s2,ob,hlk2,hle,hval⟩:=hx
     have hlk2:lk k = some (s2,ob):=hlk2
     rw [hlk2] at he
     cases ob <;> (try simp only at he) <;> try (simp at he;done)
     rename_i e' ids rows hq0
     split at he
     · rename_i hs
       obtain ⟨rfl,rfl⟩:=hs
       obtain ⟨_,hsome,hpart⟩:=hval rfl
       obtain ⟨hs,hpos,G⟩:=r.objs k s _ hlk2
       have hpos':(cx.e Fz w lk pos).pos k = .tuple hs:=hpos
       rw [hpos'] at hpart
       split at he
       · cases ids with | keys kk es=>simp at he | ids ids =>
         simp only [Option.some.injEq] at he
         have h0:hs[0]? = some (a.eval x):=hpart trivial
         rcases G.out _ h0 with ⟨hx,hids⟩ | ⟨b,off,cap,cells,T',hx,_⟩
         · subst hids
           exact Ok.value r he.symm (hl none 0 0 hx) (mkInt _ _ _)
         · exact Ok.value r he.symm (hl _ _ _ hx) (mkInt _ _ _)
       · rename_i i
         cases hrow:rowOf rows i with
         | none=>rw [hrow] at he;simp at he
         | some xs =>
           rw [hrow] at he
           simp only [Option.bind_some,Option.some.injEq] at he
           have hri:=rowOf_some hrow
           have h0:hs[i + 1]? = some (a.eval x):=hpart ⟨xs,hri⟩
           rcases G.row i xs _ hri h0 with ⟨hx,hxs⟩ | ⟨b,off,cap,cells,T',hx,_⟩
           · subst hxs
             exact Ok.value r he.symm (hl none 0 0 hx) (mkInt _ _ _)
           · exact Ok.value r he.symm (hl _ _ _ hx) (mkInt _ _ _)
     · simp at he
 · have hu:=((hΓ.ty T _ hT).desc).1
   rw [hc] at he hx
   simp only [evLen,Option.some.injEq] at he
   have hx:=repStr hx
   refine Ok.value r he.symm (u:=.int .i64 ((s:List UInt8).length:Int)) (hrun _ ?_) (mkInt _ _ _)
   rw [hx]
   have hsz:(⟨(s:List UInt8).toArray⟩:ByteArray).size = (s:List UInt8).length:=by show ((s:List UInt8).toArray).size = _;simp
   simp only [Builtin.len_,hTs,run_underlying hu,goInt,List.getElem?_toArray,Sem.run_bind,Sem.run_pure,Result.andThen_ok,List.getElem?_cons_zero,hsz]
 · have hu:=((hΓ.ty T _ hT).desc).1
   have hl:∀ bk ents clock,a.eval x = .map (some bk)→w.heap[bk]? = some (.map ents clock)→(execOp a.eval o).run P w = .ok (.value (.int .i64 (ents.size:Int))) w:=fun bk ents clock h hb=>hrun _ (by rw [h];simp [Builtin.len_,hTs,run_underlying hu,goInt,getObj,Sem.run,hb])
   have hsz:∀ {α β:Type} {RK:α→Value→Prop} {RV:β→Value→Prop} (n:Nat) (es:List (α×β)) (l:List MapEntry),MapRep RK RV n es l→l.length = es.length:=by
     intro α β RK RV n es
     induction es generalizing n with
     | nil=>intro l h;have:l = []:=h;subst this;rfl
     | cons q es ih=>intro l ⟨e,es',he,_,_,_,h⟩;subst he;simp [ih _ _ h]
   rcases hc with ⟨kt,vt,es,hc⟩ | ⟨key,s,hc⟩
   · rw [hc] at he hx
     simp only [evLen,Option.some.injEq] at he
     obtain ⟨cs,hcs,hv⟩:=hx
     obtain ⟨rr,rfl,hcase⟩:=hcs
     have hv:a.eval x = .map rr:=hv
     rcases hcase with ⟨rfl,hes⟩ | ⟨bk,ents,clock,rfl,_,hb,_,hm⟩
     · have hes:es = []:=hes
       subst hes
       refine Ok.value r he.symm (u:=.int .i64 0) (hrun _ ?_) (mkInt _ _ _)
       rw [hv];simp [Builtin.len_,hTs,run_underlying hu,goInt]
     · have:=hsz 0 es ents.toList hm
       refine Ok.value r he.symm (hl bk ents clock hv hb) ?_
       have e1:(ents.size:Int) = ((es:List (kt.T×vt.T)).length:Int):=by rw [← this];simp
       rw [e1];exact mkInt _ _ _
   · rw [hc] at he hx
     simp only [evLen] at he
     obtain ⟨_,s2,ob,hlk2,hle,hval⟩:=hx
     have hlk2:lk key = some (s2,ob):=hlk2
     rw [hlk2] at he
     cases ob <;> (try simp only at he) <;> try (simp at he;done)
     rename_i kt vt es _
     split at he
     · rename_i hs
       subst hs
       simp only [Option.some.injEq] at he
       have hval:a.eval x = pos key:=(hval rfl).2
       have hR:=r.objs key s _ hlk2
       simp only [RepO] at hR
       obtain ⟨bk,ents,clock,hp,hb,_,hm⟩:=hR
       rw [hp] at hval
       have:=hsz 0 es ents.toList hm
       refine Ok.value r he.symm (hl bk ents clock hval hb) ?_
       have e1:(ents.size:Int) = (es.length:Int):=by rw [← this];simp
       rw [e1];exact mkInt _ _ _
     · simp at he
end Go.Pv
