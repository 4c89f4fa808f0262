/- The purifying layer: appends to a row. -/
import Derived.Test.YtlebcefahlienaaPvPh
set_option linter.unusedVariables false
set_option linter.unusedSimpArgs false
namespace Go.Pv
variable {P:Program} {Γ:Cfg} {cx:Cx} {tm:Tm} {lk:Lk} {a:Act} {w:World} {Fz:Nat→Prop} {pos:Nat→Value} {U:Nat→Prop}
theorem RepGrid.below {Fz:Nat→Prop} {w:World} {e:Ty} {ids:Sp} {rows:List (Option (List e.T))} {hs:Array Value} (h:RepGrid Fz w e ids rows hs) {b:Nat} (hb:VB (.tuple hs) b):b < w.heap.size:=by
 rcases h.lt hb with ⟨_,_,h⟩ | ⟨_,_,h⟩ <;> exact (Array.getElem?_eq_some_iff.1 h).1
theorem moved_hdr (hs:Array Value) (i:Nat) (g:Value) (hi:i + 1 < hs.size) (p:Nat):((hs.set! (i + 1) undef).push g)[p]? = if p = hs.size then some g else if p = i + 1 then some undef else hs[p]?:=by
 rw [Array.getElem?_push]
 simp only [Array.set!_eq_setIfInBounds,Array.size_setIfInBounds,Array.getElem?_setIfInBounds]
 by_cases h1:p = hs.size
 · rw [if_pos h1,if_pos h1]
 · rw [if_neg h1,if_neg h1]
   by_cases h2:i + 1 = p
   · rw [if_pos h2,if_pos (by omega),if_pos h2.symm]
   · rw [if_neg h2,if_neg (fun h=>h2 h.symm)]
theorem moved_row {α:Type} (rows:List (Option α)) (i:Nat) (ys:α) (hi:i < rows.length) (j:Nat):(rows.set i none ++ [some ys])[j]? = if j = rows.length then some (some ys) else if j = i then some none else rows[j]?:=by
 by_cases h1:j = rows.length
 · rw [if_pos h1,List.getElem?_append_right (by simp;omega)]
   simp [h1]
 · rw [if_neg h1]
   by_cases h3:j < rows.length
   · rw [List.getElem?_append_left (by simpa using h3)]
     by_cases h2:i = j
     · subst h2
       rw [List.getElem?_set_self hi,if_pos rfl]
     · rw [List.getElem?_set_ne h2,if_neg (fun h=>h2 h.symm)]
   · rw [List.getElem?_eq_none (by simp;omega),if_neg (by omega),List.getElem?_eq_none (by omega)]
theorem RepGrid.moved {e:Ty} {sp:Sp} {rows:List (Option (List e.T))} {hs:Array Value} (G:RepGrid Fz w e sp rows hs) {i:Nat} {xs ys:List e.T} (hri:rows[i]? = some (some xs)) {g:Value} (hg:hs[i + 1]? = some g)
   {g':Value} {w':World} {Fz':Nat→Prop} (hf:Fut Fz w Fz' w') (hkeep:∀ b,b < w.heap.size→vblk g ≠ some b→w'.heap[b]? = w.heap[b]?) (hnew:∀ b,vblk g' = some b→vblk g = some b ∨ w.heap.size ≤ b)
   (hr:RepVec Fz' w' e ys g'):RepGrid Fz' w' e sp (rows.set i none ++ [some ys]) ((hs.set! (i + 1) undef).push g'):=by
 have hil:i < rows.length:=(List.getElem?_eq_some_iff.1 hri).1
 have hsz:=G.size
 have hH:=moved_hdr hs i g' (by omega)
 have hR:=moved_row rows i ys hil
 have hlt:∀ (p:Nat) h b,hs[p]? = some h→vblk h = some b→b < w.heap.size:=fun p h b h1 h2=>G.below (VB_hdr h1 h2)
 have hoth:∀ (p:Nat) h,hs[p]? = some h→p ≠ i + 1→∀ b,vblk h = some b→w'.heap[b]? = w.heap[b]?:=fun p h h1 hp b h2=>hkeep b (hlt p h b h1 h2) fun h3=>hp (G.apart p (i + 1) h g b h1 hg h2 h3)
 have hne:∀ (p:Nat) h b,hs[p]? = some h→p ≠ i + 1→vblk h = some b→vblk g' = some b→False:=fun p h b h1 hp h2 h3=>by
   rcases hnew b h3 with h4 | h4
   · exact hp (G.apart p (i + 1) h g b h1 hg h2 h4)
   · have:=hlt p h b h1 h2;omega
 refine ⟨by simp [hsz],fun j zs h h1 h2=>?_,fun j h h1 h2=>?_,fun h0 h1=>?_,fun p q h h' b h1 h2 h3 h4=>?_,fun j hj=>by have:=G.inb j hj;simp;omega⟩
 · rw [hR] at h1
   rw [hH] at h2
   by_cases c1:j = rows.length
   · rw [if_pos c1] at h1
     rw [if_pos (by omega)] at h2
     simp only [Option.some.injEq] at h1 h2
     subst h1;subst h2;exact hr
   · rw [if_neg c1] at h1
     rw [if_neg (by omega)] at h2
     by_cases c2:j = i
     · rw [if_pos c2] at h1;simp at h1
     · rw [if_neg c2] at h1
       rw [if_neg (by omega)] at h2
       exact (G.row j zs h h1 h2).mono hf (hoth _ _ h2 (by omega))
 · rw [hR] at h1
   rw [hH] at h2
   by_cases c1:j = rows.length
   · rw [if_pos c1] at h1;simp at h1
   · rw [if_neg c1] at h1
     rw [if_neg (by omega)] at h2
     by_cases c2:j = i
     · rw [if_pos (by omega)] at h2
       simp only [Option.some.injEq] at h2
       subst h2;rfl
     · rw [if_neg c2] at h1
       rw [if_neg (by omega)] at h2
       exact G.gone j h h1 h2
 · rw [hH,if_neg (by omega),if_neg (by omega)] at h1
   refine ((G.out h0 h1).mono hf (hoth 0 h0 h1 (by omega))).rows fun j hm zs h k2 k3=>?_
   have hj:=G.inb j hm
   rw [hR,if_neg (by omega)] at k2
   rw [hH,if_neg (by omega)] at k3
   by_cases c2:j = i
   · rw [if_pos c2] at k2;simp at k2
   · rw [if_neg c2] at k2
     rw [if_neg (by omega)] at k3
     exact ⟨zs,k2,k3⟩
 · rw [hH] at h1 h2
   have hun:∀ b,vblk undef = some b→False:=fun b hb=>NB_undef b (VB_vblk hb)
   by_cases c1:p = hs.size
   · rw [if_pos c1] at h1
     simp only [Option.some.injEq] at h1
     subst h1
     by_cases c2:q = hs.size
     · omega
     · rw [if_neg c2] at h2
       by_cases c3:q = i + 1
       · rw [if_pos c3] at h2
         simp only [Option.some.injEq] at h2
         subst h2;exact (hun b h4).elim
       · rw [if_neg c3] at h2
         exact (hne q h' b h2 c3 h4 h3).elim
   · rw [if_neg c1] at h1
     by_cases c4:p = i + 1
     · rw [if_pos c4] at h1
       simp only [Option.some.injEq] at h1
       subst h1;exact (hun b h3).elim
     · rw [if_neg c4] at h1
       by_cases c2:q = hs.size
       · rw [if_pos c2] at h2
         simp only [Option.some.injEq] at h2
         subst h2
         exact (hne p h b h1 c4 h3 h4).elim
       · rw [if_neg c2] at h2
         by_cases c3:q = i + 1
         · rw [if_pos c3] at h2
           simp only [Option.some.injEq] at h2
           subst h2;exact (hun b h4).elim
         · rw [if_neg c3] at h2
           exact G.apart p q h h' b h1 h2 h3 h4
theorem ok_rappend {o:Oper} {T T':TypeId} {x y:Operand} (ho:o.op = .call ⟨.builtin .append,#[x,y],#[T,T']⟩) (hΓ:CfgOk P Γ) (r:RelIn cx tm lk a w Fz pos U) (hg:cx.G = Γ.glob) {e:Eff}
   (he:evRAppend Γ lk T T' (Γ.val tm x) (Γ.val tm y) some = some e):Ok P cx tm lk o a w e:=by
 have hx:=val_rep r hg x
 have hy:=val_rep r hg y
 have hrun:∀ u w',(Builtin.append_ #[T,T'] o.type #[a.eval x,a.eval y]).run P w = .ok u w'→(execOp a.eval o).run P w = .ok (.value u) w':=by
   intro u w' hu
   unfold execOp
   simp [ho,resolve,invoke,builtin,hu]
 unfold evRAppend at he
 split at he
 · rename_i e1 k s i hvx
   rw [hvx] at hx
   split at he
   · rename_i E e0 by_ s' et sp rows hT hlk
     cases hc:(decide (T = T') && elemOk Γ E e0 && decide (s = s') && decide (e1 = e0) && decide (et = e0)) with
     | false=>rw [hc] at he;simp at he
     | true =>
       rw [hc] at he
       simp only [cond_true] at he
       simp only [Bool.and_eq_true,decide_eq_true_eq] at hc
       obtain ⟨⟨⟨⟨rfl,hel⟩,rfl⟩,rfl⟩,rfl⟩:=hc
       cases hsrc:sliceOf lk et (Γ.val tm y) with
       | none=>rw [hsrc] at he;simp at he
       | some ys =>
         rw [hsrc] at he
         simp only at he
         cases hrow:rowOf rows i with
         | none=>rw [hrow] at he;simp at he
         | some xs =>
           rw [hrow] at he
           have hri:=rowOf_some hrow
           simp only [Option.bind_some] at he
           split at he
           · rename_i hmax
             simp only [Option.some.injEq] at he
             subst he
             obtain ⟨hu,_⟩:=slice_desc hΓ hT
             obtain ⟨hpos,inf,z,hi,his,hib,hz,hzc⟩:=elemOk_iff hΓ hel
             have hzl:z.cells.toList.length = et.size:=by rw [hzc];exact (zero_rep (Fz:=Fz) (w:=w) et).size
             have hzs:z.cells.size = et.size:=by simpa using hzl
             obtain ⟨ad,ycap,news,hyv,hnews,hycap,had⟩:=slice_src r hy hsrc
             have hS:Src P inf.size T (a.eval y) ys.length news w:=by rw [his];exact src_of hu hyv hnews had
             have hnl:news.length = ys.length * et.size:=All2.size (fun x cs hx=>RepC.size et x cs hx) _ _ hnews
             obtain ⟨hs,hpos,G⟩:=grid_at r hlk
             have hg0:hs[i + 1]? = some (a.eval x):=row_hdr hlk hpos hx ⟨xs,hri⟩
             have hil:i < rows.length:=(List.getElem?_eq_some_iff.1 hri).1
             have hsz:=G.size
             -- what comes of it
             have fin:∀ (u':Value) (w':World),(execOp a.eval o).run P w = .ok (.value u') w'→w'.os = w.os→w'.tape = w.tape→w'.output = w.output→w.heap.size ≤ w'.heap.size →
                 (∀ b,b < w.heap.size→vblk (a.eval x) ≠ some b→w'.heap[b]? = w.heap[b]?)→(∀ b,vblk u' = some b→vblk (a.eval x) = some b ∨ w.heap.size ≤ b)→(∀ Fz',Fut Fz w Fz' w'→RepVec Fz' w' et (xs ++ ys) u')→u'.oneCell' = true →
                 Ok P cx tm lk o a w { val:=.row et k s (rows.length + 1),wr:=[(k,s,.grid et sp (rows.set i none ++ [some (xs ++ ys)]))] }:=by
               intro u' w' hex hos htp hou hsz' hkeep hnew hrep hone
               obtain ⟨pos',r2,hp,hl⟩:=r.adopt k s (.grid et sp (rows.set i none ++ [some (xs ++ ys)])) (.tuple ((hs.set! (i + 1) undef).push u')) (gives_nil lk k) (w':=w')
                 (fun s0 o0 h=>by
                   rw [hlk] at h
                   simp only [Option.some.injEq,Prod.mk.injEq] at h
                   obtain ⟨rfl,rfl⟩:=h
                   refine ⟨Nat.le_refl _,fun _=>?_⟩
                   rw [hpos]
                   refine ⟨rfl,fun p hp=>?_⟩
                   have hp:(hs[p]?).isSome = true:=hp
                   have hpl:p < hs.size:=by
                     obtain ⟨g,hg⟩:=Option.isSome_iff_exists.1 hp
                     exact (Array.getElem?_eq_some_iff.1 hg).1
                   have hH:=moved_hdr hs i u' (by omega) p
                   rw [if_neg (by omega)] at hH
                   refine ⟨by show (((hs.set! (i + 1) undef).push u')[p]?).isSome = true;rw [hH];split <;> first | rfl | exact hp,fun ha=>?_⟩
                   cases p with
                   | zero=>exact ⟨trivial,by show ((hs.set! (i + 1) undef).push u')[0]? = hs[0]?;rw [hH,if_neg (by omega)]⟩
                   | succ j =>
                     obtain ⟨zs,hz⟩:=ha
                     rw [moved_row rows i _ hil,if_neg (by omega)] at hz
                     by_cases hji:j = i
                     · rw [if_pos hji] at hz;simp at hz
                     · rw [if_neg hji] at hz
                       exact ⟨⟨zs,hz⟩,by show ((hs.set! (i + 1) undef).push u')[j + 1]? = hs[j + 1]?;rw [hH,if_neg (by omega)]⟩) hos htp hou hsz'
                 (fun b hb h2 _=>hkeep b hb fun h3=>h2 _ _ hlk (by rw [hpos];exact VB_hdr hg0 h3))
                 (fun b hb=>by
                   obtain ⟨p,g,k1,k3⟩:=VB_tuple.1 hb
                   rw [moved_hdr hs i u' (by omega)] at k1
                   split at k1
                   · simp only [Option.some.injEq] at k1
                     subst k1
                     rcases hnew b k3 with h | h
                     · exact .inl ⟨s,_,hlk,by rw [hpos];exact VB_hdr hg0 h⟩
                     · exact .inr (.inr h)
                   · split at k1
                     · simp only [Option.some.injEq] at k1
                       subst k1
                       exact absurd (VB_vblk k3) (NB_undef b)
                     · exact .inl ⟨s,_,hlk,by rw [hpos];exact VB_hdr k1 k3⟩)
                 (fun lk' pos' hle=>⟨_,rfl,G.moved hri hg0 hle.fut hkeep hnew (hrep _ hle.fut)⟩) (h0:=by intro _;rw [hlk];simp)
               exact .inl ⟨u',w',hex,Fz,pos',U,r2.value o.dst (row_val hl hp hone (by rw [moved_hdr hs i u' (by omega),if_pos hsz.symm]))⟩
             -- the new row
             have grow:∀ (base:Option Addr) (cap:Nat) (olds:List Value),a.eval x = .slice base xs.length cap→All2 (RepC Fz w et) xs olds →
                 (Builtin.firstCells inf.size xs.length (.slice base xs.length cap)).run P w.drew = .ok olds.toArray w.drew→cap < xs.length + ys.length →
                 Ok P cx tm lk o a w { val:=.row et k s (rows.length + 1),wr:=[(k,s,.grid et sp (rows.set i none ++ [some (xs ++ ys)]))] }:=by
               intro base cap olds hxv hall hold hlt
               have hmax':xs.length + ys.length ≤ 1073741824:=hmax
               have hfit:Builtin.nextslicecap (xs.length + ys.length) cap * inf.bytes ≤ 281474976710656:=by
                 refine growslice_fits hlt ?_
                 calc (xs.length + ys.length) * inf.bytes ≤ 1073741824 * 65536:=Nat.mul_le_mul hmax' hib
                   _ ≤ 140737488355328:=by omega
               have hr:=run_append_grow_src (P:=P) w T T o.type E inf z hu hi hz base xs.length cap olds hold (a.eval y) ys.length news hS hlt (by omega) hfit
               have hge:=grownCap_ge w (xs.length + ys.length) cap E
               have hcm:grownCap w (xs.length + ys.length) cap E ≤ maxLen:=grownCap_le_maxLen w _ cap E (by unfold maxLen;omega)
               have hol:olds.length = xs.length * et.size:=All2.size (fun x cs hx=>RepC.size et x cs hx) _ _ hall
               have hall2:=All2.append _ _ _ _ hall hnews
               rw [← hxv] at hr
               refine fin _ _ (hrun _ _ hr) rfl rfl rfl (by show w.drew.heap.size ≤ _;simp) (fun b hb _=>heap_alloc_old w.drew _ hb) (fun b hb=>.inr ?_) (fun Fz' hf=>.inr ⟨w.heap.size,0,grownCap w (xs.length + ys.length) cap E,_,E,by rw [List.length_append],heap_alloc_at w.drew _,by simpa using hge,hcm,?_,_,All2.mono (fun x cs hx=>hx.mono hf) _ _ hall2,?_⟩) rfl
               · have:w.heap.size = b:=Option.some.inj hb
                 omega
               · simp only [Array.size_append,List.size_toArray,size_zeroCells',hzs,List.length_append,hol,hnl,← Nat.add_mul,Nat.zero_add]
                 exact Nat.mul_le_mul_right _ (by omega)
               · simp only [Array.toList_append,List.drop_zero];exact List.prefix_append _ _
             rcases G.row i xs _ hri hg0 with ⟨hv2,hxs⟩ | ⟨b,off,cap,cells,TT,hv2,hb,h1,h2,h3,cs,hall,hpre⟩
             · subst hxs
               by_cases hm:ys.length = 0
               · -- nothing is appended to nil
                 have hy0:ys = []:=List.eq_nil_of_length_eq_zero hm
                 subst hy0
                 have hn0:news = []:=List.eq_nil_of_length_eq_zero (by simpa using hnl)
                 subst hn0
                 have hr:(Builtin.append_ #[T,T] o.type #[a.eval x,a.eval y]).run P w = .ok (.slice none 0 0) w:=by
                   rw [hv2]
                   have hc:=hS.cells
                   have hl:=hS.len w
                   simp only [List.length_nil] at hc hl
                   simp [Builtin.append_,run_underlying hu,sizeOf,typeInfo,hi,hl,hc]
                 exact fin _ _ (hrun _ _ hr) rfl rfl rfl (Nat.le_refl _) (fun _ _ _=>rfl) (fun b hb=>by simp [vblk] at hb) (fun _ _=>.inl ⟨rfl,rfl⟩) rfl
               · exact grow none 0 [] hv2 rfl (run_firstCells_none w.drew _ _ _ _) (by simp;omega)
             · have hol:cs.length = xs.length * et.size:=All2.size (fun x cs hx=>RepC.size et x cs hx) _ _ hall
               by_cases hroom:xs.length + ys.length ≤ cap
               · have hcap:(xs.length + ys.length) * et.size ≤ cap * et.size:=Nat.mul_le_mul_right _ hroom
                 rw [Nat.add_mul] at hcap
                 have hr:=run_append_room_row (P:=P) (ty:=o.type) (off:=off) hu hi hS hb hroom (by rw [his,hnl];omega)
                 rw [← hv2] at hr
                 have hpre2:(cs ++ news) <+: (seg cells.toList (off + xs.length * et.size) news).drop off:=by
                   obtain ⟨t,ht⟩:=hpre
                   have hlo:off ≤ cells.toList.length:=by simp;omega
                   have h5:cells.toList.take (off + xs.length * et.size) = cells.toList.take off ++ cs:=by
                     have:cells.toList = cells.toList.take off ++ (cs ++ t):=by rw [ht,List.take_append_drop]
                     conv=>lhs;rw [this]
                     rw [List.take_append]
                     have hl1:(cells.toList.take off).length = off:=by simp;omega
                     rw [hl1,List.take_of_length_le (by rw [hl1];omega),show off + xs.length * et.size - off = cs.length by rw [hol];omega,List.take_left]
                   unfold seg
                   have hl1:(cells.toList.take off).length = off:=by simp;omega
                   rw [h5,List.append_assoc,List.append_assoc,List.drop_left' hl1]
                   rw [← List.append_assoc]
                   exact List.prefix_append _ _
                 have hall2:=All2.append _ _ _ _ hall hnews
                 refine fin _ _ (hrun _ _ hr) rfl rfl rfl (by simp) (fun b' hb' hne=>setRow_other w b b' _ (fun h=>hne (by rw [hv2,h];rfl))) (fun b' hb'=>.inl (by rw [hv2];exact hb'))
                   (fun Fz' hf=>.inr ⟨b,off,cap,_,TT,by rw [List.length_append],setRow_heap w b cells _ TT _ hb,by simpa using hroom,h2,by
                         rw [List.size_toArray,seg_length _ _ _ (by rw [his,hnl];simp;omega)];simpa using h3,_,All2.mono (fun x cs hx=>hx.mono hf) _ _ hall2,by rw [his];simpa using hpre2⟩) rfl
               · have hrow:∀ j v,cs[j]? = some v→w.drew.cell? ((⟨b,off,none⟩:Addr).add j) = some v:=by
                   intro j v hv
                   rw [Addr.add_mid]
                   obtain ⟨t,ht⟩:=hpre
                   have:(cells.toList.drop off)[j]? = some v:=by rw [← ht,List.getElem?_append_left (List.getElem?_eq_some_iff.1 hv).1];exact hv
                   rw [List.getElem?_drop] at this
                   have hb':w.drew.heap[b]? = some (.cells cells TT (0,0)):=hb
                   simp [World.cell?,hb',← this]
                 exact grow (some ⟨b,off,none⟩) cap cs hv2 hall (run_firstCells_some w.drew inf.size xs.length ⟨b,off,none⟩ xs.length cap cs (by rw [his];exact hol) hrow) (by omega)
           · simp at he
   · simp at he
 · simp at he
end Go.Pv
