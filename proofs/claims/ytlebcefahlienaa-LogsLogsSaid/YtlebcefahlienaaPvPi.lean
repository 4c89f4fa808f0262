/- The purifying layer, part 15i: slices of slices that are written: made, appended to, handed to calls. -/
import Derived.Test.YtlebcefahlienaaPvPhb
import Derived.Lib.AppendZeros
import Derived.Laws.CopyRow
import Derived.Laws.IdiomCopy
set_option linter.unusedVariables false
set_option linter.unusedSimpArgs false
namespace Go.Pv
variable {P:Program} {Γ:Cfg} {cx:Cx} {tm:Tm} {lk:Lk} {a:Act} {w:World} {Fz:Nat→Prop} {pos:Nat→Value} {U:Nat→Prop}
theorem RepGrid.made {Fz:Nat→Prop} {w:World} (e:Ty) (n:Nat) {b:Nat} {cells:Array Value} {T:TypeId} (hb:w.heap[b]? = some (.cells cells T (0,0))) (hc:cells.toList = List.replicate n (.slice none 0 0)) (hn:n ≤ maxLen) :
   RepGrid Fz w e (.ids (List.range n)) (List.replicate n (some [])) (.slice (some ⟨b,0,none⟩) n n :: List.replicate n (.slice none 0 0)).toArray:=by
 have hrow:∀ (i:Nat) (h:Value),((.slice (some ⟨b,0,none⟩) n n :: List.replicate n (.slice none 0 0)).toArray:Array Value)[i + 1]? = some h→h = .slice none 0 0∧i < n:=by
   intro i h hh
   simp only [List.getElem?_toArray,List.getElem?_cons_succ,List.getElem?_replicate] at hh
   split at hh
   · simp only [Option.some.injEq] at hh;exact ⟨hh.symm,by assumption⟩
   · cases hh
 have hcs:∀ j,j < n→cells[0 + j]? = some (.slice none 0 0):=by
   intro j hj
   have:cells.toList[j]? = some (.slice none 0 0):=by rw [hc];simp [hj]
   simpa using this
 have hsz:cells.size = n:=by have:=congrArg List.length hc;simpa using this
 refine ⟨by simp,fun i xs h h1 h2=>?_,fun i h h1 h2=>?_,fun h0 h1=>?_,fun p q h h' c h1 h2 h3 h4=>?_,fun i hi=>by simpa [Sp.all] using hi⟩
 · rw [(hrow i h h2).1]
   simp only [List.getElem?_replicate] at h1
   split at h1
   · simp only [Option.some.injEq] at h1;subst h1;exact .inl ⟨rfl,rfl⟩
   · cases h1
 · simp only [List.getElem?_replicate] at h1
   split at h1 <;> simp at h1
 · simp only [List.getElem?_toArray,List.getElem?_cons_zero,Option.some.injEq] at h1
   subst h1
   refine .inr ⟨b,0,n,cells,T,by simp,hb,by simp,hn,by omega,fun j hj=>⟨_,hcs j (by simpa using hj),rfl⟩,fun j i xs h k1 k2 k3=>?_⟩
   have hj:j < n:=by have:=(List.getElem?_eq_some_iff.1 k1).1;simpa using this
   rw [(hrow i h k3).1]
   exact hcs j hj
 · cases p with
   | zero =>
     cases q with
     | zero=>rfl
     | succ q=>rw [(hrow q h' h2).1] at h4;simp [vblk] at h4
   | succ p=>rw [(hrow p h h1).1] at h3;simp [vblk] at h3
theorem ok_gmake {o:Oper} {T:TypeId} {d:Nat} {n c:Operand} (ho:o.op = .makeSlice T n c) (hd:o.dst = some d) (hΓ:CfgOk P Γ) (r:RelIn cx tm lk a w Fz pos U) (hg:cx.G = Γ.glob) {e:Eff}
   (he:evGMake Γ lk d T (Γ.val tm n) (Γ.val tm c) some = some e):Ok P cx tm lk o a w e:=by
 have hn:=val_rep r hg n
 have hc:=val_rep r hg c
 unfold evGMake at he
 split at he
 · rename_i E et x y hT hvn hvc
   split at he
   · rename_i hok
     split at he
     · rename_i hmk
       simp only [Option.some.injEq] at he
       subst he
       obtain ⟨by_,hT⟩:=gridTy_iff hT
       obtain ⟨hu,hel⟩:=slice_desc hΓ hT
       rw [hvn] at hn;rw [hvc] at hc
       have hn:=repInt hn
       have hc:=repInt hc
       obtain ⟨hxy,h0,hmax⟩:=hmk
       have hxy:x = y:=hxy
       subst hxy
       obtain ⟨hpos,i,z,hi,his,hib,hz,hzc⟩:=elemOk_iff hΓ hok
       have hzl:z.cells.toList.length = (Ty.lst et).size:=by rw [hzc];rfl
       have hby:(i.bytes:Int) * x ≤ 281474976710656:=by
         have h1:(i.bytes:Int) * x ≤ 65536 * 1073741824:=Int.mul_le_mul (by omega) hmax h0 (by omega)
         omega
       have hrun:=run_make (P:=P) w T E i z hu hi hz .i64 .i64 x x h0 (Int.le_refl _) hby (by omega)
       have hcells:(madeCells z.cells (x.toNat * i.size)).toList = List.replicate x.toNat (.slice none 0 0):=by
         have:=madeCells_flat z.cells.toList x.toNat
         rw [hzl] at this
         have e1:z.cells.toList.toArray = z.cells:=by simp
         rw [e1] at this
         rw [his]
         rw [hzc] at this
         have h2:(List.replicate x.toNat (Ty.lst et).zcells).flatten = List.replicate x.toNat (.slice none 0 0):=by
           show (List.replicate x.toNat [Value.slice none 0 0]).flatten = _
           rw [List.flatten_replicate_singleton]
         rw [← h2];exact this
       have hG:∀ Fz',RepGrid Fz' (w.alloc (.cells (madeCells z.cells (x.toNat * i.size)) E)) et (.ids (List.range x.toNat)) (List.replicate x.toNat (some [])) _:=fun Fz'=>RepGrid.made et x.toNat (heap_alloc_at w _) hcells (by unfold maxLen;omega)
       obtain ⟨pos',r2,hp,hl⟩:=r.adopt d (nextS lk d) (.grid et (.ids (List.range x.toNat)) (List.replicate x.toNat (some []))) (.tuple (.slice (some ⟨w.heap.size,0,none⟩) x.toNat x.toNat :: List.replicate x.toNat (.slice none 0 0)).toArray) (gives_nil lk d) (w':=w.alloc (.cells (madeCells z.cells (x.toNat * i.size)) E))
         (fun s0 o0 h=>⟨Nat.le_of_lt (nextS_lt h),fun e=>by have:=nextS_lt h;omega⟩) rfl rfl rfl (by simp) (fun b hb _ _=>heap_alloc_old w _ hb)
         (fun b hb=>by
           obtain ⟨p,g,g1,g2⟩:=VB_tuple.1 hb
           cases p with
           | zero =>
             simp only [List.getElem?_toArray,List.getElem?_cons_zero,Option.some.injEq] at g1
             subst g1
             simp only [vblk,Option.some.injEq] at g2
             exact .inr (.inr (by omega))
           | succ p =>
             simp only [List.getElem?_toArray,List.getElem?_cons_succ,List.getElem?_replicate] at g1
             split at g1
             · simp only [Option.some.injEq] at g1;subst g1;simp [vblk] at g2
             · cases g1) (fun lk' pos' hle=>⟨_,rfl,hG _⟩) (h0:=by intro h;have:=nextS_pos (lk:=lk) (k:=d);omega)
       refine .inl ⟨.slice (some ⟨w.heap.size,0,none⟩) x.toNat x.toNat,_,?_,Fz,pos',U,r2.value o.dst (row_val hl hp rfl rfl)⟩
       unfold execOp
       simp only [ho,Sem.run_bind,hn,hc,hrun,Result.andThen_ok,Sem.run_pure]
     · simp at he
   · simp at he
 · simp at he
theorem RepIds.src {α:Type} {h0:Value} {ids:List Nat} {rows:List (Option α)} {hs:Array Value} (h:RepIds w h0 ids rows hs) :
   ∃ ad cap outs,h0 = .slice ad ids.length cap∧outs.length = ids.length∧ids.length ≤ cap∧(∀ u ∈ outs,u.oneCell' = true) ∧
     ((ad = none∧cap = 0∧ids = []) ∨ ∃ b off c T,ad = some ⟨b,off,none⟩∧w.heap[b]? = some (.cells c T (0,0))∧off + cap ≤ c.size∧cap ≤ maxLen∧outs <+: c.toList.drop off) ∧
     ∀ (j i:Nat) (xs:α) (h:Value),ids[j]? = some i→rows[i]? = some (some xs)→hs[i + 1]? = some h→outs[j]? = some h:=by
 rcases h with ⟨rfl,rfl⟩ | ⟨b,off,cap,cells,T,rfl,hb,h1,h2,h3,h4,h5⟩
 · exact ⟨none,0,[],rfl,rfl,Nat.le_refl _,fun _ h=>by simp at h,.inl ⟨rfl,rfl,rfl⟩,fun j i xs h k1=>by simp at k1⟩
 · have hget:∀ j,j < ids.length→((cells.toList.drop off).take ids.length)[j]? = cells[off + j]?:=by
     intro j hj
     rw [List.getElem?_take,if_pos hj,List.getElem?_drop];simp
   refine ⟨_,cap,(cells.toList.drop off).take ids.length,rfl,by simp;omega,h1,fun u hu=>?_,.inr ⟨b,off,cells,T,rfl,hb,h3,h2,List.take_prefix _ _⟩,fun j i xs h k1 k2 k3=>?_⟩
   · obtain ⟨j,hj⟩:=List.getElem?_of_mem hu
     have hjl:j < ids.length:=by
       have:=(List.getElem?_eq_some_iff.1 hj).1
       simp at this;omega
     obtain ⟨g,g1,g2⟩:=h4 j hjl
     rw [hget j hjl,g1] at hj
     simp only [Option.some.injEq] at hj
     subst hj;exact g2
   · rw [hget j (List.getElem?_eq_some_iff.1 k1).1]
     exact h5 j i xs h k1 k2 k3
theorem RepIds.of {α:Type} {ids:List Nat} {rows:List (Option α)} {hs:Array Value} {b off cap:Nat} {cells:Array Value} {T:TypeId} (hb:w.heap[b]? = some (.cells cells T (0,0))) (h1:ids.length ≤ cap) (h2:cap ≤ maxLen) (h3:off + cap ≤ cells.size) {outs:List Value}
   (hl:outs.length = ids.length) (hp:outs <+: cells.toList.drop off) (hone:∀ u ∈ outs,u.oneCell' = true) (hc:∀ (j i:Nat) (xs:α) (h:Value),ids[j]? = some i→rows[i]? = some (some xs)→hs[i + 1]? = some h→outs[j]? = some h) :
   RepIds w (.slice (some ⟨b,off,none⟩) ids.length cap) ids rows hs:=by
 have hget:∀ j,j < ids.length→cells[off + j]? = outs[j]?:=by
   intro j hj
   obtain ⟨t,ht⟩:=hp
   have:(cells.toList.drop off)[j]? = outs[j]?:=by rw [← ht,List.getElem?_append_left (by omega)]
   rw [List.getElem?_drop] at this
   simpa using this
 refine .inr ⟨b,off,cap,cells,T,rfl,hb,h1,h2,h3,fun j hj=>?_,fun j i xs h k1 k2 k3=>?_⟩
 · rw [hget j hj]
   exact ⟨outs[j]'(by omega),by simp,hone _ (List.getElem_mem _)⟩
 · rw [hget j (List.getElem?_eq_some_iff.1 k1).1]
   exact hc j i xs h k1 k2 k3
def joinH (h0:Value) (hs hs2:Array Value):Array Value:=(h0 :: (hs.toList.tail ++ hs2.toList.tail)).toArray
theorem joinH_zero (h0:Value) (hs hs2:Array Value):(joinH h0 hs hs2)[0]? = some h0:=by simp [joinH]
theorem tail_get (hs:Array Value) (i:Nat):hs.toList.tail[i]? = hs[i + 1]?:=by rw [List.getElem?_tail];simp
theorem joinH_left {h0:Value} {hs hs2:Array Value} {n i:Nat} (hsz:hs.size = n + 1) (hi:i < n):(joinH h0 hs hs2)[i + 1]? = hs[i + 1]?:=by
 simp only [joinH,List.getElem?_toArray,List.getElem?_cons_succ]
 rw [List.getElem?_append_left (by simp;omega),tail_get]
theorem joinH_right {h0:Value} {hs hs2:Array Value} {n i:Nat} (hsz:hs.size = n + 1):(joinH h0 hs hs2)[n + i + 1]? = hs2[i + 1]?:=by
 simp only [joinH,List.getElem?_toArray,List.getElem?_cons_succ]
 rw [List.getElem?_append_right (by simp;omega),← tail_get]
 congr 1;simp;omega
theorem joinH_mem {h0:Value} {hs hs2:Array Value} {n:Nat} (hsz:hs.size = n + 1) {p:Nat} {g:Value} (h:(joinH h0 hs hs2)[p]? = some g):(p = 0∧g = h0) ∨ (∃ i,i < n∧p = i + 1∧hs[i + 1]? = some g) ∨ ∃ i,p = n + i + 1∧hs2[i + 1]? = some g:=by
 cases p with
 | zero=>rw [joinH_zero] at h;simp only [Option.some.injEq] at h;exact .inl ⟨rfl,h.symm⟩
 | succ p =>
   by_cases hp:p < n
   · rw [joinH_left hsz hp] at h
     exact .inr (.inl ⟨p,hp,rfl,h⟩)
   · rw [show p + 1 = n + (p - n) + 1 by omega,joinH_right hsz] at h
     exact .inr (.inr ⟨p - n,by omega,h⟩)
theorem join_cells {e:Ty} {ids ids2:List Nat} {rows rows2:List (Option (List e.T))} {h0:Value} {hs hs2:Array Value} {outs outs2:List Value} (hsz:hs.size = rows.length + 1) (inb:∀ i ∈ ids,i < rows.length) (hl:outs.length = ids.length)
   (h1:∀ (j i:Nat) (xs:List e.T) (h:Value),ids[j]? = some i→rows[i]? = some (some xs)→hs[i + 1]? = some h→outs[j]? = some h)
   (h2:∀ (j i:Nat) (xs:List e.T) (h:Value),ids2[j]? = some i→rows2[i]? = some (some xs)→hs2[i + 1]? = some h→outs2[j]? = some h) :
   ∀ (j i:Nat) (xs:List e.T) (h:Value),(ids ++ shiftIds rows.length ids2)[j]? = some i→(rows ++ rows2)[i]? = some (some xs)→(joinH h0 hs hs2)[i + 1]? = some h→(outs ++ outs2)[j]? = some h:=by
 intro j i xs h k1 k2 k3
 by_cases hj:j < ids.length
 · rw [List.getElem?_append_left hj] at k1
   have hi:i < rows.length:=inb i (List.mem_of_getElem? k1)
   rw [List.getElem?_append_left hi] at k2
   rw [joinH_left hsz hi] at k3
   rw [List.getElem?_append_left (by omega)]
   exact h1 j i xs h k1 k2 k3
 · rw [List.getElem?_append_right (by omega)] at k1
   simp only [shiftIds,List.getElem?_map,Option.map_eq_some_iff] at k1
   obtain ⟨i2,k1,rfl⟩:=k1
   rw [List.getElem?_append_right (by omega),show rows.length + i2 - rows.length = i2 by omega] at k2
   rw [joinH_right hsz] at k3
   rw [List.getElem?_append_right (by omega),hl]
   exact h2 _ i2 xs h k1 k2 k3
theorem RepGrid.join {e:Ty} {ids ids2:List Nat} {rows rows2:List (Option (List e.T))} {hs hs2:Array Value} (G:RepGrid Fz w e (.ids ids) rows hs) (G2:RepGrid Fz w e (.ids ids2) rows2 hs2) {h0 h0':Value} (hh0:hs[0]? = some h0)
   (hcross:∀ (p q:Nat) g g' b,hs[p]? = some g→hs2[q]? = some g'→vblk g = some b→vblk g' = some b→False) {Fz':Nat→Prop} {w':World} (hf:Fut Fz w Fz' w') (hkeep:∀ b,b < w.heap.size→vblk h0 ≠ some b→w'.heap[b]? = w.heap[b]?)
   (hout:RepIds w' h0' (ids ++ shiftIds rows.length ids2) (rows ++ rows2) (joinH h0' hs hs2)) (hb0:∀ b,vblk h0' = some b→vblk h0 = some b ∨ w.heap.size ≤ b) :
   RepGrid Fz' w' e (.ids (ids ++ shiftIds rows.length ids2)) (rows ++ rows2) (joinH h0' hs hs2):=by
 have hsz:=G.size
 have hsz2:=G2.size
 have hlt1:∀ (p:Nat) g b,hs[p]? = some g→vblk g = some b→b < w.heap.size:=fun p g b h1 h2=>by
   exact G.below (VB_hdr h1 h2)
 have hlt2:∀ (p:Nat) g b,hs2[p]? = some g→vblk g = some b→b < w.heap.size:=fun p g b h1 h2=>by
   exact G2.below (VB_hdr h1 h2)
 have hk1:∀ (i:Nat) g,hs[i + 1]? = some g→∀ b,vblk g = some b→w'.heap[b]? = w.heap[b]?:=fun i g h1 b h2=>hkeep b (hlt1 _ g b h1 h2) fun h3=>by
   have:=G.apart 0 (i + 1) h0 g b hh0 h1 h3 h2;omega
 have hk2:∀ (i:Nat) g,hs2[i]? = some g→∀ b,vblk g = some b→w'.heap[b]? = w.heap[b]?:=fun i g h1 b h2=>hkeep b (hlt2 _ g b h1 h2) fun h3=>hcross 0 i h0 g b hh0 h1 h3 h2
 have hne1:∀ (i:Nat) g b,hs[i + 1]? = some g→vblk g = some b→vblk h0' = some b→False:=fun i g b h1 h2 h3=>by
   rcases hb0 b h3 with h4 | h4
   · have:=G.apart 0 (i + 1) h0 g b hh0 h1 h4 h2;omega
   · have:=hlt1 _ g b h1 h2;omega
 have hne2:∀ (i:Nat) g b,hs2[i]? = some g→vblk g = some b→vblk h0' = some b→False:=fun i g b h1 h2 h3=>by
   rcases hb0 b h3 with h4 | h4
   · exact hcross 0 i h0 g b hh0 h1 h4 h2
   · have:=hlt2 _ g b h1 h2;omega
 refine ⟨by simp [joinH,hsz,hsz2],fun i xs g k1 k2=>?_,fun i g k1 k2=>?_,fun g k1=>?_,fun p q g g' b k1 k2 k3 k4=>?_,fun i hi=>?_⟩
 · by_cases hi:i < rows.length
   · rw [List.getElem?_append_left hi] at k1
     rw [joinH_left hsz hi] at k2
     exact (G.row i xs g k1 k2).mono hf (hk1 i g k2)
   · obtain ⟨i2,rfl⟩:∃ i2,i = rows.length + i2:=⟨i - rows.length,by omega⟩
     rw [List.getElem?_append_right (by omega),show rows.length + i2 - rows.length = i2 by omega] at k1
     rw [joinH_right hsz] at k2
     exact (G2.row i2 xs g k1 k2).mono hf (hk2 _ g k2)
 · by_cases hi:i < rows.length
   · rw [List.getElem?_append_left hi] at k1
     rw [joinH_left hsz hi] at k2
     exact G.gone i g k1 k2
   · obtain ⟨i2,rfl⟩:∃ i2,i = rows.length + i2:=⟨i - rows.length,by omega⟩
     rw [List.getElem?_append_right (by omega),show rows.length + i2 - rows.length = i2 by omega] at k1
     rw [joinH_right hsz] at k2
     exact G2.gone i2 g k1 k2
 · rw [joinH_zero] at k1
   simp only [Option.some.injEq] at k1
   subst k1;exact hout
 · rcases joinH_mem hsz k1 with ⟨rfl,rfl⟩ | ⟨i,hi,rfl,m1⟩ | ⟨i,rfl,m1⟩ <;> rcases joinH_mem hsz k2 with ⟨rfl,h2e⟩ | ⟨i',hi',rfl,m2⟩ | ⟨i',rfl,m2⟩
   · rfl
   · exact (hne1 _ _ _ m2 k4 k3).elim
   · exact (hne2 _ _ _ m2 k4 k3).elim
   · subst h2e;exact (hne1 _ _ _ m1 k3 k4).elim
   · exact G.apart _ _ _ _ _ m1 m2 k3 k4
   · exact (hcross _ _ _ _ _ m1 m2 k3 k4).elim
   · subst h2e;exact (hne2 _ _ _ m1 k3 k4).elim
   · exact (hcross _ _ _ _ _ m2 m1 k4 k3).elim
   · have:=G2.apart _ _ _ _ _ m1 m2 k3 k4;omega
 · rw [List.length_append]
   rcases List.mem_append.1 hi with hi | hi
   · have:=G.inb i hi;omega
   · simp only [shiftIds,List.mem_map] at hi
     obtain ⟨i2,h1,rfl⟩:=hi
     have:=G2.inb i2 h1;omega
theorem ok_gappend {o:Oper} {T T':TypeId} {x y:Operand} {d:Nat} (ho:o.op = .call ⟨.builtin .append,#[x,y],#[T,T']⟩) (hd:o.dst = some d) (hΓ:CfgOk P Γ) (r:RelIn cx tm lk a w Fz pos U) (hg:cx.G = Γ.glob) {e:Eff}
   (he:evGAppend Γ lk d T T' (Γ.val tm x) (Γ.val tm y) some = some e):Ok P cx tm lk o a w e:=by
 have hx:=val_rep r hg x
 have hy:=val_rep r hg y
 have hrun:∀ u w',(Builtin.append_ #[T,T'] o.type #[a.eval x,a.eval y]).run P w = .ok u w'→(execOp a.eval o).run P w = .ok (.value u) w':=by
   intro u w' hu
   unfold execOp
   simp [ho,resolve,invoke,builtin,hu]
 unfold evGAppend at he
 split at he
 · rename_i e1 k s e2 k2 s2 hvx hvy
   rw [hvx] at hx
   rw [hvy] at hy
   split at he
   · rename_i E e0 s' e' ids rows s2' e2' ids2 rows2 hT hlk hlk2
     cases hc:(decide (T = T') && elemOk Γ E (.lst e0) && decide (s = s') && decide (s2 = s2') && decide (e1 = e0) && decide (e' = e0) && decide (e2 = e') && !Nat.beq k k2) with
     | false=>rw [hc] at he;simp at he
     | true =>
       rw [hc] at he
       simp only [cond_true] at he
       simp only [Bool.and_eq_true,decide_eq_true_eq,Bool.not_eq_true'] at hc
       obtain ⟨⟨⟨⟨⟨⟨⟨rfl,hok⟩,rfl⟩,rfl⟩,rfl⟩,rfl⟩,rfl⟩,hkk⟩:=hc
       split at he
       · rename_i h22
         subst h22
         rename Ty=>et
         split at he
         · rename_i hmax
           simp only [Option.some.injEq] at he
           subst he
           have hkne:k2 ≠ k:=fun h=>by subst h;rw [Nat.beq_refl] at hkk;cases hkk
           obtain ⟨by_,hT⟩:=gridTy_iff hT
           obtain ⟨hu,_⟩:=slice_desc hΓ hT
           obtain ⟨_,i,z,hi,his,hib,hz,hzc⟩:=elemOk_iff hΓ hok
           have his:i.size = 1:=his
           have hzs:z.cells.size = 1:=by have:=congrArg List.length hzc;simpa [Ty.zcells] using this
           obtain ⟨hs,hpos,G⟩:=grid_at r hlk
           obtain ⟨hs2,hpos2,G2⟩:=grid_at r hlk2
           have hh0:=row_hdr hlk hpos hx trivial
           have hh2:=row_hdr hlk2 hpos2 hy trivial
           have hns:∀ s0 o0,lk k = some (s0,o0)→s0 < s + 1:=by
             intro s0 o0 h;rw [hlk] at h;simp only [Option.some.injEq,Prod.mk.injEq] at h;omega
           have hsz:=G.size
           obtain ⟨ad,cap,outs,hv,hol,hcap,hone,hsrc,hcl⟩:=(G.out _ hh0).src
           obtain ⟨ad2,cap2,outs2,hv2,hol2,hcap2,hone2,hsrc2,hcl2⟩:=(G2.out _ hh2).src
           have hcross:∀ (p q:Nat) g g' b,hs[p]? = some g→hs2[q]? = some g'→vblk g = some b→vblk g' = some b→False:=fun p q g g' b h1 h2 h3 h4 =>
             hkne (r.inj k2 _ _ k _ _ b hlk2 hlk (by rw [hpos2];exact VB_hdr h2 h4) (by rw [hpos];exact VB_hdr h1 h3))
           have hones:∀ u ∈ outs ++ outs2,u.oneCell' = true:=fun u hu=>(List.mem_append.1 hu).elim (hone u) (hone2 u)
           have hsl:(shiftIds rows.length ids2).length = ids2.length:=by simp [shiftIds]
           have hcells:=fun h0'=>join_cells (h0:=h0') hsz G.inb hol hcl hcl2
           have hS:Src P i.size T (a.eval y) ids2.length outs2 w:=by
             rw [hv2,his]
             rcases hsrc2 with ⟨rfl,rfl,hid⟩ | ⟨b,off,c,T',rfl,hb,_,_,hp⟩
             · have:outs2 = []:=List.eq_nil_of_length_eq_zero (by rw [hol2,hid];rfl)
               subst this
               rw [hid]
               exact Src.ofNil w hu 0
             · refine Src.ofSlice w hu ⟨b,off,none⟩ ids2.length cap2 outs2 (by rw [hol2];simp) (fun j v hj=>?_) hone2
               rw [Addr.add_mid]
               obtain ⟨t,ht⟩:=hp
               have:(c.toList.drop off)[j]? = some v:=by rw [← ht,List.getElem?_append_left (List.getElem?_eq_some_iff.1 hj).1];exact hj
               rw [List.getElem?_drop] at this
               simp [World.cell?,hb,← this]
           -- what comes of it
           have fin:∀ (h0':Value) (w':World),(execOp a.eval o).run P w = .ok (.value h0') w'→h0'.oneCell' = true→w'.os = w.os→w'.tape = w.tape→w'.output = w.output→w.heap.size ≤ w'.heap.size →
               (∀ b,b < w.heap.size→vblk (a.eval x) ≠ some b→w'.heap[b]? = w.heap[b]?)→(∀ b,vblk h0' = some b→vblk (a.eval x) = some b ∨ w.heap.size ≤ b) →
               RepIds w' h0' (ids ++ shiftIds rows.length ids2) (rows ++ rows2) (joinH h0' hs hs2)→Ok P cx tm lk o a w { val:=.row et k (s + 1) 0,wr:=[(k2,s2 + 1,.gone),(k,s + 1,.grid et (.ids (ids ++ shiftIds rows.length ids2)) (rows ++ rows2))] }:=by
             intro h0' w' hex h1 hos htp hou hsz' hkeep hb0 hids
             obtain ⟨pos',r2,hp,hl⟩:=r.adopt k (s + 1) (.grid et (.ids (ids ++ shiftIds rows.length ids2)) (rows ++ rows2)) (.tuple (joinH h0' hs hs2)) (gives_one hlk2 hkne) (w':=w') (fun s0 o0 h=>⟨Nat.le_of_lt (hns s0 o0 h),fun e=>by have:=hns s0 o0 h;omega⟩) hos htp hou hsz'
               (fun b hb h2 _=>hkeep b hb fun h3=>h2 _ _ hlk (by rw [hpos];exact VB_hdr hh0 h3))
               (fun b hb=>by
                 obtain ⟨p,g,k1,k3⟩:=VB_tuple.1 hb
                 rcases joinH_mem hsz k1 with ⟨rfl,rfl⟩ | ⟨i,hi,rfl,m1⟩ | ⟨i,rfl,m1⟩
                 · rcases hb0 b k3 with h | h
                   · exact .inl ⟨_,_,hlk,by rw [hpos];exact VB_hdr hh0 h⟩
                   · exact .inr (.inr h)
                 · exact .inl ⟨_,_,hlk,by rw [hpos];exact VB_hdr m1 k3⟩
                 · exact .inr (.inl ⟨k2,_,_,rfl,hlk2,by rw [hpos2];exact VB_hdr m1 k3⟩))
               (fun lk' pos' hle=>⟨_,rfl,G.join G2 hh0 hcross hle.fut hkeep hids hb0⟩)
             exact .inl ⟨h0',w',hex,Fz,pos',U,r2.value o.dst (row_val hl hp h1 (joinH_zero _ _ _))⟩
           have hlen:(ids ++ shiftIds rows.length ids2).length = ids.length + ids2.length:=by rw [List.length_append,hsl]
           have hgrow:∀ (olds:List Value),(Builtin.firstCells i.size ids.length (.slice ad ids.length cap)).run P w.drew = .ok olds.toArray w.drew→olds = outs→cap < ids.length + ids2.length→Ok P cx tm lk o a w { val:=.row et k (s + 1) 0,wr:=[(k2,s2 + 1,.gone),(k,s + 1,.grid et (.ids (ids ++ shiftIds rows.length ids2)) (rows ++ rows2))] }:=by
             intro olds hold hole hlt
             subst hole
             have hmax':ids.length + ids2.length ≤ 1073741824:=hmax
             have hfit:Builtin.nextslicecap (ids.length + ids2.length) cap * i.bytes ≤ 281474976710656:=by
               refine growslice_fits hlt ?_
               calc (ids.length + ids2.length) * i.bytes ≤ 1073741824 * 65536:=Nat.mul_le_mul hmax' hib
                 _ ≤ 140737488355328:=by omega
             have hr:=run_append_grow_src (P:=P) w T T o.type E i z hu hi hz ad ids.length cap olds hold (a.eval y) ids2.length outs2 hS hlt (by omega) hfit
             have hge:=grownCap_ge w (ids.length + ids2.length) cap E
             have hcm:grownCap w (ids.length + ids2.length) cap E ≤ maxLen:=grownCap_le_maxLen w _ cap E (by unfold maxLen;omega)
             rw [← hv] at hr
             refine fin _ _ (hrun _ _ hr) rfl rfl rfl rfl (by simp) (fun b hb _=>heap_alloc_old w.drew _ hb) (fun b hb=>.inr (by simp only [vblk,Option.some.injEq] at hb;omega)) ?_
             have:=RepIds.of (w:=w.drew.alloc (.cells ((olds ++ outs2).toArray ++ Builtin.zeroCells z.cells (grownCap w (ids.length + ids2.length) cap E - (ids.length + ids2.length))) E)) (ids:=ids ++ shiftIds rows.length ids2) (rows:=rows ++ rows2)
               (hs:=joinH (.slice (some ⟨w.heap.size,0,none⟩) (ids.length + ids2.length) (grownCap w (ids.length + ids2.length) cap E)) hs hs2) (b:=w.heap.size) (off:=0) (cap:=grownCap w (ids.length + ids2.length) cap E) (T:=E) (heap_alloc_at w.drew _) (by rw [hlen];exact hge) hcm
               (by simp only [Array.size_append,List.size_toArray,size_zeroCells',hzs,List.length_append,hol,hol2];omega) (outs:=olds ++ outs2) (by rw [hlen,List.length_append,hol,hol2]) (by simp only [Array.toList_append,List.drop_zero];exact List.prefix_append _ _) hones (hcells _)
             rw [hlen] at this
             exact this
           rcases hsrc with ⟨rfl,rfl,hid⟩ | ⟨b,off,c,T',rfl,hb,hfit,hcm,hp⟩
           · have ho0:outs = []:=List.eq_nil_of_length_eq_zero (by rw [hol,hid];rfl)
             by_cases hm:ids2.length = 0
             · have hi2:ids2 = []:=List.eq_nil_of_length_eq_zero hm
               have ho2:outs2 = []:=List.eq_nil_of_length_eq_zero (by rw [hol2,hm])
               have hr:(Builtin.append_ #[T,T] o.type #[a.eval x,a.eval y]).run P w = .ok (.slice none 0 0) w:=by
                 rw [hv,hid]
                 have hc:=hS.cells
                 have hl:=hS.len w
                 rw [hm,ho2] at hc
                 rw [hm] at hl
                 simp [Builtin.append_,run_underlying hu,sizeOf,typeInfo,hi,hl,hc]
               exact fin _ _ (hrun _ _ hr) rfl rfl rfl rfl (Nat.le_refl _) (fun _ _ _=>rfl) (fun b hb=>by simp [vblk] at hb) (.inl ⟨rfl,by rw [hid,hi2];rfl⟩)
             · exact hgrow [] (run_firstCells_none w.drew _ _ _ _) ho0.symm (by omega)
           · by_cases hroom:ids.length + ids2.length ≤ cap
             · have hr:=run_append_room_row (P:=P) (ty:=o.type) (off:=off) hu hi hS hb hroom (by rw [his,hol2];omega)
               rw [← hv] at hr
               have hpre2:(outs ++ outs2) <+: (seg c.toList (off + ids.length * i.size) outs2).drop off:=by
                 obtain ⟨t,ht⟩:=hp
                 have hlo:off ≤ c.toList.length:=by simp;omega
                 have h5:c.toList.take (off + ids.length * i.size) = c.toList.take off ++ outs:=by
                   have:c.toList = c.toList.take off ++ (outs ++ t):=by rw [ht,List.take_append_drop]
                   conv=>lhs;rw [this]
                   rw [List.take_append]
                   have hl1:(c.toList.take off).length = off:=by simp;omega
                   rw [hl1,List.take_of_length_le (by rw [hl1];omega),show off + ids.length * i.size - off = outs.length by rw [hol,his];omega,List.take_left]
                 unfold seg
                 have hl1:(c.toList.take off).length = off:=by simp;omega
                 rw [h5,List.append_assoc,List.append_assoc,List.drop_left' hl1]
                 rw [← List.append_assoc]
                 exact List.prefix_append _ _
               refine fin _ _ (hrun _ _ hr) rfl rfl rfl rfl (by simp) (fun b' _ hn=>setRow_other w b b' _ fun he=>hn (by rw [hv,he];rfl)) (fun b' hb'=>.inl (by rw [hv];exact hb')) ?_
               have:=RepIds.of (w:=w.setRow b (seg c.toList (off + ids.length * i.size) outs2).toArray) (ids:=ids ++ shiftIds rows.length ids2) (rows:=rows ++ rows2) (hs:=joinH (.slice (some ⟨b,off,none⟩) (ids.length + ids2.length) cap) hs hs2) (b:=b) (off:=off) (cap:=cap) (T:=T')
                 (setRow_heap w b c _ T' _ hb) (by rw [hlen];exact hroom) hcm (by rw [List.size_toArray,seg_length _ _ _ (by rw [his,hol2];simp;omega)];simpa using hfit) (outs:=outs ++ outs2) (by rw [hlen,List.length_append,hol,hol2]) (by simpa using hpre2) hones (hcells _)
               rw [hlen] at this
               exact this
             · have hrow:∀ j v,outs[j]? = some v→w.drew.cell? ((⟨b,off,none⟩:Addr).add j) = some v:=by
                 intro j v hj
                 rw [Addr.add_mid]
                 obtain ⟨t,ht⟩:=hp
                 have:(c.toList.drop off)[j]? = some v:=by rw [← ht,List.getElem?_append_left (List.getElem?_eq_some_iff.1 hj).1];exact hj
                 rw [List.getElem?_drop] at this
                 have hb':w.drew.heap[b]? = some (.cells c T' (0,0)):=hb
                 simp [World.cell?,hb',← this]
               exact hgrow outs (run_firstCells_some w.drew i.size ids.length ⟨b,off,none⟩ ids.length cap outs (by rw [his,hol];simp) hrow) rfl (by omega)
         · simp at he
       · simp at he
   · simp at he
 · simp at he
theorem snapC_rep (r:RelIn cx tm lk a w Fz pos U):∀ (vs:List V) (us:List Value) {C:Type} (K:List V→Option C) (x:C),snapC lk vs K = some x→Pt (RepT (cx.e Fz w lk pos)) vs us→∃ vs',K vs' = some x∧Pt (RepT (cx.e (fun b=>Fz b ∨ Owned lk pos b) w lk pos)) vs' us
 | [],us,C,K,x,h,hp=>⟨[],h,hp⟩
 | v :: vs,us,C,K,x,h,⟨u,us',he,h1,h2⟩=>by
   unfold snapC at h
   split at h
   · rename_i e k s i
     split at h
     · rename_i s' e' ids rows hlk
       split at h
       · rename_i hc
         obtain ⟨rfl,rfl⟩:=hc
         cases hrow:rowOf rows i with
         | none=>rw [hrow] at h;simp at h
         | some xs =>
           rw [hrow] at h
           simp only [Option.bind_some] at h
           obtain ⟨vs',g1,g2⟩:=snapC_rep r vs us' _ x h h2
           refine ⟨_,g1,u,us',he,?_,g2⟩
           obtain ⟨hs,hpos,G⟩:=grid_at r hlk
           have hri:=rowOf_some hrow
           have hgi:=row_hdr hlk hpos h1 ⟨xs,hri⟩
           have hf:Fut Fz w (fun b=>Fz b ∨ Owned lk pos b) w:=fun b hb=>⟨.inl hb,rfl⟩
           rcases G.row i xs u hri hgi with ⟨hu,hxs⟩ | ⟨b,off,cap,cells,TT,hu,hbk,hc1,hc2,hc3,cs,hall,hpre⟩
           · rw [hu,hxs];exact nil_lst _ _ _
           · exact ⟨[u],⟨some ⟨b,off,none⟩,xs.length,cap,cs,by rw [hu],rfl,hc1,All2.mono (fun x cs hx=>hx.mono hf) _ _ hall,.inr ⟨b,off,cells,TT,(0,0),rfl,.inr ⟨k,s,_,hlk,by rw [hpos];exact VB_hdr hgi (by rw [hu];rfl)⟩,hbk,hpre⟩⟩,rfl⟩
       · simp at h
     · simp at h
   · obtain ⟨vs',g1,g2⟩:=snapC_rep r vs us' _ x h h2
     exact ⟨_,g1,u,us',he,snap_rep r h1,g2⟩
theorem ok_gcall {o:Oper} {f:Operand} {args:Array Operand} {Ts:Array TypeId} (ho:o.op = .call ⟨.value f,args,Ts⟩) (hΓ:CfgOk P Γ) (hP:cx.P = P) (r:RelIn cx tm lk a w Fz pos U) (hg:cx.G = Γ.glob) {e:Eff}
   (he:evGCall Γ lk (Γ.val tm f) (nilArgs Γ Ts.toList (args.toList.map (Γ.val tm))) some = some e):Ok P cx tm lk o a w e:=by
 have hf:=val_rep r hg f
 have hargs:=nilArgs_rep (Γ:=Γ) Ts.toList _ _ (vals_rep r hg args.toList)
 unfold evGCall at he
 generalize Γ.val tm f = vf at he hf
 generalize nilArgs Γ Ts.toList (args.toList.map (Γ.val tm)) = va at he hargs
 have hinv:Inv Γ.glob Fz w:=by have:=r.inv;rwa [hg] at this
 cases vf <;> (try simp only at he) <;> try (simp at he;done)
 rename_i g caps
 split at he
 · rename_i hcaps
   obtain ⟨us,hv,hpt⟩:=hf
   obtain ⟨vs',he,hvs⟩:=snapC_rep r _ _ _ _ he hargs
   split at he
   · rename_i hpure
     rw [hΓ.nat] at he
     cases hcall:Γ.call g (vs'.map (V.toClo Γ) ++ caps) some with
     | none=>rw [hcall] at he;simp at he
     | some rv =>
       rw [hcall] at he
       simp only [Option.bind_some] at he
       split at he
       · rename_i hsc
         simp only [Option.some.injEq] at he
         subst he
         refine Ok.enter r (run_enter ho hv (hΓ.body _ _ _ hcall)) ?_
         have hf2:Fut Fz w (fun b=>Fz b ∨ Owned lk pos b) w:=fun b hb=>⟨.inl hb,rfl⟩
         have hlt2:∀ b,(Fz b ∨ Owned lk pos b)→b < w.heap.size:=by
           rintro b (h | ⟨k,s,o',h1,h2⟩)
           · exact r.step.lt b h
           · exact (r.objs k s o' h1).lt h2
         have hinv2:=hinv.step hf2 hlt2
         have hfn:=hΓ.ok _ _ _ hcall (fun b=>Fz b ∨ Owned lk pos b) w (args.toList.map a.eval ++ us) hinv2
           (Pt.append _ _ _ _ (pures_rep (A:=cx.e (fun b=>Fz b ∨ Owned lk pos b) w lk pos) (B:=E0 P Γ.glob (fun b=>Fz b ∨ Owned lk pos b) w) hP.symm hg.symm (Fut.refl _ _) _ _ hpure (toClos_rep hΓ hP hg _ _ hvs)) (args_G _ _ hcaps (args_rep (A:=cx.e Fz w lk pos) (B:=E0 P Γ.glob (fun b=>Fz b ∨ Owned lk pos b) w) hP.symm hg.symm hf2 _ _ hcaps hpt)))
         rw [show (args.toList.map a.eval).toArray ++ us.toArray = (args.toList.map a.eval ++ us).toArray by simp]
         refine Calls.mono hfn fun e w' ⟨v,Fz',h1,h2,h3⟩=>⟨v,Fz,h1,⟨h2.os,h2.tape,h2.output,h2.size,h2.block,fun _ _=>Iff.rfl,fun b hb=>Nat.lt_of_lt_of_le (r.step.lt b hb) h2.size⟩,scalar_rep hsc h3⟩
       · simp at he
   · simp at he
 · simp at he
theorem ok_gwhole {o:Oper} {T:TypeId} {x:Operand} {lo hi mx:Option Operand} (ho:o.op = .slice T x lo hi mx) (hΓ:CfgOk P Γ) (r:RelIn cx tm lk a w Fz pos U) (hg:cx.G = Γ.glob) {e:Eff}
   (he:evGWhole Γ lk T (Γ.val tm x) (lo.map (Γ.val tm)) (hi.map (Γ.val tm)) (mx.map (Γ.val tm)) some = some e):Ok P cx tm lk o a w e:=by
 have hx:=val_rep r hg x
 unfold evGWhole at he
 split at he
 · rename_i k s m' E m et by_ hv hT hlo hhi hmx
   have hlo:lo = none:=by cases lo <;> simp at hlo;rfl
   have hhi:hi = none:=by cases hi <;> simp at hhi;rfl
   have hmx:mx = none:=by cases mx <;> simp at hmx;rfl
   subst hlo hhi hmx
   rw [hv] at hx
   split at he
   · rename_i s' n e'' c hlk
     split at he
     · rename_i heq
       obtain ⟨rfl,rfl,rfl,rfl⟩:=heq
       simp only [Option.some.injEq] at he
       obtain ⟨hu,hmm,hel⟩:=arr_desc hΓ hT
       obtain ⟨_,s2,ob,h2,_,hval⟩:=hx
       have h2:lk k = some (s2,ob):=h2
       rw [hlk] at h2
       simp only [Option.some.injEq,Prod.mk.injEq] at h2
       obtain ⟨rfl,rfl⟩:=h2
       obtain ⟨dd,ad,hoff,had,hu2⟩:=hval rfl
       obtain ⟨hfit,b,cells,T',hpos,hb,hB⟩:=r.objs k s _ hlk
       have had:vaddr (pos k) = some ad:=had
       rw [hpos] at had
       simp only [vaddr,Option.some.injEq] at had
       subst had
       have hd0:dd = 0:=by simp only [Obj.off,K.at,Ty.at,Option.map_some,Option.some.injEq] at hoff;exact hoff.symm
       subst hd0
       have hux:a.eval x = .pointer (some ⟨b,0,none⟩):=by simpa using hu2
       have hr:=run_slice_arr (P:=P) (w:=w) hu (sizeOf_run hel w) (ad:=⟨b,0,none⟩) (lo:=none) (hi:=none) (l:=0) (h:=n) (.inl ⟨rfl,rfl⟩) (.inl ⟨rfl,rfl⟩) (by omega) (by omega) (by omega)
       have hr2:(Instr.sliceAt T (.pointer (some ⟨b,0,none⟩)) none none none).run P w = .ok (.slice (some ⟨b,0,none⟩) n n) w:=by
         rw [hr];simp [add_addr]
       refine Ok.value r he.symm (u:=.slice (some ⟨b,0,none⟩) n n) ?_ ⟨rfl,s,_,hlk,Nat.le_refl _,fun _=>⟨rfl,rfl,⟨b,0,none⟩,?_,rfl⟩⟩
       · unfold execOp
         simp [ho,hux,hr2]
       · show vaddr (pos k) = _
         rw [hpos];rfl
     · simp at he
   · simp at he
 · simp at he
theorem ok_gcopy {o:Oper} {T T':TypeId} {x y:Operand} (ho:o.op = .call ⟨.builtin .copy,#[x,y],#[T,T']⟩) (hΓ:CfgOk P Γ) (r:RelIn cx tm lk a w Fz pos U) (hg:cx.G = Γ.glob) {e:Eff}
   (he:evGCopy Γ lk T T' (Γ.val tm x) (Γ.val tm y) some = some e):Ok P cx tm lk o a w e:=by
 have hx:=val_rep r hg x
 have hy:=val_rep r hg y
 unfold evGCopy at he
 split at he
 · rename_i et k s hvx
   rw [hvx] at hx
   split at he
   · rename_i E e0 by_ s' n e1 n2 e2 xs hT hlk
     cases hc:(decide (T = T') && elemOk Γ E e0 && decide (e0.size = 1) && decide (s = s') && decide (et = e0) && decide (e1 = e0) && decide (n2 = n)) with
     | false=>rw [hc] at he;simp at he
     | true =>
       rw [hc] at he
       simp only [cond_true] at he
       simp only [Bool.and_eq_true,decide_eq_true_eq] at hc
       obtain ⟨⟨⟨⟨⟨⟨rfl,hok⟩,hsize⟩,rfl⟩,rfl⟩,rfl⟩,rfl⟩:=hc
       split at he
       · rename_i h2e
         subst h2e
         rename Ty=>et
         split at he
         · rename_i ys hys
           simp only [Option.some.injEq] at he
           subst he
           obtain ⟨hu,_⟩:=slice_desc hΓ hT
           obtain ⟨_,i,z,hi,his,_⟩:=elemOk_iff hΓ hok
           obtain ⟨ad,ycap,news,hyv,hnews,hycap,had⟩:=slice_src r hy hys
           have hnl:news.length = ys.length:=by have:=All2.size (fun x cs hx=>RepC.size et x cs hx) _ _ hnews;rw [hsize] at this;omega
           obtain ⟨_,s2,ob,h2,_,hval⟩:=hx
           have h2:lk k = some (s2,ob):=h2
           rw [hlk] at h2
           simp only [Option.some.injEq,Prod.mk.injEq] at h2
           obtain ⟨rfl,rfl⟩:=h2
           obtain ⟨_,_,xa,hxa,hxv⟩:=hval rfl
           obtain ⟨hfit,b,cells,TT,hpos,hb,hB⟩:=r.objs k s _ hlk
           have hxa:vaddr (pos k) = some xa:=hxa
           rw [hpos] at hxa
           simp only [vaddr,Option.some.injEq] at hxa
           subst hxa
           obtain ⟨hxl,hall⟩:=hB
           have hxl:(xs:List et.T).length = n2:=hxl
           have hcl:cells.toList.length = (xs:List et.T).length:=by have:=All2.size (fun x cs hx=>RepC.size et x cs hx) _ _ hall;rw [hsize] at this;omega
           -- what is laid down
           have hres:All2 (RepC Fz w et) (copyP n2 ys xs) (news.take n2 ++ cells.toList.drop ys.length):=by
             have h1:=All2.take (fun x cs hx=>RepC.size et x cs hx) n2 _ _ hnews
             have h3:=All2.drop (fun x cs hx=>RepC.size et x cs hx) ys.length _ _ hall
             rw [hsize,Nat.mul_one] at h1 h3
             exact All2.append _ _ _ _ h1 h3
           have hlen:(copyP n2 ys (xs:List et.T)).length = n2:=by
             unfold copyP
             simp only [List.length_append,List.length_take,List.length_drop]
             omega
           have fin:∀ (w':World) (new:Array Value),(execOp a.eval o).run P w = .ok (.value (goInt (min ys.length n2:Nat))) w'→w'.os = w.os→w'.tape = w.tape→w'.output = w.output→w.heap.size ≤ w'.heap.size→(∀ b',b' ≠ b→w'.heap[b']? = w.heap[b']?) →
               w'.heap[b]? = some (.cells new TT (0,0))→new.toList = news.take n2 ++ cells.toList.drop ys.length →
               Ok P cx tm lk o a w { val:=.dat (.int .i64) ((min ys.length n2:Nat):Int),wr:=[(k,s,.box (.d (.arr n2 et)) (.dat (.arr n2 et) (copyP n2 ys (xs:List et.T))))] }:=by
             intro w' new hrun hos htp hou hsz hkeep hb' hnew
             have r2:=r.obj k s (.box (.d (.arr n2 et)) (.dat (.arr n2 et) (copyP n2 ys (xs:List et.T)))) (pos k) (w':=w') (fun s0 o0 h=>by
                 rw [hlk] at h
                 simp only [Option.some.injEq,Prod.mk.injEq] at h
                 obtain ⟨rfl,rfl⟩:=h
                 exact ⟨Nat.le_refl _,fun _=>Ext.mk rfl rfl⟩) hos htp hou hsz (fun b' _ hn=>hkeep b' fun h=>hn (by rw [hpos,h];rfl)) (fun b' hb'=>.inl ⟨s,_,hlk,hb'⟩)
               (fun hle=>⟨by simp [V.fits,V.fitsF],b,new,TT,hpos,hb',by rw [hnew];exact ⟨hlen,All2.mono (fun x cs hx=>hx.mono hle.fut) _ _ hres⟩⟩) (h0:=by intro _;rw [hlk];simp)
             exact .inl ⟨_,w',hrun,Fz,_,U,r2.value o.dst (mkInt _ _ _)⟩
           have hex:∀ u w',(Builtin.copy_ #[T,T] o.type #[a.eval x,a.eval y]).run P w = .ok u w'→(execOp a.eval o).run P w = .ok (.value u) w':=by
             intro u w' hu
             unfold execOp
             simp [ho,resolve,invoke,builtin,hu]
           have hs1:(P.info? E).map (·.size) = some 1:=by rw [hi];simp [his,hsize]
           by_cases hm:Nat.min ys.length n2 = 0
           · have hrun:=run_copy_none (P:=P) w T T o.type E (some ⟨b,0,none⟩) ad n2 n2 ys.length ycap hu hs1 hm
             rw [← hxv,← hyv] at hrun
             have hm':min ys.length n2 = 0:=hm
             refine fin w cells (by rw [hm'];exact hex _ _ hrun) rfl rfl rfl (Nat.le_refl _) (fun _ _=>rfl) hb ?_
             have:news.take n2 = []:=List.eq_nil_of_length_eq_zero (by rw [List.length_take];omega)
             rw [this,List.nil_append]
             rcases Nat.eq_zero_or_pos ys.length with h0 | h0
             · rw [h0,List.drop_zero]
             · have:cells.toList = []:=List.eq_nil_of_length_eq_zero (by omega)
               rw [this];simp
           · rcases had with ⟨_,h0⟩ | ⟨b2,off,c,T2,fz,rfl,hb2,hpre⟩
             · subst h0;exact absurd (show Nat.min ([]:List et.T).length n2 = 0 by simp [Nat.min_def]) hm
             · have hcs:(news.take n2).length = min ys.length n2:=by simp;omega
               have hrun:=run_copy_row (P:=P) w T T o.type E b 0 n2 n2 ⟨b2,off,none⟩ ys.length ycap cells TT (news.take n2) hu hs1 hb hcs (fun j v hj=>by
                   rw [Addr.add_mid]
                   have hj2:news[j]? = some v:=by
                     rw [List.getElem?_take] at hj
                     split at hj
                     · exact hj
                     · cases hj
                   obtain ⟨t,ht⟩:=hpre
                   have:(c.toList.drop off)[j]? = some v:=by rw [← ht,List.getElem?_append_left (List.getElem?_eq_some_iff.1 hj2).1];exact hj2
                   rw [List.getElem?_drop] at this
                   simp [World.cell?,hb2,← this]) (by rw [hcs];simp at hcl;omega) (fun v hv=>All2.one (fun x cs hx=>RepC.one et x cs hx) _ _ hnews v (List.mem_of_mem_take hv))
               rw [← hxv,← hyv,hcs] at hrun
               refine fin _ _ (hex _ _ hrun) rfl rfl rfl (by simp) (fun b' hb'=>setRow_other w b b' _ hb') (setRow_heap w b cells _ TT _ hb) ?_
               simp only [List.take_zero,List.nil_append,Nat.zero_add]
               congr 1
               rcases Nat.le_total ys.length n2 with h0 | h0
               · rw [Nat.min_eq_left h0]
               · rw [Nat.min_eq_right h0,List.drop_of_length_le (by omega),List.drop_of_length_le (by omega)]
         · simp at he
       · simp at he
   · simp at he
 · simp at he
theorem isNils_eq {v:V} (h:v.isNils = true):v = .nils:=by cases v <;> first | rfl | simp [V.isNils] at h
theorem ok_gcap {o:Oper} {x:Operand} {T:TypeId} (ho:o.op = .call ⟨.builtin .cap,#[x],#[T]⟩) (hΓ:CfgOk P Γ) (r:RelIn cx tm lk a w Fz pos U) (hg:cx.G = Γ.glob) {e:Eff} (he:evGCap Γ T (Γ.val tm x) some = some e):Ok P cx tm lk o a w e:=by
 have hx:=val_rep r hg x
 unfold evGCap at he
 split at he
 · rename_i E sh by_ hv hT
   simp only [Option.some.injEq] at he
   rw [hv] at hx
   have hx:a.eval x = .slice none 0 0:=hx
   have hu:=((hΓ.ty T _ hT).desc).1
   refine Ok.value r he.symm (u:=.int .i64 0) ?_ (mkInt _ _ _)
   unfold execOp
   simp [ho,resolve,invoke,builtin,Builtin.cap_,run_underlying hu,hx,goInt]
 · simp at he
theorem ok_gsliceN {o:Oper} {T:TypeId} {x:Operand} {lo hi mx:Option Operand} (ho:o.op = .slice T x lo hi mx) (hx:Γ.val tm x = .nils) (hΓ:CfgOk P Γ) (r:RelIn cx tm lk a w Fz pos U) (hg:cx.G = Γ.glob) {e:Eff}
   (he:evGSliceN Γ T (lo.map (Γ.val tm)) (hi.map (Γ.val tm)) (mx.map (Γ.val tm)) some = some e):Ok P cx tm lk o a w e:=by
 have hxv:=val_rep r hg x
 rw [hx] at hxv
 have hxv:a.eval x = .slice none 0 0:=hxv
 unfold evGSliceN at he
 split at he
 · rename_i E et by_ k n hT hlo hhi hmx
   have hmn:mx = none:=by cases mx <;> simp at hmx;rfl
   split at he
   · rename_i hn
     simp only [Option.some.injEq] at he
     obtain ⟨hu,hel⟩:=slice_desc hΓ hT
     have hlo':boundOf (lo.map (Γ.val tm)) 0 = some 0:=by rw [hlo];rfl
     have hhi':boundOf (hi.map (Γ.val tm)) ((0:Nat):Int) = some n:=by rw [hhi];rfl
     have hr:=run_slice_slice (P:=P) hu (sizeOf_run hel w) (ad:=none) (len:=0) (cap:=0) (bound_rep r hg lo hlo') (bound_rep r hg hi hhi') (Int.le_refl 0) (Int.le_of_eq hn.symm) (Int.le_of_eq hn) (Nat.le_refl 0)
     rw [← hxv] at hr
     subst hmn
     refine Ok.value r he.symm (u:=.slice none 0 0) ?_ rfl
     have hn0:Int.toNat n = 0:=congrArg Int.toNat hn
     rw [hn0] at hr
     have hr:(Instr.sliceAt T (a.eval x) (lo.map a.eval) (hi.map a.eval) none).run P w = .ok (.slice none 0 0) w:=hr
     unfold execOp
     simp [ho,hr]
   · simp at he
 · simp at he
theorem ok_gzeros_aux {o:Oper} {T T' E:TypeId} {et:Ty} {kn:IntKind} {x y:Operand} {d:Nat} (ho:o.op = .call ⟨.builtin .append,#[x,y],#[T,T']⟩) (hd:o.dst = some d) (hΓ:CfgOk P Γ) (r:RelIn cx tm lk a w Fz pos U) (hxv:a.eval x = .slice none 0 0)
   (n:Int) (hy:a.eval y = .int .i64 n) (hu:P.underlying T = some (.slice E)) (hu':P.underlying T' = some (.int kn)) (hel:elemOk Γ E et = true) (hn:0 < n∧n ≤ 1073741824) :
   Ok P cx tm lk o a w { val:=.sl et d (nextS lk d),wr:=[(d,nextS lk d,.vec et (List.replicate (Int.toNat n) et.zero))] }:=by
 obtain ⟨hpos,i,z,hi,his,hib,hz,hzc⟩:=elemOk_iff hΓ hel
 have hzl:z.cells.toList.length = et.size:=by rw [hzc];exact (zero_rep (Fz:=Fz) (w:=w) et).size
 have hzs:z.cells.size = et.size:=by simpa using hzl
 have hnn:((Int.toNat n:Nat):Int) = n:=Int.toNat_of_nonneg (by omega)
 have hm:Int.toNat n ≤ 1073741824:=by omega
 have hfit:Int.toNat n * i.bytes ≤ 281474976710656:=by
   calc Int.toNat n * i.bytes ≤ 1073741824 * 65536:=Nat.mul_le_mul hm hib
     _ ≤ 281474976710656:=by omega
 have hr:=Lib.run_append_nil_zeros (P:=P) w T T' o.type E i z .i64 kn hu hu' hi hz (Int.toNat n) (by omega) (by omega) (by omega) hfit
 have hge:=grownCap_ge w (Int.toNat n) 0 E
 have hcm:grownCap w (Int.toNat n) 0 E ≤ maxLen:=grownCap_le_maxLen w _ 0 E (by unfold maxLen;omega)
 rw [hnn,← hxv,← hy] at hr
 have hall:All2 (RepC Fz w et) (List.replicate (Int.toNat n) et.zero) (Builtin.zeroCells z.cells (Int.toNat n)).toList:=by
   have hcells:(Builtin.zeroCells z.cells (Int.toNat n)).toList = (List.replicate (Int.toNat n) et.zcells).flatten:=by
     have:=madeCells_flat z.cells.toList (Int.toNat n)
     have e1:z.cells.toList.toArray = z.cells:=by simp
     rw [e1] at this
     rw [← hzc]
     exact this
   rw [hcells]
   exact All2.replicate (zero_rep et) (Int.toNat n)
 have hlr:(List.replicate (Int.toNat n) et.zero).length = Int.toNat n:=List.length_replicate ..
 have r2:=r.grown d (nextS lk d) (fun s0 o0 h=>nextS_lt h) et (List.replicate (Int.toNat n) et.zero) (Builtin.zeroCells z.cells (Int.toNat n) ++ Builtin.zeroCells z.cells (grownCap w (Int.toNat n) 0 E - Int.toNat n)) E (grownCap w (Int.toNat n) 0 E) (by rw [hlr];exact hge) hcm
   (by
     simp only [Array.size_append,size_zeroCells',hzs,← Nat.add_mul]
     exact Nat.mul_le_mul_right _ (by omega)) hall (by simp only [Array.toList_append];exact List.prefix_append _ _)
 rw [hlr] at r2
 have hrun:(execOp a.eval o).run P w = .ok (.value (.slice (some ⟨w.heap.size,0,none⟩) (Int.toNat n) (grownCap w (Int.toNat n) 0 E))) (w.drew.alloc (.cells (Builtin.zeroCells z.cells (Int.toNat n) ++ Builtin.zeroCells z.cells (grownCap w (Int.toNat n) 0 E - Int.toNat n)) E)):=by
   unfold execOp
   simp [ho,resolve,invoke,builtin,hr]
 refine .inl ⟨_,_,hrun,Fz,updPos pos d (.slice (some ⟨w.heap.size,0,none⟩) (Int.toNat n) (grownCap w (Int.toNat n) 0 E)),U,?_⟩
 have:=r2.value o.dst (v:=.sl et d (nextS lk d)) (u:=.slice (some ⟨w.heap.size,0,none⟩) (Int.toNat n) (grownCap w (Int.toNat n) 0 E)) (sl_new cx Fz _ lk pos d (nextS lk d) et _ _ rfl)
 simpa [updLk] using this
theorem ok_gzeros {o:Oper} {T T':TypeId} {x y:Operand} {d:Nat} (ho:o.op = .call ⟨.builtin .append,#[x,y],#[T,T']⟩) (hd:o.dst = some d) (hx:Γ.val tm x = .nils) (hΓ:CfgOk P Γ) (r:RelIn cx tm lk a w Fz pos U) (hg:cx.G = Γ.glob) {e:Eff}
   (he:evGZeros Γ lk d T T' (Γ.val tm y) some = some e):Ok P cx tm lk o a w e:=by
 have hxv:=val_rep r hg x
 rw [hx] at hxv
 have hxv:a.eval x = .slice none 0 0:=hxv
 have hy:=val_rep r hg y
 unfold evGZeros at he
 split at he
 · rename_i E et by_ kn sh' by' n hT hT' hv
   rw [hv] at hy
   have hy:a.eval y = .int .i64 n:=repInt hy
   split at he
   · rename_i hel
     split at he
     · rename_i hn
       simp only [Option.some.injEq] at he
       subst he
       exact ok_gzeros_aux ho hd hΓ r hxv n hy (slice_desc hΓ hT).1 ((hΓ.ty T' _ hT').desc).1 hel hn
     · simp at he
   · simp at he
 · simp at he
theorem ok_gop {o:Oper} (hgr:gridOp Γ o tm lk = true) (hΓ:CfgOk P Γ) (hP:cx.P = P) (r:RelIn cx tm lk a w Fz pos U) (hg:cx.G = Γ.glob) {e:Eff} (he:evGOp Γ o tm lk some = some e):Ok P cx tm lk o a w e:=by
 unfold evGOp at he
 split at he
 · rename_i x ho
   split at he
   · rename_i d hd;exact ok_gnil ho hd hΓ r hg he
   · simp at he
 · rename_i T n parts ho
   split at he
   · rename_i d hd;exact ok_gbuild ho hd hΓ r hg he
   · simp at he
 · rename_i T n c ho
   split at he
   · rename_i d hd;exact ok_gmake ho hd hΓ r hg he
   · simp at he
 · rename_i T x y ho
   exact ok_gstore ho hΓ r hg he
 · rename_i T x lo hi mx ho
   cases hrow:(Γ.val tm x).isRow with
   | true=>rw [hrow] at he;exact ok_gslice ho hΓ r hg he
   | false =>
     rw [hrow] at he
     cases hnl:(Γ.val tm x).isNils with
     | true=>rw [hnl] at he;exact ok_gsliceN ho (isNils_eq hnl) hΓ r hg he
     | false=>rw [hnl] at he;exact ok_gwhole ho hΓ r hg he
 · rename_i T rr ho
   cases rr with
   | some rr=>unfold gridOp at hgr;rw [ho] at hgr;simp at hgr
   | none =>
     split at he
     · rename_i d hd;exact ok_gmap ho hd r he
     · simp at he
 · rename_i T x i ok ho
   exact ok_glook hΓ ho r hg he
 · rename_i T m i x ho
   exact ok_gput hΓ ho r hg he
 · rename_i c ho
   obtain ⟨callee,⟨args⟩,⟨Ts⟩⟩:=c
   simp only at he
   split at he
   · split at he
     · rename_i x y T T'
       exact ok_gcopy ho hΓ r hg he
     · simp at he
   · split at he
     · rename_i x T
       exact ok_gcap ho hΓ r hg he
     · simp at he
   · split at he
     · rename_i x y T T' d hd
       cases hnl:(Γ.val tm x).isNils with
       | true=>rw [hnl] at he;exact ok_gzeros ho hd (isNils_eq hnl) hΓ r hg he
       | false =>
         rw [hnl] at he
         simp only [cond_false] at he
         cases hpt:(Γ.val tm x).isPart with
         | true=>rw [hpt] at he;exact ok_rappend ho hΓ r hg he
         | false=>rw [hpt] at he;exact ok_gappend ho hd hΓ r hg he
     · simp at he
   · exact ok_gcall ho hΓ hP r hg he
   · simp at he
 · simp at he
end Go.Pv
