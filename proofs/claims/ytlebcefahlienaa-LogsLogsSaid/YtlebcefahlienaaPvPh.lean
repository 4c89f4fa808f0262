/- The purifying layer, part 15h: slices of slices that are written, continued. -/
import Derived.Test.YtlebcefahlienaaPvPg
set_option linter.unusedVariables false
set_option linter.unusedSimpArgs false
namespace Go.Pv
variable {P:Program} {Γ:Cfg} {cx:Cx} {tm:Tm} {lk:Lk} {a:Act} {w:World} {Fz:Nat→Prop} {pos:Nat→Value} {U:Nat→Prop}
theorem grid_at (r:RelIn cx tm lk a w Fz pos U) {e:Ty} {k s:Nat} {ids:Sp} {rows:List (Option (List e.T))} (hlk:lk k = some (s,.grid e ids rows)):∃ hs,pos k = .tuple hs∧RepGrid Fz w e ids rows hs:=r.objs k s _ hlk
theorem row_hdr {e e':Ty} {k s p:Nat} {ids:Sp} {rows:List (Option (List e.T))} {hs:Array Value} {u:Value} (hlk:lk k = some (s,.grid e ids rows)) (hpos:pos k = .tuple hs) (h:RepT (cx.e Fz w lk pos) (.row e' k s p) u) (ha:aliveP rows p) :
   hs[p]? = some u:=by
 obtain ⟨_,s2,ob,h2,_,hval⟩:=h
 have h2:lk k = some (s2,ob):=h2
 rw [hlk] at h2
 simp only [Option.some.injEq,Prod.mk.injEq] at h2
 obtain ⟨rfl,rfl⟩:=h2
 obtain ⟨_,_,h3⟩:=hval rfl
 have hpos:(cx.e Fz w lk pos).pos k = .tuple hs:=hpos
 rw [hpos] at h3
 exact h3 ha
theorem VB_hdr {hs:Array Value} {p:Nat} {g:Value} {b:Nat} (h:hs[p]? = some g) (hb:vblk g = some b):VB (.tuple hs) b:=VB_tuple.2 ⟨p,g,h,hb⟩
theorem VB_vblk {v:Value} {b:Nat} (h:vblk v = some b):VB v b:=by cases v <;> simp_all [VB,vblk]
theorem ok_gstoreIn (hΓ:CfgOk P Γ) (r:RelIn cx tm lk a w Fz pos U) {o:Oper} {T:TypeId} {k s i j:Nat} {et:Ty} {ids:Sp} {rows:List (Option (List et.T))} (hlk:lk k = some (s,.grid et ids rows)) (hsz:okSize Γ T (.d et) = true) {ad u:Value}
   (had:RepT (cx.e Fz w lk pos) (.ref k s [i + 1,j]) ad) {x:V} (hx:RepT (cx.e Fz w lk pos) x u) (hrun:∀ w',(Instr.storeAt T ad u).run P w = .ok () w'→(execOp a.eval o).run P w = .ok .skip w') {e:Eff}
   (he:evGStoreIn k s et ids rows i j x some = some e):Ok P cx tm lk o a w e:=by
 unfold evGStoreIn at he
 split at he
 · rename_i ut y
   split at he
   · rename_i hu
     subst hu
     cases hrow:rowOf rows i with
     | none=>rw [hrow] at he;simp at he
     | some xs =>
       rw [hrow] at he
       simp only [Option.bind_some] at he
       split at he
       · rename_i hj
         simp only [Option.some.injEq] at he
         subst he
         have hri:=rowOf_some hrow
         obtain ⟨hs,hpos,G⟩:=grid_at r hlk
         obtain ⟨_,s2,ob,h2,_,hval⟩:=had
         have h2:lk k = some (s2,ob):=h2
         rw [hlk] at h2
         simp only [Option.some.injEq,Prod.mk.injEq] at h2
         obtain ⟨rfl,rfl⟩:=h2
         have hpos':(cx.e Fz w lk pos).pos k = .tuple hs:=hpos
         obtain ⟨_,hat⟩:=hval rfl (i + 1) j rfl
         obtain ⟨h0,ad0,g1,g2,g3⟩:=hat ⟨xs,hri⟩
         rw [hpos'] at g1
         have g1:hs[i + 1]? = some h0:=g1
         obtain ⟨dc,hdc,hu⟩:=hx
         have huc:u.cells.toList = dc:=by rw [hu];exact pack_cells hdc
         obtain ⟨b,off,cap,cells,T',hv,hb,hle,hset⟩:=(G.row i xs h0 hri g1).setElem hj hdc
         obtain ⟨ti,hT,hk1,hk2⟩:=okSize_iff hsz
         rw [hv] at g2
         simp only [vaddr,Option.some.injEq] at g2
         subst g2
         have hds:dc.length = ut.size:=hdc.size
         have husz:u.cells.size = ut.size:=by rw [← hds,← huc];simp
         have hst:=run_store_at (P:=P) (T:=T) (b:=b) (o:=off + j * ut.size) (v:=u) hb (by rw [size_run hΓ hT,hk1,husz];rfl) (by rw [husz];rw [hds] at hle;exact hle) (by rw [huc];exact hdc.one)
         rw [huc] at hst
         have r2:=r.store (ob':=.grid ut ids (rows.set i (some (xs.set j y)))) hlk ⟨rfl,fun p hp=>by
             cases p with
             | zero=>trivial
             | succ p =>
               obtain ⟨zs,hz⟩:=hp
               by_cases hip:i = p
               · subst hip;exact ⟨xs,hri⟩
               · rw [List.getElem?_set_ne hip] at hz;exact ⟨zs,hz⟩⟩ (new:=(seg cells.toList (off + j * ut.size) dc).toArray) (by rw [hpos];exact VB_hdr g1 (by rw [hv];rfl)) hb
           (fun hle2=>⟨hs,hpos ▸ rfl,by
             have hf:=hle2.fut
             exact G.setRow hri g1 (by rw [hv];rfl) hf (hset _ _ hf (setRow_heap w b cells _ T' _ hb))⟩)
         refine .inr (.inl ⟨_,hrun _ (by rw [g3];simpa using hst),Fz,updPos pos k (pos k),U,?_⟩)
         have:=r2.value o.dst (v:=.junk) (u:=undef) trivial
         simpa [updLk] using this
       · simp at he
   · simp at he
 · simp at he
theorem ok_gstoreOut (hΓ:CfgOk P Γ) (r:RelIn cx tm lk a w Fz pos U) {o:Oper} {T:TypeId} {k s j:Nat} {et:Ty} {ids:List Nat} {rows:List (Option (List et.T))} (hlk:lk k = some (s,.grid et (.ids ids) rows)) (hsz:okSize Γ T (.d (.lst et)) = true) {ad u:Value}
   (had:RepT (cx.e Fz w lk pos) (.ref k s [0,j]) ad) {x:V} (hx:RepT (cx.e Fz w lk pos) x u) (hrun:∀ w',(Instr.storeAt T ad u).run P w = .ok () w'→(execOp a.eval o).run P w = .ok .skip w') {e:Eff}
   (he:evGStoreOut lk k s et ids rows j x some = some e):Ok P cx tm lk o a w e:=by
 obtain ⟨hs,hpos,G⟩:=grid_at r hlk
 obtain ⟨ti,hT,hk1,hk2⟩:=okSize_iff hsz
 obtain ⟨_,s2,ob,h2,_,hval⟩:=had
 have h2:lk k = some (s2,ob):=h2
 rw [hlk] at h2
 simp only [Option.some.injEq,Prod.mk.injEq] at h2
 obtain ⟨rfl,rfl⟩:=h2
 have hpos':(cx.e Fz w lk pos).pos k = .tuple hs:=hpos
 obtain ⟨_,hat⟩:=hval rfl 0 j rfl
 obtain ⟨h0,ad0,g1,g2,g3⟩:=hat trivial
 rw [hpos'] at g1
 have g1:hs[0]? = some h0:=g1
 have hold:∀ s0 o0,lk k = some (s0,o0)→s0 = s∧o0 = .grid et (.ids ids) rows:=by
   intro s0 o0 h
   rw [hlk] at h
   simp only [Option.some.injEq,Prod.mk.injEq] at h
   exact ⟨h.1.symm,h.2.symm⟩
 -- the cell in the outer row
 have main:j < ids.length→(u.cells = #[u]∧u.oneCell' = true)→∃ b off cap cells T',h0 = .slice (some ⟨b,off,none⟩) ids.length cap∧w.heap[b]? = some (.cells cells T' (0,0))∧ids.length ≤ cap∧cap ≤ maxLen∧off + cap ≤ cells.size ∧
     (∀ j,j < ids.length→∃ h,cells[off + j]? = some h∧h.oneCell' = true)∧(∀ (j i:Nat) (xs:List et.T) (h:Value),ids[j]? = some i→rows[i]? = some (some xs)→hs[i + 1]? = some h→cells[off + j]? = some h) ∧
     (execOp a.eval o).run P w = .ok .skip (w.setRow b (seg cells.toList (off + j) [u]).toArray):=by
   intro hj ⟨hc,hone⟩
   rcases G.out h0 g1 with ⟨_,hids⟩ | ⟨b,off,cap,cells,T',hx,hb,h1,h2,h3,h4,h5⟩
   · subst hids;simp at hj
   · refine ⟨b,off,cap,cells,T',hx,hb,h1,h2,h3,h4,h5,hrun _ ?_⟩
     rw [hx] at g2
     simp only [vaddr,Option.some.injEq] at g2
     subst g2
     have hst:=run_store_at (P:=P) (T:=T) (b:=b) (o:=off + j) (v:=u) hb (by rw [size_run hΓ hT,hk1,hc];rfl) (by rw [hc];simp;omega) (by rw [hc];simpa using hone)
     rw [hc] at hst
     rw [g3]
     simpa using hst
 unfold evGStoreOut at he
 split at he
 · rename_i e' k' s' i
   split at he
   · rename_i hc
     obtain ⟨rfl,rfl,rfl⟩:=hc
     cases hrow:rowOf rows i with
     | none=>rw [hrow] at he;simp at he
     | some xs =>
       rw [hrow] at he
       simp only [Option.bind_some] at he
       split at he
       · rename_i hj
         simp only [Option.some.injEq] at he
         subst he
         have hri:=rowOf_some hrow
         have hgi:hs[i + 1]? = some u:=row_hdr hlk hpos hx ⟨xs,hri⟩
         have hone:=(G.row i xs u hri hgi).one
         have hcell:u.cells = #[u]:=by
           rcases G.row i xs u hri hgi with ⟨h,_⟩ | ⟨_,_,_,_,_,h,_⟩ <;> rw [h] <;> rfl
         obtain ⟨b,off,cap,cells,T',hh,hb,h1,h2,h3,h4,h5,hex⟩:=main hj ⟨hcell,hone⟩
         have r2:=r.store (ob':=.grid e' (.ids (ids.set j i)) rows) hlk ⟨rfl,fun p hp=>hp⟩ (new:=(seg cells.toList (off + j) [u]).toArray) (by rw [hpos];exact VB_hdr g1 (by rw [hh];rfl)) hb
           (fun hle2=>⟨hs,hpos ▸ rfl,G.setId g1 hh hb h1 h2 h3 h4 h5 hj (List.getElem?_eq_some_iff.1 hri).1 hgi hone hle2.fut⟩)
         refine .inr (.inl ⟨_,hex,Fz,updPos pos k' (pos k'),U,?_⟩)
         have:=r2.value o.dst (v:=.junk) (u:=undef) trivial
         simpa [updLk] using this
       · simp at he
   · simp at he
 · split at he
   · rename_i q hq
     split at he
     · rename_i hj
       simp only [Option.some.injEq] at he
       subst he
       have hrv:RepVec Fz w et q.1 u∧∀ (p:Nat) g b,hs[p]? = some g→vblk g = some b→vblk u = some b→False:=by
         rcases asRow_iff hq hx with ⟨h1,h2⟩ | ⟨k2,s2,hkd,hlk2,hw,hu⟩
         · rw [h1,h2]
           exact ⟨.inl ⟨rfl,rfl⟩,fun p g b _ _ h=>by simp [vblk] at h⟩
         · rw [hu]
           exact ⟨r.objs k2 s2 _ hlk2,fun p g b h3 h4 h5=>hkd (r.inj k2 s2 _ k s _ b hlk2 hlk (VB_vblk h5) (by rw [hpos];exact VB_hdr h3 h4))⟩
       obtain ⟨hrv,hne⟩:=hrv
       have hone:=hrv.one
       have hcell:u.cells = #[u]:=by
         rcases hrv with ⟨h,_⟩ | ⟨_,_,_,_,_,h,_⟩ <;> rw [h] <;> rfl
       obtain ⟨b,off,cap,cells,T',hh,hb,h1,h2,h3,h4,h5,hex⟩:=main hj ⟨hcell,hone⟩
       have G2:=G.push hrv hne
       have hsz:=G.size
       have h5':∀ (j i:Nat) (xs:List et.T) (h:Value),ids[j]? = some i→(rows ++ [some q.1])[i]? = some (some xs)→(hs.push u)[i + 1]? = some h→cells[off + j]? = some h:=by
         intro j i xs h k1 k2 k3
         have hi:i < rows.length:=G.inb i (List.mem_of_getElem? k1)
         rw [List.getElem?_append_left hi] at k2
         rw [Array.getElem?_push,if_neg (by omega)] at k3
         exact h5 j i xs h k1 k2 k3
       have g1':(hs.push u)[0]? = some h0:=by rw [Array.getElem?_push,if_neg (by omega)];exact g1
       have hlast:(hs.push u)[rows.length + 1]? = some u:=by rw [← hsz];simp
       have hext:Ext (.grid et (.ids ids) rows) (pos k) (.grid et (.ids (ids.set j rows.length)) (rows ++ [some q.1])) (.tuple (hs.push u)):=by
         rw [hpos]
         refine ⟨rfl,fun p hp=>?_⟩
         have hp:(hs[p]?).isSome = true:=hp
         have hpl:p < hs.size:=by
           by_cases h:p < hs.size
           · exact h
           · rw [Array.getElem?_eq_none (by omega)] at hp;simp at hp
         have heq:(hs.push u)[p]? = hs[p]?:=by rw [Array.getElem?_push,if_neg (by omega)]
         refine ⟨by show ((hs.push u)[p]?).isSome = true;rw [heq];exact hp,fun ha=>⟨?_,heq⟩⟩
         cases p with
         | zero=>trivial
         | succ p =>
           obtain ⟨zs,hz⟩:=ha
           rw [List.getElem?_append_left (by omega)] at hz
           exact ⟨zs,hz⟩
       have hrep:∀ lk' pos',Le (cx.e Fz w lk pos) (cx.e Fz (w.setRow b (seg cells.toList (off + j) [u]).toArray) lk' pos')→RepO (cx.e Fz (w.setRow b (seg cells.toList (off + j) [u]).toArray) lk' pos') (.grid et (.ids (ids.set j rows.length)) (rows ++ [some q.1])) (.tuple (hs.push u)) :=
         fun lk' pos' hle=>⟨_,rfl,G2.setId g1' hh hb h1 h2 h3 h4 h5' hj (by simp) hlast hone hle.fut⟩
       have hblk:∀ b',b' < w.heap.size→(∀ s0 o0,lk k = some (s0,o0)→¬ VB (pos k) b')→(w.setRow b (seg cells.toList (off + j) [u]).toArray).heap[b']? = w.heap[b']?:=by
         intro b' _ hn
         refine setRow_other w b b' _ fun he=>hn s _ hlk ?_
         rw [hpos,he]
         exact VB_hdr g1 (by rw [hh];rfl)
       have hvb:∀ b,VB (.tuple (hs.push u)) b→VB (pos k) b ∨ vblk u = some b:=by
         intro b hb
         obtain ⟨p,g,h6,h7⟩:=VB_tuple.1 hb
         rw [Array.getElem?_push] at h6
         split at h6
         · simp only [Option.some.injEq] at h6;subst h6;exact .inr h7
         · rw [hpos];exact .inl (VB_hdr h6 h7)
       have hkey:∃ pos',RelIn cx tm (updLk (q.2 ++ [(k,s,.grid et (.ids (ids.set j rows.length)) (rows ++ [some q.1]))]) lk) a (w.setRow b (seg cells.toList (off + j) [u]).toArray) Fz pos' U∧pos' k = .tuple (hs.push u)∧updLk (q.2 ++ [(k,s,.grid et (.ids (ids.set j rows.length)) (rows ++ [some q.1]))]) lk k = some (s,.grid et (.ids (ids.set j rows.length)) (rows ++ [some q.1])):=by
         rcases asRow_iff hq hx with ⟨h6,h7⟩ | ⟨k2,s2,hkd,hlk2,hw,hu⟩
         · have hq2:q.2 = []:=by rw [h6]
           rw [hq2]
           exact r.adopt k s _ _ (gives_nil lk k) (fun s0 o0 h=>by obtain ⟨rfl,rfl⟩:=hold s0 o0 h;exact ⟨Nat.le_refl _,fun _=>hext⟩) rfl rfl rfl (by simp) (fun b' hb' hn _=>hblk b' hb' hn)
             (fun b hb=>(hvb b hb).elim (fun h=>.inl ⟨s,_,hlk,h⟩) (fun h=>by rw [h7] at h;simp [vblk] at h)) hrep (h0:=by intro _;rw [hlk];simp)
         · rw [hw]
           exact r.adopt k s _ _ (gives_one hlk2 hkd) (fun s0 o0 h=>by obtain ⟨rfl,rfl⟩:=hold s0 o0 h;exact ⟨Nat.le_refl _,fun _=>hext⟩) rfl rfl rfl (by simp) (fun b' hb' hn _=>hblk b' hb' hn)
             (fun b hb=>(hvb b hb).elim (fun h=>.inl ⟨s,_,hlk,h⟩) (fun h=>.inr (.inl ⟨k2,s2,_,rfl,hlk2,VB_vblk (by rw [← hu];exact h)⟩))) hrep (h0:=by intro _;rw [hlk];simp)
       obtain ⟨pos',r2,_,_⟩:=hkey
       exact .inr (.inl ⟨_,hex,Fz,pos',U,r2.value o.dst (v:=.junk) (u:=undef) trivial⟩)
     · simp at he
   · simp at he
theorem ok_gstore {o:Oper} {T:TypeId} {x y:Operand} (ho:o.op = .store T x y) (hΓ:CfgOk P Γ) (r:RelIn cx tm lk a w Fz pos U) (hg:cx.G = Γ.glob) {e:Eff}
   (he:evGStore Γ lk T (Γ.val tm x) (Γ.val tm y) some = some e):Ok P cx tm lk o a w e:=by
 have hv:=val_rep r hg x
 have hy:=val_rep r hg y
 have hrun:∀ w',(Instr.storeAt T (a.eval x) (a.eval y)).run P w = .ok () w'→(execOp a.eval o).run P w = .ok .skip w':=by
   intro w' hu;unfold execOp;simp [ho,hu]
 unfold evGStore at he
 split at he
 · rename_i k s p j hx
   rw [hx] at hv
   split at he
   · rename_i s' et ids rows hlk
     split at he
     · rename_i hs
       subst hs
       split at he
       · cases ids with | keys kk es=>simp at he | ids ids =>
         simp only at he
         split at he
         · rename_i hsz
           exact ok_gstoreOut hΓ r hlk hsz hv hy hrun he
         · simp at he
       · split at he
         · rename_i hsz
           exact ok_gstoreIn hΓ r hlk hsz hv (coll_rep hy) hrun he
         · simp at he
     · simp at he
   · simp at he
 · simp at he
theorem ok_gslice {o:Oper} {T:TypeId} {x:Operand} {lo hi mx:Option Operand} (ho:o.op = .slice T x lo hi mx) (hΓ:CfgOk P Γ) (r:RelIn cx tm lk a w Fz pos U) (hg:cx.G = Γ.glob) {e:Eff}
   (he:evGSlice Γ lk T (Γ.val tm x) (lo.map (Γ.val tm)) (hi.map (Γ.val tm)) (mx.map (Γ.val tm)) some = some e):Ok P cx tm lk o a w e:=by
 have hx:=val_rep r hg x
 unfold evGSlice at he
 split at he
 · rename_i et k s E et' hvx hT hmx
   have hmn:mx = none:=by cases mx <;> simp at hmx;rfl
   subst hmn
   have hrun:∀ u,(Instr.sliceAt T (a.eval x) (lo.map a.eval) (hi.map a.eval) none).run P w = .ok u w→(execOp a.eval o).run P w = .ok (.value u) w:=by
     intro u hu;unfold execOp;simp [ho,hu]
   rw [hvx] at hx
   obtain ⟨by_,hT⟩:=gridTy_iff hT
   split at he
   · rename_i s' et'' ids rows hlk
     split at he
     · rename_i heq
       obtain ⟨rfl,rfl,rfl⟩:=heq
       split at he
       · rename_i l h hlo hhi
         split at he
         · rename_i hb
           obtain ⟨h0,h1,h2⟩:=hb
           simp only [Option.some.injEq] at he
           subst he
           obtain ⟨hu,hel⟩:=slice_desc hΓ hT
           obtain ⟨hs,hpos,G⟩:=grid_at r hlk
           have hh0:=row_hdr hlk hpos hx trivial
           have hns:∀ s0 o0,lk k = some (s0,o0)→s0 < s + 1:=by
             intro s0 o0 h;rw [hlk] at h;simp only [Option.some.injEq,Prod.mk.injEq] at h;omega
           have hsz:=G.size
           -- the new header
           obtain ⟨hd,hrunh,hids,hblk⟩:∃ hd,(Instr.sliceAt T (a.eval x) (lo.map a.eval) (hi.map a.eval) none).run P w = .ok hd w∧RepIds w hd ((ids.take h.toNat).drop l.toNat) rows (hs.set! 0 hd)∧(∀ b,vblk hd = some b→vblk (a.eval x) = some b):=by
             have hgs:∀ (hd:Value) (i:Nat),(hs.set! 0 hd)[i + 1]? = hs[i + 1]?:=by
               intro hd i
               simp [Array.set!_eq_setIfInBounds,Array.getElem?_setIfInBounds]
             rcases G.out _ hh0 with ⟨hv,hids⟩ | ⟨b,off,cap,cells,T',hv,hbk,hc1,hc2,hc3,hc4,hc5⟩
             · subst hids
               have hr:=run_slice_slice (P:=P) hu (sizeOf_run hel w) (ad:=none) (cap:=0) (bound_rep r hg lo hlo) (bound_rep r hg hi hhi) h0 h1 h2 (Nat.le_refl _)
               have hl0:l.toNat = 0:=by simp at h2;omega
               have hh0:h.toNat = 0:=by simp at h2;omega
               refine ⟨.slice none 0 0,?_,.inl ⟨rfl,by simp⟩,fun b hb=>by simp [vblk] at hb⟩
               rw [hv]
               have hr':=hr
               simp only [List.length_nil] at hr'
               rw [hr']
               simp [hl0,hh0]
             · have hr:=run_slice_slice (P:=P) hu (sizeOf_run hel w) (ad:=some ⟨b,off,none⟩) (bound_rep r hg lo hlo) (bound_rep r hg hi hhi) h0 h1 h2 hc1
               rw [← hv] at hr
               have hll:((ids.take h.toNat).drop l.toNat).length = h.toNat - l.toNat:=by simp;omega
               have hget:∀ j i,((ids.take h.toNat).drop l.toNat)[j]? = some i→ids[l.toNat + j]? = some i:=by
                 intro j i hj
                 rw [List.getElem?_drop] at hj
                 rw [List.getElem?_take] at hj
                 split at hj
                 · exact hj
                 · cases hj
               by_cases hcl:cap = l.toNat
               · rw [if_pos hcl] at hr
                 have hz:h.toNat - l.toNat = 0:=by omega
                 refine ⟨_,hr,.inr ⟨b,off,cap - l.toNat,cells,T',by rw [hll],hbk,by rw [hll];omega,by omega,by omega,fun j hj=>by rw [hll] at hj;omega,fun j i xs g k1 _ _=>?_⟩,fun b' hb'=>by rw [hv];exact hb'⟩
                 have:=(List.getElem?_eq_some_iff.1 k1).1
                 rw [hll] at this;omega
               · rw [if_neg hcl] at hr
                 refine ⟨_,hr,.inr ⟨b,off + l.toNat,cap - l.toNat,cells,T',by rw [hll];simp [add_addr,Ty.size],hbk,by rw [hll];omega,by omega,by omega,fun j hj=>?_,fun j i xs g k1 k2 k3=>?_⟩,fun b' hb'=>by rw [hv];simpa [vblk,add_addr] using hb'⟩
                 · rw [hll] at hj
                   obtain ⟨g,q1,q2⟩:=hc4 (l.toNat + j) (by omega)
                   exact ⟨g,by rw [Nat.add_assoc];exact q1,q2⟩
                 · rw [hgs] at k3
                   rw [Nat.add_assoc]
                   exact hc5 (l.toNat + j) i xs g (hget j i k1) k2 k3
           have h00:(hs.set! 0 hd)[0]? = some hd:=by rw [Array.set!_eq_setIfInBounds,Array.getElem?_setIfInBounds,if_pos rfl,if_pos (by omega)]
           have hss:∀ (p:Nat),p ≠ 0→(hs.set! 0 hd)[p]? = hs[p]?:=by
             intro p hp
             simp only [Array.set!_eq_setIfInBounds,Array.getElem?_setIfInBounds]
             rw [if_neg (by omega)]
           have hG2:∀ Fz',Fut Fz w Fz' w→RepGrid Fz' w et (.ids ((ids.take h.toNat).drop l.toNat)) rows (hs.set! 0 hd):=by
             intro Fz' hf
             refine ⟨by simp [hsz],fun i xs g k1 k2=>?_,fun i g k1 k2=>?_,fun g k1=>?_,fun p q g g' b k1 k2 k3 k4=>?_,fun i hi=>G.inb i (List.mem_of_mem_take (List.mem_of_mem_drop hi))⟩
             · rw [hss _ (by omega)] at k2
               exact (G.row i xs g k1 k2).mono hf fun _ _=>rfl
             · rw [hss _ (by omega)] at k2
               exact G.gone i g k1 k2
             · rw [h00] at k1
               simp only [Option.some.injEq] at k1
               subst k1;exact hids
             · by_cases hp:p = 0
               · by_cases hq:q = 0
                 · omega
                 · subst hp
                   rw [h00] at k1
                   simp only [Option.some.injEq] at k1
                   subst k1
                   rw [hss _ hq] at k2
                   exact G.apart 0 q _ g' b hh0 k2 (hblk b k3) k4
               · by_cases hq:q = 0
                 · subst hq
                   rw [h00] at k2
                   simp only [Option.some.injEq] at k2
                   subst k2
                   rw [hss _ hp] at k1
                   exact G.apart p 0 g _ b k1 hh0 k3 (hblk b k4)
                 · rw [hss _ hp] at k1
                   rw [hss _ hq] at k2
                   exact G.apart p q g g' b k1 k2 k3 k4
           obtain ⟨pos',r2,hp,hl⟩:=r.adopt k (s + 1) (.grid et (.ids ((ids.take h.toNat).drop l.toNat)) rows) (.tuple (hs.set! 0 hd)) (gives_nil lk k) (w':=w) (fun s0 o0 h=>⟨Nat.le_of_lt (hns s0 o0 h),fun e=>by have:=hns s0 o0 h;omega⟩) rfl rfl rfl (Nat.le_refl _) (fun _ _ _ _=>rfl)
             (fun b hb=>by
               obtain ⟨p,g,k1,k2⟩:=VB_tuple.1 hb
               refine .inl ⟨s,_,hlk,?_⟩
               rw [hpos]
               by_cases hp:p = 0
               · subst hp
                 rw [h00] at k1
                 simp only [Option.some.injEq] at k1
                 subst k1
                 exact VB_hdr hh0 (hblk b k2)
               · rw [hss _ hp] at k1
                 exact VB_hdr k1 k2) (fun lk' pos' hle=>⟨_,rfl,hG2 _ hle.fut⟩)
           exact .inl ⟨hd,w,hrun _ hrunh,Fz,pos',U,r2.value o.dst (row_val hl hp (RepIds.one hids) h00)⟩
         · simp at he
       · simp at he
     · simp at he
   · simp at he
 · simp at he
end Go.Pv
