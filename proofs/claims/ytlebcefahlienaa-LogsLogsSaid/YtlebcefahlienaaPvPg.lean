/- The purifying layer, part 15g: slices of slices that are written. -/
import Derived.Test.YtlebcefahlienaaPvEt
import Derived.Test.YtlebcefahlienaaPvOx
set_option linter.unusedVariables false
set_option linter.unusedSimpArgs false
namespace Go.Pv
variable {P:Program} {Γ:Cfg} {cx:Cx} {tm:Tm} {lk:Lk} {a:Act} {w:World} {Fz:Nat→Prop} {pos:Nat→Value} {U:Nat→Prop}
theorem gridTy_iff {T E:TypeId} {e:Ty} (h:gridTy Γ T = some (E,e)):∃ b,Γ.ty T = some ⟨.slice E,.d (.lst (.lst e)),b⟩:=by
 unfold gridTy at h
 split at h
 · rename_i E' e' b hT
   simp only [Option.some.injEq,Prod.mk.injEq] at h
   obtain ⟨rfl,rfl⟩:=h
   exact ⟨b,hT⟩
 · simp at h
theorem asRow_iff {d:Nat} {e:Ty} {v:V} {u:Value} {q:List e.T×List (Nat×Nat×Obj)} (h:asRow lk d e v = some q) (hv:RepT (cx.e Fz w lk pos) v u) :
   (q = ([],[])∧u = .slice none 0 0) ∨ ∃ k s,k ≠ d∧lk k = some (s,.vec e q.1)∧q.2 = [(k,s + 1,.gone)]∧u = pos k:=by
 unfold asRow at h
 split at h
 · simp only [Option.some.injEq] at h;subst h;exact .inl ⟨rfl,hv⟩
 · rename_i e' k s
   split at h
   · rename_i s' e'' xs hlk
     cases hc:(decide (s = s') && decide (e' = e'') && !Nat.beq k d) with
     | false=>rw [hc] at h;simp at h
     | true =>
       rw [hc] at h
       simp only [cond_true] at h
       simp only [Bool.and_eq_true,decide_eq_true_eq,Bool.not_eq_true'] at hc
       obtain ⟨⟨rfl,rfl⟩,hkd⟩:=hc
       split at h
       · rename_i he
         subst he
         simp only [Option.some.injEq] at h
         subst h
         refine .inr ⟨k,s,(fun hk=>by subst hk;rw [Nat.beq_refl] at hkd;cases hkd),hlk,rfl,?_⟩
         obtain ⟨_,s2,ob,h2,_,hval⟩:=hv
         have h2:lk k = some (s2,ob):=h2
         rw [hlk] at h2
         simp only [Option.some.injEq,Prod.mk.injEq] at h2
         obtain ⟨rfl,rfl⟩:=h2
         exact (hval rfl).2
       · simp at h
   · simp at h
 · simp at h
def Gives (lk:Lk) (d:Nat) (wr:List (Nat×Nat×Obj)) (K:Nat→Prop):Prop :=
 (∀ x,K x→x ≠ d∧∃ s o,lk x = some (s,o)∧updLk wr lk x = some (s + 1,.gone))∧∀ x,¬ K x→updLk wr lk x = lk x
theorem gives_nil (lk:Lk) (d:Nat):Gives lk d [] fun _=>False:=⟨fun _ h=>h.elim,fun _ _=>rfl⟩
theorem gives_one {d k s:Nat} {o:Obj} (h:lk k = some (s,o)) (hk:k ≠ d):Gives lk d [(k,s + 1,.gone)] fun x=>x = k:=by
 refine ⟨fun x hx=>?_,fun x hx=>?_⟩
 · subst hx
   exact ⟨hk,s,o,h,by simp [updLk,updLk1]⟩
 · simp [updLk,updLk1,hx]
theorem RelIn.adopt (r:RelIn cx tm lk a w Fz pos U) (d sd:Nat) (od:Obj) (vd:Value) {wr:List (Nat×Nat×Obj)} {K:Nat→Prop} (hwr:Gives lk d wr K) {w':World}
   (hs:∀ s0 o0,lk d = some (s0,o0)→s0 ≤ sd∧(s0 = sd→Ext o0 (pos d) od vd))
   (hos:w'.os = w.os) (htape:w'.tape = w.tape) (hout:w'.output = w.output) (hsize:w.heap.size ≤ w'.heap.size)
   (hblk:∀ b,b < w.heap.size→(∀ s0 o0,lk d = some (s0,o0)→¬ VB (pos d) b)→(∀ k s o,K k→lk k = some (s,o)→¬ VB (pos k) b)→w'.heap[b]? = w.heap[b]?)
   (hnew:∀ b,VB vd b→(∃ s0 o0,lk d = some (s0,o0)∧VB (pos d) b) ∨ (∃ k s o,K k∧lk k = some (s,o)∧VB (pos k) b) ∨ w.heap.size ≤ b)
   (hrep:∀ lk' pos',Le (cx.e Fz w lk pos) (cx.e Fz w' lk' pos')→RepO (cx.e Fz w' lk' pos') od vd)
   (hgh:∀ t run x,od ≠ .gh t run x:=by intro _ _ _ h;cases h) (h0:sd = 0→lk d ≠ none:=by first | (intro h;omega) | (intro _;simp_all)) :
   ∃ pos',RelIn cx tm (updLk (wr ++ [(d,sd,od)]) lk) a w' Fz pos' U∧pos' d = vd∧updLk (wr ++ [(d,sd,od)]) lk d = some (sd,od):=by
 classical
 have hlk:∀ x,updLk (wr ++ [(d,sd,od)]) lk x = if x = d then some (sd,od) else updLk wr lk x:=by
   intro x;rw [updLk_append];simp only [updLk,updLk1]
 have hd:updLk (wr ++ [(d,sd,od)]) lk d = some (sd,od):=by rw [hlk,if_pos rfl]
 have hK:∀ x,K x→x ≠ d∧∃ s o,lk x = some (s,o)∧updLk (wr ++ [(d,sd,od)]) lk x = some (s + 1,.gone):=by
   intro x hx
   obtain ⟨h1,s,o,h2,h3⟩:=hwr.1 x hx
   exact ⟨h1,s,o,h2,by rw [hlk,if_neg h1];exact h3⟩
 have hn:∀ x,x ≠ d→¬ K x→updLk (wr ++ [(d,sd,od)]) lk x = lk x:=by
   intro x h1 h2
   rw [hlk,if_neg h1];exact hwr.2 x h2
 refine ⟨fun x=>if x = d then vd else if K x then undef else pos x,?_,by simp,hd⟩
 have hpd:(fun x=>if x = d then vd else if K x then undef else pos x) d = vd:=by simp
 have hpK:∀ x,K x→(fun x=>if x = d then vd else if K x then undef else pos x) x = undef:=by
   intro x hx
   simp [(hK x hx).1,hx]
 have hpn:∀ x,x ≠ d→¬ K x→(fun x=>if x = d then vd else if K x then undef else pos x) x = pos x:=by
   intro x h1 h2
   simp [h1,h2]
 generalize (fun x=>if x = d then vd else if K x then undef else pos x) = pos' at hpd hpK hpn
 generalize updLk (wr ++ [(d,sd,od)]) lk = lk' at hd hK hn hlk
 clear hlk
 refine r.turn (fun x=>x = d ∨ K x) (fun x hx=>⟨hn x (fun h=>hx (.inl h)) (fun h=>hx (.inr h)),hpn x (fun h=>hx (.inl h)) (fun h=>hx (.inr h))⟩) ?_ hos htape hout hsize ?_ ?_ ?_ ?_ ?_ ?_
 · rintro x s o hx h
   by_cases hxd:x = d
   · subst hxd
     obtain ⟨h1,h2⟩:=hs s o h
     exact ⟨sd,od,hd,h1,fun e=>by rw [hpd];exact h2 e⟩
   · have hx:=hx.resolve_left hxd
     obtain ⟨_,s1,o1,h1,h2⟩:=hK x hx
     rw [h] at h1
     simp only [Option.some.injEq,Prod.mk.injEq] at h1
     obtain ⟨rfl,rfl⟩:=h1
     exact ⟨s + 1,.gone,h2,by omega,fun e=>by omega⟩
 · intro b hb h
   exact hblk b hb (fun s0 o0 h1=>h d s0 o0 (.inl rfl) h1) (fun k s o h1 h2=>h k s o (.inr h1) h2)
 · intro x s o b hx h hb
   by_cases hxd:x = d
   · subst hxd
     rw [hpd] at hb
     rcases hnew b hb with ⟨s0,o0,h1,h2⟩ | ⟨k,s0,o0,h1,h2,h3⟩ | h
     · exact .inl ⟨x,s0,o0,.inl rfl,h1,h2⟩
     · exact .inl ⟨k,s0,o0,.inr h1,h2,h3⟩
     · exact .inr h
   · have hx:=hx.resolve_left hxd
     rw [hpK x hx] at hb
     exact absurd hb (NB_undef b)
 · intro x s o y s' o' b hx hy h h' hb hb'
   by_cases hxd:x = d
   · by_cases hyd:y = d
     · omega
     · rw [hpK y (hy.resolve_left hyd)] at hb'
       exact absurd hb' (NB_undef b)
   · rw [hpK x (hx.resolve_left hxd)] at hb
     exact absurd hb (NB_undef b)
 · intro hle x s o hx h
   by_cases hxd:x = d
   · subst hxd
     rw [hd] at h
     simp only [Option.some.injEq,Prod.mk.injEq] at h
     obtain ⟨rfl,rfl⟩:=h
     rw [hpd]
     exact hrep _ _ hle
   · have hx:=hx.resolve_left hxd
     obtain ⟨_,s1,o1,h1,h2⟩:=hK x hx
     rw [h2] at h
     simp only [Option.some.injEq,Prod.mk.injEq] at h
     obtain ⟨rfl,rfl⟩:=h
     rw [hpK x hx]
     exact NB_undef
 · intro x s t run y hx h
   by_cases hxd:x = d
   · subst hxd
     rw [hd] at h
     simp only [Option.some.injEq,Prod.mk.injEq] at h
     exact hgh t run y h.2
   · obtain ⟨_,s1,o1,h1,h2⟩:=hK x (hx.resolve_left hxd)
     rw [h2] at h
     simp at h
 · intro x o hx h
   by_cases hxd:x = d
   · subst hxd
     rw [hd] at h
     simp only [Option.some.injEq,Prod.mk.injEq] at h
     exact h0 h.1
   · obtain ⟨_,s1,o1,h1,h2⟩:=hK x (hx.resolve_left hxd)
     rw [h2] at h
     simp at h
theorem row_val {d s p:Nat} {e:Ty} {ids:Sp} {rows:List (Option (List e.T))} {hs:Array Value} {v:Value} (hlk:lk d = some (s,.grid e ids rows)) (hpos:pos d = .tuple hs) (hone:v.oneCell' = true) (hp:hs[p]? = some v) :
   RepT (cx.e Fz w lk pos) (.row e d s p) v:=by
 refine ⟨hone,s,.grid e ids rows,hlk,Nat.le_refl _,fun _=>?_⟩
 have hpos:(cx.e Fz w lk pos).pos d = .tuple hs:=hpos
 rw [hpos]
 exact ⟨rfl,by show (hs[p]?).isSome = true;rw [hp];rfl,fun _=>hp⟩
theorem RepVec.one {e:Ty} {xs:List e.T} {v:Value} (h:RepVec Fz w e xs v):v.oneCell' = true:=by
 rcases h with ⟨rfl,_⟩ | ⟨_,_,_,_,_,rfl,_⟩ <;> rfl
theorem RepIds.one {α:Type} {ids:List Nat} {rows:List (Option α)} {hs:Array Value} {v:Value} (h:RepIds w v ids rows hs):v.oneCell' = true:=by
 rcases h with ⟨rfl,_⟩ | ⟨_,_,_,_,_,rfl,_⟩ <;> rfl
theorem RepGrid.hdr {e:Ty} {ids:Sp} {rows:List (Option (List e.T))} {hs:Array Value} (G:RepGrid Fz w e ids rows hs) {p:Nat} (hp:p ≤ rows.length):∃ h,hs[p]? = some h :=
 ⟨hs[p]'(by have:=G.size;omega),by simp⟩
theorem RepGrid.nil (Fz:Nat→Prop) (w:World) (e:Ty):RepGrid Fz w e (.ids []) [] #[.slice none 0 0]:=by
 refine ⟨rfl,fun i xs h h1 _=>by simp at h1,fun i h h1 _=>by simp at h1,fun h0 h1=>?_,fun p q h h' b h1 h2 h3 h4=>?_,fun i hi=>by simp [Sp.all] at hi⟩
 · simp only [List.getElem?_toArray,List.getElem?_cons_zero,Option.some.injEq] at h1
   subst h1;exact .inl ⟨rfl,rfl⟩
 · have:h = .slice none 0 0:=by
     have hm:=Array.mem_of_getElem? h1
     simpa using hm
   subst this
   simp [vblk] at h3
theorem RepGrid.push {e:Ty} {ids:Sp} {rows:List (Option (List e.T))} {hs:Array Value} (G:RepGrid Fz w e ids rows hs) {h:Value} {xs:List e.T} (hr:RepVec Fz w e xs h)
   (hne:∀ (p:Nat) g b,hs[p]? = some g→vblk g = some b→vblk h = some b→False):RepGrid Fz w e ids (rows ++ [some xs]) (hs.push h):=by
 have hsz:=G.size
 refine ⟨by simp [hsz],fun i ys g h1 h2=>?_,fun i g h1 h2=>?_,fun h0 h1=>?_,fun p q g g' b h1 h2 h3 h4=>?_,fun i hi=>by have:=G.inb i hi;simp;omega⟩
 · rw [Array.getElem?_push] at h2
   split at h2
   · rename_i he
     have hi:i = rows.length:=by omega
     subst hi
     simp only [Option.some.injEq] at h2
     subst h2
     simp at h1
     subst h1;exact hr
   · have hi:i < rows.length:=by
       have:=(List.getElem?_eq_some_iff.1 h1).1
       simp at this;omega
     rw [List.getElem?_append_left hi] at h1
     exact G.row i ys g h1 h2
 · have hi:i < rows.length:=by
     have hl:=(List.getElem?_eq_some_iff.1 h1).1
     simp at hl
     by_cases hi:i = rows.length
     · subst hi;simp at h1
     · omega
   rw [List.getElem?_append_left hi] at h1
   rw [Array.getElem?_push,if_neg (by omega)] at h2
   exact G.gone i g h1 h2
 · rw [Array.getElem?_push,if_neg (by omega)] at h1
   refine (G.out h0 h1).rows fun i hm ys g k2 k3=>?_
   have hi:i < rows.length:=G.inb i hm
   rw [List.getElem?_append_left hi] at k2
   rw [Array.getElem?_push,if_neg (by omega)] at k3
   exact ⟨ys,k2,k3⟩
 · rw [Array.getElem?_push] at h1 h2
   split at h1 <;> split at h2
   · omega
   · simp only [Option.some.injEq] at h1
     subst h1
     exact (hne q g' b h2 h4 h3).elim
   · simp only [Option.some.injEq] at h2
     subst h2
     exact (hne p g b h1 h3 h4).elim
   · exact G.apart p q g g' b h1 h2 h3 h4
theorem seg_one (l:List Value) (o:Nat) (h:Value) (ho:o < l.length):seg l o [h] = l.set o h:=by
 unfold seg
 rw [List.set_eq_take_append_cons_drop,if_pos ho]
 simp
theorem RepGrid.setId {e:Ty} {ids:List Nat} {rows:List (Option (List e.T))} {hs:Array Value} (G:RepGrid Fz w e (.ids ids) rows hs) {b off cap:Nat} {cells:Array Value} {T:TypeId} {h0:Value} (hh0:hs[0]? = some h0)
   (hx:h0 = .slice (some ⟨b,off,none⟩) ids.length cap) (hb:w.heap[b]? = some (.cells cells T (0,0))) (hc1:ids.length ≤ cap) (hc2:cap ≤ maxLen) (hc3:off + cap ≤ cells.size) (hone:∀ j,j < ids.length→∃ h,cells[off + j]? = some h∧h.oneCell' = true)
   (hcell:∀ (j i:Nat) (xs:List e.T) (h:Value),ids[j]? = some i→rows[i]? = some (some xs)→hs[i + 1]? = some h→cells[off + j]? = some h)
   {j i:Nat} (hj:j < ids.length) (hi:i < rows.length) {h:Value} (hh:hs[i + 1]? = some h) (ho:h.oneCell' = true) {Fz':Nat→Prop} (hf:Fut Fz w Fz' (w.setRow b (seg cells.toList (off + j) [h]).toArray)) :
   RepGrid Fz' (w.setRow b (seg cells.toList (off + j) [h]).toArray) e (.ids (ids.set j i)) rows hs:=by
 have hlt:off + j < cells.toList.length:=by simp;omega
 refine ⟨G.size,fun i' xs g h1 h2=>?_,G.gone,fun g0 h1=>?_,G.apart,fun x hx=>?_⟩
 · refine (G.row i' xs g h1 h2).mono hf fun b' hb'=>setRow_other w b b' _ fun he=>?_
   have:=G.apart 0 (i' + 1) h0 g b hh0 h2 (by rw [hx];rfl) (by rw [← he];exact hb')
   omega
 · rw [hh0] at h1
   simp only [Option.some.injEq] at h1
   subst h1
   refine .inr ⟨b,off,cap,_,T,by rw [hx,List.length_set],setRow_heap w b cells _ T _ hb,by simpa using hc1,hc2,?_,?_,?_⟩
   · rw [seg_one _ _ _ hlt];simpa using hc3
   · intro j' hj'
     rw [List.length_set] at hj'
     rw [seg_one _ _ _ hlt]
     by_cases hjj:j = j'
     · subst hjj
       exact ⟨h,by simp only [List.getElem?_toArray];rw [List.getElem?_set_self hlt],ho⟩
     · obtain ⟨g,g1,g2⟩:=hone j' hj'
       exact ⟨g,by simp only [List.getElem?_toArray];rw [List.getElem?_set_ne (by omega)];simpa using g1,g2⟩
   · intro j' i' xs g k1 k2 k3
     rw [seg_one _ _ _ hlt]
     by_cases hjj:j = j'
     · subst hjj
       rw [List.getElem?_set_self hj] at k1
       simp only [Option.some.injEq] at k1
       subst k1
       rw [hh] at k3
       simp only [Option.some.injEq] at k3
       subst k3
       simp only [List.getElem?_toArray]
       rw [List.getElem?_set_self hlt]
     · rw [List.getElem?_set_ne hjj] at k1
       simp only [List.getElem?_toArray]
       rw [List.getElem?_set_ne (by omega)]
       simpa using hcell j' i' xs g k1 k2 k3
 · rcases List.mem_or_eq_of_mem_set hx with hx | hx
   · exact G.inb x hx
   · omega
theorem RepVec.setElem {e:Ty} {xs:List e.T} {v:Value} (h:RepVec Fz w e xs v) {j:Nat} (hj:j < xs.length) {y:e.T} {dc:List Value} (hy:RepC Fz w e y dc) :
   ∃ b off cap cells T,v = .slice (some ⟨b,off,none⟩) xs.length cap∧w.heap[b]? = some (.cells cells T (0,0))∧off + j * e.size + dc.length ≤ cells.size ∧
     ∀ Fz' w',Fut Fz w Fz' w'→w'.heap[b]? = some (.cells (seg cells.toList (off + j * e.size) dc).toArray T (0,0))→RepVec Fz' w' e (xs.set j y) v:=by
 rcases h with ⟨_,hxs⟩ | ⟨b,off,cap,cells,T',hpos,hb,hc1,hc2,hc3,cs,hall,hpre⟩
 · subst hxs;simp at hj
 · have hds:dc.length = e.size:=hy.size
   have hcs:cs.length = xs.length * e.size:=All2.size (fun x cs hx=>RepC.size e x cs hx) _ _ hall
   have hjs:j * e.size + e.size ≤ cs.length:=by
     rw [hcs,← Nat.succ_mul];exact Nat.mul_le_mul_right _ hj
   have hseg:=All2.set (fun x cs hx=>RepC.size e x cs hx) xs cs hall j y dc hj hy
   have e1:cs.take (j * e.size) ++ dc ++ cs.drop (j * e.size + e.size) = seg cs (j * e.size) dc:=by
     unfold seg;rw [hds]
   rw [e1] at hseg
   have hlen:cs.length ≤ cells.toList.length - off:=by
     obtain ⟨tl,ht⟩:=hpre
     have:=congrArg List.length ht
     simp at this
     simp;omega
   have hcl2:off + j * e.size + dc.length ≤ cells.size:=by simp at hlen;omega
   refine ⟨b,off,cap,cells,T',hpos,hb,hcl2,fun Fz' w' hf hw'=>.inr ⟨b,off,cap,_,T',by rw [hpos];simp,hw',by simpa using hc1,hc2,?_,_,All2.mono (fun x cs hx=>hx.mono hf) _ _ hseg,?_⟩⟩
   · rw [List.size_toArray,seg_length _ _ _ (show off + j * e.size + dc.length ≤ cells.toList.length by simpa using hcl2)]
     simpa using hc3
   · simpa using prefix_seg (o:=off) (m:=j * e.size) hpre (by omega) (by simp;omega)
theorem RepGrid.setRow {e:Ty} {ids:Sp} {rows:List (Option (List e.T))} {hs:Array Value} (G:RepGrid Fz w e ids rows hs) {i:Nat} {xs ys:List e.T} (hri:rows[i]? = some (some xs)) {g:Value} (hg:hs[i + 1]? = some g) {b:Nat} {new:Array Value} (hb:vblk g = some b)
   {Fz':Nat→Prop} (hf:Fut Fz w Fz' (w.setRow b new)) (hr:RepVec Fz' (w.setRow b new) e ys g):RepGrid Fz' (w.setRow b new) e ids (rows.set i (some ys)) hs:=by
 have hil:i < rows.length:=(List.getElem?_eq_some_iff.1 hri).1
 have hoth:∀ (p:Nat) g',hs[p]? = some g'→p ≠ i + 1→∀ b',vblk g' = some b'→(w.setRow b new).heap[b']? = w.heap[b']?:=by
   intro p g' h1 hp b' hb'
   refine setRow_other w b b' _ fun he=>hp ?_
   exact G.apart p (i + 1) g' g b h1 hg (by rw [← he];exact hb') hb
 refine ⟨by rw [List.length_set];exact G.size,fun i' zs g' h1 h2=>?_,fun i' g' h1 h2=>?_,fun h0 h1=>?_,G.apart,fun x hx=>by rw [List.length_set];exact G.inb x hx⟩
 · by_cases hi:i = i'
   · subst hi
     rw [List.getElem?_set_self hil] at h1
     simp only [Option.some.injEq] at h1
     subst h1
     rw [hg] at h2
     simp only [Option.some.injEq] at h2
     subst h2
     exact hr
   · rw [List.getElem?_set_ne hi] at h1
     exact (G.row i' zs g' h1 h2).mono hf (hoth _ _ h2 (by omega))
 · by_cases hi:i = i'
   · subst hi
     rw [List.getElem?_set_self hil] at h1
     simp at h1
   · rw [List.getElem?_set_ne hi] at h1
     exact G.gone i' g' h1 h2
 · refine ((G.out h0 h1).mono hf (hoth 0 h0 h1 (by omega))).rows fun i' _ zs g' k2 k3=>?_
   by_cases hi:i = i'
   · subst hi
     exact ⟨xs,hri,k3⟩
   · rw [List.getElem?_set_ne hi] at k2
     exact ⟨zs,k2,k3⟩
theorem ok_gnil {o:Oper} {x:Operand} {d:Nat} (ho:o.op = .assign x) (hd:o.dst = some d) (hΓ:CfgOk P Γ) (r:RelIn cx tm lk a w Fz pos U) (hg:cx.G = Γ.glob) {e:Eff}
   (he:evGNil Γ lk d o.type (Γ.val tm x) some = some e):Ok P cx tm lk o a w e:=by
 have h1:=val_rep r hg x
 unfold evGNil at he
 split at he
 · rename_i E et hT hx
   simp only [Option.some.injEq] at he
   subst he
   rw [hx] at h1
   have h1:a.eval x = .slice none 0 0:=h1
   obtain ⟨pos',r2,hp,hl⟩:=r.adopt d (nextS lk d) (.grid et (.ids []) []) (.tuple #[.slice none 0 0]) (gives_nil lk d) (w':=w) (fun s0 o0 h=>⟨Nat.le_of_lt (nextS_lt h),fun e=>by have:=nextS_lt h;omega⟩) rfl rfl rfl (Nat.le_refl _) (fun _ _ _ _=>rfl)
     (fun b hb => by obtain ⟨p,g,g1,g2⟩:=VB_tuple.1 hb
                     have:=Array.mem_of_getElem? g1
                     simp at this;subst this;simp [vblk] at g2) (fun lk' pos' hle=>⟨_,rfl,RepGrid.nil _ _ _⟩) (h0:=by intro h;have:=nextS_pos (lk:=lk) (k:=d);omega)
   refine .inl ⟨.slice none 0 0,w,?_,Fz,pos',U,r2.value o.dst (row_val (ids:=.ids []) (rows:=[]) (hs:=#[.slice none 0 0]) hl hp rfl rfl)⟩
   unfold execOp
   simp [ho,h1]
 · simp at he
theorem ok_gbuild {o:Oper} {T:TypeId} {n d:Nat} {parts:Array (Nat×Operand)} (ho:o.op = .buildSlice T n parts) (hd:o.dst = some d) (hΓ:CfgOk P Γ) (r:RelIn cx tm lk a w Fz pos U) (hg:cx.G = Γ.glob) {e:Eff}
   (he:evGBuild Γ lk d T n (parts.toList.map fun q=>(q.1,Γ.val tm q.2)) some = some e):Ok P cx tm lk o a w e:=by
 unfold evGBuild at he
 split at he
 · rename_i E et v hT hparts
   obtain ⟨by_,hT⟩:=gridTy_iff hT
   cases hok:(elemZ Γ E (.lst et) && Nat.beq n 1) with
   | false=>rw [hok] at he;simp at he
   | true =>
     rw [hok] at he
     simp only [cond_true] at he
     simp only [Bool.and_eq_true] at hok
     have hn:n = 1:=Nat.eq_of_beq_eq_true hok.2
     subst hn
     split at he
     · rename_i q hq
       simp only [Option.some.injEq] at he
       subst he
       obtain ⟨x,hpx,hvx⟩:∃ x,parts.toList = [(0,x)]∧Γ.val tm x = v:=by
         cases hp:parts.toList with
         | nil=>rw [hp] at hparts;simp at hparts
         | cons y l =>
           rw [hp] at hparts
           cases l with
           | cons _ _=>simp at hparts
           | nil =>
             simp only [List.map_cons,List.map_nil,List.cons.injEq,Prod.mk.injEq,and_true] at hparts
             obtain ⟨y1,y2⟩:=y
             simp only at hparts
             obtain ⟨rfl,h2⟩:=hparts
             exact ⟨y2,rfl,h2⟩
       have hx:=val_rep r hg x
       rw [hvx] at hx
       obtain ⟨hu,hel⟩:=slice_desc hΓ hT
       obtain ⟨hpos0,i,z,hi,his,hz,hzc⟩:=elemZ_iff hΓ hok.1
       have his1:i.size = 1:=by rw [his];rfl
       have hz1:z.cells = #[.slice none 0 0]:=by apply Array.ext';rw [hzc];rfl
       have hvrow:∃ xs,q.1 = xs∧RepVec Fz w et xs (a.eval x)∧(a.eval x).oneCell' = true:=by
         rcases asRow_iff hq hx with ⟨h1,h2⟩ | ⟨k,s,hkd,hlk,hw,hu⟩
         · exact ⟨_,rfl,by rw [h1,h2];exact .inl ⟨rfl,rfl⟩,by rw [h2];rfl⟩
         · have hR:=r.objs k s _ hlk
           rw [hu]
           exact ⟨_,rfl,hR,RepVec.one (Fz:=Fz) (w:=w) hR⟩
       obtain ⟨xs,hxs,hrv,hone⟩:=hvrow
       have hcells:(a.eval x).cells = #[a.eval x]:=by
         rcases hrv with ⟨h,_⟩ | ⟨_,_,_,_,_,h,_⟩ <;> rw [h] <;> rfl
       have hexec:(execOp a.eval o).run P w = .ok (.value (.slice (some ⟨w.heap.size,0,none⟩) 1 1)) (w.alloc (.cells #[a.eval x] E)):=by
         unfold execOp
         have hp2:parts = #[(0,x)]:=by apply Array.ext';exact hpx
         subst hp2
         have hr1:Array.range 1 = #[0]:=rfl
         simp [ho,Instr.buildSlice,run_underlying hu,sizeOf,typeInfo,zeroValue,hi,his1,hz,hz1,newRow,Instr.fill,hcells,hr1]
       have hG:∀ Fz' w',Fut Fz w Fz' w'→w'.heap[w.heap.size]? = some (.cells #[a.eval x] E (0,0))→(∀ b,vblk (a.eval x) = some b→w'.heap[b]? = w.heap[b]?∧b < w.heap.size) →
           RepGrid Fz' w' et (.ids [0]) [some q.1] #[.slice (some ⟨w.heap.size,0,none⟩) 1 1,a.eval x]:=by
         intro Fz' w' hf hb hx'
         have h2:∀ (p:Nat) (g:Value),(#[.slice (some ⟨w.heap.size,0,none⟩) 1 1,a.eval x]:Array Value)[p]? = some g→(p = 0∧g = .slice (some ⟨w.heap.size,0,none⟩) 1 1) ∨ (p = 1∧g = a.eval x):=by
           intro p g h
           match p,h with
           | 0,h=>exact .inl ⟨rfl,by simpa using h.symm⟩
           | 1,h=>exact .inr ⟨rfl,by simpa using h.symm⟩
           | p + 2,h=>simp at h
         refine ⟨rfl,fun i ys g h1 hg'=>?_,fun i g h1 _=>?_,fun h0 h1=>?_,fun p q' g g' b h3 h4 h5 h6=>?_,fun i hi=>by simp [Sp.all] at hi;simp [hi]⟩
         · cases i with
           | zero =>
             simp only [List.getElem?_cons_zero,Option.some.injEq] at h1
             subst h1
             rcases h2 _ _ hg' with ⟨h,_⟩ | ⟨_,rfl⟩
             · omega
             · rw [hxs];exact hrv.mono hf fun b hb'=>(hx' b hb').1
           | succ i=>simp at h1
         · cases i <;> simp at h1
         · simp only [List.getElem?_toArray,List.getElem?_cons_zero,Option.some.injEq] at h1
           subst h1
           refine .inr ⟨w.heap.size,0,1,_,E,rfl,hb,Nat.le_refl _,by decide,by simp,fun j hj=>?_,fun j i' ys g k1 k2 k3=>?_⟩
           · have:j = 0:=by simpa using hj
             subst this
             exact ⟨_,rfl,hone⟩
           · cases j with
             | zero =>
               simp only [List.getElem?_cons_zero,Option.some.injEq] at k1
               subst k1
               rcases h2 _ _ k3 with ⟨h,_⟩ | ⟨_,rfl⟩
               · omega
               · rfl
             | succ j=>simp at k1
         · rcases h2 _ _ h3 with ⟨rfl,rfl⟩ | ⟨rfl,rfl⟩ <;> rcases h2 _ _ h4 with ⟨rfl,rfl⟩ | ⟨rfl,rfl⟩
           · rfl
           · simp only [vblk,Option.some.injEq] at h5
             have:=(hx' b h6).2;omega
           · simp only [vblk,Option.some.injEq] at h6
             have:=(hx' b h5).2;omega
           · rfl
       have hvx:∀ b,vblk (a.eval x) = some b→b < w.heap.size:=fun b hb=>by
         obtain ⟨cells,T,h⟩:=hrv.lt hb
         exact (Array.getElem?_eq_some_iff.1 h).1
       have hkey:∃ pos',RelIn cx tm (updLk (q.2 ++ [(d,nextS lk d,.grid et (.ids [0]) [some q.1])]) lk) a (w.alloc (.cells #[a.eval x] E)) Fz pos' U∧pos' d = .tuple #[.slice (some ⟨w.heap.size,0,none⟩) 1 1,a.eval x]∧updLk (q.2 ++ [(d,nextS lk d,.grid et (.ids [0]) [some q.1])]) lk d = some (nextS lk d,.grid et (.ids [0]) [some q.1]):=by
         have hrep:∀ lk' pos',Le (cx.e Fz w lk pos) (cx.e Fz (w.alloc (.cells #[a.eval x] E)) lk' pos')→RepO (cx.e Fz (w.alloc (.cells #[a.eval x] E)) lk' pos') (.grid et (.ids [0]) [some q.1]) (.tuple #[.slice (some ⟨w.heap.size,0,none⟩) 1 1,a.eval x]) :=
           fun lk' pos' hle=>⟨_,rfl,hG _ _ hle.fut (heap_alloc_at w _) fun b hb=>⟨heap_alloc_old w _ (hvx b hb),hvx b hb⟩⟩
         have hvb:∀ b,VB (.tuple #[.slice (some ⟨w.heap.size,0,none⟩) 1 1,a.eval x]) b→vblk (a.eval x) = some b ∨ w.heap.size ≤ b:=by
           intro b hb
           simp only [VB,List.mem_cons,List.not_mem_nil,or_false] at hb
           obtain ⟨v',rfl | rfl,hb⟩:=hb
           · simp only [vblk,Option.some.injEq] at hb;exact .inr (by omega)
           · exact .inl hb
         rcases asRow_iff hq hx with ⟨h1,h2⟩ | ⟨k,s,hkd,hlk,hw,hu⟩
         · rw [h1] at hrep ⊢
           exact r.adopt d (nextS lk d) _ _ (gives_nil lk d) (fun s0 o0 h=>⟨Nat.le_of_lt (nextS_lt h),fun e=>by have:=nextS_lt h;omega⟩) rfl rfl rfl (by simp) (fun b hb _ _=>heap_alloc_old w _ hb)
             (fun b hb=>(hvb b hb).elim (fun h=>by rw [h2] at h;simp [vblk] at h) (fun h=>.inr (.inr h))) hrep (h0:=by intro h;have:=nextS_pos (lk:=lk) (k:=d);omega)
         · rw [hw]
           exact r.adopt d (nextS lk d) _ _ (gives_one hlk hkd) (fun s0 o0 h=>⟨Nat.le_of_lt (nextS_lt h),fun e=>by have:=nextS_lt h;omega⟩) rfl rfl rfl (by simp) (fun b hb _ _=>heap_alloc_old w _ hb)
             (fun b hb=>(hvb b hb).elim (fun h=>.inr (.inl ⟨k,s,_,rfl,hlk,by rw [hu] at h;cases hp:pos k <;> simp_all [VB,vblk]⟩)) (fun h=>.inr (.inr h))) hrep (h0:=by intro h;have:=nextS_pos (lk:=lk) (k:=d);omega)
       obtain ⟨pos',r2,hp,hl⟩:=hkey
       exact .inl ⟨_,_,hexec,Fz,pos',U,r2.value o.dst (row_val hl hp rfl rfl)⟩
     · simp at he
 · simp at he
end Go.Pv
