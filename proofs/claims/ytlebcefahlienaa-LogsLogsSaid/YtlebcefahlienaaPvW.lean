/- The purifying layer, part 23: what is frozen, and what is forgotten. -/
import Derived.Test.YtlebcefahlienaaPvV
set_option linter.unusedVariables false
set_option linter.unusedSimpArgs false
namespace Go.Pv
variable {P:Program} {Γ:Cfg} {C:Type}
variable {cx:Cx} {tm:Tm} {lk:Lk} {a:Act} {w:World} {Fz:Nat→Prop} {pos:Nat→Value} {U:Nat→Prop}
theorem atom_P {A:E} {v:V} {cells:List Value} (hv:v.atom = true) (h:RepB A v cells):RepP A.P A.G A.Fz A.w v cells:=by
 cases v <;> simp only [V.atom,Bool.false_eq_true] at hv
 case dat t x=>exact h
 case clo a b g=>obtain ⟨u,h1,_,h2⟩:=h;exact ⟨u,h1,h2⟩
 case nilf=>obtain ⟨u,h1,_,h2⟩:=h;exact ⟨u,h1,h2⟩
theorem ref_frozen (r:RelIn cx tm lk a w Fz pos U) {k s:Nat} {p:List Nat} {ob:Obj} (hlk:lk k = some (s,ob)) {u:Value} (h:RepA (cx.e Fz w lk pos) (.ref k s p) u) {c c2:V} (hg:ob.get p = some c) (hc2:∀ cs,RepB (cx.e Fz w lk pos) c.coll cs→RepB (cx.e Fz w lk pos) c2 cs) (hdat:∀ t x,c = .dat t x→c2 = c) (hc:c2.atom = true)
   {B:E} (hfut:Fut Fz w B.Fz B.w) (hP:B.P = cx.P) (hG:B.G = cx.G) (hfz:∀ b,VB (pos k) b→B.Fz b∧B.w.heap[b]? = w.heap[b]?):RepA B (.eptr c2) u:=by
 obtain ⟨_,s',o',hlk2,hle,hval⟩:=h
 have hlk2:lk k = some (s',o'):=hlk2
 rw [hlk] at hlk2
 simp only [Option.some.injEq,Prod.mk.injEq] at hlk2
 obtain ⟨rfl,rfl⟩:=hlk2
 obtain ⟨d,ad,hoff,had,hu⟩:∃ d a,ob.off p = some d∧vaddr (pos k) = some a∧u = .pointer (some ⟨a.block,a.off + d,none⟩):=by
   have hv:=hval rfl
   cases ob <;> first | exact hv | (simp [Obj.get] at hg;done)
 have had:vaddr (pos k) = some ad:=had
 have hR:=r.objs k s ob hlk
 cases ob with
 | box sh c0 =>
   obtain ⟨hfit,b,cells,T',hpos,hb,hB⟩:=hR
   have hget:c0.get p = some c:=hg
   cases hat:K.at p sh with
   | none=>simp [Obj.off,hat] at hoff
   | some q =>
     obtain ⟨o1,k'⟩:=q
     have hofd:o1 = d:=by simpa [Obj.off,hat] using hoff
     subst hofd
     obtain ⟨g1,g2,g3⟩:=vget_rep hfit hat hget hB
     rw [hpos] at had
     simp only [vaddr,Option.some.injEq] at had
     subst had
     have hfb:=hfz b (by rw [hpos];rfl)
     have hp1:=atom_P hc (hc2 _ (collB_rep g1))
     refine ⟨b,0 + o1,cells,T',(0,0),(cells.toList.drop o1).take k'.size,hu,hfb.1,hfb.2.trans hb,?_,?_⟩
     · rw [hP,hG];exact RepP.mono hfut _ _ hp1
     · simp only [Nat.zero_add];exact List.take_prefix _ _
 | vec e xs =>
   cases p with
   | nil=>simp [Obj.get] at hg
   | cons i p =>
     simp only [Obj.get] at hg
     split at hg
     · rename_i hi
       split at hg
       · rename_i q2 hget
         simp only [Option.some.injEq] at hg
         subst hg
         rw [hdat _ _ rfl]
         cases hat:Ty.at p e with
         | none=>simp [Obj.off,hat] at hoff
         | some q =>
           obtain ⟨o1,t⟩:=q
           have hofd:d = i * e.size + o1:=by simpa [Obj.off,hat] using hoff.symm
           subst hofd
           rcases hR with ⟨_,hxs⟩ | ⟨b,off,cap,cells,T',hpos,hb,hc1,hc2,hc3,cs,hall,hpre⟩
           · subst hxs;simp at hi
           · obtain ⟨k1,k2⟩:=getD_rep hall hi
             obtain ⟨m1,m2,m3⟩:=get_rep p e _ q2 o1 t hget hat _ k1
             rw [hpos] at had
             simp only [vaddr,Option.some.injEq] at had
             subst had
             have hl:((cs.drop (i * e.size)).take e.size).length = e.size:=by simp;omega
             rw [hl] at m3
             rw [List.drop_take,List.drop_drop,List.take_take,Nat.min_eq_left (by omega)] at m2
             have hseg:((cs.drop (i * e.size + o1)).take q2.1.size) <+: cells.toList.drop (off + (i * e.size + o1)):=by
               obtain ⟨tl,ht⟩:=hpre
               rw [show cells.toList.drop (off + (i * e.size + o1)) = (cells.toList.drop off).drop (i * e.size + o1) from by rw [List.drop_drop],← ht,List.drop_append_of_le_length (by omega)]
               exact (List.take_prefix _ _).trans (List.prefix_append _ _)
             have hfb:=hfz b (by rw [hpos];rfl)
             refine ⟨b,off + (i * e.size + o1),cells,T',(0,0),(cs.drop (i * e.size + o1)).take q2.1.size,hu,hfb.1,hfb.2.trans hb,?_,hseg⟩
             show RepP B.P B.G B.Fz B.w (.dat q2.1 q2.2) _
             exact RepC.mono hfut _ _ _ m2
       · simp at hg
     · simp at hg
 | _=>simp [Obj.get] at hg
theorem sl_frozen (r:RelIn cx tm lk a w Fz pos U) {k s:Nat} {e:Ty} {xs:List e.T} (hlk:lk k = some (s,.vec e xs)) {e':Ty} {u:Value} (h:RepA (cx.e Fz w lk pos) (.sl e' k s) u)
   {B:E} (hfut:Fut Fz w B.Fz B.w) (hfz:∀ b,VB (pos k) b→B.Fz b∧B.w.heap[b]? = w.heap[b]?):RepA B (.dat (.lst e) xs) u:=by
 obtain ⟨_,s',o',hlk2,hle,hval⟩:=h
 have hlk2:lk k = some (s',o'):=hlk2
 rw [hlk] at hlk2
 simp only [Option.some.injEq,Prod.mk.injEq] at hlk2
 obtain ⟨rfl,rfl⟩:=hlk2
 have hv:u = pos k:=(hval rfl).2
 have hR:=r.objs k s _ hlk
 rcases hR with ⟨hp,hxs⟩ | ⟨b,off,cap,cells,TT,hp,hbk,hc1,hc2,hc3,cs,hall,hpre⟩
 · rw [hv,hp,hxs];exact nil_lst _ _ _
 · have hfb:=hfz b (by rw [hp];rfl)
   exact ⟨[u],⟨some ⟨b,off,none⟩,xs.length,cap,cs,by rw [hv,hp],rfl,hc1,All2.mono (fun x cs hx=>hx.mono hfut) _ _ hall,.inr ⟨b,off,cells,TT,(0,0),rfl,hfb.1,hfb.2.trans hbk,hpre⟩⟩,rfl⟩
theorem mp_frozen (r:RelIn cx tm lk a w Fz pos U) {k s:Nat} {kt vt:Ty} {es:List (kt.T×vt.T)} (hlk:lk k = some (s,.map kt vt es)) {u:Value} (h:RepA (cx.e Fz w lk pos) (.mp k s) u)
   {B:E} (hfut:Fut Fz w B.Fz B.w) (hfz:∀ b,VB (pos k) b→B.Fz b∧B.w.heap[b]? = w.heap[b]?):RepA B (.dat (.map kt vt) es) u:=by
 obtain ⟨_,s',o',hlk2,hle,hval⟩:=h
 have hlk2:lk k = some (s',o'):=hlk2
 rw [hlk] at hlk2
 simp only [Option.some.injEq,Prod.mk.injEq] at hlk2
 obtain ⟨rfl,rfl⟩:=hlk2
 have hv:u = pos k:=(hval rfl).2
 obtain ⟨b,ents,clock,hp,hbk,hcl,hm⟩:=r.objs k s _ hlk
 have hfb:=hfz b (by rw [hp];rfl)
 exact ⟨[u],⟨some b,by rw [hv,hp],.inr ⟨b,ents,clock,rfl,hfb.1,hfb.2.trans hbk,hcl,MapRep.mono (fun x u ⟨c,hc,hu⟩=>⟨c,hc.mono hfut,hu⟩) (fun x u ⟨c,hc,hu⟩=>⟨c,hc.mono hfut,hu⟩) _ _ _ hm⟩⟩,rfl⟩
end Go.Pv
