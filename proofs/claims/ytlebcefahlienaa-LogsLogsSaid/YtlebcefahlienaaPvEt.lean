/- The purifying layer, part 5t: several objects turned at once. -/
import Derived.Test.YtlebcefahlienaaPvE
set_option linter.unusedVariables false
namespace Go.Pv
variable {cx:Cx} {tm:Tm} {lk:Lk} {a:Act} {w:World} {Fz:Nat→Prop} {pos:Nat→Value} {U:Nat→Prop}
theorem RelIn.turn (r:RelIn cx tm lk a w Fz pos U) (S:Nat→Prop) {lk':Lk} {pos':Nat→Value} {w':World}
   (hsame:∀ k,¬ S k→lk' k = lk k∧pos' k = pos k)
   (hst:∀ k s o,S k→lk k = some (s,o)→∃ s' o',lk' k = some (s',o')∧s ≤ s'∧(s = s'→Ext o (pos k) o' (pos' k)))
   (hos:w'.os = w.os) (htape:w'.tape = w.tape) (hout:w'.output = w.output) (hsize:w.heap.size ≤ w'.heap.size)
   (hblk:∀ b,b < w.heap.size→(∀ k s o,S k→lk k = some (s,o)→¬ VB (pos k) b)→w'.heap[b]? = w.heap[b]?)
   (hnew:∀ k s o b,S k→lk' k = some (s,o)→VB (pos' k) b→(∃ k0 s0 o0,S k0∧lk k0 = some (s0,o0)∧VB (pos k0) b) ∨ w.heap.size ≤ b)
   (hinj:∀ k s o k' s' o' b,S k→S k'→lk' k = some (s,o)→lk' k' = some (s',o')→VB (pos' k) b→VB (pos' k') b→k = k')
   (hrep:Le (cx.e Fz w lk pos) (cx.e Fz w' lk' pos')→∀ k s o,S k→lk' k = some (s,o)→RepO (cx.e Fz w' lk' pos') o (pos' k))
   (hgh:∀ k s t run x,S k→lk' k ≠ some (s,.gh t run x)) (h0:∀ k o,S k→lk' k = some (0,o)→lk k ≠ none) :
   RelIn cx tm lk' a w' Fz pos' U:=by
 classical
 have hown:∀ k s o b,S k→lk' k = some (s,o)→VB (pos' k) b→¬ Fz b∧(cx.w0.heap.size ≤ b ∨ cx.Wr b):=by
   intro k s o b hS h hb
   rcases hnew k s o b hS h hb with ⟨k0,s0,o0,_,h1,h2⟩ | h
   · exact r.own k0 s0 o0 b h1 h2
   · exact ⟨fun hf=>by have:=r.step.lt b hf;omega,.inl (Nat.le_trans r.step.size h)⟩
 -- what lies beside them stays as it was
 have hkeep:∀ b,b < w.heap.size→(∀ k s o,lk k = some (s,o)→VB (pos k) b→¬ S k)→w'.heap[b]? = w.heap[b]? :=
   fun b hb hn=>hblk b hb fun k s o hS h hv=>hn k s o h hv hS
 have hfut:Fut Fz w Fz w':=fun b hb=>⟨hb,hkeep b (r.step.lt b hb) fun k s o h hv=>absurd hb (r.own k s o b h hv).1⟩
 have hU:∀ b k s o,U b→S k→lk' k = some (s,o)→¬ VB (pos' k) b:=by
   intro b k s o hb hS h hv
   obtain ⟨h1,h2,h3,h4⟩:=r.ugh b hb
   rcases hnew k s o b hS h hv with ⟨k0,s0,o0,_,g1,g2⟩ | h
   · exact h4 k0 s0 o0 g1 g2
   · omega
 have hnear:Near cx.w0 cx.Wr U Fz w Fz w':=by
   refine ⟨hos,htape,hout,hsize,fun b hb=>?_,fun _ _=>Iff.rfl,hfut,fun b hb=>Nat.lt_of_lt_of_le (r.step.lt b hb) hsize⟩
   rcases hb with hb | ⟨h1,h2⟩
   · exact hkeep b (r.ugh b hb).1 fun k s o h hv=>absurd hv ((r.ugh b hb).2.2.2 k s o h)
   · exact hkeep b (Nat.lt_of_lt_of_le h1 r.step.size) fun k s o h hv=>by
       rcases (r.own k s o b h hv).2 with h | h
       · omega
       · exact absurd h h2
 have hle:Le (cx.e Fz w lk pos) (cx.e Fz w' lk' pos'):=by
   refine ⟨rfl,rfl,fun _ _ h=>h,fun _ _ h=>h,hfut,fun k s o h=>?_⟩
   by_cases hS:S k
   · exact hst k s o hS h
   · obtain ⟨h1,h2⟩:=hsame k hS
     exact ⟨s,o,h1.trans h,Nat.le_refl _,fun _=>Ext.mk (Obj.alike_refl _) h2⟩
 have hfar:∀ k1 s1 o1 k2 s2 o2 b,¬ S k1→S k2→lk k1 = some (s1,o1)→lk' k2 = some (s2,o2)→VB (pos k1) b→¬ VB (pos' k2) b:=by
   intro k1 s1 o1 k2 s2 o2 b h1 h2 g1 g2 hb hv
   rcases hnew k2 s2 o2 b h2 g2 hv with ⟨k0,s0,o0,hS0,e1,e2⟩ | hge
   · exact h1 (r.inj k1 s1 o1 k0 s0 o0 b g1 e1 hb e2 ▸ hS0)
   · have:b < w.heap.size:=(r.objs k1 s1 o1 g1).lt hb
     omega
 refine ⟨⟨fun k s o h=>?_,fun k s o b h hb=>?_,fun k s o k' s' o' b h h' hb hb'=>?_,?_,r.inv0,r.wr0,fun k s t run x h=>?_,fun k o q h hq=>?_,fun b hb=>?_⟩,r.size,fun d hd=>?_,r.dnd,fun t=>RepT.mono hle _ _ (r.tmps t)⟩
 · by_cases hS:S k
   · exact hrep hle k s o hS h
   · obtain ⟨h1,h2⟩:=hsame k hS
     rw [h1] at h
     show RepO (cx.e Fz w' lk' pos') o (pos' k)
     rw [h2]
     refine RepO.mono hle _ _ (fun b hb=>?_) (r.objs k s o h)
     exact hkeep b ((r.objs k s o h).lt hb) fun k0 s0 o0 g1 g2=>(r.inj k s o k0 s0 o0 b h g1 hb g2) ▸ hS
 · by_cases hS:S k
   · exact hown k s o b hS h hb
   · obtain ⟨h1,h2⟩:=hsame k hS
     rw [h1] at h
     rw [h2] at hb
     exact r.own k s o b h hb
 · by_cases hS:S k
   · by_cases hS':S k'
     · exact hinj k s o k' s' o' b hS hS' h h' hb hb'
     · obtain ⟨h1,h2⟩:=hsame k' hS'
       rw [h1] at h'
       rw [h2] at hb'
       exact absurd hb (hfar k' s' o' k s o b hS' hS h' h hb')
   · obtain ⟨h1,h2⟩:=hsame k hS
     rw [h1] at h
     rw [h2] at hb
     by_cases hS':S k'
     · exact absurd hb' (hfar k s o k' s' o' b hS hS' h h' hb)
     · obtain ⟨h3,h4⟩:=hsame k' hS'
       rw [h3] at h'
       rw [h4] at hb'
       exact r.inj k s o k' s' o' b h h' hb hb'
 · refine ⟨hos.trans r.step.os,htape.trans r.step.tape,hout.trans r.step.output,Nat.le_trans r.step.size hsize,fun b hb hw=>?_,r.step.fz,fun b hb=>Nat.lt_of_lt_of_le (r.step.lt b hb) hsize⟩
   exact (hnear.same b (.inr ⟨hb,hw⟩)).trans (r.step.block b hb hw)
 · have hS:¬ S k:=fun hS=>hgh k s t run x hS h
   rw [(hsame k hS).1] at h
   obtain ⟨g1,J,cv,g2,g3⟩:=r.gh k s t run x h
   refine ⟨g1,J,cv,g2,?_⟩
   have hf:=cx.frame
   rw [g2] at hf
   exact hf x U Fz w Fz w' g3 hnear
 · by_cases hS:S k
   · cases hlk:lk k with
     | none=>exact absurd hlk (h0 k o hS h)
     | some q0 =>
       obtain ⟨s0,o0⟩:=q0
       obtain ⟨s1,o1,e1,e2,e3⟩:=hst k s0 o0 hS hlk
       rw [h] at e1
       simp only [Option.some.injEq,Prod.mk.injEq] at e1
       obtain ⟨rfl,rfl⟩:=e1
       obtain rfl:s0 = 0:=by omega
       exact (r.orig k o0 q hlk hq).trans (e3 rfl)
   · obtain ⟨h1,h2⟩:=hsame k hS
     rw [h1] at h
     rw [h2]
     exact r.orig k o q h hq
 · obtain ⟨h1,h2,h3,h4⟩:=r.ugh b hb
   refine ⟨Nat.lt_of_lt_of_le h1 hsize,h2,h3,fun k s o h hb'=>?_⟩
   by_cases hS:S k
   · exact hU b k s o hb hS h hb'
   · obtain ⟨g1,g2⟩:=hsame k hS
     exact h4 k s o (g1 ▸ h) (g2 ▸ hb')
 · obtain ⟨D,h1,h2,h3,h4,h5⟩:=r.defers d hd
   refine ⟨D,h1,(hkeep D (Array.getElem?_eq_some_iff.1 h2).1 fun k s o h hv=>?_).trans h2,h3,h4,h5⟩
   exact absurd h2 ((r.objs k s o h).noMark hv _)
end Go.Pv
