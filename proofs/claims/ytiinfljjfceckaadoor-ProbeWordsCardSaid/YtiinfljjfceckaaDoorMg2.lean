/- Plain texts, merged: QpM, QpH, QpI, QpN. -/
import Derived.Test.YtiinfljjfceckaaDoorMg1
/- Seat 09, plain: what the reference knows after a word; the length of a shortest word that tells. -/
set_option linter.unusedVariables false
set_option linter.unusedSimpArgs false
namespace Go.Pv
open Bfs
theorem lw_congr {f g:Nat→Bool}:∀ (j c:Nat),(∀ u,u < j→f u = g u)→lw f j c = lw g j c
 | 0,c,_=>rfl
 | j + 1,c,h=>by
   simp only [lw,h j (by omega)]
   exact lw_congr j _ fun u hu=>h u (by omega)
theorem sd_snoc (x:MM) (w:List Int) (a:Int) (s:Nat):sd x (w ++ [a]) s = sd x w s ++ [ou x (en x w s) a]:=by unfold sd en;rw [sayL_snoc]
theorem en_snoc (x:MM) (w:List Int) (a:Int) (s:Nat):en x (w ++ [a]) s = nx x (en x w s) a:=by unfold en;rw [sayL_snoc]
theorem sd_snoc_eq (x:MM) (w:List Int) (a:Int) (s t:Nat):sd x (w ++ [a]) s = sd x (w ++ [a]) t ↔ sd x w s = sd x w t∧ou x (en x w s) a = ou x (en x w t) a:=by
 rw [sd_snoc,sd_snoc]
 constructor
 · intro h
   obtain ⟨h1,h2⟩:=List.append_inj' h rfl
   exact ⟨h1,by simpa using h2⟩
 · rintro ⟨h1,h2⟩;rw [h1,h2]
def cls (x:MM) (w:List Int) (v:Nat):Nat:=lw (fun u=>decide (sd x w u = sd x w v)) v v
theorem cls_spec (x:MM) (w:List Int) (v:Nat):sd x w (cls x w v) = sd x w v∧∀ u,u < cls x w v→sd x w u ≠ sd x w v:=by
 unfold cls
 rcases lw_spec (fun u=>decide (sd x w u = sd x w v)) v v with ⟨h1,h2⟩ | ⟨h1,h2,h3⟩
 · rw [h1];exact ⟨rfl,fun u hu=>by simpa using h2 u hu⟩
 · exact ⟨by simpa using h2,fun u hu=>by simpa using h3 u hu⟩
theorem cls_iff (x:MM) (w:List Int) (u v:Nat):cls x w u = cls x w v ↔ sd x w u = sd x w v:=by
 obtain ⟨a1,a2⟩:=cls_spec x w u
 obtain ⟨b1,b2⟩:=cls_spec x w v
 constructor
 · intro h;rw [← a1,h,b1]
 · intro h
   have n1:¬ cls x w u < cls x w v:=fun hl=>b2 _ hl (a1.trans h)
   have n2:¬ cls x w v < cls x w u:=fun hl=>a2 _ hl (b1.trans h.symm)
   omega
def aK (x:MM) (w:List Int):List Int:=(List.range x.1.length).map (fun v=>((cls x w v:Nat):Int)) ++ (List.range x.1.length).map (fun v=>en x w v)
theorem aK_c (x:MM) (w:List Int) (v:Nat) (hv:v < x.1.length):(aK x w).getD v 0 = (cls x w v:Int):=by unfold aK;rw [getD_two,if_pos hv]
theorem aK_n (x:MM) (w:List Int) (v:Nat) (hv:v < x.1.length):(aK x w).getD (x.1.length + v) 0 = en x w v:=by
 unfold aK;rw [getD_two,if_neg (by omega),if_pos (by omega),show x.1.length + v - x.1.length = v by omega]
theorem aK_iff (x:MM) (w:List Int) (u v:Nat) (hu:u < x.1.length) (hv:v < x.1.length):(aK x w).getD u 0 = (aK x w).getD v 0 ↔ sd x w u = sd x w v:=by
 rw [aK_c x w u hu,aK_c x w v hv,← cls_iff];omega
theorem map_two {n:Nat} {f g f' g':Nat→Int} (h1:∀ v,v < n→f v = f' v) (h2:∀ v,v < n→g v = g' v):(List.range n).map f ++ (List.range n).map g = (List.range n).map f' ++ (List.range n).map g':=by
 rw [List.map_congr_left fun v hv=>h1 v (List.mem_range.1 hv),List.map_congr_left fun v hv=>h2 v (List.mem_range.1 hv)]
theorem aK_step (x:MM) (w:List Int) (a:Int):nextL x.1.length x (aK x w) a = aK x (w ++ [a]):=by
 unfold nextL
 rw [show aK x (w ++ [a]) = (List.range x.1.length).map (fun v=>((cls x (w ++ [a]) v:Nat):Int)) ++ (List.range x.1.length).map (fun v=>en x (w ++ [a]) v) from rfl]
 refine map_two (fun v hv=>?_) fun v hv=>by rw [aK_n x w v hv,en_snoc]
 congr 1
 unfold cls
 refine lw_congr v v fun u hu=>?_
 unfold alikeF
 rw [aK_n x w u (by omega),aK_n x w v hv,← Bool.decide_and]
 exact decide_eq_decide.2 ((and_congr_left' (aK_iff x w u v (by omega) hv)).trans (sd_snoc_eq x w a u v).symm)
theorem mark_c (n s:Nat) (X:List Int) (v:Nat) (hv:v < n):(markL n s X).getD v 0 = if X.getD v 0 = X.getD s 0 then X.getD s 0 else (v:Int):=by unfold markL;rw [getD_two,if_pos hv]
theorem mark_n (n s:Nat) (X:List Int) (v:Nat) (hv:v < n):(markL n s X).getD (n + v) 0 = if X.getD v 0 = X.getD s 0 then X.getD (n + v) 0 else 0:=by
 unfold markL;rw [getD_two,if_neg (by omega),if_pos (by omega),show n + v - n = v by omega]
theorem mk_in (x:MM) (w:List Int) (s:Nat) (hs:s < x.1.length) (v:Nat) (hv:v < x.1.length) (h:sd x w v = sd x w s):(markL x.1.length s (aK x w)).getD v 0 = (cls x w s:Int)∧(markL x.1.length s (aK x w)).getD (x.1.length + v) 0 = en x w v:=by
 have e:=(aK_iff x w v s hv hs).2 h
 rw [mark_c _ _ _ _ hv,mark_n _ _ _ _ hv,if_pos e,if_pos e,aK_c x w s hs,aK_n x w v hv]
 exact ⟨rfl,rfl⟩
theorem mk_out (x:MM) (w:List Int) (s:Nat) (hs:s < x.1.length) (v:Nat) (hv:v < x.1.length) (h:sd x w v ≠ sd x w s):(markL x.1.length s (aK x w)).getD v 0 = (v:Int)∧v ≠ cls x w s:=by
 have e:¬ (aK x w).getD v 0 = (aK x w).getD s 0:=fun e=>h ((aK_iff x w v s hv hs).1 e)
 rw [mark_c _ _ _ _ hv,if_neg e]
 exact ⟨rfl,fun e=>h (by rw [e];exact (cls_spec x w s).1)⟩
theorem nx_in (x:MM) (w:List Int) (s:Nat) (hs:s < x.1.length) (a:Int) (v:Nat) (hv:v < x.1.length) (h:sd x w v = sd x w s):(nextL x.1.length x (markL x.1.length s (aK x w)) a).getD v 0 = (cls x (w ++ [a]) v:Int)∧(nextL x.1.length x (markL x.1.length s (aK x w)) a).getD (x.1.length + v) 0 = en x (w ++ [a]) v:=by
 obtain ⟨h1,h2⟩:=mk_in x w s hs v hv h
 unfold nextL
 rw [getD_two,if_pos hv,getD_two,if_neg (by omega),if_pos (by omega),show x.1.length + v - x.1.length = v by omega]
 refine ⟨?_,by rw [h2,en_snoc]⟩
 congr 1
 unfold cls
 refine lw_congr v v fun u hu=>?_
 unfold alikeF
 by_cases hm:sd x w u = sd x w s
 · obtain ⟨g1,g2⟩:=mk_in x w s hs u (by omega) hm
   rw [g1,g2,h1,h2,← Bool.decide_and]
   exact decide_eq_decide.2 ⟨fun h3=>(sd_snoc_eq x w a u v).2 ⟨hm.trans h.symm,h3.2⟩,fun h3=>⟨rfl,((sd_snoc_eq x w a u v).1 h3).2⟩⟩
 · obtain ⟨g1,g2⟩:=mk_out x w s hs u (by omega) hm
   rw [g1,h1,decide_eq_false (by omega),Bool.false_and,eq_comm,decide_eq_false_iff_not]
   exact fun h3=>hm (((sd_snoc_eq x w a u v).1 h3).1.trans h)
theorem nx_out (x:MM) (w:List Int) (s:Nat) (hs:s < x.1.length) (a:Int) (v:Nat) (hv:v < x.1.length) (h:sd x w v ≠ sd x w s):(nextL x.1.length x (markL x.1.length s (aK x w)) a).getD v 0 = (v:Int):=by
 obtain ⟨h1,h2⟩:=mk_out x w s hs v hv h
 unfold nextL
 rw [getD_two,if_pos hv]
 have:lw (alikeF x.1.length x (markL x.1.length s (aK x w)) a v) v v = lw (fun _=>false) v v:=lw_congr v v fun u hu=>by
   unfold alikeF
   rw [h1]
   by_cases hm:sd x w u = sd x w s
   · rw [(mk_in x w s hs u (by omega) hm).1,decide_eq_false (by omega),Bool.false_and]
   · rw [(mk_out x w s hs u (by omega) hm).1,decide_eq_false (by omega),Bool.false_and]
 rw [this]
 rcases lw_spec (fun _=>false) v v with ⟨e,_⟩ | ⟨_,e,_⟩
 · rw [e]
 · cases e
theorem nx_iff (x:MM) (w:List Int) (s:Nat) (hs:s < x.1.length) (a:Int) (v:Nat) (hv:v < x.1.length):(nextL x.1.length x (markL x.1.length s (aK x w)) a).getD v 0 = (nextL x.1.length x (markL x.1.length s (aK x w)) a).getD s 0 ↔ (aK x (w ++ [a])).getD v 0 = (aK x (w ++ [a])).getD s 0:=by
 obtain ⟨s1,s2⟩:=nx_in x w s hs a s hs rfl
 rw [s1,aK_c x _ v hv,aK_c x _ s hs]
 by_cases hm:sd x w v = sd x w s
 · rw [(nx_in x w s hs a v hv hm).1]
 · rw [nx_out x w s hs a v hv hm]
   constructor
   · intro h
     exfalso
     have:v = cls x (w ++ [a]) s:=by omega
     have h2:=(cls_spec x (w ++ [a]) s).1
     rw [← this] at h2
     exact hm ((sd_snoc_eq x w a v s).1 h2).1
   · intro h
     exfalso
     have:cls x (w ++ [a]) v = cls x (w ++ [a]) s:=by omega
     exact hm ((sd_snoc_eq x w a v s).1 ((cls_iff x _ v s).1 this)).1
theorem mem_of (x:MM) (w:List Int) (s:Nat) (hs:s < x.1.length) (a:Int) (v:Nat) (hv:v < x.1.length) (h:(aK x (w ++ [a])).getD v 0 = (aK x (w ++ [a])).getD s 0):sd x w v = sd x w s:=((sd_snoc_eq x w a v s).1 ((aK_iff x _ v s hv hs).1 h)).1
theorem mark_step (x:MM) (w:List Int) (s:Nat) (hs:s < x.1.length) (a:Int):markL x.1.length s (nextL x.1.length x (markL x.1.length s (aK x w)) a) = markL x.1.length s (aK x (w ++ [a])):=by
 have hs1:=(nx_in x w s hs a s hs rfl).1
 refine map_two (fun v hv=>?_) fun v hv=>?_
 · by_cases h:(aK x (w ++ [a])).getD v 0 = (aK x (w ++ [a])).getD s 0
   · rw [if_pos h,if_pos ((nx_iff x w s hs a v hv).2 h),hs1,aK_c x _ s hs]
   · rw [if_neg h,if_neg fun e=>h ((nx_iff x w s hs a v hv).1 e)]
 · by_cases h:(aK x (w ++ [a])).getD v 0 = (aK x (w ++ [a])).getD s 0
   · rw [if_pos h,if_pos ((nx_iff x w s hs a v hv).2 h),(nx_in x w s hs a v hv (mem_of x w s hs a v hv h)).2,aK_n x _ v hv]
   · rw [if_neg h,if_neg fun e=>h ((nx_iff x w s hs a v hv).1 e)]
theorem alive2_iff (n s:Nat) (hs:s < n) (Z:List Int):aliveB n 2 (s:Int) Z = true ↔ ∀ v,v < n→v ≠ s→Z.getD v 0 = Z.getD s 0→Z.getD (n + v) 0 ≠ Z.getD (n + s) 0:=by
 unfold aliveB
 rw [allN_iff]
 simp only [allN_iff,badD]
 constructor
 · intro h v hv hne he hn
   rcases Nat.lt_or_gt_of_ne hne with hl | hl
   · have:=h s (by omega) (by omega) v (by omega) (by omega)
     rw [decide_eq_true he.symm,decide_eq_true hn.symm] at this
     simp at this
   · have:=h v (by omega) (by omega) s (by omega) (by omega)
     rw [decide_eq_true he,decide_eq_true hn] at this
     simp at this
 · intro h u _ hu v _ hv
   by_cases hus:u = s
   · have:=h v (by omega) (by omega)
     subst hus
     by_cases e1:Z.getD u 0 = Z.getD v 0
     · have:=this e1.symm
       rw [decide_eq_false (fun e:Z.getD (n + u) 0 = Z.getD (n + v) 0=>this e.symm)];simp
     · rw [decide_eq_false e1];simp
   · by_cases hvs:v = s
     · have:=h u (by omega) hus
       subst hvs
       by_cases e1:Z.getD u 0 = Z.getD v 0
       · rw [decide_eq_false (this e1)];simp
       · rw [decide_eq_false e1];simp
     · have c1:decide ((u:Int) = (s:Int)) = false:=decide_eq_false (by omega)
       have c2:decide ((v:Int) = (s:Int)) = false:=decide_eq_false (by omega)
       rw [c1,c2];simp
def alive (x:MM) (kd:Int) (s:Nat) (w:List Int):Bool:=aliveB x.1.length kd (s:Int) (aK x w)
theorem alive_step2 (x:MM) (w:List Int) (s:Nat) (hs:s < x.1.length) (a:Int):aliveB x.1.length 2 (s:Int) (nextL x.1.length x (markL x.1.length s (aK x w)) a) = alive x 2 s (w ++ [a]):=by
 unfold alive
 rw [Bool.eq_iff_iff,alive2_iff _ _ hs,alive2_iff _ _ hs]
 refine forall_congr' fun v=>forall_congr' fun hv=>forall_congr' fun hne=>?_
 constructor
 · intro h he
   have hm:=mem_of x w s hs a v hv he
   have:=h ((nx_iff x w s hs a v hv).2 he)
   rw [(nx_in x w s hs a v hv hm).2,(nx_in x w s hs a s hs rfl).2] at this
   rw [aK_n x _ v hv,aK_n x _ s hs];exact this
 · intro h he
   have he:=(nx_iff x w s hs a v hv).1 he
   have hm:=mem_of x w s hs a v hv he
   have:=h he
   rw [(nx_in x w s hs a v hv hm).2,(nx_in x w s hs a s hs rfl).2]
   rw [aK_n x _ v hv,aK_n x _ s hs] at this;exact this
theorem alive_snoc (x:MM) (kd:Int) (s:Nat) (w:List Int) (a:Int) (h:alive x kd s (w ++ [a]) = true):alive x kd s w = true:=by
 unfold alive aliveB at h ⊢
 rw [allN_iff] at h ⊢
 intro u u0 hu
 have h:=h u u0 hu
 rw [allN_iff] at h ⊢
 intro v v0 hv
 have h:=h v v0 hv
 rw [Bool.not_eq_true'] at h ⊢
 cases hb:badD kd (s:Int) (u:Int) (v:Int) with
 | false=>simp
 | true =>
   rw [hb] at h
   by_cases e1:(aK x w).getD u 0 = (aK x w).getD v 0
   · by_cases e2:(aK x w).getD (x.1.length + u) 0 = (aK x w).getD (x.1.length + v) 0
     · exfalso
       rw [aK_iff x w u v (by omega) (by omega)] at e1
       rw [aK_n x w u (by omega),aK_n x w v (by omega)] at e2
       have g1:(aK x (w ++ [a])).getD u 0 = (aK x (w ++ [a])).getD v 0:=(aK_iff x _ u v (by omega) (by omega)).2 ((sd_snoc_eq x w a u v).2 ⟨e1,by rw [e2]⟩)
       have g2:(aK x (w ++ [a])).getD (x.1.length + u) 0 = (aK x (w ++ [a])).getD (x.1.length + v) 0:=by rw [aK_n x _ u (by omega),aK_n x _ v (by omega),en_snoc,en_snoc,e2]
       rw [decide_eq_true g1,decide_eq_true g2] at h
       simp at h
     · rw [decide_eq_false e2];simp
   · rw [decide_eq_false e1];simp
theorem alive_prefix (x:MM) (kd:Int) (s:Nat) (w:List Int):∀ v:List Int,alive x kd s (w ++ v) = true→alive x kd s w = true:=by
 intro v
 induction hn:v.length using Nat.strongRecOn generalizing v with
 | ind n ih =>
   intro h
   rcases List.eq_nil_or_concat v with rfl | ⟨u,a,rfl⟩
   · simpa using h
   · refine ih u.length (by rw [← hn];simp) u rfl (alive_snoc x kd s (w ++ u) a ?_)
     simpa [List.append_assoc] using h
def aR (x:MM) (kd:Int) (s:Nat) (w:List Int):List Int:=if kd = 2 then markL x.1.length s (aK x w) else aK x w
theorem aR_len (x:MM) (kd:Int) (s:Nat) (w:List Int):(aR x kd s w).length = 2 * x.1.length:=by
 unfold aR
 split
 · unfold markL;simp;omega
 · unfold aK;simp;omega
theorem eR_word (x:MM) (h1:1 ≤ x.1.length) (kd:Int) (s:Nat) (hs:s < x.1.length) (w:List Int) (i:Nat):eR x kd s (aR x kd s w) i = if alive x kd s (w ++ [(i:Int)]) = true then some (aR x kd s (w ++ [(i:Int)])) else none:=by
 have key:needL x.1.length kd s (nextL x.1.length x (aR x kd s w) i) = bif alive x kd s (w ++ [(i:Int)]) then aR x kd s (w ++ [(i:Int)]) else []:=by
   unfold needL
   by_cases hk:kd = 2
   · subst hk
     rw [show aR x 2 s w = markL x.1.length s (aK x w) from if_pos rfl,alive_step2 x w s hs,if_pos rfl,mark_step x w s hs,show aR x 2 s (w ++ [(i:Int)]) = markL x.1.length s (aK x (w ++ [(i:Int)])) from if_pos rfl]
   · rw [show aR x kd s w = aK x w from if_neg hk,aK_step,if_neg hk,show aR x kd s (w ++ [(i:Int)]) = aK x (w ++ [(i:Int)]) from if_neg hk]
     rfl
 unfold eR
 rw [key]
 have hl:=aR_len x kd s (w ++ [(i:Int)])
 cases alive x kd s (w ++ [(i:Int)]) with
 | true=>rw [cond_true,if_pos (by omega),if_pos rfl]
 | false=>rw [cond_false,if_neg (by simp),if_neg (by simp)]
theorem runR (x:MM) (h1:1 ≤ x.1.length) (kd:Int) (s:Nat) (hs:s < x.1.length) (k:Nat):∀ (ws:List Nat) (w:List Int) (z:List Int),run (eR x kd s) k (aR x kd s w) ws = some z→z = aR x kd s (w ++ wd ws)
 | [],w,z,h=>by simp only [run,Option.some.injEq] at h;rw [← h];simp
 | i :: ws,w,z,h=>by
   simp only [run,eR_word x h1 kd s hs w i] at h
   split at h
   · split at h
     · have:=runR x h1 kd s hs k ws (w ++ [(i:Int)]) z h
       rw [this];simp
     · cases h
   · cases h
theorem runR_of (x:MM) (h1:1 ≤ x.1.length) (kd:Int) (s:Nat) (hs:s < x.1.length) (k:Nat):∀ (ws:List Nat) (w:List Int),(∀ i ∈ ws,i < k)→alive x kd s (w ++ wd ws) = true→run (eR x kd s) k (aR x kd s w) ws = some (aR x kd s (w ++ wd ws))
 | [],w,_,_=>by simp [run]
 | i :: ws,w,hi,ha=>by
   have e:w ++ wd (i :: ws) = (w ++ [(i:Int)]) ++ wd ws:=by simp
   rw [e] at ha ⊢
   have hp:=alive_prefix x kd s (w ++ [(i:Int)]) (wd ws) ha
   simp only [run]
   rw [if_pos (hi i List.mem_cons_self),eR_word x h1 kd s hs w i,if_pos hp]
   exact runR_of x h1 kd s hs k ws (w ++ [(i:Int)]) (fun j hj=>hi j (List.mem_cons_of_mem _ hj)) ha
def LeastT (k:Nat) (T:List Int→Bool) (ws:List Nat):Prop:=(∀ i ∈ ws,i < k)∧T (wd ws) = true∧∀ vs:List Nat,(∀ i ∈ vs,i < k)→vs.length < ws.length→T (wd vs) = false
theorem LeastT.same {k:Nat} {T:List Int→Bool} {ws vs:List Nat} (h1:LeastT k T ws) (h2:LeastT k T vs):ws.length = vs.length:=by
 have n1:¬ ws.length < vs.length:=fun hl=>by have:=h2.2.2 ws h1.1 hl;rw [h1.2.1] at this;cases this
 have n2:¬ vs.length < ws.length:=fun hl=>by have:=h1.2.2 vs h2.1 hl;rw [h2.2.1] at this;cases this
 omega
theorem first_loop (N:Nat) {C:Type} (k0:Int→Int→Int→MM→List Int→Option C) (kd s:Int) (n:Nat) (hn:n ≤ 6) (m:MM) :
   ∀ (F i:Nat) (o:List Int),n - i < F→i ≤ n→o.length = 2 * n→(∀ v,v < n→o.getD v 0 = 0)→(∀ v,v < i→o.getD (n + v) 0 = (v:Int)) →
     g32L122f N F k0 kd s (n:Int) (i:Int) m o = k0 kd s (n:Int) m ((List.range n).map (fun _=>0) ++ (List.range n).map (fun (v:Nat)=>(v:Int)))
 | 0,i,o,hF,_,_,_,_=>by omega
 | F + 1,i,o,hF,hi,hl,b1,b2=>by
   rw [g32L122f_succ]
   unfold g32L122B
   by_cases hlt:i < n
   · rw [ltT hlt,cond_true,wsum n i hn (by omega),if_pos (show idx ((n + i:Nat):Int) o.length from ⟨by omega,by omega⟩),Int.toNat_natCast,if_pos (by omega),wn i (by omega)]
     refine first_loop N k0 kd s n hn m F (i + 1) _ (by omega) (by omega) ?_ (fun v hv=>?_) (fun v hv=>?_)
     · simp [hl]
     · rw [getD_set _ _ _ _ (by omega),if_neg (by omega)];exact b1 v hv
     · rw [getD_set _ _ _ _ (by omega)]
       split
       · omega
       · exact b2 v (by omega)
   · rw [ltF hlt,cond_false]
     have:i = n:=by omega
     subst this
     rw [ext_two hl b1 b2]
theorem aK_nil (x:MM):aK x [] = (List.range x.1.length).map (fun _=>0) ++ (List.range x.1.length).map (fun (v:Nat)=>(v:Int)):=by
 refine map_two (fun v hv=>?_) fun v hv=>rfl
 have h:=cls_spec x [] v
 have:cls x [] v = 0:=by
   by_cases h0:cls x [] v = 0
   · exact h0
   · exact absurd rfl (h.2 0 (by omega))
 rw [this];rfl
theorem aR_nil (x:MM) (kd:Int) (s:Nat) (hs:s < x.1.length):aR x kd s [] = aK x []:=by
 unfold aR
 split
 · have hc:∀ v,v < x.1.length→(aK x []).getD v 0 = 0:=fun v hv=>by rw [aK_nil,getD_two,if_pos hv]
   have e:aK x [] = _:=aK_nil x
   rw [e]
   unfold markL
   refine map_two (fun v hv=>?_) fun v hv=>?_
   · rw [getD_two,if_pos hv,getD_two,if_pos hs,if_pos rfl]
   · rw [getD_two,if_pos hv,getD_two,if_pos hs,if_pos rfl,getD_two,if_neg (by omega),if_pos (by omega)];omega
 · rfl
theorem ref_short {m:MM} {k:Nat} (hm:Pm m k) (h5:m.1.length ≤ 5) (N:Nat) (hN:400000 < N) (kd:Int) (s:Nat) (hs:s < m.1.length) (T:List Int→Bool)
   (hT:∀ w,toldB m.1.length kd (s:Int) (aR m kd s w) = T w) (hTa:∀ w,T w = true→alive m kd s w = true) :
   (∃ ws,LeastT k T ws∧g32 N m kd (s:Int) = some (ws.length:Int)) ∨ ((∀ ws:List Nat,(∀ i ∈ ws,i < k)→T (wd ws) = false)∧g32 N m kd (s:Int) = some (-1)):=by
 have n1:=hm.n1
 have n6:=hm.n6
 obtain ⟨m1,m2⟩:=mkOk2 m.1.length n6
 have e0:aR m kd s [] = (List.range m.1.length).map (fun _=>0) ++ (List.range m.1.length).map (fun (v:Nat)=>(v:Int)):=by rw [aR_nil m kd s hs,aK_nil]
 have hv0:VX m.1.length (aR m kd s []):=by
   rw [e0]
   refine ⟨by simp;omega,fun v hv=>?_,fun v hv=>?_⟩
   · rw [getD_two,if_pos hv];omega
   · rw [getD_two,if_neg (by omega),if_pos (by omega)];omega
 unfold g32
 rw [if_pos m1,m2,g32L122_eq]
 have e1:=first_loop N (fun e1 e2 e3 e4 e5=>Option.bind (g69 N e5) fun r6=>g32L1018 N (fun e41 e42 e43 e44 e45=>some e41) (fun e46 e47 e48 e49=>some (-1)) e1 e2 e3 0 e4 [e5] [0] (mapPut (Ty.beq .str) r6 true ([]:KN))) kd (s:Int) m.1.length n6 m N 0 (List.replicate (2 * m.1.length) 0) (by omega) (by omega) (by simp) (fun v _=>getD_rep0 _ _) (by omega)
 have e1:g32L122f N N (fun e1 e2 e3 e4 e5=>Option.bind (g69 N e5) fun r6=>g32L1018 N (fun e41 e42 e43 e44 e45=>some e41) (fun e46 e47 e48 e49=>some (-1)) e1 e2 e3 0 e4 [e5] [0] (mapPut (Ty.beq .str) r6 true ([]:KN))) kd (s:Int) (m.1.length:Int) 0 m (List.replicate (2 * m.1.length) 0) = _:=e1
 rw [e1,← e0,keyL_eq N (by omega) _ (by rw [hv0.len];omega) (hv0.bytes n6)]
 simp only [Option.bind_some]
 rw [g32L1018_eq]
 have h0:QK m k kd s (aR m kd s []) 0 0 [aR m kd s []] [0] (mapPut (Ty.beq .str) (keyL (aR m kd s [])) true []):=by
   refine ⟨Qu.start,fun y hy=>by rw [List.mem_singleton.1 hy];exact hv0,fun y hy=>?_,fun q hq=>by omega⟩
   rw [find_put _ beqS_eq]
   by_cases hyz:keyL y = keyL (aR m kd s [])
   · have:=keyL_inj (hy.bytes n6) (hv0.bytes n6) hyz
     rw [if_pos hyz];simp [this]
   · rw [if_neg hyz]
     have:y ≠ aR m kd s []:=fun e=>hyz (by rw [e])
     simp [mapFind,this]
 rcases queue_loop hm h5 N hN (fun e41 e42 e43 e44 e45=>some e41) (fun e46 e47 e48 e49=>some (-1)) kd s hs (aR m kd s []) N 0 [aR m kd s []] [0] _ (by omega) (by omega) h0 with ⟨d,y,l',lg',kn',⟨⟨ws,w1,w2⟩,t1,t2⟩,e⟩ | ⟨hno,l',lg',kn',e⟩
 · refine .inl ⟨ws,⟨run_letters ws _ _ w2,?_,fun vs hv hl=>?_⟩,?_⟩
   · have:=runR m n1 kd s hs k ws [] y w2
     rw [this,hT] at t1
     simpa using t1
   · cases ht:T (wd vs) with
     | false=>rfl
     | true =>
       have ha:=hTa _ ht
       have hr:=runR_of m n1 kd s hs k vs [] hv (by simpa using ha)
       have:=t2 vs.length (by omega) _ ⟨vs,rfl,hr⟩
       rw [hT] at this
       simp only [List.nil_append] at this
       rw [ht] at this;exact this
   · rw [w1];exact e
 · refine .inr ⟨fun vs hv=>?_,e⟩
   cases ht:T (wd vs) with
   | false=>rfl
   | true =>
     have ha:=hTa _ ht
     have hr:=runR_of m n1 kd s hs k vs [] hv (by simpa using ha)
     have:=hno vs.length _ ⟨vs,rfl,hr⟩
     rw [hT] at this
     simp only [List.nil_append] at this
     rw [ht] at this;exact this
end Go.Pv
namespace Go.Pv
open Bfs
abbrev tGG:Ty:=.pair (.arr 6 (.int .i64)) (.pair (.arr 6 (.int .i64)) .unit)
theorem go_ieq:∀ a b:List Int,Ty.beq.go (fun x y:Int=>ieq x y) a b = decide (a = b)
 | [],[]=>rfl
 | [],_ :: _=>rfl
 | _ :: _,[]=>rfl
 | x :: a,y :: b=>by
   simp only [Ty.beq.go,go_ieq a b,List.cons.injEq,ieq]
   by_cases h1:x = y <;> by_cases h2:a = b <;> simp [h1,h2]
theorem beqG (a b:GG):Ty.beq tGG a b = decide (a = b):=by
 obtain ⟨a1,a2,a3⟩:=a
 obtain ⟨b1,b2,b3⟩:=b
 have e1:=go_ieq a1 b1
 have e2:=go_ieq a2 b2
 simp only [Ty.beq,Bool.and_true,Prod.mk.injEq]
 rw [e1,e2]
 by_cases h1:a1 = b1 <;> by_cases h2:a2 = b2 <;> simp [h1,h2]
abbrev HowG:=List (GG×GG×Int×Unit)
def HhG (how:HowG) (y:GG):Option (GG×Nat):=(mapFind (Ty.beq tGG) y how).map fun v=>(v.1,v.2.1.toNat)
theorem HhG_put (how:HowG) (y x:GG) (i:Nat):HhG (mapPut (Ty.beq tGG) y (x,(i:Int),()) how) = fun z=>if z = y then some (x,i) else HhG how z:=by
 funext z
 unfold HhG
 rw [find_put _ beqG]
 by_cases h:z = y
 · rw [if_pos h,if_pos h];rfl
 · rw [if_neg h,if_neg h]
def VW (m:MM) (k:Nat) (g:GG):Prop:=VG m.1.length g∧∃ w,InW k w∧Gr m w g
theorem VW.step {m:MM} {k:Nat} (hm:Pm m k) (N:Nat) (hN:10 < N) {x:GG} (hx:VW m k x) {i:Nat} (hi:i < k):∃ y,eG N m x i = some y∧VW m k y:=by
 obtain ⟨h1,w,h2,h3⟩:=hx
 obtain ⟨g',e,h4,h5⟩:=hm.after2 h2 h3 h1 (a:=(i:Int)) (by omega) (by omega) N hN
 refine ⟨g',e,h5,w ++ [(i:Int)],fun j hj=>?_,h4⟩
 rcases List.mem_append.1 hj with hj | hj
 · exact h2 j hj
 · rw [List.mem_singleton.1 hj];omega
theorem cbG_eq {m:MM} {k:Nat} (hm:Pm m k) (N:Nat) (hN:10 < N) {x:GG} (hx:VW m k x) {i:Nat} (hi:i < k) (how:HowG) :
   ∃ (y:GG) (ok:Bool) (how':HowG),g113x N x (i:Int) m how = some ((y,ok,()),((),(m,()),(),how',()),()) ∧
     ((ok = false∧how' = how∧∀ z,eG N m x i = some z→(HhG how z).isSome = true) ∨ (ok = true∧eG N m x i = some y∧VW m k y∧HhG how y = none∧how' = mapPut (Ty.beq tGG) y (x,(i:Int),()) how)):=by
 unfold g113x g93
 obtain ⟨y,hy,hv⟩:=hx.step hm N hN hi
 have hy':g94 N m x (i:Int) = some y:=hy
 rw [hy']
 simp only [Option.bind_some,Bool.not_true,cond_false]
 cases hf:mapFind (Ty.beq tGG) y how with
 | none =>
   refine ⟨y,true,mapPut (Ty.beq tGG) y (x,(i:Int),()) how,?_,.inr ⟨rfl,hy,hv,by unfold HhG;rw [hf];rfl,rfl⟩⟩
   rfl
 | some v =>
   refine ⟨y,false,how,?_,.inl ⟨rfl,rfl,fun z h=>by rw [hy] at h;obtain rfl:=Option.some.inj h;unfold HhG;rw [hf];rfl⟩⟩
   rfl
def NNG (how:HowG):Prop:=∀ y v,mapFind (Ty.beq tGG) y how = some v→0 ≤ v.2.1
theorem NNG.put {how:HowG} (h:NNG how) (y x:GG) (i:Nat):NNG (mapPut (Ty.beq tGG) y (x,(i:Int),()) how):=by
 intro z v hv
 rw [find_put _ beqG] at hv
 split at hv
 · obtain rfl:=Option.some.inj hv
   show (0:Int) ≤ (i:Int)
   omega
 · exact h z v hv
abbrev CBG (t:Ty):=CbF t (.pair tGG (.pair .bool .unit))
def DoesG (N:Nat) (m:MM) (k:Nat) {t:Ty} (run:CBG t) (st:HowG→t.T):Prop :=
 ∀ (how:HowG) (x:GG) (i:Nat),VW m k x→i < k→∃ (y:GG) (ok:Bool) (how':HowG),run.f (st how) [.dat tGG x,.dat (.int .i64) (i:Int)] = some (st how',(y,ok,())) ∧
   ((ok = false∧how' = how∧∀ z,eG N m x i = some z→(HhG how z).isSome = true) ∨ (ok = true∧eG N m x i = some y∧VW m k y∧HhG how y = none∧how' = mapPut (Ty.beq tGG) y (x,(i:Int),()) how))
abbrev dG:GG:=((List.replicate 6 0),(List.replicate 6 0),())
theorem inputsG_loop {m:MM} {k:Nat} (hm:Pm m k) (N:Nat) {t:Ty} {run:CBG t} {st:HowG→t.T} (hd:DoesG N m k run st) {C:Type} (k0:List GG→Int→Int→List GG→GG→CBG t→t.T→GG→Int→Option C)
   (H0:GG→Option (GG×Nat)) (L:List GG) (hL:L.length ≤ 400000) (p:Nat) (x:GG) (hx:L[p]? = some x) (hv:VW m k x) (q1 q2:Int) (f:GG) :
   ∀ (F i:Nat) (how:HowG) (more:List GG),k - i < F→i ≤ k→BInv (eG N m) k H0 L p i (HhG how) more→NNG how→(∀ y ∈ more,VW m k y)→more.length ≤ p * k + i →
     ∃ (how':HowG) (more':List GG),BInv (eG N m) k H0 L p k (HhG how') more'∧NNG how'∧(∀ y ∈ more',VW m k y)∧more'.length ≤ p * k + k ∧
       g133xL416358f N F t k0 L q1 q2 (k:Int) (i:Int) more x run (st how) f (k:Int) = k0 L q1 q2 more' x run (st how') f (k:Int)
 | 0,i,how,more,hF,_,_,_,_,_=>by omega
 | F + 1,i,how,more,hF,hi,hB,hn,hmv,hl=>by
   have k3:=hm.k3
   have hp:p < L.length:=(List.getElem?_eq_some_iff.1 hx).1
   have hpk:p * k ≤ 400000 * 3:=Nat.mul_le_mul (by omega) k3
   rw [g133xL416358f_succ]
   unfold g133xL416358B
   by_cases hlt:i < k
   · obtain ⟨y,ok,how',e,hc⟩:=hd how x i hv hlt
     rw [ltT hlt,cond_true,e]
     simp only [Option.bind_some]
     rw [wn i (by omega)]
     rcases hc with ⟨rfl,rfl,hs⟩ | ⟨rfl,hy,hyv,hno,rfl⟩
     · rw [cond_false]
       exact inputsG_loop hm N hd k0 H0 L hL p x hx hv q1 q2 f F (i + 1) how' more (by omega) (by omega) (hB.skip x hx hs) hn hmv (by omega)
     · rw [cond_true,if_pos (by simp [maxCount];omega)]
       have hB':=hB.add x hx hlt y hy hno
       rw [← HhG_put] at hB'
       exact inputsG_loop hm N hd k0 H0 L hL p x hx hv q1 q2 f F (i + 1) _ (more ++ [y]) (by omega) (by omega) hB' (hn.put y x i) (fun z hz=>by
         rcases List.mem_append.1 hz with hz | hz
         · exact hmv z hz
         · rw [List.mem_singleton.1 hz];exact hyv) (by simp;omega)
   · rw [ltF hlt,cond_false]
     have:i = k:=by omega
     subst this
     exact ⟨how,more,hB,hn,hmv,hl,rfl⟩
theorem levelG_loop {m:MM} {k:Nat} (hm:Pm m k) (N:Nat) (hN:10 < N) {t:Ty} {run:CBG t} {st:HowG→t.T} (hd:DoesG N m k run st) {C:Type} (k0:List GG→CBG t→t.T→GG→Int→Option C)
   (H0:GG→Option (GG×Nat)) (L:List GG) (hL:L.length ≤ 400000) (hLv:∀ y ∈ L,VW m k y) (f:GG) :
   ∀ (F p:Nat) (how:HowG) (more:List GG),L.length - p < F→p ≤ L.length→BInv (eG N m) k H0 L p 0 (HhG how) more→NNG how→(∀ y ∈ more,VW m k y)→more.length ≤ p * k →
     ∃ (how':HowG) (more':List GG),BInv (eG N m) k H0 L L.length 0 (HhG how') more'∧NNG how'∧(∀ y ∈ more',VW m k y) ∧
       g133xL1626f N F t k0 L (L.length:Int) (p:Int) more run (st how) f (k:Int) = k0 more' run (st how') f (k:Int)
 | 0,p,how,more,hF,_,_,_,_,_=>by omega
 | F + 1,p,how,more,hF,hp,hB,hn,hmv,hl=>by
   have k3:=hm.k3
   rw [g133xL1626f_succ]
   unfold g133xL1626B
   by_cases hlt:p < L.length
   · have hx:L[p]? = some (L.getD p dG):=by rw [List.getElem?_eq_getElem hlt];simp [hlt]
     obtain ⟨how',more',b1,b2,b3,b4,e⟩:=inputsG_loop hm N hd (fun e3 e4 e5 e6 e7 e8 e9 e10 e11=>g133xL1626f N F t k0 e3 e4 (IntKind.wrap .i64 (e5 + 1)) e6 e8 e9 e10 e11) H0 L hL p (L.getD p dG) hx (hLv _ (getD_mem hlt _)) (L.length:Int) (p:Int) f N 0 how more (by omega) (by omega) hB hn hmv (by omega)
     rw [ltT hlt,cond_true,if_pos (idxT hlt),Int.toNat_natCast,g133xL416358_eq]
     refine Exists.imp (fun how2=>Exists.imp fun more2 h=>?_) (levelG_loop hm N hN hd k0 H0 L hL hLv f F (p + 1) how' more' (by omega) (by omega) b1.next b2 b3 (by rw [Nat.add_mul,Nat.one_mul];exact b4))
     refine ⟨h.1,h.2.1,h.2.2.1,?_⟩
     refine Eq.trans e ?_
     rw [wn p (by omega)]
     exact h.2.2.2
   · rw [ltF hlt,cond_false]
     have:p = L.length:=by omega
     subst this
     exact ⟨how,more,hB,hn,hmv,rfl⟩
theorem backG_loop (N:Nat) {C:Type} (k0:GG→MM→List Int→Bool→GG→List Int→HowG→((GG×Unit)→Option Bool)→Option C) (first:GG) (a:MM) (w0:List Int) (b0:Bool) (how:HowG) (hn:NNG how) (fd:(GG×Unit)→Option Bool) :
   ∀ (ws:List Nat) (y:GG) (F:Nat) (w:List Int),Bfs.Back (HhG how) first y ws→ws.length < F→w.length + ws.length ≤ 900000 →
     g91xL960924f N F k0 first a w0 b0 y w how fd = k0 first a w0 b0 first (w ++ ws.map fun i:Nat=>(i:Int)) how fd:=by
 intro ws
 induction ws with
 | nil =>
   intro y F w hb hF hl
   cases hb
   obtain ⟨F,rfl⟩:∃ F',F = F' + 1:=⟨F - 1,by simp at hF;omega⟩
   rw [g91xL960924f_succ]
   unfold g91xL960924B
   show (bif (!Ty.beq tGG first first) then _ else _) = _
   rw [beqG,decide_eq_true rfl]
   simp
 | cons i ws ih =>
   intro y F w hb hF hl
   obtain ⟨F,rfl⟩:∃ F',F = F' + 1:=⟨F - 1,by simp at hF;omega⟩
   cases hb with
   | cons hne hH hB =>
     rename_i x
     rw [g91xL960924f_succ]
     unfold g91xL960924B
     show (bif (!Ty.beq tGG y first) then (if w.length + [(Option.getD (mapFind (Ty.beq tGG) y how) (dG,0,())).2.1].length ≤ maxCount then g91xL960924f N F k0 first a w0 b0 (Option.getD (mapFind (Ty.beq tGG) y how) (dG,0,())).1 (w ++ [(Option.getD (mapFind (Ty.beq tGG) y how) (dG,0,())).2.1]) how fd else none) else _) = _
     rw [beqG,decide_eq_false hne,Bool.not_false,cond_true]
     unfold HhG at hH
     cases hf:mapFind (Ty.beq tGG) y how with
     | none=>rw [hf] at hH;cases hH
     | some v =>
       rw [hf] at hH
       have hH:=Option.some.inj hH
       have hv:=hn y v hf
       simp only [Prod.mk.injEq] at hH
       obtain ⟨h1,h2⟩:=hH
       simp only [List.length_cons] at hF hl
       simp only [Option.getD_some]
       rw [if_pos (by simp [maxCount];omega),h1,show v.2.1 = ((i:Nat):Int) by omega,ih x F _ hB (by omega) (by simp;omega)]
       simp
theorem rev_loop2 (N:Nat) {C:Type} (k0:List Int→Option C) (p:List Int) (hp:p.length ≤ 900000) :
   ∀ (F i:Nat),p.length - i < F→2 * i ≤ p.length + 1→g114xL6f N F k0 (i:Int) ((p.length:Int) - 1 - (i:Int)) (sw p i) = k0 p.reverse
 | 0,i,hF,_=>by omega
 | F + 1,i,hF,hi=>by
   rw [g114xL6f_succ]
   unfold g114xL6B
   by_cases hlt:2 * i + 1 < p.length
   · have e1:decide ((i:Int) < (p.length:Int) - 1 - (i:Int)) = true:=decide_eq_true (by omega)
     have ej:Int.toNat ((p.length:Int) - 1 - (i:Int)) = p.length - 1 - i:=by omega
     have hl:=sw_len p i
     rw [e1,cond_true,if_pos ⟨by omega,by omega⟩,if_pos (by omega),if_pos ⟨by omega,by omega⟩,if_pos (by omega),if_pos ⟨by omega,by omega⟩,if_pos (by omega),if_pos ⟨by omega,by rw [List.length_set];omega⟩,if_pos (by rw [List.length_set];omega),ej,Int.toNat_natCast,wn i (by omega),w64 (by omega) (by omega),sw_step p i hlt]
     have:=rev_loop2 N k0 p hp F (i + 1) (by omega) (by omega)
     rw [show (p.length:Int) - 1 - ((i + 1:Nat):Int) = (p.length:Int) - 1 - (i:Int) - 1 by omega] at this
     exact this
   · have e1:decide ((i:Int) < (p.length:Int) - 1 - (i:Int)) = false:=decide_eq_false (by omega)
     rw [e1,cond_false,sw_end p i (by omega)]
theorem reverse_eq2 (N:Nat) (p:List Int) (hN:p.length < N) (hp:p.length ≤ 900000):g114x N p = some ((),((),p.reverse,()),()):=by
 unfold g114x
 rw [g114xL6_eq,w64 (by omega) (by omega)]
 have:=rev_loop2 N (fun e1=>some (((()),((),e1,()),(())):(g114xS).R)) p hp N 0 (by omega) (by omega)
 rw [sw_zero] at this
 simp only [Int.natCast_zero,Int.sub_zero] at this
 exact this
theorem foundG_loop {m:MM} {k:Nat} (N:Nat) (hN:900000 < N) {C:Type} (k0 k1:GG→MM→List Int→Bool→HowG→((GG×Unit)→Option Bool)→Option C) (fd:(GG×Unit)→Option Bool) (p:GG→Bool) (hfd:∀ x,VW m k x→fd (x,()) = some (p x)) (L:List GG) (hL:L.length ≤ 400000) (hLv:∀ y ∈ L,VW m k y) (first:GG) (a:MM) (w0:List Int) (b0:Bool) (how:HowG) (hn:NNG how)
   (hback:∀ y ∈ L,p y = true→∃ ws,Bfs.Back (HhG how) first y ws∧ws.length ≤ 400000) :
   ∀ (F i:Nat),L.length - i < F→i ≤ L.length →
     ((∀ y ∈ L.drop i,p y = false)∧g91xL938f N F k0 k1 fd L (L.length:Int) (i:Int) first a w0 b0 how fd = k1 first a w0 b0 how fd) ∨
     ∃ y ∈ L,p y = true∧∃ ws,Bfs.Back (HhG how) first y ws∧g91xL938f N F k0 k1 fd L (L.length:Int) (i:Int) first a w0 b0 how fd = k0 first a (ws.reverse.map fun i:Nat=>(i:Int)) true how fd
 | 0,i,hF,_=>by omega
 | F + 1,i,hF,hi=>by
   rw [g91xL938f_succ]
   unfold g91xL938B
   by_cases hlt:i < L.length
   · have hm:=getD_mem hlt dG
     rw [ltT hlt,cond_true,if_pos (idxT hlt),Int.toNat_natCast,hfd _ (hLv _ hm)]
     simp only [Option.bind_some]
     rw [getD_drop L i dG hlt]
     cases hy:p (L.getD i dG) with
     | false =>
       simp only [Bool.not_false,cond_true]
       rw [wn i (by omega)]
       rcases foundG_loop N hN k0 k1 fd p hfd L hL hLv first a w0 b0 how hn hback F (i + 1) (by omega) (by omega) with ⟨h1,h2⟩ | h
       · refine .inl ⟨fun y hy'=>?_,h2⟩
         rcases List.mem_cons.1 hy' with rfl | hy'
         · exact hy
         · exact h1 y hy'
       · exact .inr h
     | true =>
       simp only [Bool.not_true,cond_false]
       obtain ⟨ws,hB,hl⟩:=hback _ hm hy
       refine .inr ⟨_,hm,hy,ws,hB,?_⟩
       rw [g91xL960924_eq,backG_loop N _ first a w0 b0 how hn fd ws _ N [] hB (by omega) (by simp;omega)]
       rw [reverse_eq2 N _ (by simp;omega) (by simp;omega)]
       simp [List.map_reverse]
   · rw [ltF hlt,cond_false,List.drop_eq_nil_of_le (by omega)]
     exact .inl ⟨by simp,rfl⟩
end Go.Pv
namespace Go.Pv
open Bfs
theorem Back_uniqG {H:GG→Option (GG×Nat)} {first:GG}:∀ {y:GG} {ws vs:List Nat},Bfs.Back H first y ws→Bfs.Back H first y vs→ws = vs:=by
 intro y ws vs h
 induction h generalizing vs with
 | nil =>
   intro h2
   cases h2 with
   | nil=>rfl
   | cons hne _ _=>exact absurd rfl hne
 | cons hne hH hB ih =>
   intro h2
   cases h2 with
   | nil=>exact absurd rfl hne
   | cons hne2 hH2 hB2 =>
     rw [hH] at hH2
     obtain ⟨rfl,rfl⟩:=Prod.mk.inj (Option.some.inj hH2)
     rw [ih hB2]
def EndsG (N:Nat) (m:MM) (k:Nat) (p:GG→Bool) (first:GG) (ws:List Nat):Prop:=∃ y,run (eG N m) k first ws = some y∧p y = true∧∀ d,d < ws.length→∀ z,R (eG N m) k first d z→p z = false
def NeverG (N:Nat) (m:MM) (k:Nat) (p:GG→Bool) (first:GG):Prop:=∀ d z,R (eG N m) k first d z→p z = false
theorem levelsG_loop {m:MM} {k:Nat} (hm:Pm m k) (h5:m.1.length ≤ 5) (N:Nat) (hN:900000 < N) {t:Ty} {run0:CBG t} {st:HowG→t.T} {stF:List Int→HowG→t.T} (hd:DoesG N m k run0 st) (p:GG→Bool) (first:GG)
   (hy0:∀ how L,(∀ y ∈ L,p y = false)→NNG how→L.length ≤ 400000→(∀ y ∈ L,VW m k y)→run0.y (st how) [.dat (.lst tGG) L] = some (st how,true))
   (hy1:∀ how L,NNG how→L.length ≤ 400000→(∀ y ∈ L,VW m k y)→(∀ y ∈ L,p y = true→∃ ws,Bfs.Back (HhG how) first y ws∧ws.length ≤ 400000)→¬ (∀ y ∈ L,p y = false)→∃ y ∈ L,p y = true∧∃ ws,Bfs.Back (HhG how) first y ws∧run0.y (st how) [.dat (.lst tGG) L] = some (stF (ws.reverse.map fun i:Nat=>(i:Int)) how,false))
   {C:Type} (k0 k1:CBG t→t.T→GG→Int→Option C) (f:GG) :
   ∀ (F j:Nat) (how:HowG) (L K:List GG),375001 - j < F→LInv (eG N m) k first j (HhG how) L→NNG how→L.Nodup→(∀ y ∈ L,VW m k y)→K.Nodup→(∀ y ∈ K,VW m k y∧(HhG how y).isSome = true)→j + L.length ≤ K.length→(∀ d,d < j→∀ z,R (eG N m) k first d z→p z = false) →
     (∃ ws how',(EndsG N m k p first ws∧ws.length ≤ 375000)∧g133xL6f N F t k0 k1 L run0 (st how) f (k:Int) = k0 run0 (stF (ws.map fun i:Nat=>(i:Int)) how') f (k:Int)) ∨
     (∃ how',NeverG N m k p first∧g133xL6f N F t k0 k1 L run0 (st how) f (k:Int) = k1 run0 (st how') f (k:Int))
 | 0,j,how,L,K,hF,_,_,_,_,_,_,hjK,_=>by omega
 | F + 1,j,how,L,K,hF,hI,hn,hLn,hLv,hKn,hKv,hjK,hno=>by
   have hK72:=fewG h5 hKn (fun y hy=>(hKv y hy).1.1)
   have hL72:=fewG h5 hLn (fun y hy=>(hLv y hy).1)
   rw [g133xL6f_succ]
   unfold g133xL6B
   by_cases hl0:L.length = 0
   · have e1:decide ((0:Int) < ((L.length:Nat):Int)) = false:=decide_eq_false (by omega)
     rw [e1,cond_false]
     refine .inr ⟨how,?_,rfl⟩
     obtain rfl:=List.eq_nil_of_length_eq_zero hl0
     intro d z hr
     obtain ⟨d',hd',hr'⟩:=hI.all d z hr
     exact hno d' hd' z hr'
   · have e1:decide ((0:Int) < ((L.length:Nat):Int)) = true:=decide_eq_true (by omega)
     have hj:j ≤ 375000:=by omega
     have hback:∀ y ∈ L,p y = true→∃ ws,Bfs.Back (HhG how) first y ws∧ws.length ≤ 400000:=fun y hy _=>by
       obtain ⟨h1,h2⟩:=(hI.level y).1 hy
       obtain ⟨ws,w1,w2,_⟩:=hI.back j y (Nat.le_refl j) h1 h2
       exact ⟨ws,w1,by omega⟩
     rw [e1,cond_true]
     by_cases hall:∀ y ∈ L,p y = false
     · show (_ ∨ _)
       have ey:run0.y (st how) [.dat (.lst (.pair (.arr 6 (.int .i64)) (.pair (.arr 6 (.int .i64)) .unit))) L] = some (st how,true):=hy0 how L hall hn (by omega) hLv
       rw [ey]
       simp only [Option.bind_some,Bool.not_true,cond_false]
       rw [g133xL1626_eq]
       obtain ⟨how',more,b1,b2,b3,e⟩:=levelG_loop hm N (by omega) hd (fun e12 e13 e14 e15 e16=>g133xL6f N F t k0 k1 e12 e13 e14 e15 e16) (HhG how) L (by omega) hLv f N 0 how [] (by omega) (by omega) (BInv.start (HhG how) L) hn (by simp) (by simp)
       simp only [Int.natCast_zero] at e
       rw [e]
       have hno':∀ d,d < j + 1→∀ z,R (eG N m) k first d z→p z = false:=fun d hd' z hr=>by
         by_cases hdj:d < j
         · exact hno d hdj z hr
         · obtain rfl:d = j:=by omega
           by_cases hex:∃ d',d' < d∧R (eG N m) k first d' z
           · obtain ⟨d',h1,h2⟩:=hex
             exact hno d' h1 z h2
           · exact hall z ((hI.level z).2 ⟨hr,fun d' h1 h2=>hex ⟨d',h1,h2⟩⟩)
       have hold:∀ y,(HhG how y).isSome = true→(HhG how' y).isSome = true:=fun y hy=>by
         obtain ⟨v,hv⟩:=Option.isSome_iff_exists.1 hy
         rw [b1.old y v hv];rfl
       exact levelsG_loop hm h5 N hN hd p first hy0 hy1 k0 k1 f F (j + 1) how' more (K ++ more) (by omega) (hI.step b1) b2 b1.nodup b3
         (by
           rw [List.nodup_append]
           refine ⟨hKn,b1.nodup,fun y hy z hz hyz=>?_⟩
           subst hyz
           have h1:=((b1.new y).1 hz).2
           have h2:=(hKv y hy).2
           rw [h1] at h2;cases h2)
         (fun y hy=>by
           rcases List.mem_append.1 hy with hy | hy
           · exact ⟨(hKv y hy).1,hold y (hKv y hy).2⟩
           · exact ⟨b3 y hy,((b1.new y).1 hy).1⟩)
         (by rw [List.length_append];omega) hno'
     · obtain ⟨y,hy,hyt,ws,hB,e⟩:=hy1 how L hn (by omega) hLv hback hall
       obtain ⟨h1,h2⟩:=(hI.level y).1 hy
       obtain ⟨vs,w1,w2,w3⟩:=hI.back j y (Nat.le_refl j) h1 h2
       obtain rfl:=Back_uniqG hB w1
       have e:run0.y (st how) [.dat (.lst (.pair (.arr 6 (.int .i64)) (.pair (.arr 6 (.int .i64)) .unit))) L] = some (stF (ws.reverse.map fun i:Nat=>(i:Int)) how,false):=e
       rw [e]
       refine .inl ⟨ws.reverse,how,⟨⟨y,w3,hyt,fun d hd' z hr=>hno d (by simp at hd';omega) z hr⟩,by simp;omega⟩,rfl⟩
abbrev tStG:Ty:=(.pair (.int .i64) (tyO [.box (.d tGG) (.a (.d tGG)),.box .leaf (.fn 93 [.p (.pair (.lst (.lst (.int .i64))) (.pair (.lst (.lst (.int .i64))) .unit))]),.box (.d (.lst (.int .i64))) (.a (.d (.lst (.int .i64)))),.box (.d .bool) (.a (.d .bool)),.box .leaf (.a (.mp 15 0)),.map tGG (.pair tGG (.pair (.int .i64) .unit)),.gone]))
noncomputable abbrev runG (N:Nat) (fd:(GG×Unit)→Option Bool):CBG tStG:=⟨(g91xR58 N).told.run [(.ref 4 0 []),(.eptr (.clo (.pair tGG .unit) .bool fd)),(.ref 8 0 []),(.ref 9 0 []),(.ref 10 0 []),(.ref 7 0 [])],(g91xR58 N).told.f [(.ref 4 0 []),(.eptr (.clo (.pair tGG .unit) .bool fd)),(.ref 8 0 []),(.ref 9 0 []),(.ref 10 0 []),(.ref 7 0 [])]⟩
abbrev stAG (first:GG) (a:MM) (how:HowG):tStG.T:=((0:Int),(first,(a,()),([]:List Int),false,(),how,(),()))
abbrev stBG (first:GG) (a:MM) (w:List Int) (how:HowG):tStG.T:=((1:Int),(first,(a,()),w,true,(),how,(),()))
theorem searchG_eq {m:MM} {k:Nat} (hm:Pm m k) (h5:m.1.length ≤ 5) (N:Nat) (hN:900000 < N) (fd:(GG×Unit)→Option Bool) (p:GG→Bool) (hfd:∀ x,VW m k x→fd (x,()) = some (p x)) :
   ∃ first,Gr m [] first∧VW m k first∧((∃ ws,(EndsG N m k p first ws∧ws.length ≤ 375000)∧g64 N m fd = some (ws.map fun i:Nat=>(i:Int),true,())) ∨
   (NeverG N m k p first∧g64 N m fd = some ([],false,()))):=by
 obtain ⟨first,e0,hg0,hv0⟩:=hm.begun2 N (by omega)
 have hv:VW m k first:=⟨hv0,[],by simp [InW],hg0⟩
 refine ⟨first,hg0,hv,?_⟩
 obtain ⟨how0,hhow0⟩:∃ h:HowG,h = mapPut (Ty.beq tGG) first (dG,0,()) []:=⟨_,rfl⟩
 have hH0:∀ y,(HhG how0 y).isSome = true ↔ y = first:=fun y=>by
   unfold HhG
   rw [hhow0,find_put _ beqG]
   by_cases h:y = first
   · rw [if_pos h];simp [h]
   · rw [if_neg h];simp [mapFind,h]
 have hN0:NNG how0:=fun y v hv=>by
   rw [hhow0,find_put _ beqG] at hv
   split at hv
   · obtain rfl:=Option.some.inj hv;exact Int.le_refl 0
   · cases hv
 unfold g64
 rw [e0]
 simp only [Option.bind_some]
 rw [hm.inputs N]
 simp only [Option.bind_some]
 unfold g91x g112x
 simp only [Option.bind_some]
 rw [show mapPut (Ty.beq (.pair (.arr 6 (.int .i64)) (.pair (.arr 6 (.int .i64)) .unit))) first (((List.replicate 6 0),(List.replicate 6 0),()),0,()) [] = how0 from hhow0.symm]
 unfold g133x
 rw [g133xL6_eq]
 have hd:DoesG N m k (runG N fd) (stAG first m):=by
   intro how x i hx hi
   obtain ⟨y,ok,how',e,hc⟩:=cbG_eq hm N (by omega) hx hi how
   refine ⟨y,ok,how',?_,hc⟩
   refine (g91xR58_f N fd first m [] false how 0 x (i:Int)).trans ?_
   rw [if_pos rfl]
   unfold g91xR58F
   rw [e]
   rfl
 have hy0:∀ how L,(∀ y ∈ L,p y = false)→NNG how→L.length ≤ 400000→(∀ y ∈ L,VW m k y)→(runG N fd).y (stAG first m how) [.dat (.lst tGG) L] = some (stAG first m how,true):=by
   intro how L hall hn hl hLv
   refine (g91xR58_run N fd first m [] false how 0 L).trans ?_
   rw [if_pos rfl]
   unfold g91xR58B
   rw [g91xL938_eq]
   rcases foundG_loop N hN (fun e12 e13 e14 e15 e16 e17=>some (((1:Int),(e12,(e13,()),e14,e15,(),e16,(),())),false)) (fun e18 e19 e20 e21 e22 e23=>some (((0:Int),(e18,(e19,()),e20,e21,(),e22,(),())),true)) fd p hfd L hl hLv first m [] false how hn (fun y hy ht=>by rw [hall y hy] at ht;cases ht) N 0 (by omega) (by omega) with ⟨_,e⟩ | ⟨y,hy,ht,_⟩
   · exact e
   · rw [hall y hy] at ht;cases ht
 have hy1:∀ how L,NNG how→L.length ≤ 400000→(∀ y ∈ L,VW m k y)→(∀ y ∈ L,p y = true→∃ ws,Bfs.Back (HhG how) first y ws∧ws.length ≤ 400000)→¬ (∀ y ∈ L,p y = false)→∃ y ∈ L,p y = true∧∃ ws,Bfs.Back (HhG how) first y ws∧(runG N fd).y (stAG first m how) [.dat (.lst tGG) L] = some (stBG first m (ws.reverse.map fun i:Nat=>(i:Int)) how,false):=by
   intro how L hn hl hLv hback hnall
   rcases foundG_loop N hN (fun e12 e13 e14 e15 e16 e17=>some (((1:Int),(e12,(e13,()),e14,e15,(),e16,(),())),false)) (fun e18 e19 e20 e21 e22 e23=>some (((0:Int),(e18,(e19,()),e20,e21,(),e22,(),())),true)) fd p hfd L hl hLv first m [] false how hn hback N 0 (by omega) (by omega) with ⟨h,_⟩ | ⟨y,hy,ht,ws,hB,e⟩
   · exact absurd (by simpa using h) hnall
   · refine ⟨y,hy,ht,ws,hB,?_⟩
     refine (g91xR58_run N fd first m [] false how 0 L).trans ?_
     rw [if_pos rfl]
     unfold g91xR58B
     rw [g91xL938_eq]
     exact e
 have main:=levelsG_loop hm h5 N hN hd p first hy0 hy1 (C:=(g133xS tStG).R) (fun e17 e18 e19 e20=>some ((()),((e17,e18),e19,e20,(),()),(()))) (fun e21 e22 e23 e24=>some ((()),((e21,e22),e23,e24,(),()),(()))) first N 0 how0 [first] [first] (by omega) (LInv.start (HhG how0) hH0) hN0 (by simp) (fun y hy=>by rw [List.mem_singleton.1 hy];exact hv) (by simp) (fun y hy=>by rw [List.mem_singleton.1 hy];exact ⟨hv,(hH0 first).2 rfl⟩) (by simp) (fun d hd=>by omega)
 rcases main with ⟨ws,how',hE,e⟩ | ⟨how',hE,e⟩
 · refine .inl ⟨ws,hE,?_⟩
   refine Eq.trans (congrArg (fun o=>Option.bind (Option.bind o _) _) e) ?_
   rfl
 · refine .inr ⟨hE,?_⟩
   refine Eq.trans (congrArg (fun o=>Option.bind (Option.bind o _) _) e) ?_
   rfl
end Go.Pv
namespace Go.Pv
theorem Pm.say_loop2 {x:MM} {k:Nat} (h:Pm x k) (N:Nat) {C:Type} (k0:Int→MM→List Int→Option C) (w:List Int) (hw:InW k w) (hl:w.length ≤ 900000) :
   ∀ (F i:Nat) (s:Int) (o:List Int),w.length - i < F→i ≤ w.length→0 ≤ s→s < (x.1.length:Int)→o.length = i →
     g28L58f N F k0 s w (i:Int) x o = k0 (sayL x s (w.drop i)).2 x (o ++ (sayL x s (w.drop i)).1)
 | 0,i,s,o,hF,_,_,_,_=>by omega
 | F + 1,i,s,o,hF,hi,s0,s1,ho=>by
   rw [g28L58f_succ]
   unfold g28L58B
   by_cases hlt:i < w.length
   · obtain ⟨i0,i1⟩:=hw _ (getD_mem hlt 0)
     obtain ⟨q1,q2,q3,q4,n,_⟩:=h.step s0 s1 i0 i1
     rw [ltT hlt,cond_true,if_pos q2,if_pos (idxT hlt),Int.toNat_natCast,if_pos q4,if_pos (by simp [maxCount];omega),if_pos q1,if_pos (idxT hlt),if_pos q3,wn i (by omega)]
     show g28L58f N F k0 (nx x s (w.getD i 0)) w ((i + 1:Nat):Int) x (o ++ [ou x s (w.getD i 0)]) = _
     rw [h.say_loop2 N k0 w hw hl F (i + 1) (nx x s (w.getD i 0)) (o ++ [ou x s (w.getD i 0)]) (by omega) (by omega) n.1 n.2 (by simp [ho]),getD_drop w i 0 hlt]
     simp [sayL]
   · rw [ltF hlt,cond_false,List.drop_eq_nil_of_le (by omega)]
     simp [sayL]
theorem Pm.say2 {x:MM} {k:Nat} (h:Pm x k) (N:Nat) (hN:900000 < N) (w:List Int) (hw:InW k w) (hl:w.length ≤ 900000) (s:Int) (s0:0 ≤ s) (s1:s < (x.1.length:Int)):g28 N x s w = some ((sayL x s w).1,(sayL x s w).2,()):=by
 unfold g28
 rw [g28L58_eq]
 have:=h.say_loop2 N (fun e1 e2 e3=>some (e3,e1,())) w hw hl N 0 s [] (by omega) (by omega) s0 s1 rfl
 simpa using this
theorem eq20_loop2 (N:Nat) {C:Type} (k0:Bool→Option C) (k1:Option C) (a b:List Int) (hab:a.length = b.length) (hc:a.length ≤ 900000) :
   ∀ (F i:Nat),a.length - i < F→i ≤ a.length→g20L58f N F k0 k1 a b (i:Int) = if a.drop i = b.drop i then k1 else k0 false
 | 0,i,h,_=>by omega
 | F + 1,i,h,hi=>by
   rw [g20L58f_succ]
   unfold g20L58B
   by_cases hlt:i < a.length
   · rw [ltT hlt,cond_true,if_pos (idxT hlt),if_pos (idxT (hab ▸ hlt)),Int.toNat_natCast,wn i (by omega)]
     by_cases he:a.getD i 0 = b.getD i 0
     · rw [show ieq (a.getD i 0) (b.getD i 0) = true from decide_eq_true he,Bool.not_true,cond_false]
       refine (eq20_loop2 N k0 k1 a b hab hc F (i + 1) (by omega) (by omega)).trans ?_
       by_cases h2:a.drop (i + 1) = b.drop (i + 1)
       · rw [if_pos h2,if_pos ((drop_eq_cons hlt (hab ▸ hlt)).2 ⟨he,h2⟩)]
       · rw [if_neg h2,if_neg fun h'=>h2 ((drop_eq_cons hlt (hab ▸ hlt)).1 h').2]
     · rw [show ieq (a.getD i 0) (b.getD i 0) = false from decide_eq_false he,Bool.not_false,cond_true,if_neg]
       intro h'
       exact he ((drop_eq_cons hlt (hab ▸ hlt)).1 h').1
   · rw [ltF hlt,cond_false,if_pos]
     rw [List.drop_eq_nil_of_le (by omega),List.drop_eq_nil_of_le (by omega)]
theorem eq202 (N:Nat) (a b:List Int) (hc:a.length ≤ 900000) (hN:900000 < N):g20 N a b = some (decide (a = b)):=by
 unfold g20
 by_cases h:a.length = b.length
 · rw [show ieq ((a.length:Nat):Int) ((b.length:Nat):Int) = true from decide_eq_true (by omega),Bool.not_true,cond_false,g20L58_eq]
   have:=eq20_loop2 N (fun e1=>some e1) (some true) a b h hc N 0 (by omega) (by omega)
   simp only [Int.natCast_zero,List.drop_zero] at this
   rw [this]
   by_cases he:a = b <;> simp [he]
 · rw [show ieq ((a.length:Nat):Int) ((b.length:Nat):Int) = false from decide_eq_false (by omega),Bool.not_false,cond_true]
   rw [decide_eq_false (fun he=>h (by rw [he]))]
theorem Pm.say_at2 {x:MM} {k:Nat} (h:Pm x k) (N:Nat) (hN:900000 < N) (w:List Int) (hw:InW k w) (hl:w.length ≤ 900000) (s:Nat) (hs:s < x.1.length):g28 N x (s:Int) w = some (sd x w s,en x w s,()):=h.say2 N hN w hw hl s (by omega) (by omega)
theorem Pm.rend_inner2 {x:MM} {k:Nat} (h:Pm x k) (N:Nat) (hN:900000 < N) (w:List Int) (hw:InW k w) (hl:w.length ≤ 900000) {C:Type} (k0:List Int→Bool→Int→MM→Option C) (k1:List Int→Int→MM→Option C) (s:Nat) (hs:s < x.1.length) :
   ∀ (F i:Nat),s - i < F→i ≤ s→g34L3366f N F k0 k1 w (s:Int) (sd x w s) (en x w s) (i:Int) x =
     bif allN (s - i) i (fun t=>!(decide (sd x w s = sd x w t) && !decide (en x w s = en x w t))) then k1 w (s:Int) x else k0 w false (s:Int) x
 | 0,i,hF,_=>by omega
 | F + 1,i,hF,hi=>by
   have:=h.n6
   rw [g34L3366f_succ]
   unfold g34L3366B
   by_cases hlt:i < s
   · rw [ltT hlt,cond_true,h.say_at2 N hN w hw hl i (by omega)]
     simp only [Option.bind_some]
     rw [eq202 N _ _ (by rw [sd_len];omega) hN,wn i (by omega),allN_step hlt]
     simp only [Option.bind_some]
     by_cases h1:sd x w s = sd x w i
     · rw [decide_eq_true h1,cond_true,Bool.true_and]
       by_cases h2:en x w s = en x w i
       · rw [show ieq (en x w s) (en x w i) = true from decide_eq_true h2,decide_eq_true h2]
         simp only [Bool.not_true,Bool.not_false,cond_false,Bool.true_and]
         exact h.rend_inner2 N hN w hw hl k0 k1 s hs F (i + 1) (by omega) (by omega)
       · rw [show ieq (en x w s) (en x w i) = false from decide_eq_false h2,decide_eq_false h2]
         rfl
     · rw [decide_eq_false h1,cond_false]
       simp only [Bool.false_and,Bool.not_false,Bool.true_and]
       exact h.rend_inner2 N hN w hw hl k0 k1 s hs F (i + 1) (by omega) (by omega)
   · rw [ltF hlt,cond_false,allN_end hlt];rfl
theorem Pm.rend_outer2 {x:MM} {k:Nat} (h:Pm x k) (N:Nat) (hN:900000 < N) (w:List Int) (hw:InW k w) (hl:w.length ≤ 900000) {C:Type} (k0:Bool→MM→Option C) (k1:MM→Option C) :
   ∀ (F i:Nat),x.1.length - i < F→i ≤ x.1.length→g34L26f N F k0 k1 w (i:Int) x =
     bif allN (x.1.length - i) i (fun s=>allN s 0 (fun t=>!(decide (sd x w s = sd x w t) && !decide (en x w s = en x w t)))) then k1 x else k0 false x
 | 0,i,hF,_=>by omega
 | F + 1,i,hF,hi=>by
   have:=h.n6
   rw [g34L26f_succ]
   unfold g34L26B
   by_cases hlt:i < x.1.length
   · rw [ltT hlt,cond_true,h.say_at2 N hN w hw hl i hlt]
     simp only [Option.bind_some]
     rw [g34L3366_eq]
     have e:=h.rend_inner2 N hN w hw hl (fun e4 e5 e6 e7=>k0 e5 e7) (fun e8 e9 e10=>g34L26f N F k0 k1 e8 (IntKind.wrap .i64 (e9 + 1)) e10) i hlt N 0 (by omega) (by omega)
     simp only [Int.natCast_zero,Nat.sub_zero] at e
     rw [allN_step hlt]
     refine Eq.trans e ?_
     cases allN i 0 (fun t=>!(decide (sd x w i = sd x w t) && !decide (en x w i = en x w t))) with
     | false=>rfl
     | true =>
       rw [cond_true,Bool.true_and,wn i (by omega)]
       exact h.rend_outer2 N hN w hw hl k0 k1 F (i + 1) (by omega) (by omega)
   · rw [ltF hlt,cond_false,allN_end hlt];rfl
theorem Pm.refEnd2 {x:MM} {k:Nat} (h:Pm x k) (N:Nat) (hN:900000 < N) (w:List Int) (hw:InW k w) (hl:w.length ≤ 900000):g34 N x w = some (allN x.1.length 0 (fun s=>allN s 0 (fun t=>!(decide (sd x w s = sd x w t) && !decide (en x w s = en x w t))))):=by
 have:=h.n6
 unfold g34
 rw [g34L26_eq]
 have e:=h.rend_outer2 N hN w hw hl (fun e11 e12=>some e11) (fun e13=>some true) N 0 (by omega) (by omega)
 simp only [Int.natCast_zero,Nat.sub_zero] at e
 rw [e]
 cases allN x.1.length 0 (fun s=>allN s 0 (fun t=>!(decide (sd x w s = sd x w t) && !decide (en x w s = en x w t)))) <;> rfl
theorem Pm.rstate_loop2 {x:MM} {k:Nat} (h:Pm x k) (N:Nat) (hN:900000 < N) (w:List Int) (hw:InW k w) (hl:w.length ≤ 900000) {C:Type} (k0:Bool→MM→Option C) (k1:MM→Option C) (s:Nat) :
   ∀ (F i:Nat),x.1.length - i < F→i ≤ x.1.length→g36L58f N F k0 k1 (s:Int) w (sd x w s) (i:Int) x = bif allN (x.1.length - i) i (fun t=>decide (t = s) || !decide (sd x w t = sd x w s)) then k1 x else k0 false x
 | 0,i,hF,_=>by omega
 | F + 1,i,hF,hi=>by
   have:=h.n6
   rw [g36L58f_succ]
   unfold g36L58B
   by_cases hlt:i < x.1.length
   · rw [ltT hlt,cond_true,h.say_at2 N hN w hw hl i hlt]
     simp only [Option.bind_some]
     rw [wn i (by omega),allN_step hlt]
     by_cases h1:i = s
     · rw [show ieq (i:Int) (s:Int) = true from decide_eq_true (by omega),Bool.not_true,cond_false,decide_eq_true h1,Bool.true_or,Bool.true_and]
       exact h.rstate_loop2 N hN w hw hl k0 k1 s F (i + 1) (by omega) (by omega)
     · rw [show ieq (i:Int) (s:Int) = false from decide_eq_false (by omega),Bool.not_false,cond_true,decide_eq_false h1,Bool.false_or,eq202 N _ _ (by rw [sd_len];omega) hN]
       simp only [Option.bind_some]
       by_cases h2:sd x w i = sd x w s
       · rw [decide_eq_true h2,decide_eq_true h2.symm];rfl
       · rw [decide_eq_false h2,decide_eq_false (fun e=>h2 e.symm),cond_false,Bool.not_false,Bool.true_and]
         exact h.rstate_loop2 N hN w hw hl k0 k1 s F (i + 1) (by omega) (by omega)
   · rw [ltF hlt,cond_false,allN_end hlt];rfl
theorem Pm.refState2 {x:MM} {k:Nat} (h:Pm x k) (N:Nat) (hN:900000 < N) (w:List Int) (hw:InW k w) (hl:w.length ≤ 900000) (s:Nat) (hs:s < x.1.length):g36 N x (s:Int) w = some (allN x.1.length 0 (fun t=>decide (t = s) || !decide (sd x w t = sd x w s))):=by
 have:=h.n6
 unfold g36
 rw [h.say_at2 N hN w hw hl s hs]
 simp only [Option.bind_some]
 rw [g36L58_eq]
 have e:=h.rstate_loop2 N hN w hw hl (fun e4 e5=>some e4) (fun e6=>some true) s N 0 (by omega) (by omega)
 simp only [Int.natCast_zero,Nat.sub_zero] at e
 rw [e]
 cases allN x.1.length 0 (fun t=>decide (t = s) || !decide (sd x w t = sd x w s)) <;> rfl
theorem Pm.rbegin_loop2 {x:MM} {k:Nat} (h:Pm x k) (N:Nat) (hN:900000 < N) (w:List Int) (hw:InW k w) (hl:w.length ≤ 900000) {C:Type} (k0:Bool→MM→Option C) (k1:MM→Option C) :
   ∀ (F i:Nat),x.1.length - i < F→i ≤ x.1.length→g35L26f N F k0 k1 w (i:Int) x = bif allN (x.1.length - i) i (fun s=>allN x.1.length 0 (fun t=>decide (t = s) || !decide (sd x w t = sd x w s))) then k1 x else k0 false x
 | 0,i,hF,_=>by omega
 | F + 1,i,hF,hi=>by
   have:=h.n6
   rw [g35L26f_succ]
   unfold g35L26B
   by_cases hlt:i < x.1.length
   · rw [ltT hlt,cond_true,h.refState2 N hN w hw hl i hlt]
     simp only [Option.bind_some]
     rw [wn i (by omega),allN_step hlt]
     cases allN x.1.length 0 (fun t=>decide (t = i) || !decide (sd x w t = sd x w i)) with
     | false=>rfl
     | true =>
       simp only [Bool.not_true,cond_false,Bool.true_and]
       exact h.rbegin_loop2 N hN w hw hl k0 k1 F (i + 1) (by omega) (by omega)
   · rw [ltF hlt,cond_false,allN_end hlt];rfl
theorem Pm.refBeginning2 {x:MM} {k:Nat} (h:Pm x k) (N:Nat) (hN:900000 < N) (w:List Int) (hw:InW k w) (hl:w.length ≤ 900000):g35 N x w = some (allN x.1.length 0 (fun s=>allN x.1.length 0 (fun t=>decide (t = s) || !decide (sd x w t = sd x w s)))):=by
 have:=h.n6
 unfold g35
 rw [g35L26_eq]
 have e:=h.rbegin_loop2 N hN w hw hl (fun e2 e3=>some e2) (fun e4=>some true) N 0 (by omega) (by omega)
 simp only [Int.natCast_zero,Nat.sub_zero] at e
 rw [e]
 cases allN x.1.length 0 (fun s=>allN x.1.length 0 (fun t=>decide (t = s) || !decide (sd x w t = sd x w s))) <;> rfl
end Go.Pv
