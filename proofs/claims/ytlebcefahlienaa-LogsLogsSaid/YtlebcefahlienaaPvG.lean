/- The purifying layer, part 7: variables' contents. -/
import Derived.Test.YtlebcefahlienaaPvF
set_option linter.unusedVariables false
set_option linter.unusedSimpArgs false
namespace Go.Pv
variable {A:E}
theorem repF_size {v:V} {t:Option Ty} {cs:List Value} (hf:v.fitsF t = true) (h:RepF A v cs):cs.length = fsize t:=by
 cases v
 case dat u x =>
   have hs:=RepC.size u x cs h
   cases t with
   | some t=>simp [V.fitsF] at hf;subst hf;exact hs
   | none=>cases u <;> simp [V.fitsF] at hf;exact hs
 all_goals
   simp only [RepF] at h
   obtain ⟨u,rfl,_⟩:=h
   cases t with
   | none=>rfl
   | some t=>cases t <;> simp [V.fitsF] at hf <;> rfl
theorem repF_one {v:V} {cs:List Value} (h:RepF A v cs):∀ u ∈ cs,u.oneCell' = true:=by
 cases v
 case dat u x=>exact RepC.one u x cs h
 all_goals
   simp only [RepF] at h
   obtain ⟨u,rfl,h1,_⟩:=h
   simpa using h1
theorem fieldAt_ffield:∀ (t:Ty) (j o:Nat) (u:Ty),t.fieldAt j = some (o,u)→ffield (t.fields.map some) j = some (o,some u)
 | .pair a b,0,o,u,h=>by simp [Ty.fieldAt] at h;obtain ⟨rfl,rfl⟩:=h;rfl
 | .pair a b,j + 1,o,u,h=>by
   simp only [Ty.fieldAt,Option.map_eq_some_iff] at h
   obtain ⟨⟨o2,u2⟩,g1,g2⟩:=h
   simp only [Prod.mk.injEq] at g2
   obtain ⟨rfl,rfl⟩:=g2
   simp only [Ty.fields,List.map_cons,ffield,fieldAt_ffield b j o2 u2 g1,Option.map_some,fsize]
theorem flds_rep:∀ (fs:List V) (ts:List (Option Ty)) (j o:Nat) (ft:Option Ty) (cells:List Value),fitsL fs ts = true→ffield ts j = some (o,ft)→All2 (RepF A) fs cells →
   ∃ v,fs[j]? = some v∧v.fitsF ft = true∧RepF A v ((cells.drop o).take (fsize ft))∧o + fsize ft ≤ cells.length
 | v :: vs,t :: ts,0,o,ft,cells,hf,h,⟨c1,c2,he,h1,h2⟩=>by
   subst he
   simp only [ffield,Option.some.injEq,Prod.mk.injEq] at h
   obtain ⟨rfl,rfl⟩:=h
   simp only [fitsL,Bool.and_eq_true] at hf
   have hs:=repF_size hf.1 h1
   refine ⟨v,rfl,hf.1,?_,by simp [hs]⟩
   rw [List.drop_zero,← hs,List.take_left];exact h1
 | v :: vs,t :: ts,j + 1,o,ft,cells,hf,h,⟨c1,c2,he,h1,h2⟩=>by
   subst he
   simp only [ffield,Option.map_eq_some_iff] at h
   obtain ⟨⟨o2,u2⟩,g1,g2⟩:=h
   simp only [Prod.mk.injEq] at g2
   obtain ⟨rfl,rfl⟩:=g2
   simp only [fitsL,Bool.and_eq_true] at hf
   have hs:=repF_size hf.1 h1
   obtain ⟨v',k1,k2,k3,k4⟩:=flds_rep vs ts j o2 u2 c2 hf.2 g1 h2
   refine ⟨v',by simpa using k1,k2,?_,by simp [hs];omega⟩
   rw [← hs,List.drop_length_add_append];exact k3
 | [],[],j,o,ft,cells,hf,h,hc=>by simp [ffield] at h
 | [],t :: ts,j,o,ft,cells,hf,h,hc=>by simp [fitsL] at hf
 | v :: vs,[],j,o,ft,cells,hf,h,hc=>by simp [fitsL] at hf
theorem flds_set:∀ (fs:List V) (ts:List (Option Ty)) (j o:Nat) (ft:Option Ty) (cells:List Value) (v':V) (d:List Value) (o':Nat),fitsL fs ts = true→ffield ts j = some (o,ft)→All2 (RepF A) fs cells →
   o' + d.length ≤ fsize ft→(∀ v c,fs[j]? = some v→RepF A v c→RepF A v' (seg c o' d))→All2 (RepF A) (fs.set j v') (seg cells (o + o') d)
 | v :: vs,t :: ts,0,o,ft,cells,v',d,o',hf,h,⟨c1,c2,he,h1,h2⟩,hl,hv=>by
   subst he
   simp only [ffield,Option.some.injEq,Prod.mk.injEq] at h
   obtain ⟨rfl,rfl⟩:=h
   simp only [fitsL,Bool.and_eq_true] at hf
   have hs:=repF_size hf.1 h1
   exact ⟨seg c1 o' d,c2,by rw [Nat.zero_add];exact seg_left _ _ _ _ (by omega),hv v c1 rfl h1,h2⟩
 | v :: vs,t :: ts,j + 1,o,ft,cells,v',d,o',hf,h,⟨c1,c2,he,h1,h2⟩,hl,hv=>by
   subst he
   simp only [ffield,Option.map_eq_some_iff] at h
   obtain ⟨⟨o2,u2⟩,g1,g2⟩:=h
   simp only [Prod.mk.injEq] at g2
   obtain ⟨rfl,rfl⟩:=g2
   simp only [fitsL,Bool.and_eq_true] at hf
   have hs:=repF_size hf.1 h1
   exact ⟨c1,seg c2 (o2 + o') d,by rw [← hs,Nat.add_assoc];exact seg_right _ _ _ _,h1,flds_set vs ts j o2 u2 c2 v' d o' hf.2 g1 h2 hl (fun v c hv'=>hv v c (by simpa using hv'))⟩
 | [],[],j,o,ft,cells,v',d,o',hf,h,hc,hl,hv=>by simp [ffield] at h
 | [],t :: ts,j,o,ft,cells,v',d,o',hf,h,hc,hl,hv=>by simp [fitsL] at hf
 | v :: vs,[],j,o,ft,cells,v',d,o',hf,h,hc,hl,hv=>by simp [fitsL] at hf
theorem fitsL_size:∀ (fs:List V) (ts:List (Option Ty)) (cells:List Value),fitsL fs ts = true→All2 (RepF A) fs cells→cells.length = fsizes ts
 | [],[],cells,_,h=>by have:cells = []:=h;subst this;rfl
 | v :: vs,t :: ts,cells,hf,⟨c1,c2,he,h1,h2⟩=>by
   subst he
   simp only [fitsL,Bool.and_eq_true] at hf
   rw [List.length_append,repF_size hf.1 h1,fitsL_size vs ts c2 hf.2 h2];rfl
 | [],t :: ts,cells,hf,h=>by simp [fitsL] at hf
 | v :: vs,[],cells,hf,h=>by simp [fitsL] at hf
theorem chain_size:∀ (t:Ty),t.isChain = true→fsizes (t.fields.map some) = t.size
 | .unit,_=>rfl
 | .pair a b,h=>by
   simp only [Ty.isChain] at h
   simp only [Ty.fields,List.map_cons,fsizes,fsize,Ty.size,chain_size b h]
 | .int _,h=>by simp [Ty.isChain] at h
 | .bool,h=>by simp [Ty.isChain] at h
 | .str,h=>by simp [Ty.isChain] at h
 | .lst _,h=>by simp [Ty.isChain] at h
 | .arr _ _,h=>by simp [Ty.isChain] at h
 | .map _ _,h=>by simp [Ty.isChain] at h
theorem repB_value {u:V} {k:K} {cs:List Value} (hf:u.fits k = true) (h:RepB A u cs) :
   cs.length = k.size∧(∀ x ∈ cs,x.oneCell' = true)∧(k.isAgg = true→RepT A u (.agg cs.toArray))∧(k.isAgg = false→∃ v,cs = [v]∧(u.isJunk = false→RepT A u v)):=by
 cases u
 case agg fs =>
   simp only [RepB] at h
   cases k with
   | d t =>
     cases t with
     | pair a b =>
       simp only [V.fits,Bool.and_eq_true] at hf
       refine ⟨by rw [fitsL_size _ _ _ hf.2 h,chain_size _ hf.1];rfl,All2.one (fun x c hc=>repF_one hc) _ _ h,fun _=>⟨cs,rfl,h⟩,fun hk=>by simp [K.isAgg,Ty.isAgg] at hk⟩
     | _=>simp [V.fits] at hf
   | st ks =>
     simp only [V.fits] at hf
     exact ⟨fitsL_size _ _ _ hf h,All2.one (fun x c hc=>repF_one hc) _ _ h,fun _=>⟨cs,rfl,h⟩,fun hk=>by simp [K.isAgg] at hk⟩
   | leaf=>simp [V.fits] at hf
 case dat t x =>
   simp only [RepB,RepF] at h
   have hs:=RepC.size t x cs h
   have hone:=RepC.one t x cs h
   cases k with
   | d t' =>
     simp only [V.fits,V.fitsF,decide_eq_true_eq] at hf
     subst hf
     refine ⟨hs,hone,fun ha=>⟨cs,h,by simp only [K.isAgg] at ha;simp [pack,ha]⟩,fun ha=>?_⟩
     obtain ⟨v,rfl,hp⟩:=leaf_one h ha
     exact ⟨v,rfl,fun _=>⟨[v],h,hp.symm⟩⟩
   | leaf =>
     cases t <;> simp [V.fits,V.fitsF] at hf
     refine ⟨hs,hone,fun ha=>by simp [K.isAgg] at ha,fun ha=>?_⟩
     obtain ⟨v,rfl,hp⟩:=leaf_one h rfl
     exact ⟨v,rfl,fun _=>⟨[v],h,hp.symm⟩⟩
   | st ks=>simp [V.fits] at hf
 case tup vs=>cases k with
   | d t=>cases t <;> simp [V.fits,V.fitsF] at hf
   | leaf=>simp [V.fits,V.fitsF] at hf
   | st ks=>simp [V.fits] at hf
 case undef=>cases k with
   | d t=>cases t <;> simp [V.fits,V.fitsF] at hf
   | leaf=>simp [V.fits,V.fitsF] at hf
   | st ks=>simp [V.fits] at hf
 all_goals
   simp only [RepB,RepF] at h
   obtain ⟨v,rfl,h1,h2⟩:=h
   have hk:k.size = 1∧k.isAgg = false:=by
     cases k with
     | d t=>cases t <;> simp [V.fits,V.fitsF] at hf <;> exact ⟨rfl,rfl⟩
     | leaf=>exact ⟨rfl,rfl⟩
     | st ks=>simp [V.fits] at hf
   refine ⟨by rw [hk.1];rfl,by simpa using h1,fun ha=>by rw [hk.2] at ha;simp at ha,fun _=>⟨v,rfl,fun hj=>?_⟩⟩
   first | exact h2 | (simp [V.isJunk] at hj)
theorem vget_rep {c:V} {sh k':K} {p:List Nat} {u:V} {o:Nat} {cells:List Value} (hf:c.fits sh = true) (hat:K.at p sh = some (o,k')) (hg:c.get p = some u) (h:RepB A c cells) :
   RepB A u ((cells.drop o).take k'.size)∧o + k'.size ≤ cells.length∧u.fits k' = true:=by
 cases c
 case dat t x =>
   simp only [RepB,RepF] at h
   simp only [V.get] at hg
   cases hq:Ty.get p t x with
   | none=>rw [hq] at hg;simp at hg
   | some q =>
     rw [hq] at hg
     simp only [Option.some.injEq] at hg
     subst hg
     cases sh with
     | d t' =>
       simp only [V.fits,V.fitsF,decide_eq_true_eq] at hf
       subst hf
       simp only [K.at,Option.map_eq_some_iff] at hat
       obtain ⟨⟨o2,u2⟩,g1,g2⟩:=hat
       simp only [Prod.mk.injEq] at g2
       obtain ⟨rfl,rfl⟩:=g2
       obtain ⟨k1,k2,k3⟩:=get_rep p t x q o2 u2 hq g1 cells h
       subst k1
       exact ⟨k2,k3,by simp [V.fits,V.fitsF]⟩
     | leaf =>
       cases p with
       | nil =>
         simp only [K.at,Option.some.injEq,Prod.mk.injEq] at hat
         obtain ⟨rfl,rfl⟩:=hat
         simp only [Ty.get,Option.some.injEq] at hq
         subst hq
         have hs:=(repB_value (A:=A) hf h).1
         refine ⟨?_,by rw [hs];omega,hf⟩
         rw [List.drop_zero,← hs,List.take_length];exact h
       | cons j p=>simp [K.at] at hat
     | st ks=>simp [V.fits] at hf
 case agg fs =>
   simp only [RepB] at h
   have hL:∃ ts,fitsL fs ts = true∧(∀ j p,K.at (j :: p) sh = some (o,k')→∃ o1 ft,ffield ts j = some (o1,ft)∧((∃ t o2 u2,ft = some t∧Ty.at p t = some (o2,u2)∧o = o1 + o2∧k' = .d u2) ∨ (ft = none∧p = []∧o = o1∧k' = .leaf))):=by
     cases sh with
     | leaf=>simp [V.fits] at hf
     | st ks =>
       simp only [V.fits] at hf
       refine ⟨ks,hf,fun j p hat=>?_⟩
       simp only [K.at] at hat
       cases hff:ffield ks j with
       | none=>rw [hff] at hat;simp at hat
       | some q =>
         obtain ⟨o1,ft⟩:=q
         rw [hff] at hat
         cases ft with
         | none =>
           simp only at hat
           split at hat
           · rename_i hp
             simp only [Option.some.injEq,Prod.mk.injEq] at hat
             exact ⟨o1,none,rfl,.inr ⟨rfl,hp,hat.1.symm,hat.2.symm⟩⟩
           · simp at hat
         | some t =>
           simp only [Option.map_eq_some_iff] at hat
           obtain ⟨⟨o2,u2⟩,g1,g2⟩:=hat
           simp only [Prod.mk.injEq] at g2
           exact ⟨o1,some t,rfl,.inl ⟨t,o2,u2,rfl,g1,g2.1.symm,g2.2.symm⟩⟩
     | d t =>
       cases t with
       | pair a b =>
         simp only [V.fits,Bool.and_eq_true] at hf
         refine ⟨_,hf.2,fun j p hat=>?_⟩
         simp only [K.at,Ty.at] at hat
         cases hff:(Ty.pair a b).fieldAt j with
         | none=>rw [hff] at hat;simp at hat
         | some q =>
           obtain ⟨o1,t⟩:=q
           rw [hff] at hat
           simp only [Option.map_map,Option.map_eq_some_iff] at hat
           obtain ⟨⟨o2,u2⟩,g1,g2⟩:=hat
           simp only [Function.comp,Prod.mk.injEq] at g2
           exact ⟨o1,some t,fieldAt_ffield _ j o1 t hff,.inl ⟨t,o2,u2,rfl,g1,g2.1.symm,g2.2.symm⟩⟩
       | _=>simp [V.fits] at hf
   obtain ⟨ts,hfl,hpath⟩:=hL
   simp only [V.get] at hg
   cases p with
   | nil =>
     simp only [Option.some.injEq] at hg
     subst hg
     have hs:=(repB_value (A:=A) hf h).1
     have:o = 0∧k' = sh:=by
       cases sh with
       | d t=>simp [K.at,Ty.at] at hat;exact ⟨hat.1.symm,hat.2.symm⟩
       | leaf=>simp [K.at] at hat;exact ⟨hat.1.symm,hat.2.symm⟩
       | st ks=>simp [K.at] at hat;exact ⟨hat.1.symm,hat.2.symm⟩
     obtain ⟨rfl,rfl⟩:=this
     refine ⟨?_,by rw [hs];omega,hf⟩
     rw [List.drop_zero,← hs,List.take_length];exact h
   | cons j p =>
     obtain ⟨o1,ft,hff,hcase⟩:=hpath j p hat
     obtain ⟨v,hv,hvf,hvr,hle⟩:=flds_rep fs ts j o1 ft cells hfl hff h
     simp only [hv] at hg
     rcases hcase with ⟨t,o2,u2,rfl,hat2,rfl,rfl⟩ | ⟨rfl,rfl,rfl,rfl⟩
     · cases v
       case dat t' x =>
         simp only [V.fitsF,decide_eq_true_eq] at hvf
         subst hvf
         simp only at hg
         cases hq:Ty.get p t' x with
         | none=>rw [hq] at hg;simp at hg
         | some q =>
           rw [hq] at hg
           simp only [Option.some.injEq] at hg
           subst hg
           obtain ⟨k1,k2,k3⟩:=get_rep p t' x q o2 u2 hq hat2 _ hvr
           subst k1
           simp only [fsize] at hvr hle k2 k3
           have hl:((cells.drop o1).take t'.size).length = t'.size:=by simp;omega
           rw [hl] at k3
           rw [List.drop_take,List.drop_drop,List.take_take,Nat.min_eq_left (by omega)] at k2
           refine ⟨k2,?_,by simp [V.fits,V.fitsF]⟩
           show o1 + o2 + q.1.size ≤ _
           omega
       all_goals
         simp only at hg
         split at hg
         · rename_i hp
           subst hp
           simp only [Ty.at,Option.some.injEq,Prod.mk.injEq] at hat2
           obtain ⟨rfl,rfl⟩:=hat2
           simp only [Option.some.injEq] at hg
           subst hg
           first
             | (exfalso;simp [V.fitsF] at hvf;done)
             | exact ⟨hvr,hle,hvf⟩
         · simp at hg
     · cases v
       case dat t' x =>
         cases t' <;> simp [V.fitsF] at hvf
         simp only [Ty.get,Option.some.injEq] at hg
         subst hg
         exact ⟨hvr,hle,by simp [V.fits,V.fitsF]⟩
       all_goals
         simp only [if_true,Option.some.injEq] at hg
         subst hg
         first
           | (exfalso;simp [V.fitsF] at hvf;done)
           | exact ⟨hvr,hle,hvf⟩
 all_goals
   simp only [V.get] at hg
   split at hg
   · rename_i hp
     subst hp
     simp only [Option.some.injEq] at hg
     subst hg
     have hs:=(repB_value (A:=A) hf h).1
     have:o = 0∧k' = sh:=by
       cases sh with
       | d t=>simp [K.at,Ty.at] at hat;exact ⟨hat.1.symm,hat.2.symm⟩
       | leaf=>simp [K.at] at hat;exact ⟨hat.1.symm,hat.2.symm⟩
       | st ks=>simp [K.at] at hat;exact ⟨hat.1.symm,hat.2.symm⟩
     obtain ⟨rfl,rfl⟩:=this
     refine ⟨?_,by rw [hs];omega,hf⟩
     rw [List.drop_zero,← hs,List.take_length];exact h
   · simp at hg
theorem explode_rep:∀ (t:Ty) (x:t.T) (cs:List Value),t.isChain = true→RepC A.Fz A.w t x cs→All2 (RepF A) (explode t x) cs
 | .unit,_,cs,_,h=>h
 | .pair a b,x,cs,hc,⟨c1,c2,he,h1,h2⟩=>⟨c1,c2,he,h1,explode_rep b x.2 c2 hc h2⟩
 | .int _,_,_,h,_=>by simp [Ty.isChain] at h
 | .bool,_,_,h,_=>by simp [Ty.isChain] at h
 | .str,_,_,h,_=>by simp [Ty.isChain] at h
 | .lst _,_,_,h,_=>by simp [Ty.isChain] at h
 | .arr _ _,_,_,h,_=>by simp [Ty.isChain] at h
 | .map _ _,_,_,h,_=>by simp [Ty.isChain] at h
theorem explode_fits:∀ (t:Ty) (x:t.T),fitsL (explode t x) (t.fields.map some) = true
 | .pair a b,x=>by simp [explode,Ty.fields,fitsL,V.fitsF,explode_fits b x.2]
 | .unit,_=>rfl
 | .int _,_=>rfl
 | .bool,_=>rfl
 | .str,_=>rfl
 | .lst _,_=>rfl
 | .arr _ _,_=>rfl
 | .map _ _,_=>rfl
def kOf:Option Ty→K
 | some t=>.d t
 | none=>.leaf
theorem repF_of_fits {v:V} {k:K} {ft:Option Ty} {d:List Value} (hk:k = kOf ft) (hf:v.fits k = true) (h:RepB A v d) :
   (v.fitsF ft = true∧RepF A v d) ∨ ∃ fs,v = .agg fs:=by
 cases v
 case agg fs=>exact .inr ⟨fs,rfl⟩
 all_goals
   left
   subst hk
   cases ft with
   | none=>exact ⟨hf,h⟩
   | some t=>exact ⟨hf,h⟩
theorem upd_rep {c c' x:V} {sh k':K} {p:List Nat} {o:Nat} {cells d:List Value} (hf:c.fits sh = true) (hat:K.at p sh = some (o,k')) (hx:x.fits k' = true) (hu:V.upd x p c = some c')
   (hf':c'.fits sh = true) (h:RepB A c cells) (hd:RepB A x d):RepB A c' (seg cells o d):=by
 have hds:d.length = k'.size:=(repB_value hx hd).1
 have hwhole:p = []→o = 0∧k' = sh:=by
   intro hp;subst hp
   cases sh with
   | d t=>simp [K.at,Ty.at] at hat;exact ⟨hat.1.symm,hat.2.symm⟩
   | leaf=>simp [K.at] at hat;exact ⟨hat.1.symm,hat.2.symm⟩
   | st ks=>simp [K.at] at hat;exact ⟨hat.1.symm,hat.2.symm⟩
 have hcl:cells.length = sh.size:=(repB_value hf h).1
 have hall:p = []→x = c'→RepB A c' (seg cells o d):=by
   intro hp hxc
   obtain ⟨h1,h2⟩:=hwhole hp
   subst h1;subst h2;subst hxc
   rw [seg_all _ _ (by omega)];exact hd
 cases c
 case dat t y =>
   simp only [RepB,RepF] at h
   -- the cases of 'upd'
   have hdat:∀ (u:Ty) (z:u.T),x = .dat u z→p ≠ []→RepB A c' (seg cells o d):=by
     intro u z hxe hp
     subst hxe
     have hu':∃ z',Ty.set u z p t y = some z'∧c' = .dat t z':=by
       cases p with
       | nil=>exact absurd rfl hp
       | cons j p =>
         simp only [V.upd] at hu
         cases hz:Ty.set u z (j :: p) t y with
         | none=>rw [hz] at hu;simp at hu
         | some z'=>rw [hz] at hu;simp only [Option.some.injEq] at hu;exact ⟨z',rfl,hu.symm⟩
     obtain ⟨z',hz,rfl⟩:=hu'
     cases sh with
     | d t' =>
       simp only [V.fits,V.fitsF,decide_eq_true_eq] at hf
       subst hf
       simp only [K.at,Option.map_eq_some_iff] at hat
       obtain ⟨⟨o2,u2⟩,g1,g2⟩:=hat
       simp only [Prod.mk.injEq] at g2
       obtain ⟨rfl,rfl⟩:=g2
       exact (set_rep u z d hd p t y z' o2 u2 hz g1 cells h).2
     | leaf=>cases p with
       | nil=>exact absurd rfl hp
       | cons j p=>simp [K.at] at hat
     | st ks=>simp [V.fits] at hf
   cases p with
   | nil =>
     simp only [V.upd,Option.some.injEq] at hu
     exact hall rfl hu
   | cons j p =>
     by_cases hxd:∃ u z,x = .dat u z
     · obtain ⟨u,z,hxe⟩:=hxd
       exact hdat u z hxe (by simp)
     · have hne:∀ u z,x ≠ .dat u z:=fun u z he=>hxd ⟨u,z,he⟩
       -- a field that is no data any more
       cases p with
       | cons j2 p2 =>
         exfalso
         cases x <;> first | exact hne _ _ rfl | (simp [V.upd] at hu)
       | nil =>
         cases t with
         | pair a b =>
           have hu':c' = .agg ((explode (.pair a b) y).set j x):=by
             cases x <;> first | exact absurd rfl (hne _ _) | (simp only [V.upd] at hu;split at hu <;> simp_all)
           subst hu'
           cases sh with
           | d t' =>
             simp only [V.fits,V.fitsF,decide_eq_true_eq] at hf
             subst hf
             simp only [V.fits,Bool.and_eq_true] at hf'
             simp only [K.at,Ty.at] at hat
             cases hff:(Ty.pair a b).fieldAt j with
             | none=>rw [hff] at hat;simp at hat
             | some q =>
               obtain ⟨o1,t1⟩:=q
               rw [hff] at hat
               simp only [Ty.at,Option.map_some,Option.some.injEq,Prod.mk.injEq,Nat.add_zero] at hat
               obtain ⟨rfl,rfl⟩:=hat
               have hfld:=fieldAt_ffield _ j o1 t1 hff
               have hexp:=explode_rep (A:=A) (.pair a b) y cells hf'.1 h
               rcases repF_of_fits (ft:=some t1) rfl hx hd with ⟨g1,g2⟩ | ⟨fs,rfl⟩
               · have:=flds_set (A:=A) _ _ j o1 (some t1) cells x d 0 (explode_fits (.pair a b) y) hfld hexp (by simp [fsize];exact Nat.le_of_eq hds) (fun v c hv hc=>by
                   have:c.length = d.length:=by
                     obtain ⟨v',e1,e2,e3,_⟩:=flds_rep _ _ j o1 (some t1) cells (explode_fits (.pair a b) y) hfld hexp
                     rw [hv] at e1
                     simp only [Option.some.injEq] at e1
                     subst e1
                     rw [repF_size e2 hc,hds];rfl
                   rw [seg_all _ _ this.symm];exact g2)
                 exact this
               · exfalso
                 obtain ⟨v',e1,e2,e3,_⟩:=flds_rep _ _ j o1 (some t1) cells (explode_fits (.pair a b) y) hfld hexp
                 have hj:j < (explode (.pair a b) y).length:=(List.getElem?_eq_some_iff.1 e1).1
                 have:=fitsL_get _ _ j o1 (some t1) hf'.2 hfld
                 rw [List.getElem?_set_self hj] at this
                 simp [V.fitsF] at this
           | leaf=>simp [K.at] at hat
           | st ks=>simp [V.fits] at hf
         | _=>exfalso;cases x <;> first | exact hne _ _ rfl | (simp [V.upd] at hu)
 case agg fs =>
   simp only [RepB] at h
   have hL:∃ ts,fitsL fs ts = true∧(∀ fs',fitsL fs' ts = true ∨ (V.agg fs').fits sh = false)∧(∀ j p,K.at (j :: p) sh = some (o,k')→∃ o1 ft,ffield ts j = some (o1,ft)∧((∃ t o2 u2,ft = some t∧Ty.at p t = some (o2,u2)∧o = o1 + o2∧k' = .d u2) ∨ (ft = none∧p = []∧o = o1∧k' = .leaf))):=by
     cases sh with
     | leaf=>simp [V.fits] at hf
     | st ks =>
       simp only [V.fits] at hf
       refine ⟨ks,hf,fun fs'=>by simp only [V.fits];cases fitsL fs' ks <;> simp,fun j p hat=>?_⟩
       simp only [K.at] at hat
       cases hff:ffield ks j with
       | none=>rw [hff] at hat;simp at hat
       | some q =>
         obtain ⟨o1,ft⟩:=q
         rw [hff] at hat
         cases ft with
         | none =>
           simp only at hat
           split at hat
           · rename_i hp
             simp only [Option.some.injEq,Prod.mk.injEq] at hat
             exact ⟨o1,none,rfl,.inr ⟨rfl,hp,hat.1.symm,hat.2.symm⟩⟩
           · simp at hat
         | some t =>
           simp only [Option.map_eq_some_iff] at hat
           obtain ⟨⟨o2,u2⟩,g1,g2⟩:=hat
           simp only [Prod.mk.injEq] at g2
           exact ⟨o1,some t,rfl,.inl ⟨t,o2,u2,rfl,g1,g2.1.symm,g2.2.symm⟩⟩
     | d t =>
       cases t with
       | pair a b =>
         simp only [V.fits,Bool.and_eq_true] at hf
         refine ⟨_,hf.2,fun fs'=>by simp only [V.fits,hf.1,Bool.true_and];cases fitsL fs' _ <;> simp,fun j p hat=>?_⟩
         simp only [K.at,Ty.at] at hat
         cases hff:(Ty.pair a b).fieldAt j with
         | none=>rw [hff] at hat;simp at hat
         | some q =>
           obtain ⟨o1,t⟩:=q
           rw [hff] at hat
           simp only [Option.map_map,Option.map_eq_some_iff] at hat
           obtain ⟨⟨o2,u2⟩,g1,g2⟩:=hat
           simp only [Function.comp,Prod.mk.injEq] at g2
           exact ⟨o1,some t,fieldAt_ffield _ j o1 t hff,.inl ⟨t,o2,u2,rfl,g1,g2.1.symm,g2.2.symm⟩⟩
       | _=>simp [V.fits] at hf
   obtain ⟨ts,hfl,hcl2,hpath⟩:=hL
   cases p with
   | nil =>
     simp only [V.upd,Option.some.injEq] at hu
     exact hall rfl hu
   | cons j p =>
     obtain ⟨o1,ft,hff,hcase⟩:=hpath j p hat
     obtain ⟨v0,hv0,hvf,hvr,hle⟩:=flds_rep fs ts j o1 ft cells hfl hff h
     have hj:j < fs.length:=(List.getElem?_eq_some_iff.1 hv0).1
     have hvf0:∀ v c,fs[j]? = some v→RepF A v c→c.length = fsize ft:=by
       intro v c hv hc
       rw [hv0] at hv
       simp only [Option.some.injEq] at hv
       subst hv
       exact repF_size hvf hc
     -- a whole field is replaced
     have hfield:p = []→c' = .agg (fs.set j x)→RepB A c' (seg cells o d):=by
       intro hp hc
       subst hp
       have hk:k' = kOf ft∧o = o1:=by
         rcases hcase with ⟨t,o2,u2,rfl,hat2,rfl,rfl⟩ | ⟨rfl,_,rfl,rfl⟩
         · simp only [Ty.at,Option.some.injEq,Prod.mk.injEq] at hat2
           obtain ⟨rfl,rfl⟩:=hat2
           exact ⟨rfl,rfl⟩
         · exact ⟨rfl,rfl⟩
       obtain ⟨hk,rfl⟩:=hk
       have hsz:k'.size = fsize ft:=by rw [hk];cases ft <;> rfl
       subst hc
       rcases repF_of_fits hk hx hd with ⟨g1,g2⟩ | ⟨fs2,rfl⟩
       · exact flds_set (A:=A) fs ts j o ft cells x d 0 hfl hff h (by omega) (fun v c hv hc=>by
           rw [seg_all _ _ (by rw [hvf0 v c hv hc];omega)];exact g2)
       · exfalso
         rcases hcl2 (fs.set j (.agg fs2)) with hh | hh
         · have:=fitsL_get _ _ j o ft hh hff
           rw [List.getElem?_set_self hj] at this
           cases ft <;> simp [V.fitsF] at this
         · rw [hh] at hf';simp at hf'
     cases p with
     | nil =>
       simp only [V.upd] at hu
       rw [if_pos hj] at hu
       simp only [Option.some.injEq] at hu
       exact hfield rfl hu.symm
     | cons j2 p2 =>
       simp only [V.upd,hv0] at hu
       cases v0
       case dat t1 y1 =>
         cases x
         case dat u z =>
           simp only at hu
           cases hz:Ty.set u z (j2 :: p2) t1 y1 with
           | none=>rw [hz] at hu;simp at hu
           | some z1 =>
             rw [hz] at hu
             simp only [Option.some.injEq] at hu
             subst hu
             rcases hcase with ⟨t,o2,u2,rfl,hat2,rfl,rfl⟩ | ⟨_,hp,_,_⟩
             · simp only [V.fitsF,decide_eq_true_eq] at hvf
               subst hvf
               have hd':RepC A.Fz A.w u z d:=hd
               have hb:o2 + d.length ≤ t1.size:=by
                 rw [hds];exact set_rep.at_le _ _ _ _ hat2
               exact flds_set (A:=A) fs ts j o1 (some t1) cells (.dat t1 z1) d o2 hfl hff h hb (fun v c hv hc=>by
                 rw [hv0] at hv
                 simp only [Option.some.injEq] at hv
                 subst hv
                 exact (set_rep u z d hd' _ t1 y1 z1 o2 u2 hz hat2 c hc).2)
             · simp at hp
         all_goals simp at hu
       all_goals simp at hu
 all_goals
   simp only [V.upd] at hu
   split at hu
   · rename_i hp
     simp only [Option.some.injEq] at hu
     exact hall hp hu
   · simp at hu
where
 fitsL_get:∀ (fs:List V) (ts:List (Option Ty)) (j o:Nat) (ft:Option Ty),fitsL fs ts = true→ffield ts j = some (o,ft)→(fs[j]?).map (fun v=>v.fitsF ft) = some true
   | v :: vs,t :: ts,0,o,ft,hf,h=>by
     simp only [ffield,Option.some.injEq,Prod.mk.injEq] at h
     obtain ⟨_,rfl⟩:=h
     simp only [fitsL,Bool.and_eq_true] at hf
     simp [hf.1]
   | v :: vs,t :: ts,j + 1,o,ft,hf,h=>by
     simp only [ffield,Option.map_eq_some_iff] at h
     obtain ⟨⟨o2,u2⟩,g1,g2⟩:=h
     simp only [Prod.mk.injEq] at g2
     obtain ⟨_,rfl⟩:=g2
     simp only [fitsL,Bool.and_eq_true] at hf
     simpa using fitsL_get vs ts j o2 u2 hf.2 g1
   | [],[],j,o,ft,hf,h=>by simp [ffield] at h
   | [],t :: ts,j,o,ft,hf,h=>by simp [fitsL] at hf
   | v :: vs,[],j,o,ft,hf,h=>by simp [fitsL] at hf
end Go.Pv
