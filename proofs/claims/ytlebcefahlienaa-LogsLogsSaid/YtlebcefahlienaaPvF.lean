/- The purifying layer, part 6: paths within data and variables: what is read there, what a store leaves. -/
import Derived.Test.YtlebcefahlienaaPvE
set_option linter.unusedVariables false
set_option linter.unusedSimpArgs false
namespace Go.Pv
variable {Fz:Nat→Prop} {w:World}
theorem fieldGet_at:∀ (t:Ty) (x:t.T) (j:Nat) (q:D),t.fieldGet x j = some q→∃ o,t.fieldAt j = some (o,q.1)
 | .pair a b,x,0,q,h=>by simp only [Ty.fieldGet,Option.some.injEq] at h;subst h;exact ⟨0,rfl⟩
 | .pair a b,x,j + 1,q,h=>by
   obtain ⟨o,ho⟩:=fieldGet_at b x.2 j q h
   exact ⟨a.size + o,by simp [Ty.fieldAt,ho]⟩
theorem fieldGet_rep:∀ (t:Ty) (x:t.T) (j:Nat) (q:D) (o:Nat) (u:Ty),t.fieldGet x j = some q→t.fieldAt j = some (o,u)→∀ cs,RepC Fz w t x cs →
   q.1 = u∧RepC Fz w q.1 q.2 ((cs.drop o).take q.1.size)∧o + q.1.size ≤ cs.length
 | .pair a b,x,0,q,o,u,h,h',cs,hr=>by
   simp only [Ty.fieldGet,Option.some.injEq] at h;subst h
   simp only [Ty.fieldAt,Option.some.injEq,Prod.mk.injEq] at h'
   obtain ⟨rfl,rfl⟩:=h'
   obtain ⟨c1,c2,rfl,h1,h2⟩:=hr
   have hs:=h1.size
   refine ⟨rfl,?_,by simp [hs]⟩
   simp only [List.drop_zero,← hs,List.take_left];exact h1
 | .pair a b,x,j + 1,q,o,u,h,h',cs,hr=>by
   simp only [Ty.fieldGet] at h
   simp only [Ty.fieldAt,Option.map_eq_some_iff] at h'
   obtain ⟨⟨o',u'⟩,h1,h2⟩:=h'
   simp only [Prod.mk.injEq] at h2
   obtain ⟨rfl,rfl⟩:=h2
   obtain ⟨c1,c2,rfl,g1,g2⟩:=hr
   obtain ⟨k1,k2,k3⟩:=fieldGet_rep b x.2 j q o' u' h h1 c2 g2
   have hs:=g1.size
   refine ⟨k1,?_,by simp [hs];omega⟩
   rw [← hs,List.drop_length_add_append];exact k2
theorem fieldGet_some:∀ (t:Ty) (x:t.T) (j o:Nat) (u:Ty),t.fieldAt j = some (o,u)→∃ y,t.fieldGet x j = some ⟨u,y⟩
 | .pair a b,x,0,o,u,h=>by simp [Ty.fieldAt] at h;obtain ⟨_,rfl⟩:=h;exact ⟨x.1,rfl⟩
 | .pair a b,x,j + 1,o,u,h=>by
   simp only [Ty.fieldAt,Option.map_eq_some_iff] at h
   obtain ⟨⟨o',u'⟩,h1,h2⟩:=h
   simp only [Prod.mk.injEq] at h2
   obtain ⟨_,rfl⟩:=h2
   exact fieldGet_some b x.2 j o' u' h1
theorem getD_rep {e:Ty} {xs:List e.T} {cs:List Value} (h:All2 (RepC Fz w e) xs cs) {i:Nat} (hi:i < xs.length) :
   RepC Fz w e (xs.getD i e.zero) ((cs.drop (i * e.size)).take e.size)∧i * e.size + e.size ≤ cs.length:=by
 have h1:=All2.elem (fun x cs hx=>RepC.size e x cs hx) xs cs h i hi
 have h2:=All2.size (fun x cs hx=>RepC.size e x cs hx) xs cs h
 have h3:xs.getD i e.zero = xs[i]:=by simp [List.getD_eq_getElem?_getD,hi]
 refine ⟨by rw [h3];exact h1,?_⟩
 rw [h2]
 calc i * e.size + e.size = (i + 1) * e.size:=by rw [Nat.add_mul,Nat.one_mul]
   _ ≤ xs.length * e.size:=Nat.mul_le_mul_right _ hi
theorem get_rep:∀ (p:List Nat) (t:Ty) (x:t.T) (q:D) (o:Nat) (u:Ty),Ty.get p t x = some q→Ty.at p t = some (o,u)→∀ cs,RepC Fz w t x cs →
   q.1 = u∧RepC Fz w q.1 q.2 ((cs.drop o).take q.1.size)∧o + q.1.size ≤ cs.length
 | [],t,x,q,o,u,h,h',cs,hr=>by
   simp only [Ty.get,Option.some.injEq] at h;subst h
   simp only [Ty.at,Option.some.injEq,Prod.mk.injEq] at h'
   obtain ⟨rfl,rfl⟩:=h'
   have hs:=hr.size
   refine ⟨rfl,?_,by simp [hs]⟩
   simp only [List.drop_zero,← hs,List.take_length];exact hr
 | j :: p,.pair a b,x,q,o,u,h,h',cs,hr=>by
   simp only [Ty.get] at h
   simp only [Ty.at] at h'
   cases hf:(Ty.pair a b).fieldGet x j with
   | none=>rw [hf] at h;simp at h
   | some q1 =>
     rw [hf] at h
     obtain ⟨o1,ho1⟩:=fieldGet_at _ x j q1 hf
     rw [ho1] at h'
     simp only [Option.map_eq_some_iff] at h'
     obtain ⟨⟨o2,u2⟩,g1,g2⟩:=h'
     simp only [Prod.mk.injEq] at g2
     obtain ⟨rfl,rfl⟩:=g2
     obtain ⟨_,k2,k3⟩:=fieldGet_rep _ x j q1 o1 q1.1 hf ho1 cs hr
     obtain ⟨m1,m2,m3⟩:=get_rep p q1.1 q1.2 q o2 u2 h g1 _ k2
     have hl:((cs.drop o1).take q1.1.size).length = q1.1.size:=by simp;omega
     refine ⟨m1,?_,by rw [hl] at m3;omega⟩
     rw [hl] at m3
     rw [List.drop_take,List.drop_drop,List.take_take,Nat.min_eq_left (by omega)] at m2
     exact m2
 | j :: p,.arr n e,x,q,o,u,h,h',cs,hr=>by
   simp only [Ty.get] at h
   simp only [Ty.at] at h'
   by_cases hj:j < n
   · simp only [hj,if_true,Option.map_eq_some_iff] at h'
     obtain ⟨⟨o2,u2⟩,g1,g2⟩:=h'
     simp only [Prod.mk.injEq] at g2
     obtain ⟨rfl,rfl⟩:=g2
     obtain ⟨hlen,hall⟩:=hr
     obtain ⟨k2,k3⟩:=getD_rep hall (i:=j) (by omega)
     obtain ⟨m1,m2,m3⟩:=get_rep p e _ q o2 u2 h g1 _ k2
     have hl:((cs.drop (j * e.size)).take e.size).length = e.size:=by simp;omega
     refine ⟨m1,?_,by rw [hl] at m3;omega⟩
     rw [hl] at m3
     rw [List.drop_take,List.drop_drop,List.take_take,Nat.min_eq_left (by omega)] at m2
     exact m2
   · simp [hj] at h'
def seg (cs:List Value) (o:Nat) (d:List Value):List Value:=cs.take o ++ d ++ cs.drop (o + d.length)
theorem seg_left (c1 c2:List Value) (o:Nat) (d:List Value) (h:o + d.length ≤ c1.length):seg (c1 ++ c2) o d = seg c1 o d ++ c2:=by
 unfold seg
 rw [List.take_append_of_le_length (by omega),List.drop_append_of_le_length h]
 simp
theorem seg_right (c1 c2:List Value) (o:Nat) (d:List Value):seg (c1 ++ c2) (c1.length + o) d = c1 ++ seg c2 o d:=by
 unfold seg
 rw [List.take_length_add_append,Nat.add_assoc,List.drop_length_add_append]
 simp
theorem seg_all (cs d:List Value) (h:d.length = cs.length):seg cs 0 d = d:=by
 unfold seg;simp [h]
theorem seg_length (cs:List Value) (o:Nat) (d:List Value) (h:o + d.length ≤ cs.length):(seg cs o d).length = cs.length:=by
 unfold seg;simp;omega
theorem fieldMod_rep (f:(u:Ty)→u.T→Option u.T):∀ (t:Ty) (x z:t.T) (j o:Nat) (u:Ty),t.fieldMod f x j = some z→t.fieldAt j = some (o,u)→∀ cs d o',
   RepC Fz w t x cs→o' + d.length ≤ u.size→(∀ (y y':u.T) (c:List Value),RepC Fz w u y c→f u y = some y'→RepC Fz w u y' (seg c o' d))→RepC Fz w t z (seg cs (o + o') d)
 | .pair a b,x,z,0,o,u,h,h',cs,d,o',hr,hl,hf=>by
   simp only [Ty.fieldAt,Option.some.injEq,Prod.mk.injEq] at h'
   obtain ⟨rfl,rfl⟩:=h'
   simp only [Ty.fieldMod] at h
   cases hy:f a x.1 with
   | none=>rw [hy] at h;simp at h
   | some y =>
     rw [hy] at h;simp only [Option.some.injEq] at h;subst h
     obtain ⟨c1,c2,rfl,g1,g2⟩:=hr
     have hs:=g1.size
     refine ⟨seg c1 o' d,c2,?_,hf _ _ _ g1 hy,g2⟩
     rw [Nat.zero_add];exact seg_left _ _ _ _ (by omega)
 | .pair a b,x,z,j + 1,o,u,h,h',cs,d,o',hr,hl,hf=>by
   simp only [Ty.fieldAt,Option.map_eq_some_iff] at h'
   obtain ⟨⟨o1,u1⟩,h1,h2⟩:=h'
   simp only [Prod.mk.injEq] at h2
   obtain ⟨rfl,rfl⟩:=h2
   simp only [Ty.fieldMod] at h
   cases hy:b.fieldMod f x.2 j with
   | none=>rw [hy] at h;simp at h
   | some y =>
     rw [hy] at h;simp only [Option.some.injEq] at h;subst h
     obtain ⟨c1,c2,rfl,g1,g2⟩:=hr
     have hs:=g1.size
     refine ⟨c1,seg c2 (o1 + o') d,?_,g1,fieldMod_rep f b x.2 y j o1 u1 hy h1 c2 d o' g2 hl hf⟩
     rw [← hs,Nat.add_assoc];exact seg_right _ _ _ _
theorem set_rep (u:Ty) (y:u.T) (d:List Value) (hd:RepC Fz w u y d):∀ (p:List Nat) (t:Ty) (x z:t.T) (o:Nat) (u':Ty),Ty.set u y p t x = some z→Ty.at p t = some (o,u')→∀ cs,RepC Fz w t x cs →
   u = u'∧RepC Fz w t z (seg cs o d)
 | [],t,x,z,o,u',h,h',cs,hr=>by
   simp only [Ty.at,Option.some.injEq,Prod.mk.injEq] at h'
   obtain ⟨rfl,rfl⟩:=h'
   simp only [Ty.set] at h
   split at h
   · rename_i he
     subst he
     simp only [Option.some.injEq] at h;subst h
     refine ⟨rfl,?_⟩
     rw [seg_all _ _ (by rw [hd.size,hr.size])];exact hd
   · simp at h
 | j :: p,.pair a b,x,z,o,u',h,h',cs,hr=>by
   simp only [Ty.set] at h
   simp only [Ty.at] at h'
   cases hf:(Ty.pair a b).fieldAt j with
   | none=>rw [hf] at h';simp at h'
   | some q1 =>
     obtain ⟨o1,u1⟩:=q1
     rw [hf] at h'
     simp only [Option.map_eq_some_iff] at h'
     obtain ⟨⟨o2,u2⟩,g1,g2⟩:=h'
     simp only [Prod.mk.injEq] at g2
     obtain ⟨rfl,rfl⟩:=g2
     -- the field's own value
     obtain ⟨y1,hy1⟩:=fieldGet_some (Ty.pair a b) x j o1 u1 hf
     obtain ⟨_,k2,k3⟩:=fieldGet_rep _ x j _ o1 u1 hy1 hf cs hr
     have key:u = u2∧∀ (yy yy':u1.T) (c:List Value),RepC Fz w u1 yy c→Ty.set u y p u1 yy = some yy'→RepC Fz w u1 yy' (seg c o2 d):=by
       constructor
       · -- some value is set
         obtain ⟨v,hv⟩:=fieldMod_uses _ _ x z j o1 u1 h hf
         obtain ⟨v',hv'⟩:=hv
         have:∃ yy c,RepC Fz w u1 yy c∧∃ yy',Ty.set u y p u1 yy = some yy':=⟨y1,_,k2,fieldMod_at _ _ x z j o1 u1 y1 h hf hy1⟩
         obtain ⟨yy,c,hc,yy',hs⟩:=this
         exact (set_rep u y d hd p u1 yy yy' o2 u2 hs g1 c hc).1
       · exact fun yy yy' c hc hs=>(set_rep u y d hd p u1 yy yy' o2 u2 hs g1 c hc).2
     refine ⟨key.1,?_⟩
     have hb:o2 + d.length ≤ u1.size:=by
       rw [hd.size,key.1]
       exact at_le p u1 o2 u2 g1
     exact fieldMod_rep _ _ x z j o1 u1 h hf cs d o2 hr hb key.2
 | j :: p,.arr n e,x,z,o,u',h,h',cs,hr=>by
   simp only [Ty.set] at h
   simp only [Ty.at] at h'
   by_cases hj:j < n
   · simp only [hj,if_true,Option.map_eq_some_iff] at h'
     obtain ⟨⟨o2,u2⟩,g1,g2⟩:=h'
     simp only [Prod.mk.injEq] at g2
     obtain ⟨rfl,rfl⟩:=g2
     obtain ⟨hlen,hall⟩:=hr
     obtain ⟨k2,k3⟩:=getD_rep hall (i:=j) (by omega)
     cases hz:Ty.set u y p e ((x:List e.T).getD j e.zero) with
     | none=>simp only [hz] at h;simp at h
     | some z1 =>
       simp only [hz,Option.some.injEq] at h;subst h
       obtain ⟨m1,m2⟩:=set_rep u y d hd p e _ z1 o2 u2 hz g1 _ k2
       refine ⟨m1,by simpa using hlen,?_⟩
       have hs:=All2.set (fun x cs hx=>RepC.size e x cs hx) _ cs hall j z1 _ (by omega) m2
       have hb:o2 + d.length ≤ e.size:=by rw [hd.size,m1];exact at_le p e o2 u2 g1
       have e1:cs.take (j * e.size) ++ seg ((cs.drop (j * e.size)).take e.size) o2 d ++ cs.drop (j * e.size + e.size) = seg cs (j * e.size + o2) d:=by
         have hcs:cs = cs.take (j * e.size) ++ ((cs.drop (j * e.size)).take e.size ++ cs.drop (j * e.size + e.size)):=by
           rw [← List.drop_drop,List.take_append_drop,List.take_append_drop]
         have hl1:(cs.take (j * e.size)).length = j * e.size:=by simp;omega
         have hl2:((cs.drop (j * e.size)).take e.size).length = e.size:=by simp;omega
         conv=>rhs;rw [hcs]
         have:=seg_right (cs.take (j * e.size)) ((cs.drop (j * e.size)).take e.size ++ cs.drop (j * e.size + e.size)) o2 d
         rw [hl1] at this
         rw [this,seg_left _ _ _ _ (by omega)]
         simp
       rw [e1] at hs;exact hs
   · simp [hj] at h'
where
 at_le:∀ (p:List Nat) (t:Ty) (o:Nat) (u:Ty),Ty.at p t = some (o,u)→o + u.size ≤ t.size
   | [],t,o,u,h=>by simp [Ty.at] at h;obtain ⟨rfl,rfl⟩:=h;simp
   | j :: p,.pair a b,o,u,h=>by
     simp only [Ty.at] at h
     cases hf:(Ty.pair a b).fieldAt j with
     | none=>rw [hf] at h;simp at h
     | some q1 =>
       rw [hf] at h
       simp only [Option.map_eq_some_iff] at h
       obtain ⟨⟨o2,u2⟩,g1,g2⟩:=h
       simp only [Prod.mk.injEq] at g2
       obtain ⟨rfl,rfl⟩:=g2
       have:=at_le p q1.2 o2 u2 g1
       have:=field_le (Ty.pair a b) j q1.1 q1.2 hf
       omega
   | j :: p,.arr n e,o,u,h=>by
     simp only [Ty.at] at h
     by_cases hj:j < n
     · simp only [hj,if_true,Option.map_eq_some_iff] at h
       obtain ⟨⟨o2,u2⟩,g1,g2⟩:=h
       simp only [Prod.mk.injEq] at g2
       obtain ⟨rfl,rfl⟩:=g2
       have:=at_le p e o2 u2 g1
       have h2:(j + 1) * e.size ≤ n * e.size:=Nat.mul_le_mul_right _ hj
       rw [Nat.add_mul,Nat.one_mul] at h2
       simp only [Ty.size];omega
     · simp [hj] at h
 field_le:∀ (t:Ty) (j o:Nat) (u:Ty),t.fieldAt j = some (o,u)→o + u.size ≤ t.size
   | .pair a b,0,o,u,h=>by simp [Ty.fieldAt] at h;obtain ⟨rfl,rfl⟩:=h;simp [Ty.size]
   | .pair a b,j + 1,o,u,h=>by
     simp only [Ty.fieldAt,Option.map_eq_some_iff] at h
     obtain ⟨⟨o2,u2⟩,g1,g2⟩:=h
     simp only [Prod.mk.injEq] at g2
     obtain ⟨rfl,rfl⟩:=g2
     have:=field_le b j o2 u2 g1
     simp only [Ty.size];omega
 fieldMod_at (f:(u:Ty)→u.T→Option u.T):∀ (t:Ty) (x z:t.T) (j o:Nat) (u:Ty) (y:u.T),t.fieldMod f x j = some z→t.fieldAt j = some (o,u)→t.fieldGet x j = some ⟨u,y⟩→∃ y',f u y = some y'
   | .pair a b,x,z,0,o,u,y,h,h',hg=>by
     simp only [Ty.fieldGet,Option.some.injEq,Sigma.mk.injEq] at hg
     obtain ⟨rfl,hg⟩:=hg
     have hg:=eq_of_heq hg;subst hg
     simp only [Ty.fieldMod] at h
     cases hy:f a x.1 with
     | none=>rw [hy] at h;simp at h
     | some y=>exact ⟨y,rfl⟩
   | .pair a b,x,z,j + 1,o,u,y,h,h',hg=>by
     simp only [Ty.fieldAt,Option.map_eq_some_iff] at h'
     obtain ⟨⟨o2,u2⟩,g1,g2⟩:=h'
     simp only [Prod.mk.injEq] at g2
     obtain ⟨rfl,rfl⟩:=g2
     simp only [Ty.fieldMod] at h
     cases hy:b.fieldMod f x.2 j with
     | none=>rw [hy] at h;simp at h
     | some y1=>exact fieldMod_at f b x.2 y1 j o2 u2 y hy g1 hg
 fieldMod_uses (f:(u:Ty)→u.T→Option u.T):∀ (t:Ty) (x z:t.T) (j o:Nat) (u:Ty),t.fieldMod f x j = some z→t.fieldAt j = some (o,u)→∃ y:u.T,∃ y',f u y = some y'
   | t,x,z,j,o,u,h,h'=>let ⟨y,hy⟩:=fieldGet_some t x j o u h';⟨y,fieldMod_at f t x z j o u y h h' hy⟩
end Go.Pv
