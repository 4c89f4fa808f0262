/- The purifying layer, part 4: how data and abstract values stand for Go's values in a world; what later worlds keep. -/
import Derived.Test.YtlebcefahlienaaPvC
import Derived.Deep.MidRow
import Derived.Deep.AppendSrc
import Derived.Below
set_option linter.unusedVariables false
set_option linter.unusedSimpArgs false
namespace Go.Pv
def All2 {α:Type} (R:α→List Value→Prop):List α→List Value→Prop
 | [],cs=>cs = []
 | x :: xs,cs=>∃ c1 c2,cs = c1 ++ c2∧R x c1∧All2 R xs c2
def pack (t:Ty) (cs:List Value):Value:=if t.isAgg then .agg cs.toArray else cs.headD undef
def Lies (Fz:Nat→Prop) (w:World) (a:Option Addr) (len:Nat) (cells:List Value):Prop :=
 (a = a∧len = 0) ∨ ∃ b off c T fz,a = some ⟨b,off,none⟩∧Fz b∧w.heap[b]? = some (.cells c T fz)∧cells <+: c.toList.drop off
def MapRep {α β:Type} (RK:α→Value→Prop) (RV:β→Value→Prop):Nat→List (α×β)→List MapEntry→Prop
 | _,[],es=>es = []
 | n,q :: r,es=>∃ e es',es = e :: es'∧RK q.1 e.key∧RV q.2 e.val∧e.born = n∧MapRep RK RV (n + 1) r es'
def RepC (Fz:Nat→Prop) (w:World):(t:Ty)→t.T→List Value→Prop
 | .int k,x,cs=>cs = [.int k x]
 | .bool,b,cs=>cs = [.bool b]
 | .str,s,cs=>cs = [.string ⟨(s:List UInt8).toArray⟩]
 | .lst e,xs,cs=>∃ a len cap cells,cs = [.slice a len cap]∧(xs:List e.T).length = len∧len ≤ cap∧All2 (RepC Fz w e) xs cells∧Lies Fz w a len cells
 | .unit,_,cs=>cs = []
 | .pair a b,x,cs=>∃ c1 c2,cs = c1 ++ c2∧RepC Fz w a x.1 c1∧RepC Fz w b x.2 c2
 | .arr n e,xs,cs=>(xs:List e.T).length = n∧All2 (RepC Fz w e) xs cs
 | .map k v,es,cs=>∃ r,cs = [.map r]∧((r = none∧(es:List (k.T×v.T)) = []) ∨ ∃ b ents clock,r = some b∧Fz b∧w.heap[b]? = some (.map ents clock)∧clock = ents.size ∧
     MapRep (fun x u=>∃ cs,RepC Fz w k x cs∧u = pack k cs) (fun x u=>∃ cs,RepC Fz w v x cs∧u = pack v cs) 0 es ents.toList)
def RepD (Fz:Nat→Prop) (w:World) (t:Ty) (x:t.T) (u:Value):Prop:=∃ cs,RepC Fz w t x cs∧u = pack t cs
def Fut (Fz:Nat→Prop) (w:World) (Fz':Nat→Prop) (w':World):Prop:=∀ b,Fz b→Fz' b∧w'.heap[b]? = w.heap[b]?
theorem Fut.refl (Fz:Nat→Prop) (w:World):Fut Fz w Fz w:=fun b h=>⟨h,rfl⟩
theorem Fut.trans {F1 F2 F3:Nat→Prop} {a b c:World} (h:Fut F1 a F2 b) (k:Fut F2 b F3 c):Fut F1 a F3 c :=
 fun x hx=>⟨(k x (h x hx).1).1,((k x (h x hx).1).2).trans (h x hx).2⟩
theorem All2.mono {α:Type} {R R':α→List Value→Prop} (h:∀ x cs,R x cs→R' x cs):∀ (xs:List α) (cs:List Value),All2 R xs cs→All2 R' xs cs
 | [],_,hc=>hc
 | x :: xs,cs,⟨c1,c2,he,h1,h2⟩=>⟨c1,c2,he,h x c1 h1,All2.mono h xs c2 h2⟩
theorem MapRep.mono {α β:Type} {RK RK':α→Value→Prop} {RV RV':β→Value→Prop} (h:∀ x u,RK x u→RK' x u) (k:∀ x u,RV x u→RV' x u) :
   ∀ (n:Nat) (xs:List (α×β)) (es:List MapEntry),MapRep RK RV n xs es→MapRep RK' RV' n xs es
 | _,[],_,hc=>hc
 | n,q :: r,es,⟨e,es',he,h1,h2,hb,h3⟩=>⟨e,es',he,h _ _ h1,k _ _ h2,hb,MapRep.mono h k (n + 1) r es' h3⟩
theorem Lies.mono {Fz Fz':Nat→Prop} {w w':World} (hf:Fut Fz w Fz' w') {a:Option Addr} {len:Nat} {cells:List Value} (h:Lies Fz w a len cells):Lies Fz' w' a len cells:=by
 rcases h with h | ⟨b,off,c,T,fz,ha,hb,hc,hp⟩
 · exact .inl h
 · exact .inr ⟨b,off,c,T,fz,ha,(hf b hb).1,(hf b hb).2.trans hc,hp⟩
theorem RepC.mono {Fz Fz':Nat→Prop} {w w':World} (hf:Fut Fz w Fz' w'):∀ (t:Ty) (x:t.T) (cs:List Value),RepC Fz w t x cs→RepC Fz' w' t x cs
 | .int _,_,_,h=>h
 | .bool,_,_,h=>h
 | .str,_,_,h=>h
 | .unit,_,_,h=>h
 | .lst e,xs,cs,⟨a,len,cap,cells,h1,h2,h3,h4,h5⟩=>⟨a,len,cap,cells,h1,h2,h3,All2.mono (fun x cs=>RepC.mono hf e x cs) _ _ h4,h5.mono hf⟩
 | .pair a b,x,cs,⟨c1,c2,h,h1,h2⟩=>⟨c1,c2,h,RepC.mono hf a _ _ h1,RepC.mono hf b _ _ h2⟩
 | .arr n e,xs,cs,⟨h1,h2⟩=>⟨h1,All2.mono (fun x cs=>RepC.mono hf e x cs) _ _ h2⟩
 | .map k v,es,cs,⟨r,h1,h2⟩=>⟨r,h1,h2.imp id fun ⟨b,ents,clock,hr,hb,hh,hcl,hm⟩=>⟨b,ents,clock,hr,(hf b hb).1,(hf b hb).2.trans hh,hcl,
     MapRep.mono (fun x u ⟨c,h,hu⟩=>⟨c,RepC.mono hf k x c h,hu⟩) (fun x u ⟨c,h,hu⟩=>⟨c,RepC.mono hf v x c h,hu⟩) _ _ _ hm⟩⟩
theorem RepD.mono {Fz Fz':Nat→Prop} {w w':World} (hf:Fut Fz w Fz' w') {t:Ty} {x:t.T} {u:Value} (h:RepD Fz w t x u):RepD Fz' w' t x u :=
 let ⟨cs,h,hu⟩:=h;⟨cs,h.mono hf,hu⟩
theorem All2.size {α:Type} {R:α→List Value→Prop} {n:Nat} (h:∀ x cs,R x cs→cs.length = n):∀ (xs:List α) (cs:List Value),All2 R xs cs→cs.length = xs.length * n
 | [],_,hc=>by subst hc;simp
 | x :: xs,cs,⟨c1,c2,he,h1,h2⟩=>by
   subst he
   rw [List.length_append,h x c1 h1,All2.size h xs c2 h2,List.length_cons,Nat.add_mul,Nat.one_mul,Nat.add_comm]
theorem All2.one {α:Type} {R:α→List Value→Prop} (h:∀ x cs,R x cs→∀ u ∈ cs,u.oneCell' = true):∀ (xs:List α) (cs:List Value),All2 R xs cs→∀ u ∈ cs,u.oneCell' = true
 | [],_,hc=>by subst hc;simp
 | x :: xs,cs,⟨c1,c2,he,h1,h2⟩=>by
   subst he
   intro u hu
   rcases List.mem_append.1 hu with hu | hu
   · exact h x c1 h1 u hu
   · exact All2.one h xs c2 h2 u hu
variable {Fz:Nat→Prop} {w:World}
theorem RepC.size:∀ (t:Ty) (x:t.T) (cs:List Value),RepC Fz w t x cs→cs.length = t.size
 | .int _,_,_,h=>by rw [show _ = _ from h];rfl
 | .bool,_,_,h=>by rw [show _ = _ from h];rfl
 | .str,_,_,h=>by rw [show _ = _ from h];rfl
 | .unit,_,_,h=>by rw [show _ = _ from h];rfl
 | .lst e,xs,cs,⟨a,len,cap,cells,h1,_⟩=>by rw [h1];rfl
 | .pair a b,x,cs,⟨c1,c2,h,h1,h2⟩=>by rw [h,List.length_append,RepC.size a _ _ h1,RepC.size b _ _ h2];rfl
 | .arr n e,xs,cs,⟨h1,h2⟩=>by
   have:=All2.size (fun x cs=>RepC.size e x cs) _ _ h2
   rw [this];rw [show (xs:List e.T).length = n from h1];rfl
 | .map k v,es,cs,⟨r,h1,_⟩=>by rw [h1];rfl
theorem RepC.one:∀ (t:Ty) (x:t.T) (cs:List Value),RepC Fz w t x cs→∀ u ∈ cs,u.oneCell' = true
 | .int _,_,_,h=>by rw [show _ = _ from h];simp [Value.oneCell']
 | .bool,_,_,h=>by rw [show _ = _ from h];simp [Value.oneCell']
 | .str,_,_,h=>by rw [show _ = _ from h];simp [Value.oneCell']
 | .unit,_,_,h=>by rw [show _ = _ from h];simp
 | .lst e,xs,cs,⟨a,len,cap,cells,h1,_⟩=>by rw [h1];simp [Value.oneCell']
 | .pair a b,x,cs,⟨c1,c2,h,h1,h2⟩=>by
   rw [h];intro u hu
   rcases List.mem_append.1 hu with hu | hu
   · exact RepC.one a _ _ h1 u hu
   · exact RepC.one b _ _ h2 u hu
 | .arr n e,xs,cs,⟨h1,h2⟩=>All2.one (fun x cs=>RepC.one e x cs) _ _ h2
 | .map k v,es,cs,⟨r,h1,_⟩=>by rw [h1];simp [Value.oneCell']
theorem pack_cells {t:Ty} {x:t.T} {cs:List Value} (h:RepC Fz w t x cs):(pack t cs).cells.toList = cs:=by
 unfold pack
 by_cases ha:t.isAgg = true
 · simp [ha,Value.cells]
 · simp only [ha]
   cases t with
   | int k=>rw [show _ = _ from h];rfl
   | bool=>rw [show _ = _ from h];rfl
   | str=>rw [show _ = _ from h];rfl
   | lst e=>obtain ⟨a,len,cap,cells,h1,_⟩:=h;rw [h1];rfl
   | map k v=>obtain ⟨r,h1,_⟩:=h;rw [h1];rfl
   | unit=>simp [Ty.isAgg] at ha
   | pair a b=>simp [Ty.isAgg] at ha
   | arr n e=>simp [Ty.isAgg] at ha
theorem leaf_one {t:Ty} {x:t.T} {cs:List Value} (h:RepC Fz w t x cs) (ha:t.isAgg = false):∃ u,cs = [u]∧pack t cs = u:=by
 have hs:=h.size
 have:t.size = 1:=by cases t <;> simp_all [Ty.size,Ty.isAgg]
 obtain ⟨u,rfl⟩:∃ u,cs = [u]:=by
   cases cs with
   | nil=>simp at hs;omega
   | cons a l=>cases l with
     | nil=>exact ⟨a,rfl⟩
     | cons b l=>simp at hs;omega
 exact ⟨u,rfl,by simp [pack,ha]⟩
theorem All2.elem {α:Type} {R:α→List Value→Prop} {n:Nat} (hn:∀ x cs,R x cs→cs.length = n) :
   ∀ (xs:List α) (cs:List Value),All2 R xs cs→∀ i (hi:i < xs.length),R xs[i] ((cs.drop (i * n)).take n)
 | x :: xs,cs,⟨c1,c2,he,h1,h2⟩,0,_=>by
   subst he
   have:=hn x c1 h1
   simp only [Nat.zero_mul,List.drop_zero,List.getElem_cons_zero]
   rw [← this,List.take_left];exact h1
 | x :: xs,cs,⟨c1,c2,he,h1,h2⟩,i + 1,hi=>by
   subst he
   have h:=hn x c1 h1
   have:=All2.elem hn xs c2 h2 i (by simpa using hi)
   simp only [List.getElem_cons_succ]
   have e:(i + 1) * n = c1.length + i * n:=by rw [h,Nat.add_mul,Nat.one_mul,Nat.add_comm]
   rw [e,← List.drop_drop,List.drop_left]
   exact this
theorem All2.append {α:Type} {R:α→List Value→Prop}:∀ (xs ys:List α) (c d:List Value),All2 R xs c→All2 R ys d→All2 R (xs ++ ys) (c ++ d)
 | [],ys,c,d,hc,hd=>by have:c = []:=hc;subst this;exact hd
 | x :: xs,ys,c,d,⟨c1,c2,he,h1,h2⟩,hd=>by
   subst he
   exact ⟨c1,c2 ++ d,by simp,h1,All2.append xs ys c2 d h2 hd⟩
theorem All2.take {α:Type} {R:α→List Value→Prop} {n:Nat} (hn:∀ x cs,R x cs→cs.length = n):∀ (k:Nat) (xs:List α) (c:List Value),All2 R xs c→All2 R (xs.take k) (c.take (k * n))
 | 0,xs,c,h=>by simp;rfl
 | k + 1,[],c,h=>by have:c = []:=h;subst this;simp;rfl
 | k + 1,x :: xs,c,⟨c1,c2,he,h1,h2⟩=>by
   subst he
   have hl:=hn x c1 h1
   refine ⟨c1,c2.take (k * n),?_,h1,All2.take hn k xs c2 h2⟩
   have e:(k + 1) * n = c1.length + k * n:=by rw [hl,Nat.add_mul,Nat.one_mul,Nat.add_comm]
   rw [e,List.take_length_add_append]
theorem All2.drop {α:Type} {R:α→List Value→Prop} {n:Nat} (hn:∀ x cs,R x cs→cs.length = n):∀ (k:Nat) (xs:List α) (c:List Value),All2 R xs c→All2 R (xs.drop k) (c.drop (k * n))
 | 0,xs,c,h=>by simpa using h
 | k + 1,[],c,h=>by have:c = []:=h;subst this;simp;rfl
 | k + 1,x :: xs,c,⟨c1,c2,he,h1,h2⟩=>by
   subst he
   have hl:=hn x c1 h1
   have e:(k + 1) * n = c1.length + k * n:=by rw [hl,Nat.add_mul,Nat.one_mul,Nat.add_comm]
   rw [e,List.drop_length_add_append,List.drop_succ_cons]
   exact All2.drop hn k xs c2 h2
theorem All2.set {α:Type} {R:α→List Value→Prop} {n:Nat} (hn:∀ x cs,R x cs→cs.length = n):∀ (xs:List α) (c:List Value),All2 R xs c→∀ (i:Nat) (y:α) (d:List Value),i < xs.length→R y d →
   All2 R (xs.set i y) (c.take (i * n) ++ d ++ c.drop (i * n + n))
 | x :: xs,c,⟨c1,c2,he,h1,h2⟩,0,y,d,_,hd=>by
   subst he
   have hl:=hn x c1 h1
   refine ⟨d,c2,?_,hd,h2⟩
   simp only [Nat.zero_mul,List.take_zero,List.nil_append,Nat.zero_add]
   rw [← hl,List.drop_left]
 | x :: xs,c,⟨c1,c2,he,h1,h2⟩,i + 1,y,d,hi,hd=>by
   subst he
   have hl:=hn x c1 h1
   have e:(i + 1) * n = c1.length + i * n:=by rw [hl,Nat.add_mul,Nat.one_mul,Nat.add_comm]
   refine ⟨c1,c2.take (i * n) ++ d ++ c2.drop (i * n + n),?_,h1,All2.set hn xs c2 h2 i y d (by simpa using hi) hd⟩
   rw [e,List.take_length_add_append,Nat.add_assoc,← List.drop_drop,List.drop_left]
   simp
theorem All2.replicate {α:Type} {R:α→List Value→Prop} {x:α} {c:List Value} (h:R x c):∀ n,All2 R (List.replicate n x) (List.replicate n c).flatten
 | 0=>rfl
 | n + 1=>⟨c,(List.replicate n c).flatten,by simp [List.replicate_succ],h,All2.replicate h n⟩
end Go.Pv
