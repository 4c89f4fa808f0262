/- The purifying layer, part 27: loops, told by shapes. -/
import Derived.Test.YtlebcefahlienaaPvZ
set_option linter.unusedVariables false
set_option linter.unusedSimpArgs false
namespace Go.Pv
variable {P:Program} {Γ:Cfg} {C:Type}
inductive Sh0 where
 | d (t:Ty)
 | p (t:Ty)
 | c (a b:Ty)
 | pc (a b:Ty)
 | ref (k s:Nat) (p:List Nat)
 | sl (e:Ty) (k s:Nat)
 | mp (k s:Nat)
 | row (e:Ty) (k s i:Nat)
 | rowi (e:Ty) (k s:Nat)
 | nils
 | junk
 | undef
 | nilf
 | cb (i:Nat)
@[reducible] def Sh0.T:Sh0→Type
 | .d t=>t.T
 | .p t=>t.T
 | .c a b=>a.T→Option b.T
 | .pc a b=>a.T→Option b.T
 | .rowi _ _ _=>Nat
 | _=>Unit
def Sh0.put:(s:Sh0)→s.T→V
 | .d t,x=>.dat t x
 | .p t,x=>.eptr (.dat t x)
 | .c a b,g=>.clo a b g
 | .pc a b,g=>.eptr (.clo a b g)
 | .ref k s pa,_=>.ref k s pa
 | .sl e k s,_=>.sl e k s
 | .mp k s,_=>.mp k s
 | .row e k s i,_=>.row e k s i
 | .rowi e k s,i=>.row e k s (i + 1)
 | .nils,_=>.nils
 | .junk,_=>.junk
 | .undef,_=>.undef
 | .nilf,_=>.nilf
 | .cb i,_=>.cb i
def Sh0.get:(s:Sh0)→V→Option s.T
 | .d t,v=>v.as t
 | .p t,.eptr v=>v.as t
 | .c a b,.clo a' b' g=>if h:a' = a∧b' = b then some (h.1 ▸ h.2 ▸ g) else none
 | .pc a b,.eptr (.clo a' b' g)=>if h:a' = a∧b' = b then some (h.1 ▸ h.2 ▸ g) else none
 | .ref k s pa,.ref k' s' pb=>if k' = k∧s' = s∧pb = pa then some () else none
 | .sl e k s,.sl e' k' s'=>if e' = e∧k' = k∧s' = s then some () else none
 | .mp k s,.mp k' s'=>if k' = k∧s' = s then some () else none
 | .rowi e k s,.row e' k' s' (i + 1)=>if e' = e∧k' = k∧s' = s then some i else none
 | .row e k s i,.row e' k' s' i'=>if e' = e∧k' = k∧s' = s∧i' = i then some () else none
 | .nils,.nils=>some ()
 | .junk,.junk=>some ()
 | .undef,.undef=>some ()
 | .nilf,.nilf=>some ()
 | .cb i,.cb j=>bif Nat.beq i j then some () else none
 | _,_=>none
theorem Sh0.get_put:∀ (s:Sh0) (v:V) (x:s.T),s.get v = some x→v = s.put x:=by
 intro s v x h
 cases s with
 | d t=>exact as_some h
 | p t =>
   cases v <;> simp only [Sh0.get] at h <;> first | exact (by rw [as_some h];rfl) | (simp at h;done)
 | c a b=>exact AS.get_put (.c a b) v x (by cases v <;> exact h)
 | pc a b =>
   refine AS.get_put (.pc a b) v x ?_
   cases v <;> try exact h
   rename_i v
   cases v <;> exact h
 | ref k s p =>
   cases v <;> simp only [Sh0.get] at h <;> try (simp at h;done)
   split at h
   · rename_i hh;obtain ⟨rfl,rfl,rfl⟩:=hh;rfl
   · simp at h
 | sl e k s =>
   cases v <;> simp only [Sh0.get] at h <;> try (simp at h;done)
   split at h
   · rename_i hh;obtain ⟨rfl,rfl,rfl⟩:=hh;rfl
   · simp at h
 | mp k s =>
   cases v <;> simp only [Sh0.get] at h <;> try (simp at h;done)
   split at h
   · rename_i hh;obtain ⟨rfl,rfl⟩:=hh;rfl
   · simp at h
 | rowi e k s =>
   cases v <;> simp only [Sh0.get] at h <;> try (simp at h;done)
   rename_i e' k' s' i'
   cases i' with
   | zero=>simp [Sh0.get] at h
   | succ i' =>
     simp only [Sh0.get] at h
     split at h
     · rename_i hh;obtain ⟨rfl,rfl,rfl⟩:=hh
       simp only [Option.some.injEq] at h;subst h;rfl
     · simp at h
 | row e k s i =>
   cases v <;> simp only [Sh0.get] at h <;> try (simp at h;done)
   split at h
   · rename_i hh;obtain ⟨rfl,rfl,rfl,rfl⟩:=hh;rfl
   · simp at h
 | nils=>cases v <;> simp only [Sh0.get] at h <;> first | rfl | (simp at h;done)
 | junk=>cases v <;> simp only [Sh0.get] at h <;> first | rfl | (simp at h;done)
 | undef=>cases v <;> simp only [Sh0.get] at h <;> first | rfl | (simp at h;done)
 | nilf=>cases v <;> simp only [Sh0.get] at h <;> first | rfl | (simp at h;done)
 | cb i =>
   cases v <;> simp only [Sh0.get] at h <;> try (simp at h;done)
   rename_i j
   cases hb:Nat.beq i j with
   | true=>rw [Nat.eq_of_beq_eq_true hb];rfl
   | false=>rw [hb] at h;simp at h
@[reducible] def Prod0:List Sh0→Type
 | []=>Unit
 | s :: r=>s.T×Prod0 r
def put0:(l:List Sh0)→Prod0 l→List V
 | [],_=>[]
 | s :: r,x=>s.put x.1 :: put0 r x.2
def get0:(l:List Sh0)→List V→Option (Prod0 l)
 | [],[]=>some ()
 | s :: r,v :: vs=>match s.get v,get0 r vs with
   | some x,some y=>some (x,y)
   | _,_=>none
 | _,_=>none
theorem get0_put:∀ (l:List Sh0) (vs:List V) (x:Prod0 l),get0 l vs = some x→vs = put0 l x
 | [],[],_,_=>rfl
 | [],_ :: _,_,h=>by simp [get0] at h
 | _ :: _,[],_,h=>by simp [get0] at h
 | s :: r,v :: vs,x,h=>by
   simp only [get0] at h
   split at h
   · rename_i y z h1 h2
     simp only [Option.some.injEq] at h
     subst h
     rw [Sh0.get_put s v y h1,get0_put r vs z h2];rfl
   · simp at h
inductive Sh1 where
 | a (s:Sh0)
 | fn (f:FuncId) (caps:List Sh0)
 | agg (fs:List Sh0)
@[reducible] def Sh1.T:Sh1→Type
 | .a s=>s.T
 | .fn _ l=>Prod0 l
 | .agg l=>Prod0 l
def Sh1.put:(s:Sh1)→s.T→V
 | .a s,x=>s.put x
 | .fn f l,x=>.fn f (put0 l x)
 | .agg l,x=>.agg (put0 l x)
def Sh1.get:(s:Sh1)→V→Option s.T
 | .a s,v=>s.get v
 | .fn f l,.fn f' vs=>bif Nat.beq f' f then get0 l vs else none
 | .agg l,.agg vs=>get0 l vs
 | _,_=>none
theorem Sh1.get_put:∀ (s:Sh1) (v:V) (x:s.T),s.get v = some x→v = s.put x:=by
 intro s v x h
 cases s with
 | a s=>exact Sh0.get_put s v x h
 | fn f l =>
   cases v <;> simp only [Sh1.get] at h <;> try (simp at h;done)
   rename_i f' vs
   cases hf:Nat.beq f' f with
   | false=>rw [hf] at h;simp at h
   | true =>
     rw [hf] at h
     rw [Nat.eq_of_beq_eq_true hf,get0_put l vs x h];rfl
 | agg l =>
   cases v <;> simp only [Sh1.get] at h <;> try (simp at h;done)
   rw [get0_put l _ x h];rfl
@[reducible] def Prod1:List Sh1→Type
 | []=>Unit
 | s :: r=>s.T×Prod1 r
def put1:(l:List Sh1)→Prod1 l→List V
 | [],_=>[]
 | s :: r,x=>s.put x.1 :: put1 r x.2
def get1:(l:List Sh1)→List V→Option (Prod1 l)
 | [],[]=>some ()
 | s :: r,v :: vs=>match s.get v,get1 r vs with
   | some x,some y=>some (x,y)
   | _,_=>none
 | _,_=>none
theorem get1_put:∀ (l:List Sh1) (vs:List V) (x:Prod1 l),get1 l vs = some x→vs = put1 l x
 | [],[],_,_=>rfl
 | [],_ :: _,_,h=>by simp [get1] at h
 | _ :: _,[],_,h=>by simp [get1] at h
 | s :: r,v :: vs,x,h=>by
   simp only [get1] at h
   split at h
   · rename_i y z h1 h2
     simp only [Option.some.injEq] at h
     subst h
     rw [Sh1.get_put s v y h1,get1_put r vs z h2];rfl
   · simp at h
structure CbF (t b:Ty) where
 y:t.T→List V→Option (t.T×Bool)
 f:t.T→List V→Option (t.T×b.T)
@[reducible] def CbF.cbs {t b:Ty} (c:CbF t b):Cbs t:=⟨c.y,b,c.f⟩
def CbF.of {t:Ty} (b:Ty) (run:Cbs t):Option (CbF t b):=if h:run.b = b then some ⟨run.y,h ▸ run.f⟩ else none
theorem CbF.of_cbs {t b:Ty} {run:Cbs t} {c:CbF t b} (h:CbF.of b run = some c):run = c.cbs:=by
 obtain ⟨y,b',f⟩:=run
 unfold CbF.of at h
 split at h
 · rename_i hb
   have hb:b' = b:=hb
   subst hb
   simp only [Option.some.injEq] at h
   subst h;rfl
 · simp at h
inductive OSh where
 | none
 | box (k:K) (s:Sh1)
 | vec (e:Ty)
 | map (k v:Ty)
 | gone
 | gh (t:Ty)
 | sav (i:Nat) (s:Sh1)
 | grid (e:Ty)
 | mgrid (k e:Ty)
 | mi (k v:Ty)
 | ghf (t b:Ty)
@[reducible] def OSh.T:OSh→Type
 | .none=>Unit
 | .box _ s=>s.T
 | .vec e=>List e.T
 | .map k v=>List (k.T×v.T)
 | .gone=>Unit
 | .gh t=>Cbs t×t.T
 | .ghf t b=>CbF t b×t.T
 | .sav _ s=>s.T
 | .grid e=>List Nat×List (Option (List e.T))
 | .mgrid k e=>List (k.T×Nat)×List (Option (List e.T))
 | .mi k v=>List (k.T×v.T)×List Nat×Option (k.T×v.T)
def OSh.put:(s:OSh)→s.T→Option Obj
 | .none,_=>Option.none
 | .box k s,x=>some (.box k (s.put x))
 | .vec e,xs=>some (.vec e xs)
 | .map k v,es=>some (.map k v es)
 | .gone,_=>some .gone
 | .gh t,x=>some (.gh t x.1 x.2)
 | .ghf t b,x=>some (.gh t x.1.cbs x.2)
 | .sav i s,x=>some (.sav i (s.put x))
 | .grid e,x=>some (.grid e (.ids x.1) x.2)
 | .mgrid k e,x=>some (.grid e (.keys k x.1) x.2)
 | .mi k v,x=>some (.mi k v x.1 x.2.1 x.2.2)
def OSh.get:(s:OSh)→Option Obj→Option s.T
 | .none,Option.none=>some ()
 | .box k s,some (.box k' c)=>if k' = k then s.get c else Option.none
 | .vec e,some (.vec e' xs)=>if h:e' = e then some (h ▸ xs) else Option.none
 | .map k v,some (.map k' v' es)=>if h:k' = k∧v' = v then some (h.1 ▸ h.2 ▸ es) else Option.none
 | .gone,some .gone=>some ()
 | .gh t,some (.gh t' run x)=>if h:t' = t then some (h ▸ run,h ▸ x) else Option.none
 | .ghf t b,some (.gh t' run x)=>if h:t' = t then (CbF.of b (h ▸ run:Cbs t)).map fun c=>(c,(h ▸ x:t.T)) else Option.none
 | .sav i s,some (.sav j c)=>bif Nat.beq i j then s.get c else Option.none
 | .mi k v,some (.mi k' v' es seen cur)=>if h:k' = k∧v' = v then some (h.1 ▸ h.2 ▸ es,seen,h.1 ▸ h.2 ▸ cur) else Option.none
 | .grid e,some (.grid e' sp rows)=>match sp with
   | .ids ids=>if h:e' = e then some (ids,h ▸ rows) else Option.none
   | _=>Option.none
 | .mgrid k e,some (.grid e' sp rows)=>match sp with
   | .keys k' es=>if h:k' = k∧e' = e then some (h.1 ▸ es,h.2 ▸ rows) else Option.none
   | _=>Option.none
 | _,_=>Option.none
theorem OSh.get_put:∀ (s:OSh) (o:Option Obj) (x:s.T),s.get o = some x→o = s.put x:=by
 intro s o x h
 cases s with
 | none=>cases o <;> simp only [OSh.get] at h <;> first | rfl | (simp at h;done)
 | box k s =>
   cases o with
   | none=>simp [OSh.get] at h
   | some o =>
     cases o <;> simp only [OSh.get] at h <;> try (simp at h;done)
     split at h
     · rename_i hh;subst hh;rw [Sh1.get_put s _ x h];rfl
     · simp at h
 | vec e =>
   cases o with
   | none=>simp [OSh.get] at h
   | some o =>
     cases o <;> simp only [OSh.get] at h <;> try (simp at h;done)
     split at h
     · rename_i hh;subst hh;simp only [Option.some.injEq] at h;subst h;rfl
     · simp at h
 | map k v =>
   cases o with
   | none=>simp [OSh.get] at h
   | some o =>
     cases o <;> simp only [OSh.get] at h <;> try (simp at h;done)
     split at h
     · rename_i hh
       obtain ⟨rfl,rfl⟩:=hh
       simp only [Option.some.injEq] at h;subst h;rfl
     · simp at h
 | mi k v =>
   cases o with
   | none=>simp [OSh.get] at h
   | some o =>
     cases o <;> simp only [OSh.get] at h <;> try (simp at h;done)
     split at h
     · rename_i hh
       obtain ⟨rfl,rfl⟩:=hh
       simp only [Option.some.injEq] at h;subst h;rfl
     · simp at h
 | grid e =>
   cases o with
   | none=>simp [OSh.get] at h
   | some o =>
     cases o <;> simp only [OSh.get] at h <;> try (simp at h;done)
     rename_i e' sp rows
     cases sp with
     | keys kk es=>simp at h
     | ids ids =>
       simp only at h
       split at h
       · rename_i hh;subst hh;simp only [Option.some.injEq] at h;subst h;rfl
       · simp at h
 | mgrid k e =>
   cases o with
   | none=>simp [OSh.get] at h
   | some o =>
     cases o <;> simp only [OSh.get] at h <;> try (simp at h;done)
     rename_i e' sp rows
     cases sp with
     | ids ids=>simp at h
     | keys kk es =>
       simp only at h
       split at h
       · rename_i hh
         obtain ⟨rfl,rfl⟩:=hh
         simp only [Option.some.injEq] at h;subst h;rfl
       · simp at h
 | gone =>
   cases o with
   | none=>simp [OSh.get] at h
   | some o=>cases o <;> simp only [OSh.get] at h <;> first | rfl | (simp at h;done)
 | gh t =>
   cases o with
   | none=>simp [OSh.get] at h
   | some o =>
     cases o <;> simp only [OSh.get] at h <;> try (simp at h;done)
     split at h
     · rename_i hh
       subst hh
       simp only [Option.some.injEq] at h;subst h;rfl
     · simp at h
 | ghf t b =>
   cases o with
   | none=>simp [OSh.get] at h
   | some o =>
     cases o <;> simp only [OSh.get] at h <;> try (simp at h;done)
     split at h
     · rename_i hh
       subst hh
       simp only [Option.map_eq_some_iff] at h
       obtain ⟨c,h1,rfl⟩:=h
       rw [CbF.of_cbs h1];rfl
     · simp at h
 | sav i s =>
   cases o with
   | none=>simp [OSh.get] at h
   | some o =>
     cases o <;> simp only [OSh.get] at h <;> try (simp at h;done)
     rename_i j c
     cases hb:Nat.beq i j with
     | true =>
       rw [hb] at h
       rw [Sh1.get_put s _ x h,Nat.eq_of_beq_eq_true hb];rfl
     | false=>rw [hb] at h;simp at h
@[reducible] def ProdO:List OSh→Type
 | []=>Unit
 | s :: r=>s.T×ProdO r
def putO:(l:List OSh)→ProdO l→List (Option Obj)
 | [],_=>[]
 | s :: r,x=>s.put x.1 :: putO r x.2
def getO:(l:List OSh)→List (Option Obj)→Option (ProdO l)
 | [],[]=>some ()
 | s :: r,v :: vs=>match s.get v,getO r vs with
   | some x,some y=>some (x,y)
   | _,_=>none
 | _,_=>none
theorem getO_put:∀ (l:List OSh) (vs:List (Option Obj)) (x:ProdO l),getO l vs = some x→vs = putO l x
 | [],[],_,_=>rfl
 | [],_ :: _,_,h=>by simp [getO] at h
 | _ :: _,[],_,h=>by simp [getO] at h
 | s :: r,v :: vs,x,h=>by
   simp only [getO] at h
   split at h
   · rename_i y z h1 h2
     simp only [Option.some.injEq] at h
     subst h
     rw [OSh.get_put s v y h1,getO_put r vs z h2];rfl
   · simp at h
noncomputable def itP {α:Type} (B:(α→Option C)→α→Option C) (n:Nat):α→Option C:=Nat.rec (fun _=>none) (fun _ f=>B f) n
abbrev bodyEv (Γ:Cfg) (an:Ann) (b:Code) (p:Nat) (rec:St→Option C) (K':Ex→St→Option C) (st:St):Option C :=
 ev Γ an b (2 * p) st fun e st=>match e with
   | .normal=>bif objsOk (norm (an.keepOf p).1 (an.keepOf p).2 st).objs then rec (norm (an.keepOf p).1 (an.keepOf p).2 st) else none
   | e=>leave (an.outOf p).1 (an.outOf p).2 K' e st
theorem loop_gen {an:Ann} {b:Code} {p:Nat} {K':Ex→St→Option C} {α:Type} (mk:α→St) (B:(α→Option C)→α→Option C) (h:∀ rec a,bodyEv Γ an b p rec K' (mk a) = B (fun a=>rec (mk a)) a) :
   ∀ n a,loopRun Γ an b p n (mk a) K' = itP B n a
 | 0,_=>rfl
 | n + 1,a=>by
   have h1:=h (fun st=>loopRun Γ an b p n st K') a
   have h2:(fun a=>loopRun Γ an b p n (mk a) K') = itP B n:=funext fun a=>loop_gen mk B h n a
   rw [h2] at h1
   exact h1
structure Told where
 nt:Nat
 sv:List Sh1
 so:List OSh
 run:{C:Type}→(Ex→St→Option C)→(Prod1 sv×ProdO so→Option C)→Prod1 sv×ProdO so→Option C
def Told.mk' (t:Told) (kT kK:List Nat) (a:Prod1 t.sv×ProdO t.so):St:=build t.nt kT kK (put1 t.sv a.1) (putO t.so a.2)
noncomputable def Told.fn (t:Told) (N:Nat):LoopFn:=⟨fun n vs os K'=>bif Nat.beq n t.nt then (match get1 t.sv vs,getO t.so os with
 | some x,some y=>itP (t.run K') N (x,y)
 | _,_=>none) else none⟩
noncomputable def toldL (N:Nat):List (Nat×Told)→Nat→Option LoopFn
 | [],_=>none
 | q :: r,p=>bif Nat.beq q.1 p then some (q.2.fn N) else toldL N r p
structure ToldOk (Γ:Cfg) (an:Ann) (root:Code) (p:Nat) (t:Told):Prop where
 at_:∃ b,codeAt root 64 p = some (.loop b) ∧
   ∀ {C:Type} (K':Ex→St→Option C) rec a,bodyEv Γ an b p rec K' (t.mk' (an.keepOf p).1 (an.keepOf p).2 a) = t.run K' (fun a=>rec (t.mk' (an.keepOf p).1 (an.keepOf p).2 a)) a
 fit:∀ a,objsOk (t.mk' (an.keepOf p).1 (an.keepOf p).2 a).objs = true
def AllTold (Γ:Cfg) (an:Ann) (root:Code):List (Nat×Told)→Prop
 | []=>True
 | q :: r=>ToldOk Γ an root q.1 q.2∧AllTold Γ an root r
theorem told_ok {an:Ann} {root:Code} {N:Nat} (l0:List (Nat×Told)) (hf:an.fuel = fun _ _ _=>N) (hL:an.L = toldL N l0) (h:AllTold Γ an root l0):LOk0 Γ an root:=by
 intro p f hp k b hk C n vs os K' r hr
 rw [hL] at hp
 -- the row
 have key:∀ l:List (Nat×Told),AllTold Γ an root l→toldL N l p = some f→∃ t:Told,f = t.fn N∧ToldOk Γ an root p t:=by
   intro l
   induction l with
   | nil=>intro _ h;simp [toldL] at h
   | cons q l ih =>
     intro ha h
     simp only [toldL] at h
     cases hq:Nat.beq q.1 p with
     | true =>
       rw [hq] at h
       simp only [cond_true,Option.some.injEq] at h
       refine ⟨q.2,h.symm,?_⟩
       rw [← Nat.eq_of_beq_eq_true hq];exact ha.1
     | false =>
       rw [hq] at h
       exact ih ha.2 h
 obtain ⟨t,rfl,ht⟩:=key l0 h hp
 obtain ⟨b',hb',hbody⟩:=ht.at_
 have hbb:=codeAt_fn hk hb'
 simp only [Code.loop.injEq] at hbb
 subst hbb
 simp only [Told.fn] at hr
 cases hn:Nat.beq n t.nt with
 | false=>rw [hn] at hr;simp at hr
 | true =>
   rw [hn] at hr
   simp only [cond_true] at hr
   have hnn:=Nat.eq_of_beq_eq_true hn
   subst hnn
   split at hr
   · rename_i x y hx hy
     have hvs:=get1_put _ _ _ hx
     have hos:=getO_put _ _ _ hy
     have hfuel:an.fuel p vs os = N:=by rw [hf]
     have hloop:=loop_gen (t.mk' (an.keepOf p).1 (an.keepOf p).2) (t.run K') (fun rec a=>hbody K' rec a) N (x,y)
     have hfit:=ht.fit (x,y)
     unfold loopEv
     rw [hfuel]
     have hbld:build t.nt (an.keepOf p).1 (an.keepOf p).2 vs os = t.mk' (an.keepOf p).1 (an.keepOf p).2 (x,y):=by rw [hvs,hos];rfl
     rw [hbld,hfit]
     simp only [cond_true]
     rw [hloop];exact hr
   · simp at hr
def Sh0.ty:Sh0→Ty
 | .d t=>t
 | .p t=>t
 | _=>.unit
def Sh0.ok:Sh0→Bool
 | .c _ _ | .pc _ _ | .rowi _ _ _=>false
 | _=>true
def Sh0.toT:(s:Sh0)→s.T→s.ty.T
 | .d _,x=>x
 | .p _,x=>x
 | .c _ _,_=>()
 | .pc _ _,_=>()
 | .ref _ _ _,_=>()
 | .sl _ _ _,_=>()
 | .mp _ _,_=>()
 | .row _ _ _ _,_=>()
 | .rowi _ _ _,_=>()
 | .nils,_=>()
 | .junk,_=>()
 | .undef,_=>()
 | .nilf,_=>()
 | .cb _,_=>()
def Sh0.fromT:(s:Sh0)→s.ty.T→Option s.T
 | .d _,x=>some x
 | .p _,x=>some x
 | .c _ _,_=>none
 | .pc _ _,_=>none
 | .ref _ _ _,_=>some ()
 | .sl _ _ _,_=>some ()
 | .mp _ _,_=>some ()
 | .row _ _ _ _,_=>some ()
 | .rowi _ _ _,_=>none
 | .nils,_=>some ()
 | .junk,_=>some ()
 | .undef,_=>some ()
 | .nilf,_=>some ()
 | .cb _,_=>some ()
theorem Sh0.from_to (s:Sh0) (h:s.ok = true) (x:s.T):s.fromT (s.toT x) = some x:=by cases s <;> first | rfl | simp [Sh0.ok] at h
def ty0:List Sh0→Ty
 | []=>.unit
 | s :: r=>.pair s.ty (ty0 r)
def ok0s:List Sh0→Bool
 | []=>true
 | s :: r=>s.ok && ok0s r
def to0:(l:List Sh0)→Prod0 l→(ty0 l).T
 | [],_=>()
 | s :: r,x=>(s.toT x.1,to0 r x.2)
def from0s:(l:List Sh0)→(ty0 l).T→Option (Prod0 l)
 | [],_=>some ()
 | s :: r,x=>match s.fromT x.1,from0s r x.2 with
   | some a,some b=>some (a,b)
   | _,_=>none
theorem from0_to:∀ (l:List Sh0) (h:ok0s l = true) (x:Prod0 l),from0s l (to0 l x) = some x
 | [],_,_=>rfl
 | s :: r,h,x=>by
   simp only [ok0s,Bool.and_eq_true] at h
   simp only [to0,from0s,Sh0.from_to s h.1,from0_to r h.2]
def Sh1.ty:Sh1→Ty
 | .a s=>s.ty
 | .fn _ l=>ty0 l
 | .agg l=>ty0 l
def Sh1.ok:Sh1→Bool
 | .a s=>s.ok
 | .fn _ l=>ok0s l
 | .agg l=>ok0s l
def Sh1.toT:(s:Sh1)→s.T→s.ty.T
 | .a s,x=>s.toT x
 | .fn _ l,x=>to0 l x
 | .agg l,x=>to0 l x
def Sh1.fromT:(s:Sh1)→s.ty.T→Option s.T
 | .a s,x=>s.fromT x
 | .fn _ l,x=>from0s l x
 | .agg l,x=>from0s l x
theorem Sh1.from_to (s:Sh1) (h:s.ok = true) (x:s.T):s.fromT (s.toT x) = some x:=by
 cases s with
 | a s=>exact Sh0.from_to s h x
 | fn f l=>exact from0_to l h x
 | agg l=>exact from0_to l h x
def rowsTo {α:Type} (z:α):List (Option α)→List (Bool×α)
 | []=>[]
 | some x :: r=>(true,x) :: rowsTo z r
 | none :: r=>(false,z) :: rowsTo z r
def rowsFrom {α:Type}:List (Bool×α)→List (Option α)
 | []=>[]
 | q :: r=>(bif q.1 then some q.2 else none) :: rowsFrom r
theorem rowsFrom_to {α:Type} (z:α):∀ l:List (Option α),rowsFrom (rowsTo z l) = l
 | []=>rfl
 | some x :: r=>by simp only [rowsTo,rowsFrom,cond_true,rowsFrom_to z r]
 | none :: r=>by simp only [rowsTo,rowsFrom,cond_false,rowsFrom_to z r]
def OSh.ty:OSh→Ty
 | .none=>.unit
 | .box _ s=>s.ty
 | .vec e=>.lst e
 | .map k v=>.map k v
 | .gone=>.unit
 | .gh _=>.unit
 | .ghf _ _=>.unit
 | .sav _ _=>.unit
 | .grid e=>.pair (.lst (.int .i64)) (.lst (.pair .bool (.lst e)))
 | .mgrid k e=>.pair (.lst (.pair k (.int .i64))) (.lst (.pair .bool (.lst e)))
 | .mi _ _=>.unit
def OSh.ok:OSh→Bool
 | .box _ s=>s.ok
 | .gh _ | .sav _ _ | .mi _ _ | .ghf _ _=>false
 | _=>true
def OSh.toT:(s:OSh)→s.T→s.ty.T
 | .none,_=>()
 | .box _ s,x=>s.toT x
 | .vec _,x=>x
 | .map _ _,x=>x
 | .gone,_=>()
 | .gh _,_=>()
 | .ghf _ _,_=>()
 | .sav _ _,_=>()
 | .grid _,x=>(x.1.map Int.ofNat,rowsTo [] x.2)
 | .mgrid _ _,x=>(x.1.map fun q=>(q.1,Int.ofNat q.2),rowsTo [] x.2)
 | .mi _ _,_=>()
def OSh.fromT:(s:OSh)→s.ty.T→Option s.T
 | .none,_=>some ()
 | .box _ s,x=>s.fromT x
 | .vec _,x=>some x
 | .map _ _,x=>some x
 | .gone,_=>some ()
 | .gh _,_=>Option.none
 | .ghf _ _,_=>Option.none
 | .sav _ _,_=>Option.none
 | .grid _,x=>some (x.1.map Int.toNat,rowsFrom x.2)
 | .mgrid _ _,x=>some (x.1.map fun q=>(q.1,Int.toNat q.2),rowsFrom x.2)
 | .mi _ _,_=>Option.none
theorem OSh.from_to (s:OSh) (h:s.ok = true) (x:s.T):s.fromT (s.toT x) = some x:=by
 cases s with
 | box k s=>exact Sh1.from_to s h x
 | gh t=>simp [OSh.ok] at h
 | ghf t b=>simp [OSh.ok] at h
 | sav i s=>simp [OSh.ok] at h
 | grid e =>
   obtain ⟨a,b⟩:=x
   show some (((a.map Int.ofNat).map Int.toNat),rowsFrom (rowsTo [] b)) = _
   rw [rowsFrom_to,List.map_map]
   have:(Int.toNat ∘ Int.ofNat) = id:=funext fun n=>rfl
   rw [this,List.map_id]
 | mgrid k e =>
   obtain ⟨a,b⟩:=x
   show some (((a.map fun q=>(q.1,Int.ofNat q.2)).map fun q=>(q.1,Int.toNat q.2)),rowsFrom (rowsTo [] b)) = _
   rw [rowsFrom_to,List.map_map]
   have:((fun q:k.T×Int=>(q.1,Int.toNat q.2)) ∘ fun q:k.T×Nat=>(q.1,Int.ofNat q.2)) = id:=funext fun n=>rfl
   rw [this,List.map_id]
 | mi k v=>simp [OSh.ok] at h
 | _=>rfl
def tyO:List OSh→Ty
 | []=>.unit
 | s :: r=>.pair s.ty (tyO r)
def okO:List OSh→Bool
 | []=>true
 | s :: r=>s.ok && okO r
def toO:(l:List OSh)→ProdO l→(tyO l).T
 | [],_=>()
 | s :: r,x=>(s.toT x.1,toO r x.2)
def fromO:(l:List OSh)→(tyO l).T→Option (ProdO l)
 | [],_=>some ()
 | s :: r,x=>match s.fromT x.1,fromO r x.2 with
   | some a,some b=>some (a,b)
   | _,_=>none
theorem fromO_to:∀ (l:List OSh) (h:okO l = true) (x:ProdO l),fromO l (toO l x) = some x
 | [],_,_=>rfl
 | s :: r,h,x=>by
   simp only [okO,Bool.and_eq_true] at h
   simp only [toO,fromO,OSh.from_to s h.1,fromO_to r h.2]
@[reducible] def ProdD:List Ty→Type
 | []=>Unit
 | t :: r=>t.T×ProdD r
def putD:(l:List Ty)→ProdD l→List V
 | [],_=>[]
 | t :: r,x=>.dat t x.1 :: putD r x.2
def getDs:(l:List Ty)→List V→Option (ProdD l)
 | [],[]=>some ()
 | t :: r,v :: vs=>match v.as t,getDs r vs with
   | some x,some y=>some (x,y)
   | _,_=>none
 | _,_=>none
theorem getDs_put:∀ (l:List Ty) (vs:List V) (x:ProdD l),getDs l vs = some x→vs = putD l x
 | [],[],_,_=>rfl
 | [],_ :: _,_,h=>by simp [getDs] at h
 | _ :: _,[],_,h=>by simp [getDs] at h
 | t :: r,v :: vs,x,h=>by
   simp only [getDs] at h
   split at h
   · rename_i y z h1 h2
     simp only [Option.some.injEq] at h
     subst h
     rw [as_some h1,getDs_put r vs z h2];rfl
   · simp at h
def exAt (exits:List Ex) (k:Nat):Ex:=match k with | 0=>.normal | k + 1=>exits.getD k .normal
def exTag:List Ex→Nat→Ex→Option Int
 | _,_,.normal=>some 0
 | [],_,_=>none
 | x :: r,k,e=>if x = e then some ((k:Int) + 1) else exTag r (k + 1) e
def exOfTag:List Ex→Int→Int→Ex
 | [],_,_=>.normal
 | x :: r,k,n=>if n = k then x else exOfTag r (k + 1) n
theorem exTag_back:∀ (exits:List Ex) (k:Nat) (e:Ex) (n:Int),exTag exits k e = some n→(e = .normal∧n = 0) ∨ ((k:Int) + 1 ≤ n∧exOfTag exits ((k:Int) + 1) n = e)
 | exits,k,.normal,n,h=>by
   left
   cases exits <;> (simp only [exTag,Option.some.injEq] at h;exact ⟨rfl,h.symm⟩)
 | [],k,.exit id,n,h=>by simp [exTag] at h
 | [],k,.ret,n,h=>by simp [exTag] at h
 | x :: r,k,.exit id,n,h=>by
   right
   simp only [exTag] at h
   split at h
   · rename_i hx
     simp only [Option.some.injEq] at h
     subst h
     exact ⟨Int.le_refl _,by simp [exOfTag,hx]⟩
   · rcases exTag_back r (k + 1) (.exit id) n h with ⟨h1,_⟩ | ⟨h1,h2⟩
     · cases h1
     · have e1:((k + 1:Nat):Int) = (k:Int) + 1:=by omega
       rw [e1] at h1 h2
       refine ⟨by omega,?_⟩
       simp only [exOfTag]
       rw [if_neg (by omega)];exact h2
 | x :: r,k,.ret,n,h=>by
   right
   simp only [exTag] at h
   split at h
   · rename_i hx
     simp only [Option.some.injEq] at h
     subst h
     exact ⟨Int.le_refl _,by simp [exOfTag,hx]⟩
   · rcases exTag_back r (k + 1) .ret n h with ⟨h1,_⟩ | ⟨h1,h2⟩
     · cases h1
     · have e1:((k + 1:Nat):Int) = (k:Int) + 1:=by omega
       rw [e1] at h1 h2
       refine ⟨by omega,?_⟩
       simp only [exOfTag]
       rw [if_neg (by omega)];exact h2
def finL {C:Type} (K:Ex→Option C):List Ex→Int→Int→Option C
 | [],_,_=>none
 | x :: r,k,n=>if n = k then K x else finL K r (k + 1) n
theorem finL_some {C:Type} {K:Ex→Option C} {r0:C}:∀ (exits:List Ex) (k n:Int),finL K exits k n = some r0→K (exOfTag exits k n) = some r0
 | [],_,_,h=>by simp [finL] at h
 | x :: r,k,n,h=>by
   simp only [finL,exOfTag] at h ⊢
   split at h
   · rename_i hk;rw [if_pos hk];exact h
   · rename_i hk;rw [if_neg hk];exact finL_some r (k + 1) n h
structure RSh where
 nt:Nat
 sv:List Sh1
 so:List OSh
 px:List Ty
 exits:List Ex
 brun:{C:Type}→(Nat→ProdO so→Option C)→(ProdO so→Option C)→Prod1 sv→ProdO so→ProdD px→Option C
 cb:Option (Nat×FuncId×List Nat):=none
 fx:List Ty:=[]
 bt:Ty:=.unit
 frun:{C:Type}→(ProdO so→bt.T→Option C)→Prod1 sv→ProdO so→ProdD fx→Option C:=fun _ _ _ _=>none
def RSh.dec (R:RSh) (e:Ex) (os:List (Option Obj)):Option (Int×(tyO R.so).T) :=
 match getO R.so os with
 | some y=>bif okO R.so then (exTag R.exits 0 e).map fun k=>(k,toO R.so y) else none
 | none=>none
def isN:Ex→Bool
 | .normal=>true
 | _=>false
def RSh.told (R:RSh):RTold where
 t:=.pair (.int .i64) (tyO R.so)
 enc x:=match fromO R.so x.2 with | some y=>putO R.so y | none=>[]
 ex x:=if x.1 = 0 then .normal else exOfTag R.exits 1 x.1
 dec e os:=R.dec e os
 run vs x xs:=match get1 R.sv vs,fromO R.so x.2,getDs R.px xs with
   | some v,some y,some a=>if x.1 = 0 then R.brun (fun k y=>(R.dec (exAt R.exits k) (putO R.so y)).bind fun x'=>some (x',isN (exAt R.exits k))) (fun y=>(R.dec .normal (putO R.so y)).bind fun x'=>some (x',true)) v y a else none
   | _,_,_=>none
 fin K x:=match fromO R.so x.2 with
   | some y=>if x.1 = 0 then K .normal (putO R.so y) else finL (fun e=>K e (putO R.so y)) R.exits 1 x.1
   | none=>none
 cb:=R.cb
 b:=R.bt
 f vs x xs:=match get1 R.sv vs,fromO R.so x.2,getDs R.fx xs with
   | some v,some y,some a=>if x.1 = 0 then R.frun (fun y z=>(R.dec .normal (putO R.so y)).map fun x'=>(x',z)) v y a else none
   | _,_,_=>none
theorem spread_back:∀ (t:Ty),t.isChain = true→∀ x:t.T,argsAs t (spread t x) = some x
 | .unit,_,_=>rfl
 | .pair a b,h,x=>by
   have:=spread_back b h x.2
   simp only [spread,argsAs,V.as,dif_pos,this]
 | .int _,h,_=>by simp [Ty.isChain] at h
 | .bool,h,_=>by simp [Ty.isChain] at h
 | .str,h,_=>by simp [Ty.isChain] at h
 | .lst _,h,_=>by simp [Ty.isChain] at h
 | .arr _ _,h,_=>by simp [Ty.isChain] at h
 | .map _ _,h,_=>by simp [Ty.isChain] at h
structure FShOk (Γ:Cfg) (an:Ann) (p:Nat) (R:RSh):Prop where
 none:R.cb = none→∀ {C:Type} (K:ProdO R.so→R.bt.T→Option C) v y a,R.frun K v y a = none
 chain:R.bt.isChain = true
 some:∀ c,R.cb = some c→∀ {C:Type} (K:V→List (Option Obj)→Option C) v y a,
   fbody Γ R.nt (an.keepOf p).1 (an.keepOf p).2 c.2.1 c.2.2 (put1 R.sv v) (putO R.so y) (putD R.fx a) K = R.frun (fun y z=>K (.tup (spread R.bt z)) (putO R.so y)) v y a
structure RShOk (Γ:Cfg) (an:Ann) (root:Code) (p:Nat) (R:RSh):Prop where
 nt:R.nt = an.ntR
 at_:∃ f ps asg body,codeAt root 64 p = some (.rangeFunc f ps asg body)∧∀ {C:Type} (K:Ex→List (Option Obj)→Option C) v y a,
   rbody Γ an asg body p R.nt (put1 R.sv v) (putO R.so y) ps.toList (putD R.px a) K = R.brun (fun k y=>K (exAt R.exits k) (putO R.so y)) (fun y=>K .normal (putO R.so y)) v y a
noncomputable def toldR:List (Nat×RSh)→Nat→Option RTold
 | [],_=>none
 | q :: r,p=>bif Nat.beq q.1 p then some q.2.told else toldR r p
theorem noF {Γ:Cfg} {an:Ann} {p:Nat} {R:RSh} (h:R.cb = none) (h2:∀ {C:Type} (K:ProdO R.so→R.bt.T→Option C) v y a,R.frun K v y a = none) (h3:R.bt.isChain = true):FShOk Γ an p R:=⟨fun _=>h2,h3,fun c hc=>by rw [h] at hc;cases hc⟩
def AllR (Γ:Cfg) (an:Ann) (root:Code):List (Nat×RSh)→Prop
 | []=>True
 | q :: r=>(RShOk Γ an root q.1 q.2∧FShOk Γ an q.1 q.2)∧AllR Γ an root r
def rangeAt:Option Code→Operand×Array Tmp×Code×Code
 | some (.rangeFunc f ps a b)=>(f,ps,a,b)
 | _=>(.tmp 0,#[],.skip,.skip)
theorem toldR_ok {an:Ann} {root:Code} (l0:List (Nat×RSh)) (hR:an.R = toldR l0) (h:AllR Γ an root l0):ROk Γ an root:=by
 intro p R0 hp
 rw [hR] at hp
 have key:∀ l:List (Nat×RSh),AllR Γ an root l→toldR l p = some R0→∃ R:RSh,R0 = R.told∧RShOk Γ an root p R∧FShOk Γ an p R:=by
   intro l
   induction l with
   | nil=>intro _ h;simp [toldR] at h
   | cons q l ih =>
     intro ha h
     simp only [toldR] at h
     cases hq:Nat.beq q.1 p with
     | true =>
       rw [hq] at h
       simp only [cond_true,Option.some.injEq] at h
       refine ⟨q.2,h.symm,?_⟩
       rw [← Nat.eq_of_beq_eq_true hq];exact ha.1
     | false =>
       rw [hq] at h
       exact ih ha.2 h
 obtain ⟨R,rfl,hr,hfk⟩:=key l0 h hp
 refine ⟨fun e os x hd=>?_,fun {C} K x r hf=>?_,⟨fun hc vs x xs=>?_,fun c hc vs x xs q hf=>?_⟩,fun k f ps asg body hk n vs x xs r hn hrun=>?_⟩
 · have hd:R.dec e os = some x:=hd
   unfold RSh.dec at hd
   split at hd
   · rename_i y hy
     cases hok:okO R.so with
     | false=>rw [hok] at hd;simp at hd
     | true =>
       rw [hok] at hd
       simp only [cond_true] at hd
       obtain ⟨t,ht,hx⟩:=Option.map_eq_some_iff.1 hd
       subst hx
       refine ⟨?_,?_⟩
       · show (match fromO R.so (toO R.so y) with | some y=>putO R.so y | none=>[]) = os
         rw [fromO_to R.so hok]
         exact (getO_put R.so os y hy).symm
       · show (if t = 0 then Ex.normal else exOfTag R.exits 1 t) = e
         rcases exTag_back _ _ _ _ ht with ⟨rfl,rfl⟩ | ⟨h1,h2⟩
         · rfl
         · rw [if_neg (by omega)]
           simpa using h2
   · cases hd
 · have hf:(match fromO R.so x.2 with | some y=>if x.1 = 0 then K .normal (putO R.so y) else finL (fun e=>K e (putO R.so y)) R.exits 1 x.1 | none=>none) = some r:=hf
   show K (if x.1 = 0 then Ex.normal else exOfTag R.exits 1 x.1) (match fromO R.so x.2 with | some y=>putO R.so y | none=>[]) = some r
   split at hf
   · rename_i y hy
     split at hf
     · rename_i h0;rw [if_pos h0];exact hf
     · rename_i h0;rw [if_neg h0];exact finL_some (K:=fun e=>K e (putO R.so y)) _ _ _ hf
   · cases hf
 · show (match get1 R.sv vs,fromO R.so x.2,getDs R.fx xs with
     | some v,some y,some a=>if x.1 = 0 then R.frun (fun y z=>(R.dec .normal (putO R.so y)).map fun x'=>(x',z)) v y a else none
     | _,_,_=>none) = none
   split
   · rename_i v y a _ _ _
     rw [hfk.none hc _ v y a]
     split <;> rfl
   · rfl
 · have hf:(match get1 R.sv vs,fromO R.so x.2,getDs R.fx xs with
     | some v,some y,some a=>if x.1 = 0 then R.frun (fun y z=>(R.dec .normal (putO R.so y)).map fun x'=>(x',z)) v y a else none
     | _,_,_=>none) = some q:=hf
   split at hf
   · rename_i v y a hv hy ha
     split at hf
     · rename_i h0
       refine ⟨by show (if x.1 = 0 then Ex.normal else _) = _;rw [if_pos h0],?_⟩
       have henc:R.told.enc x = putO R.so y:=by show (match fromO R.so x.2 with | some y=>putO R.so y | none=>[]) = _;rw [hy]
       rw [henc,get1_put _ _ _ hv,getDs_put _ _ _ ha,← hr.nt,hfk.some c hc]
       have hk:(fun (y:ProdO R.so) (z:R.bt.T)=>(R.dec .normal (putO R.so y)).bind fun x'=>(untup R.bt (.tup (spread R.bt z))).map fun y=>(x',y)) = fun y z=>(R.dec .normal (putO R.so y)).map fun x'=>(x',z):=by
         funext y z
         have hb:untup R.bt (.tup (spread R.bt z)) = some z:=spread_back R.bt hfk.chain z
         rw [hb]
         cases R.dec .normal (putO R.so y) <;> rfl
       show R.frun (fun (y:ProdO R.so) (z:R.bt.T)=>(R.dec .normal (putO R.so y)).bind fun x'=>(untup R.bt (.tup (spread R.bt z))).map fun y=>(x',y)) v y a = some q
       rw [hk];exact hf
     · cases hf
   · cases hf
 · have hrun:(match get1 R.sv vs,fromO R.so x.2,getDs R.px xs with
     | some v,some y,some a=>if x.1 = 0 then R.brun (fun k y=>(R.dec (exAt R.exits k) (putO R.so y)).bind fun x'=>some (x',isN (exAt R.exits k))) (fun y=>(R.dec .normal (putO R.so y)).bind fun x'=>some (x',true)) v y a else none
     | _,_,_=>none) = some r:=hrun
   split at hrun
   · rename_i v y a hv hy ha
     split at hrun
     · rename_i h0
       obtain ⟨f',ps',asg',body',hk',hbody⟩:=hr.at_
       have hkk:=codeAt_fn hk hk'
       simp only [Code.rangeFunc.injEq] at hkk
       obtain ⟨rfl,rfl,rfl,rfl⟩:=hkk
       refine ⟨by show (if x.1 = 0 then Ex.normal else _) = _;rw [if_pos h0],?_⟩
       have henc:R.told.enc x = putO R.so y:=by show (match fromO R.so x.2 with | some y=>putO R.so y | none=>[]) = _;rw [hy]
       rw [henc,get1_put _ _ _ hv,getDs_put _ _ _ ha,hn,← hr.nt,hbody]
       exact hrun
     · cases hrun
   · cases hrun
theorem lokF_of {an:Ann} {fn:Func} (h1:LOk0 Γ an (fn.body.getD .skip)) (h2:LOk0 Γ an.inR (fn.body.getD .skip)) (h3:ROk Γ an (fn.body.getD .skip)) (hM:MOk P Γ an (fn.body.getD .skip):=by exact noMaps rfl _):LOkF P Γ an fn:=fun c hc=>by rw [hc] at h1 h2 h3 hM;exact ⟨⟨h1,hM⟩,⟨h2,noMaps rfl _⟩,h3⟩
structure XSh where
 sa:List Sh1
 so:List OSh
 rs:List Sh1
 many:Bool
 os:List (Nat×OSh)
 xs:List OSh
@[reducible] def XSh.A (x:XSh):Type:=Prod1 x.sa×ProdO x.so
@[reducible] def XSh.R (x:XSh):Type:=Prod1 x.rs×ProdO (x.os.map (·.2))×ProdO x.xs
def somes:List Obj→List (Option Obj):=List.map some
def putS:(l:List (Nat×OSh))→ProdO (l.map (·.2))→List (Nat×Option Obj)
 | [],_=>[]
 | s :: r,x=>(s.1,s.2.put x.1) :: putS r x.2
def unOpt:List (Nat×Option Obj)→Option (List (Nat×Obj))
 | []=>some []
 | (k,some o) :: r=>match unOpt r with | some l=>some ((k,o) :: l) | none=>none
 | (_,none) :: _=>none
def unOptO:List (Option Obj)→Option (List Obj)
 | []=>some []
 | some o :: r=>match unOptO r with | some l=>some (o :: l) | none=>none
 | none :: _=>none
def XSh.ret (x:XSh) (r:Prod1 x.rs):V:=bif x.many then .tup (put1 x.rs r) else retV (put1 x.rs r)
def SpecX.of (x:XSh) (g:x.A→Option x.R):SpecX where
 fits vs os:=(get1 x.sa vs).isSome && (getO x.so (somes os)).isSome
 run vs os K:=match get1 x.sa vs,getO x.so (somes os) with
   | some a,some o=>(g (a,o)).bind fun r=>match unOpt (putS x.os r.2.1),unOptO (putO x.xs r.2.2) with
     | some u,some e=>K (x.ret r.1) u e
     | _,_=>none
   | _,_=>none
 nat vs os K:=by
   cases get1 x.sa vs with
   | none=>rfl
   | some a =>
     cases getO x.so (somes os) with
     | none=>rfl
     | some o =>
       simp only
       cases g (a,o) with
       | none=>rfl
       | some r =>
         simp only [Option.bind_some]
         cases unOpt (putS x.os r.2.1) with
         | none=>rfl
         | some u=>cases unOptO (putO x.xs r.2.2) <;> rfl
def getS:(l:List (Nat×OSh))→List (Nat×Obj)→Option (ProdO (l.map (·.2)))
 | [],[]=>some ()
 | s :: r,q :: qs=>bif Nat.beq s.1 q.1 then (match s.2.get (some q.2),getS r qs with
   | some x,some y=>some (x,y)
   | _,_=>none) else none
 | _,_=>none
theorem getS_put:∀ (l:List (Nat×OSh)) (qs:List (Nat×Obj)) (x:ProdO (l.map (·.2))),getS l qs = some x→unOpt (putS l x) = some qs
 | [],[],_,_=>rfl
 | [],_ :: _,_,h=>by simp [getS] at h
 | _ :: _,[],_,h=>by simp [getS] at h
 | s :: r,q :: qs,x,h=>by
   simp only [getS] at h
   cases hb:Nat.beq s.1 q.1 with
   | false=>rw [hb] at h;simp at h
   | true =>
     rw [hb] at h
     simp only [cond_true] at h
     split at h
     · rename_i y z h1 h2
       simp only [Option.some.injEq] at h
       subst h
       have e1:=OSh.get_put s.2 _ y h1
       have e2:=getS_put r qs z h2
       simp only [putS,← e1,unOpt,e2,Nat.eq_of_beq_eq_true hb]
     · simp at h
theorem getO_un:∀ (l:List OSh) (qs:List Obj) (x:ProdO l),getO l (somes qs) = some x→unOptO (putO l x) = some qs
 | [],[],_,_=>rfl
 | [],_ :: _,_,h=>by simp [getO,somes] at h
 | _ :: _,[],_,h=>by simp [getO,somes] at h
 | s :: r,q :: qs,x,h=>by
   simp only [somes,List.map_cons,getO] at h
   split at h
   · rename_i y z h1 h2
     simp only [Option.some.injEq] at h
     subst h
     have e1:=OSh.get_put s _ y h1
     have e2:=getO_un r qs z h2
     simp only [putO,← e1,unOptO,e2]
   · simp at h
def XSh.back (x:XSh) (rv:V) (outs:List (Nat×Obj)) (exs:List Obj):Option x.R :=
 match (bif x.many then (match rv with | .tup vs=>get1 x.rs vs | _=>none) else get1 x.rs [rv]),getS x.os outs,getO x.xs (somes exs) with
 | some r,some u,some e=>some (r,u,e)
 | _,_,_=>none
theorem XSh.back_some {x:XSh} (h1:x.many = false→x.rs.length = 1) {rv:V} {outs:List (Nat×Obj)} {exs:List Obj} {r:x.R} (h:x.back rv outs exs = some r) :
   x.ret r.1 = rv∧unOpt (putS x.os r.2.1) = some outs∧unOptO (putO x.xs r.2.2) = some exs:=by
 unfold XSh.back at h
 split at h
 · rename_i a u e ha hu he
   simp only [Option.some.injEq] at h
   subst h
   refine ⟨?_,getS_put _ _ _ hu,getO_un _ _ _ he⟩
   unfold XSh.ret
   cases hm:x.many with
   | true =>
     rw [hm] at ha
     simp only [cond_true] at ha ⊢
     split at ha
     · rw [get1_put _ _ _ ha]
     · cases ha
   | false =>
     rw [hm] at ha
     simp only [cond_false] at ha ⊢
     rw [← get1_put _ _ _ ha];rfl
 · cases h
theorem get1_len:∀ (l:List Sh1) (vs:List V) (y:Prod1 l),get1 l vs = some y→vs.length = l.length
 | [],[],_,_=>rfl
 | [],_ :: _,_,h=>by simp [get1] at h
 | _ :: _,[],_,h=>by simp [get1] at h
 | s :: l,v :: vs,y,h=>by
   simp only [get1] at h
   split at h
   · rename_i y1 y2 g1 g2
     simp [get1_len l vs y2 g2]
   · simp at h
theorem x_sound {f:FuncId} {fn:Func} {x:XSh} {g:x.A→Option x.R} {own xs exp:List Nat} {an:Ann} (h:CfgOk P Γ) (hf:P.funcs[f]? = some fn)
   (hL:LOkF P ((Γ.withOwn own).withX xs) an fn) (hA:AnnOk an (x.sa.length + (fn.ntmps - x.sa.length))) (h1:x.many = false→x.rs.length = 1)
   (hg:∀ a:x.A,(match unOptO (putO x.so a.2) with | some os=>evFnX ((Γ.withOwn own).withX xs) an fn exp (put1 x.sa a.1) os x.back | none=>none) = g a)
   {vs:List V} {os:List Obj} {q:V×List (Nat×Obj)×List Obj} (hr:(SpecX.of x g).run vs os (fun a b c=>some (a,b,c)) = some q):FnOkX P Γ.glob f vs os q.1 q.2.1 q.2.2:=by
 simp only [SpecX.of] at hr
 split at hr
 · rename_i a o ha ho
   cases hga:g (a,o) with
   | none=>rw [hga] at hr;simp at hr
   | some r =>
     rw [hga] at hr
     simp only [Option.bind_some] at hr
     have hev:=(hg (a,o)).trans hga
     have e1:=getO_un x.so os o ho
     simp only [e1] at hev
     have e2:=get1_put x.sa vs a ha
     rw [← e2] at hev
     have hsound:=fn_soundX (x_ok (l:=xs) (own_ok (l:=own) h)) hf an hL (by rw [get1_len _ _ _ ha];exact hA) hev
     intro cx pos U us hP hG hheld hargs
     refine Calls.mono (hsound cx pos U us hP hG hheld hargs) fun e w' hq=>?_
     obtain ⟨v,Fz',pos',U',rv,outs,exs,h2,h3,h4,h5,h6,h7,h8⟩:=hq
     obtain ⟨b1,b2,b3⟩:=XSh.back_some h1 h3
     rw [b2,b3] at hr
     simp only [Option.some.injEq] at hr
     subst hr
     exact ⟨v,Fz',pos',U',h2,h4,by rw [b1];exact h5,h6,h7,h8⟩
 · simp at hr
theorem add_x {f : FuncId} {fn : Func} (x : XSh) (g : x.A → Option x.R) (own xs exp : List Nat) (an : Ann) (h : CfgOk P Γ) (hf : P.funcs[f]? = some fn) (hb : fn.body.isSome = true) (hn : (fn.name == "runtime.NumGoroutine") = false)
   (hL:LOkF P ((Γ.withOwn own).withX xs) an fn) (hA:AnnOk an (x.sa.length + (fn.ntmps - x.sa.length))) (h1:x.many = false→x.rs.length = 1)
   (hg:∀ a:x.A,(match unOptO (putO x.so a.2) with | some os=>evFnX ((Γ.withOwn own).withX xs) an fn exp (put1 x.sa a.1) os x.back | none=>none) = g a):CfgOk P (Γ.addX f (SpecX.of x g)) :=
 addX_ok h ⟨fn,hf,hb,hn⟩ fun vs os q hr=>x_sound h hf hL hA h1 hg hr
def SpecX.gen (x:Ty→XSh) (g:(t:Ty)→(x t).A→Option (x t).R):SpecX where
 fits vs os:=match os with | .gh t _ _ :: _=>(SpecX.of (x t) (g t)).fits vs os | _=>false
 run vs os K:=match os with | .gh t _ _ :: _=>(SpecX.of (x t) (g t)).run vs os K | _=>none
 nat vs os K:=by
   split
   · exact (SpecX.of _ _).nat vs _ K
   · rfl
end Go.Pv
