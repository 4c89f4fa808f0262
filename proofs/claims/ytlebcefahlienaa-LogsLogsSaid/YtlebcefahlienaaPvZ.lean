/- The purifying layer, part 26: the program's tables, checked; more functions in the table. -/
import Derived.Test.YtlebcefahlienaaPvYx
set_option linter.unusedVariables false
set_option linter.unusedSimpArgs false
namespace Go.Pv
variable {P:Program} {Γ:Cfg} {C:Type}
def zEqB:Value→Value→Bool
 | .int k x,.int k' y=>decide (k = k') && decide (x = y)
 | .bool x,.bool y=>x == y
 | .string x,.string y=>decide (x.data.toList = y.data.toList)
 | .slice none 0 0,.slice none 0 0=>true
 | .map none,.map none=>true
 | _,_=>false
theorem zEqB_eq {u v:Value} (h:zEqB u v = true):u = v:=by
 unfold zEqB at h
 split at h
 · simp only [Bool.and_eq_true,decide_eq_true_eq] at h;rw [h.1,h.2]
 · simp only [beq_iff_eq] at h;rw [h]
 · rename_i x y
   simp only [decide_eq_true_eq] at h
   obtain ⟨⟨x⟩⟩:=x
   obtain ⟨⟨y⟩⟩:=y
   simp only at h;rw [h]
 · rfl
 · rfl
 · simp at h
def zsB:List Value→List Value→Bool
 | [],[]=>true
 | u :: us,v :: vs=>zEqB u v && zsB us vs
 | _,_=>false
theorem zsB_eq:∀ (us vs:List Value),zsB us vs = true→us = vs
 | [],[],_=>rfl
 | u :: us,v :: vs,h=>by
   simp only [zsB,Bool.and_eq_true] at h
   rw [zEqB_eq h.1,zsB_eq us vs h.2]
 | [],_ :: _,h=>by simp [zsB] at h
 | _ :: _,[],h=>by simp [zsB] at h
def leafB:List Value→Bool
 | [u]=>u.oneCell'
 | _=>false
def zstB:List (Option Ty)→List Value→Bool
 | [],cs=>cs.isEmpty
 | some t :: ts,cs=>zsB (cs.take t.zcells.length) t.zcells && zstB ts (cs.drop t.zcells.length)
 | none :: ts,u :: cs=>u.oneCell' && zstB ts cs
 | none :: _,[]=>false
theorem zstB_ok:∀ (ts:List (Option Ty)) (cs:List Value),zstB ts cs = true→All2 zOk ts cs
 | [],cs,h=>by simp only [zstB,List.isEmpty_iff] at h;exact h
 | some t :: ts,cs,h=>by
   simp only [zstB,Bool.and_eq_true] at h
   exact ⟨cs.take t.zcells.length,cs.drop t.zcells.length,(List.take_append_drop _ _).symm,zsB_eq _ _ h.1,zstB_ok ts _ h.2⟩
 | none :: ts,u :: cs,h=>by
   simp only [zstB,Bool.and_eq_true] at h
   exact ⟨[u],cs,rfl,⟨u,rfl,h.1⟩,zstB_ok ts cs h.2⟩
 | none :: _,[],h=>by simp [zstB] at h
def zeroB:K→List Value→Bool
 | .d t,cs=>zsB cs t.zcells
 | .leaf,cs=>leafB cs
 | .st ks,cs=>zstB ks cs
theorem zeroB_ok (k:K) (cs:List Value) (h:zeroB k cs = true):ZeroOk k cs:=by
 cases k with
 | d t=>exact zsB_eq _ _ h
 | leaf =>
   have h:leafB cs = true:=h
   unfold leafB at h
   split at h
   · exact ⟨_,rfl,h⟩
   · simp at h
 | st ks=>exact zstB_ok _ _ h
def elemB (P:Program) (e:TypeId) (et:Ty):Bool :=
 match P.info? e,P.underlying e with
 | some i,some d=>decide (i.size = et.size) && d.isRow == et.isAgg
 | _,_=>false
theorem elemB_ok {e:TypeId} {et:Ty} (h:elemB P e et = true):Elem P e et:=by
 unfold elemB at h
 split at h
 · rename_i i d h1 h2
   simp only [Bool.and_eq_true,decide_eq_true_eq,beq_iff_eq] at h
   exact ⟨⟨i,h1,h.1⟩,d,h2,h.2⟩
 · simp at h
def fieldB (P:Program) (f:Field) (o:Nat) (ft:Option Ty):Bool :=
 match P.info? f.type,P.underlying f.type with
 | some i,some d=>decide (f.offset = o) && decide (i.size = fsize ft) && d.isRow == (match ft with | some t=>t.isAgg | none=>false)
 | _,_=>false
theorem fieldB_ok {f:Field} {o:Nat} {ft:Option Ty} (h:fieldB P f o ft = true):FieldOk P f o ft:=by
 unfold fieldB at h
 split at h
 · rename_i i d h1 h2
   simp only [Bool.and_eq_true,decide_eq_true_eq,beq_iff_eq] at h
   exact ⟨h.1.1,⟨i,h1,h.1.2⟩,d,h2,by cases ft <;> exact h.2⟩
 · simp at h
def fieldsB (P:Program):Nat→List Field→List (Option Ty)→Bool
 | _,[],[]=>true
 | o,f :: fs,t :: ts=>fieldB P f o t && fieldsB P (o + fsize t) fs ts
 | _,_,_=>false
theorem fieldsB_ok:∀ (fs:List Field) (ts:List (Option Ty)) (o:Nat),fieldsB P o fs ts = true→fs.length = ts.length∧∀ j o' ft,ffield ts j = some (o',ft)→∃ f,fs[j]? = some f∧FieldOk P f (o + o') ft
 | [],[],_,_=>⟨rfl,fun j o' ft h=>by simp [ffield] at h⟩
 | f :: fs,t :: ts,o,h=>by
   simp only [fieldsB,Bool.and_eq_true] at h
   obtain ⟨h1,h2⟩:=fieldsB_ok fs ts _ h.2
   refine ⟨by simp [h1],fun j o' ft hf=>?_⟩
   cases j with
   | zero =>
     simp only [ffield,Option.some.injEq,Prod.mk.injEq] at hf
     obtain ⟨rfl,rfl⟩:=hf
     exact ⟨f,rfl,by simpa using fieldB_ok h.1⟩
   | succ j =>
     simp only [ffield,Option.map_eq_some_iff] at hf
     obtain ⟨⟨o2,t2⟩,g1,g2⟩:=hf
     simp only [Prod.mk.injEq] at g2
     obtain ⟨rfl,rfl⟩:=g2
     obtain ⟨f',g3,g4⟩:=h2 j o2 t2 g1
     exact ⟨f',by simpa using g3,by rw [show o + (fsize t + o2) = o + fsize t + o2 by omega];exact g4⟩
 | [],_ :: _,_,h=>by simp [fieldsB] at h
 | _ :: _,[],_,h=>by simp [fieldsB] at h
def descB (P:Program) (T:TypeId) (ti:TI):Bool :=
 match ti.d,P.underlying T with
 | .int k,some (.int k')=>decide (k = k') && decide (ti.k = .d (.int k))
 | .bool,some .bool=>decide (ti.k = .d .bool)
 | .str,some .string=>decide (ti.k = .d .str)
 | .slice e,some (.slice e')=>decide (e = e') && (match ti.k with | .leaf=>true | .d (.lst et)=>elemB P e et | _=>false)
 | .struct _,some (.struct fields)=>ti.k.isAgg && (match ti.k with | .d t=>t.isChain | _=>true) && fieldsB P 0 fields.toList ti.k.fields
 | .arr n e,some (.array n' e')=>decide (n = n') && decide (e = e') && (match ti.k with | .d (.arr m et)=>decide (m = n) && elemB P e et | _=>false)
 | .map k v,some (.map k' v')=>decide (k = k') && decide (v = v') && decide (ti.k = .leaf)
 | .other,some d=>!d.isRow && decide (ti.k = .leaf)
 | _,_=>false
theorem descB_ok {T:TypeId} {ti:TI} (h:descB P T ti = true):DescOk P T ti:=by
 obtain ⟨td,k,by_⟩:=ti
 unfold descB at h
 unfold DescOk
 split at h <;> (try simp only [Bool.and_eq_true,decide_eq_true_eq,Bool.not_eq_true'] at h) <;> rename_i h1 h2 <;> simp only at h1 h2 ⊢
 · subst h1;obtain ⟨rfl,h3⟩:=h;exact ⟨h2,h3⟩
 · subst h1;exact ⟨h2,h⟩
 · subst h1;exact ⟨h2,h⟩
 · subst h1
   obtain ⟨rfl,h3⟩:=h
   refine ⟨h2,?_⟩
   split at h3
   · exact .inl rfl
   · exact .inr ⟨_,rfl,elemB_ok h3⟩
   · simp at h3
 · subst h1
   obtain ⟨⟨h3,h4⟩,h5⟩:=h
   obtain ⟨g1,g2⟩:=fieldsB_ok _ _ _ h5
   refine ⟨_,h2,h3,by simpa using g1,fun t ht=>?_,fun j o ft hf=>?_⟩
   · subst ht;exact h4
   · obtain ⟨f,g3,g4⟩:=g2 j o ft hf
     exact ⟨f,by simpa using g3,by simpa using g4⟩
 · subst h1
   obtain ⟨⟨rfl,rfl⟩,h3⟩:=h
   refine ⟨h2,?_⟩
   split at h3
   · simp only [Bool.and_eq_true,decide_eq_true_eq] at h3
     obtain ⟨rfl,h3⟩:=h3
     exact ⟨_,rfl,elemB_ok h3⟩
   · simp at h3
 · subst h1
   obtain ⟨⟨rfl,rfl⟩,h3⟩:=h
   exact ⟨h2,h3⟩
 · subst h1
   exact ⟨⟨_,h2,h.1⟩,h.2⟩
 · simp at h
def tiB (P:Program) (T:TypeId) (ti:TI):Bool :=
 descB P T ti && (match P.info? T with
   | some i=>decide (i.size = ti.k.size) && decide (i.bytes = ti.bytes) && (match i.zero with
     | some z=>zeroB ti.k z.cells.toList && (match z with | .agg _=>ti.k.isAgg | _=>!ti.k.isAgg)
     | none=>false)
   | none=>false)
theorem tiB_ok {T:TypeId} {ti:TI} (h:tiB P T ti = true):TIok P T ti:=by
 unfold tiB at h
 simp only [Bool.and_eq_true] at h
 obtain ⟨h1,h2⟩:=h
 refine ⟨?_,descB_ok h1⟩
 split at h2
 · rename_i i hi
   simp only [Bool.and_eq_true,decide_eq_true_eq] at h2
   obtain ⟨⟨h3,h4⟩,h5⟩:=h2
   split at h5
   · rename_i z hz
     simp only [Bool.and_eq_true] at h5
     refine ⟨i,hi,h3,h4,z,hz,zeroB_ok _ _ h5.1,fun ha=>?_,fun ha cs hz'=>?_⟩
     · cases z <;> simp [ha] at h5
       rfl
     · subst hz'
       simp [ha] at h5
   · simp at h5
 · simp at h2
def lookTab:List (Nat×TI)→Nat→Option TI
 | [],_=>none
 | q :: r,t=>if q.1 = t then some q.2 else lookTab r t
def tabB (P:Program):List (Nat×TI)→Bool
 | []=>true
 | q :: r=>tiB P q.1 q.2 && tabB P r
theorem tabB_ok:∀ (l:List (Nat×TI)),tabB P l = true→∀ T ti,lookTab l T = some ti→TIok P T ti
 | [],_,T,ti,h=>by simp [lookTab] at h
 | q :: r,hb,T,ti,h=>by
   simp only [tabB,Bool.and_eq_true] at hb
   simp only [lookTab] at h
   split at h
   · rename_i he
     subst he
     simp only [Option.some.injEq] at h
     subst h
     exact tiB_ok hb.1
   · exact tabB_ok r hb.2 T ti h
def keysB (P:Program) (tab:List (Nat×TI)):List Nat→Bool
 | []=>true
 | T :: r=>(match lookTab tab T with
   | some ti=>(match ti.k with | .d t=>keyTop P T t | _=>false)
   | none=>false) && keysB P tab r
theorem keysB_ok {tab:List (Nat×TI)}:∀ (l:List Nat),keysB P tab l = true→∀ T ti,l.contains T = true→lookTab tab T = some ti→∃ t,ti.k = .d t∧keyTop P T t = true
 | [],_,T,ti,h,_=>by simp at h
 | U :: r,hb,T,ti,h,hT=>by
   simp only [keysB,Bool.and_eq_true] at hb
   simp only [List.contains_cons,Bool.or_eq_true,beq_iff_eq] at h
   rcases h with h | h
   · subst h
     have hb:=hb.1
     rw [hT] at hb
     simp only at hb
     cases hk:ti.k with
     | d t=>rw [hk] at hb;exact ⟨t,rfl,hb⟩
     | leaf=>rw [hk] at hb;simp at hb
     | st fs=>rw [hk] at hb;simp at hb
   · exact keysB_ok r hb.2 T ti h hT
def Cfg.base (tab:List (Nat×TI)) (glob:Nat→Option V) (ks:List Nat):Cfg:={ ty:=lookTab tab,glob:=glob,call:=fun _ _ {_} _=>none,keys:=fun T=>ks.contains T }
theorem base_ok {tab:List (Nat×TI)} {glob:Nat→Option V} {ks:List Nat} (hm:P.follows .mixedOrders = true) (ht:tabB P tab = true) (hk:keysB P tab ks = true):CfgOk P (Cfg.base tab glob ks) :=
 ⟨hm,fun T ti h=>tabB_ok tab ht T ti h,fun f args {C} k=>rfl,fun f args r h=>by simp [Cfg.base] at h,fun f args r h=>by simp [Cfg.base] at h,fun f q h=>by simp [Cfg.base] at h,fun T ti h hT=>keysB_ok ks hk T ti h hT,
  fun f vs os {C} k=>rfl,fun f vs os q h=>by simp [Cfg.base] at h,fun f vs os q h=>by simp [Cfg.base] at h⟩
structure Spec where
 fits:List V→Bool
 run:{C:Type}→List V→(V→Option C)→Option C
 nat:∀ {C:Type} (args:List V) (K:V→Option C),run args K = (run args some).bind K
def Cfg.add (Γ:Cfg) (f:FuncId) (s:Spec):Cfg:={ Γ with call:=fun g args {_} K=>bif Nat.beq g f && s.fits args then s.run args K else Γ.call g args K }
def Cfg.hand (Γ:Cfg) (f:FuncId) (a b:Ty):Cfg:={ Γ with fnTy:=fun g=>bif Nat.beq g f then some (a,b) else Γ.fnTy g }
def Cfg.withOwn (Γ:Cfg) (l:List Nat):Cfg:={ Γ with own:=fun d=>l.contains d }
def Cfg.withX (Γ:Cfg) (l:List Nat):Cfg:={ Γ with xat:=fun d=>l.contains d }
theorem own_ok {l:List Nat} (h:CfgOk P Γ):CfgOk P (Γ.withOwn l):=⟨h.mixed,h.ty,h.nat,h.ok,h.body,h.fnTy,h.keys,h.natX,h.okX,h.bodyX⟩
theorem x_ok {l:List Nat} (h:CfgOk P Γ):CfgOk P (Γ.withX l):=⟨h.mixed,h.ty,h.nat,h.ok,h.body,h.fnTy,h.keys,h.natX,h.okX,h.bodyX⟩
theorem hand_ok {f:FuncId} {a b:Ty} (h:CfgOk P Γ) (hb:HasBody P f):CfgOk P (Γ.hand f a b):=by
 refine ⟨h.mixed,h.ty,h.nat,h.ok,h.body,fun g q hq=>?_,h.keys,h.natX,h.okX,h.bodyX⟩
 simp only [Cfg.hand] at hq
 cases hg:Nat.beq g f with
 | true=>rw [Nat.eq_of_beq_eq_true hg];exact hb
 | false=>rw [hg] at hq;exact h.fnTy g q hq
theorem add_ok {f:FuncId} {s:Spec} (h:CfgOk P Γ) (hb:HasBody P f) (hs:∀ args r,s.run args some = some r→FnOk P Γ.glob f args r):CfgOk P (Γ.add f s):=by
 refine ⟨h.mixed,h.ty,fun g args {C} k=>?_,fun g args r hr=>?_,fun g args r hr=>?_,h.fnTy,h.keys,h.natX,h.okX,h.bodyX⟩
 · simp only [Cfg.add]
   cases (Nat.beq g f && s.fits args)
   · exact h.nat g args k
   · exact s.nat args k
 · simp only [Cfg.add] at hr
   cases hg:(Nat.beq g f && s.fits args) with
   | true =>
     rw [hg] at hr
     simp only [Bool.and_eq_true] at hg
     rw [Nat.eq_of_beq_eq_true hg.1]
     exact hs args r hr
   | false=>rw [hg] at hr;exact h.ok g args r hr
 · simp only [Cfg.add] at hr
   cases hg:(Nat.beq g f && s.fits args) with
   | true =>
     simp only [Bool.and_eq_true] at hg
     rw [Nat.eq_of_beq_eq_true hg.1];exact hb
   | false=>rw [hg] at hr;exact h.body g args r hr
structure SpecX where
 fits:List V→List Obj→Bool
 run:{C:Type}→List V→List Obj→(V→List (Nat×Obj)→List Obj→Option C)→Option C
 nat:∀ {C:Type} (vs:List V) (os:List Obj) (K:V→List (Nat×Obj)→List Obj→Option C),run vs os K = (run vs os (fun a b c=>some (a,b,c))).bind fun q=>K q.1 q.2.1 q.2.2
def Cfg.addX (Γ:Cfg) (f:FuncId) (s:SpecX):Cfg:={ Γ with callX:=fun g vs os {_} K=>bif Nat.beq g f && s.fits vs os then s.run vs os K else Γ.callX g vs os K }
theorem addX_ok {f:FuncId} {s:SpecX} (h:CfgOk P Γ) (hb:HasBody P f) (hs:∀ vs os q,s.run vs os (fun a b c=>some (a,b,c)) = some q→FnOkX P Γ.glob f vs os q.1 q.2.1 q.2.2):CfgOk P (Γ.addX f s):=by
 refine ⟨h.mixed,h.ty,h.nat,h.ok,h.body,h.fnTy,h.keys,fun g vs os {C} k=>?_,fun g vs os q hr=>?_,fun g vs os q hr=>?_⟩
 · simp only [Cfg.addX]
   cases (Nat.beq g f && s.fits vs os)
   · exact h.natX g vs os k
   · exact s.nat vs os k
 · simp only [Cfg.addX] at hr
   cases hg:(Nat.beq g f && s.fits vs os) with
   | true =>
     rw [hg] at hr
     simp only [Bool.and_eq_true] at hg
     rw [Nat.eq_of_beq_eq_true hg.1]
     exact hs vs os q hr
   | false=>rw [hg] at hr;exact h.okX g vs os q hr
 · simp only [Cfg.addX] at hr
   cases hg:(Nat.beq g f && s.fits vs os) with
   | true =>
     simp only [Bool.and_eq_true] at hg
     rw [Nat.eq_of_beq_eq_true hg.1];exact hb
   | false=>rw [hg] at hr;exact h.bodyX g vs os q hr
inductive AS where
 | d (t:Ty)
 | p (t:Ty)
 | c (a b:Ty)
 | pc (a b:Ty)
@[reducible] def AS.T:AS→Type
 | .d t=>t.T
 | .p t=>t.T
 | .c a b=>a.T→Option b.T
 | .pc a b=>a.T→Option b.T
@[reducible] def ProdT:List AS→Type
 | []=>Unit
 | s :: r=>s.T×ProdT r
def AS.put:(s:AS)→s.T→V
 | .d t,x=>.dat t x
 | .p t,x=>.eptr (.dat t x)
 | .c a b,g=>.clo a b g
 | .pc a b,g=>.eptr (.clo a b g)
def AS.get:(s:AS)→V→Option s.T
 | .d t,v=>v.as t
 | .p t,.eptr v=>v.as t
 | .c a b,.clo a' b' g=>if h:a' = a∧b' = b then some (h.1 ▸ h.2 ▸ g) else none
 | .pc a b,.eptr (.clo a' b' g)=>if h:a' = a∧b' = b then some (h.1 ▸ h.2 ▸ g) else none
 | _,_=>none
theorem AS.get_put:∀ (s:AS) (v:V) (x:s.T),s.get v = some x→v = s.put x:=by
 intro s v x h
 cases s with
 | d t=>exact as_some h
 | p t =>
   cases v <;> simp only [AS.get] at h <;> first | exact (by rw [as_some h];rfl) | (simp at h;done)
 | c a b =>
   cases v <;> simp only [AS.get] at h <;> try (simp at h;done)
   split at h
   · rename_i hh
     obtain ⟨rfl,rfl⟩:=hh
     simp only [Option.some.injEq] at h
     subst h;rfl
   · simp at h
 | pc a b =>
   cases v <;> simp only [AS.get] at h <;> try (simp at h;done)
   rename_i v
   cases v <;> simp only [AS.get] at h <;> try (simp at h;done)
   split at h
   · rename_i hh
     obtain ⟨rfl,rfl⟩:=hh
     simp only [Option.some.injEq] at h
     subst h;rfl
   · simp at h
def putAll:(l:List AS)→ProdT l→List V
 | [],_=>[]
 | s :: r,x=>s.put x.1 :: putAll r x.2
def getAll:(l:List AS)→List V→Option (ProdT l)
 | [],[]=>some ()
 | s :: r,v :: vs=>match s.get v,getAll r vs with
   | some x,some y=>some (x,y)
   | _,_=>none
 | _,_=>none
theorem getAll_put:∀ (l:List AS) (vs:List V) (x:ProdT l),getAll l vs = some x→vs = putAll l x
 | [],[],_,_=>rfl
 | [],_ :: _,_,h=>by simp [getAll] at h
 | _ :: _,[],_,h=>by simp [getAll] at h
 | s :: r,v :: vs,x,h=>by
   simp only [getAll] at h
   split at h
   · rename_i y z h1 h2
     simp only [Option.some.injEq] at h
     subst h
     rw [AS.get_put s v y h1,getAll_put r vs z h2];rfl
   · simp at h
theorem putAll_length:∀ (l:List AS) (a:ProdT l),(putAll l a).length = l.length
 | [],_=>rfl
 | _ :: r,a=>by simp [putAll,putAll_length r a.2]
def Spec.one (l:List AS) (T:Ty) (g:ProdT l→Option T.T):Spec where
 fits args:=(getAll l args).isSome
 run args K:=match getAll l args with | some a=>(g a).bind fun x=>K (.dat T x) | none=>none
 nat args K:=by
   cases getAll l args with
   | none=>rfl
   | some a=>cases hg:g a <;> simp [hg]
def Spec.many (l:List AS) (T:Ty) (g:ProdT l→Option T.T):Spec where
 fits args:=(getAll l args).isSome
 run args K:=match getAll l args with | some a=>(g a).bind fun x=>K (.tup (spread T x)) | none=>none
 nat args K:=by
   cases getAll l args with
   | none=>rfl
   | some a=>cases hg:g a <;> simp [hg]
def V.asTup (T:Ty):V→Option T.T
 | .tup vs=>argsAs T vs
 | _=>none
theorem argsAs_spread:∀ (T:Ty) (vs:List V) (x:T.T),argsAs T vs = some x→vs = spread T x
 | .unit,[],_,_=>rfl
 | .unit,_ :: _,_,h=>by simp [argsAs] at h
 | .pair t u,[],x,h=>by simp [argsAs] at h
 | .pair t u,v :: vs,x,h=>by
   simp only [argsAs] at h
   split at h
   · rename_i x1 x2 h1 h2
     simp only [Option.some.injEq] at h
     subst h
     rw [as_some h1,argsAs_spread u vs x2 h2];rfl
   · simp at h
 | .int _,vs,x,h=>by simp [argsAs] at h
 | .bool,vs,x,h=>by simp [argsAs] at h
 | .str,vs,x,h=>by simp [argsAs] at h
 | .lst _,vs,x,h=>by simp [argsAs] at h
 | .arr _ _,vs,x,h=>by simp [argsAs] at h
 | .map _ _,vs,x,h=>by simp [argsAs] at h
theorem asTup_some {T:Ty} {v:V} {x:T.T} (h:v.asTup T = some x):v = .tup (spread T x):=by
 cases v <;> simp only [V.asTup] at h <;> try (simp at h;done)
 rw [argsAs_spread T _ x h]
theorem add_one {f : FuncId} {fn : Func} (l : List AS) (T : Ty) (g : ProdT l → Option T.T) (own xs : List Nat) (an : Ann) (h : CfgOk P Γ) (hf : P.funcs[f]? = some fn) (hb : fn.body.isSome = true) (hn : (fn.name == "runtime.NumGoroutine") = false)
   (hL:LOkF P ((Γ.withOwn own).withX xs) an fn) (hA:AnnOk an (l.length + (fn.ntmps - l.length))) (hg:∀ a,evFn ((Γ.withOwn own).withX xs) an fn (putAll l a) (fun v=>v.as T) = g a):CfgOk P (Γ.add f (Spec.one l T g)):=by
 refine add_ok h ⟨fn,hf,hb,hn⟩ fun args r hr=>?_
 simp only [Spec.one] at hr
 split at hr
 · rename_i a ha
   have:=getAll_put l args a ha
   subst this
   cases hga:g a with
   | none=>rw [hga] at hr;simp at hr
   | some x =>
     rw [hga] at hr
     simp only [Option.bind_some,Option.some.injEq] at hr
     subst hr
     intro Fz w vs h1 h2
     refine Calls.mono (fn_soundK (x_ok (l:=xs) (own_ok (l:=own) h)) hf an hL (by rw [putAll_length];exact hA) ((hg a).trans hga) Fz w vs h1 h2) fun e w' ⟨v,Fz',h3,h4,rv,h5,h6⟩=>⟨v,Fz',h3,h4,?_⟩
     rw [as_some h5] at h6;exact h6
 · simp at hr
theorem add_many {f : FuncId} {fn : Func} (l : List AS) (T : Ty) (g : ProdT l → Option T.T) (own xs : List Nat) (an : Ann) (h : CfgOk P Γ) (hf : P.funcs[f]? = some fn) (hb : fn.body.isSome = true) (hn : (fn.name == "runtime.NumGoroutine") = false)
   (hL:LOkF P ((Γ.withOwn own).withX xs) an fn) (hA:AnnOk an (l.length + (fn.ntmps - l.length))) (hg:∀ a,evFn ((Γ.withOwn own).withX xs) an fn (putAll l a) (fun v=>v.asTup T) = g a):CfgOk P (Γ.add f (Spec.many l T g)):=by
 refine add_ok h ⟨fn,hf,hb,hn⟩ fun args r hr=>?_
 simp only [Spec.many] at hr
 split at hr
 · rename_i a ha
   have:=getAll_put l args a ha
   subst this
   cases hga:g a with
   | none=>rw [hga] at hr;simp at hr
   | some x =>
     rw [hga] at hr
     simp only [Option.bind_some,Option.some.injEq] at hr
     subst hr
     intro Fz w vs h1 h2
     refine Calls.mono (fn_soundK (x_ok (l:=xs) (own_ok (l:=own) h)) hf an hL (by rw [putAll_length];exact hA) ((hg a).trans hga) Fz w vs h1 h2) fun e w' ⟨v,Fz',h3,h4,rv,h5,h6⟩=>⟨v,Fz',h3,h4,?_⟩
     rw [asTup_some h5] at h6;exact h6
 · simp at hr
end Go.Pv
