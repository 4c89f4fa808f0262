/- The purifying layer, part 1: data, abstract values, states, and the evaluator's words. -/
import Derived.CallsIn
import Derived.OrdersIn
set_option linter.unusedVariables false
set_option linter.unusedSimpArgs false
namespace Go.Pv
inductive Ty where
 | int (k:IntKind)
 | bool
 | str
 | lst (e:Ty)
 | unit
 | pair (a b:Ty)
 | arr (n:Nat) (e:Ty)
 | map (k v:Ty)
 deriving DecidableEq
@[reducible] def Ty.T:Ty→Type
 | .int _=>Int
 | .bool=>Bool
 | .str=>List UInt8
 | .lst e=>List e.T
 | .unit=>Unit
 | .pair a b=>a.T×b.T
 | .arr _ e=>List e.T
 | .map k v=>List (k.T×v.T)
def Ty.zero:(t:Ty)→t.T
 | .int _=>(0:Int)
 | .bool=>false
 | .str=>[]
 | .lst _=>[]
 | .unit=>()
 | .pair a b=>(a.zero,b.zero)
 | .arr n e=>List.replicate n e.zero
 | .map _ _=>[]
def Ty.size:Ty→Nat
 | .unit=>0
 | .pair a b=>a.size + b.size
 | .arr n e=>n * e.size
 | _=>1
def Ty.isAgg:Ty→Bool
 | .unit | .pair _ _ | .arr _ _=>true
 | _=>false
def Ty.isChain:Ty→Bool
 | .unit=>true
 | .pair _ b=>b.isChain
 | _=>false
def Ty.alike:Ty→Ty→Bool
 | .lst _,u=>match u with
   | .lst _=>true
   | _=>false
 | .pair a b,u=>match u with
   | .pair c d=>a.alike c && b.alike d
   | _=>false
 | .arr n a,u=>match u with
   | .arr m b=>decide (n = m) && a.alike b
   | _=>false
 | .int k,u=>decide (Ty.int k = u)
 | .bool,u=>decide (Ty.bool = u)
 | .str,u=>decide (Ty.str = u)
 | .unit,u=>decide (Ty.unit = u)
 | .map k v,u=>decide (Ty.map k v = u)
def Ty.fields:Ty→List Ty
 | .pair a b=>a :: b.fields
 | _=>[]
def Ty.partOf (t:Ty):List Ty→Ty
 | []=>t
 | u :: r=>match u with
   | .lst e=>bif t.alike e then e else t.partOf r
   | _=>t.partOf r
abbrev D:=(t:Ty)×t.T
def Ty.fieldGet:(t:Ty)→t.T→Nat→Option D
 | .pair a _,x,0=>some ⟨a,x.1⟩
 | .pair _ b,x,j + 1=>b.fieldGet x.2 j
 | _,_,_=>none
def Ty.fieldAt:Ty→Nat→Option (Nat×Ty)
 | .pair a _,0=>some (0,a)
 | .pair a b,j + 1=>(b.fieldAt j).map fun p=>(a.size + p.1,p.2)
 | _,_=>none
def Ty.at:List Nat→Ty→Option (Nat×Ty)
 | [],t=>some (0,t)
 | j :: p,t =>
   match t with
   | .pair a b=>match (Ty.pair a b).fieldAt j with
     | some q=>(Ty.at p q.2).map fun r=>(q.1 + r.1,r.2)
     | none=>none
   | .arr n e=>if j < n then (Ty.at p e).map fun r=>(j * e.size + r.1,r.2) else none
   | _=>none
def Ty.tyAt:List Nat→Ty→Option Ty
 | [],t=>some t
 | j :: p,.pair a b=>match (Ty.pair a b).fieldAt j with | some q=>Ty.tyAt p q.2 | none=>none
 | _ :: p,.arr _ e=>Ty.tyAt p e
 | _ :: _,_=>none
def Ty.inB:List Nat→Ty→Bool
 | [],_=>true
 | j :: p,.pair a b=>match (Ty.pair a b).fieldAt j with | some q=>Ty.inB p q.2 | none=>false
 | j :: p,.arr n e=>bif decide (j < n) then Ty.inB p e else false
 | _ :: _,_=>false
theorem Ty.at_of:∀ (p:List Nat) (t u:Ty),Ty.tyAt p t = some u→Ty.inB p t = true→∃ o,Ty.at p t = some (o,u)
 | [],t,u,h,_=>by simp only [Ty.tyAt,Option.some.injEq] at h;subst h;exact ⟨0,rfl⟩
 | j :: p,.pair a b,u,h,hb=>by
   simp only [Ty.tyAt] at h
   simp only [Ty.inB] at hb
   cases hf:(Ty.pair a b).fieldAt j with
   | none=>rw [hf] at h;simp at h
   | some q =>
     rw [hf] at h hb
     obtain ⟨o,ho⟩:=Ty.at_of p q.2 u h hb
     exact ⟨q.1 + o,by simp [Ty.at,hf,ho]⟩
 | j :: p,.arr n e,u,h,hb=>by
   simp only [Ty.tyAt] at h
   simp only [Ty.inB] at hb
   cases hj:decide (j < n) with
   | false=>rw [hj] at hb;simp at hb
   | true =>
     rw [hj] at hb
     obtain ⟨o,ho⟩:=Ty.at_of p e u h hb
     exact ⟨j * e.size + o,by simp only [decide_eq_true_eq] at hj;simp [Ty.at,hj,ho]⟩
 | _ :: _,.int _,u,h,_=>by simp [Ty.tyAt] at h
 | _ :: _,.bool,u,h,_=>by simp [Ty.tyAt] at h
 | _ :: _,.str,u,h,_=>by simp [Ty.tyAt] at h
 | _ :: _,.lst _,u,h,_=>by simp [Ty.tyAt] at h
 | _ :: _,.unit,u,h,_=>by simp [Ty.tyAt] at h
 | _ :: _,.map _ _,u,h,_=>by simp [Ty.tyAt] at h
theorem Ty.tyAt_of:∀ (p:List Nat) (t u:Ty) (o:Nat),Ty.at p t = some (o,u)→Ty.tyAt p t = some u
 | [],t,u,o,h=>by simp only [Ty.at,Option.some.injEq,Prod.mk.injEq] at h;rw [← h.2];rfl
 | j :: p,.pair a b,u,o,h=>by
   simp only [Ty.at] at h
   simp only [Ty.tyAt]
   cases hf:(Ty.pair a b).fieldAt j with
   | none=>rw [hf] at h;simp at h
   | some q =>
     rw [hf] at h
     simp only [Option.map_eq_some_iff] at h
     obtain ⟨⟨o2,u2⟩,h1,h2⟩:=h
     simp only [Prod.mk.injEq] at h2
     rw [← h2.2]
     exact Ty.tyAt_of p q.2 u2 o2 h1
 | j :: p,.arr n e,u,o,h=>by
   simp only [Ty.at] at h
   split at h
   · simp only [Option.map_eq_some_iff] at h
     obtain ⟨⟨o2,u2⟩,h1,h2⟩:=h
     simp only [Prod.mk.injEq] at h2
     rw [← h2.2]
     exact Ty.tyAt_of p e u2 o2 h1
   · simp at h
 | _ :: _,.int _,u,o,h=>by simp [Ty.at] at h
 | _ :: _,.bool,u,o,h=>by simp [Ty.at] at h
 | _ :: _,.str,u,o,h=>by simp [Ty.at] at h
 | _ :: _,.lst _,u,o,h=>by simp [Ty.at] at h
 | _ :: _,.unit,u,o,h=>by simp [Ty.at] at h
 | _ :: _,.map _ _,u,o,h=>by simp [Ty.at] at h
def Ty.get:List Nat→(t:Ty)→t.T→Option D
 | [],t,x=>some ⟨t,x⟩
 | j :: p,.pair a b,x =>
   match (Ty.pair a b).fieldGet x j with
   | some q=>Ty.get p q.1 q.2
   | none=>none
 | j :: p,.arr _ e,x=>Ty.get p e ((x:List e.T).getD j e.zero)
 | _ :: _,_,_=>none
def Ty.fieldMod (f:(u:Ty)→u.T→Option u.T):(t:Ty)→t.T→Nat→Option t.T
 | .pair a b,x,0=>match f a x.1 with | some y=>some (y,x.2) | none=>none
 | .pair _ b,x,j + 1=>match b.fieldMod f x.2 j with | some y=>some (x.1,y) | none=>none
 | _,_,_=>none
def Ty.set (u:Ty) (y:u.T):List Nat→(t:Ty)→t.T→Option t.T
 | [],t,_=>if h:u = t then some (h ▸ y) else none
 | j :: p,.pair a b,x=>(Ty.pair a b).fieldMod (fun t' x'=>Ty.set u y p t' x') x j
 | j :: p,.arr _ e,x =>
   match Ty.set u y p e ((x:List e.T).getD j e.zero) with
   | some z=>some ((x:List e.T).set j z)
   | none=>none
 | _ :: _,_,_=>none
@[reducible] def idx (n:Int) (len:Nat):Prop:=0 ≤ n∧n < (len:Int)
@[reducible] def mkOk (x y:Int):Prop:=x = y∧0 ≤ x∧x ≤ 1073741824
@[reducible] def ineg (x:Int):Int:=0 - x
@[reducible] def imax (x y:Int):Int:=if y > x then y else x
@[reducible] def imin (x y:Int):Int:=if y < x then y else x
@[reducible] def ieq (x y:Int):Bool:=decide (x = y)
@[reducible] def beqB (x y:Bool):Bool:=x == y
@[reducible] def beqS (x y:List UInt8):Bool:=x == y
def Ty.beq:(t:Ty)→t.T→t.T→Bool
 | .int _,x,y=>ieq x y
 | .bool,x,y=>beqB x y
 | .str,x,y=>beqS x y
 | .unit,_,_=>true
 | .pair a b,x,y=>a.beq x.1 y.1 && b.beq x.2 y.2
 | .arr _ e,x,y=>go e.beq x y
 | _,_,_=>false
where
 go {α:Type} (f:α→α→Bool):List α→List α→Bool
   | [],[]=>true
   | x :: xs,y :: ys=>f x y && go f xs ys
   | _,_=>false
inductive V where
 | dat (t:Ty) (x:t.T)
 | junk
 | undef
 | ref (k s:Nat) (p:List Nat)
 | eptr (v:V)
 | sl (e:Ty) (k s:Nat)
 | nils
 | mp (k s:Nat)
 | fn (f:FuncId) (caps:List V)
 | clo (a b:Ty) (g:a.T→Option b.T)
 | nilf
 | agg (fs:List V)
 | tup (vs:List V)
 | cb (i:Nat)
 | row (e:Ty) (k s p:Nat)
def V.as (t:Ty):V→Option t.T
 | .dat u x=>if h:u = t then some (h ▸ x) else none
 | _=>none
inductive K where
 | d (t:Ty)
 | leaf
 | st (fs:List (Option Ty))
 deriving DecidableEq
def fsize:Option Ty→Nat
 | some t=>t.size
 | none=>1
def fsizes:List (Option Ty)→Nat
 | []=>0
 | x :: r=>fsize x + fsizes r
def ffield:List (Option Ty)→Nat→Option (Nat×Option Ty)
 | x :: _,0=>some (0,x)
 | x :: r,j + 1=>(ffield r j).map fun q=>(fsize x + q.1,q.2)
 | _,_=>none
def K.size:K→Nat
 | .d t=>t.size
 | .leaf=>1
 | .st fs=>fsizes fs
def K.isAgg:K→Bool
 | .d t=>t.isAgg
 | .leaf=>false
 | .st _=>true
def K.at:List Nat→K→Option (Nat×K)
 | p,.d t=>(Ty.at p t).map fun q=>(q.1,.d q.2)
 | [],k=>some (0,k)
 | j :: p,.st fs =>
   match ffield fs j with
   | some (o,some t)=>(Ty.at p t).map fun q=>(o + q.1,.d q.2)
   | some (o,none)=>if p = [] then some (o,.leaf) else none
   | none=>none
 | _,_=>none
def K.tyAt:List Nat→K→Option K
 | p,.d t=>match Ty.tyAt p t with | some u=>some (.d u) | none=>none
 | [],k=>some k
 | j :: p,.st fs=>match ffield fs j with
   | some (_,some t)=>(match Ty.tyAt p t with | some u=>some (.d u) | none=>none)
   | some (_,none)=>if p = [] then some .leaf else none
   | none=>none
 | _,_=>none
def K.inB:List Nat→K→Bool
 | p,.d t=>Ty.inB p t
 | j :: p,.st fs=>match ffield fs j with
   | some (_,some t)=>Ty.inB p t
   | _=>true
 | _,_=>true
theorem K.at_of (p:List Nat) (k u:K) (h:K.tyAt p k = some u) (hb:K.inB p k = true):∃ o,K.at p k = some (o,u):=by
 cases k with
 | d t =>
   have h:(match Ty.tyAt p t with | some u=>some (K.d u) | none=>none) = some u:=by cases p <;> exact h
   have hb:Ty.inB p t = true:=by cases p <;> exact hb
   split at h
   · rename_i v hv
     simp only [Option.some.injEq] at h
     subst h
     obtain ⟨o,ho⟩:=Ty.at_of p t v hv hb
     exact ⟨o,by cases p <;> simp [K.at,ho]⟩
   · simp at h
 | leaf =>
   cases p with
   | nil=>simp only [K.tyAt,Option.some.injEq] at h;subst h;exact ⟨0,rfl⟩
   | cons j p=>simp [K.tyAt] at h
 | st fs =>
   cases p with
   | nil=>simp only [K.tyAt,Option.some.injEq] at h;subst h;exact ⟨0,rfl⟩
   | cons j p =>
     simp only [K.tyAt] at h
     simp only [K.inB] at hb
     cases hf:ffield fs j with
     | none=>rw [hf] at h;simp at h
     | some q =>
       obtain ⟨o1,ft⟩:=q
       rw [hf] at h hb
       cases ft with
       | none =>
         simp only at h
         split at h
         · rename_i hp
           simp only [Option.some.injEq] at h
           subst h
           exact ⟨o1,by simp [K.at,hf,hp]⟩
         · simp at h
       | some t =>
         simp only at h hb
         split at h
         · rename_i v hv
           simp only [Option.some.injEq] at h
           subst h
           obtain ⟨o,ho⟩:=Ty.at_of p t v hv hb
           exact ⟨o1 + o,by simp [K.at,hf,ho]⟩
         · simp at h
theorem K.tyAt_of (p:List Nat) (k u:K) (o:Nat) (h:K.at p k = some (o,u)):K.tyAt p k = some u:=by
 cases k with
 | d t =>
   have h:(Ty.at p t).map (fun q=>(q.1,K.d q.2)) = some (o,u):=by cases p <;> exact h
   simp only [Option.map_eq_some_iff,Prod.mk.injEq] at h
   obtain ⟨⟨o2,u2⟩,h1,h2,h3⟩:=h
   have h4:=Ty.tyAt_of p t u2 o2 h1
   subst h3
   cases p <;> simp only [K.tyAt,h4]
 | leaf=>cases p with
   | nil=>simp only [K.at,Option.some.injEq,Prod.mk.injEq] at h;rw [← h.2];rfl
   | cons j p=>simp [K.at] at h
 | st fs=>cases p with
   | nil=>simp only [K.at,Option.some.injEq,Prod.mk.injEq] at h;rw [← h.2];rfl
   | cons j p =>
     simp only [K.at] at h
     simp only [K.tyAt]
     cases hf:ffield fs j with
     | none=>rw [hf] at h;simp at h
     | some q =>
       obtain ⟨o1,ft⟩:=q
       rw [hf] at h
       cases ft with
       | none =>
         simp only at h ⊢
         split at h
         · rename_i hp
           simp only [Option.some.injEq,Prod.mk.injEq] at h
           rw [if_pos hp,← h.2]
         · simp at h
       | some t =>
         simp only [Option.map_eq_some_iff,Prod.mk.injEq] at h ⊢
         obtain ⟨⟨o2,u2⟩,h1,h2,h3⟩:=h
         rw [Ty.tyAt_of p t u2 o2 h1,← h3]
def V.fitsF:V→Option Ty→Bool
 | .dat t _,some u=>decide (t = u)
 | .sl e _ _,some (.lst u)=>decide (e = u)
 | .row e _ _ _,some (.lst u)=>decide (e = u)
 | .nils,some (.lst _)=>true
 | .dat (.map _ _) _,none=>true
 | .junk,none=>true
 | .ref _ _ _,none | .eptr _,none | .mp _ _,none | .fn _ _,none | .clo _ _ _,none | .nilf,none | .cb _,none | .row _ _ _ _,none=>true
 | _,_=>false
def fitsL:List V→List (Option Ty)→Bool
 | [],[]=>true
 | v :: vs,t :: ts=>v.fitsF t && fitsL vs ts
 | _,_=>false
def V.fits:V→K→Bool
 | .agg fs,.d (.pair a b)=>(Ty.pair a b).isChain && fitsL fs ((Ty.pair a b).fields.map some)
 | .agg fs,.st ks=>fitsL fs ks
 | .agg _,_=>false
 | v,.d t=>v.fitsF (some t)
 | v,.leaf=>v.fitsF none
 | _,_=>false
def V.get (p:List Nat):V→Option V
 | .dat t x=>match Ty.get p t x with | some q=>some (.dat q.1 q.2) | none=>none
 | .agg fs =>
   match p with
   | []=>some (.agg fs)
   | j :: p =>
     match fs[j]? with
     | some (.dat t x)=>match Ty.get p t x with | some q=>some (.dat q.1 q.2) | none=>none
     | some v=>if p = [] then some v else none
     | none=>none
 | v=>if p = [] then some v else none
def collL:List V→Option D
 | []=>some ⟨.unit,()⟩
 | .dat t x :: r=>match collL r with | some q=>some ⟨.pair t q.1,(x,q.2)⟩ | none=>none
 | _=>none
def V.coll:V→V
 | .agg fs=>match collL fs with | some q=>.dat q.1 q.2 | none=>.agg fs
 | v=>v
def explode:(t:Ty)→t.T→List V
 | .pair a b,x=>.dat a x.1 :: explode b x.2
 | _,_=>[]
def V.upd (v:V) (p:List Nat):V→Option V
 | .dat t x =>
   match p,v with
   | [],v=>some v
   | p,.dat u y=>match Ty.set u y p t x with | some z=>some (.dat t z) | none=>none
   | [j],v=>match t,x with
     | .pair a b,x=>if j < (explode (.pair a b) x).length then some (.agg ((explode (.pair a b) x).set j v)) else none
     | _,_=>none
   | _,_=>none
 | .agg fs =>
   match p with
   | []=>some v
   | [j]=>if j < fs.length then some (.agg (fs.set j v)) else none
   | j :: p =>
     match fs[j]?,v with
     | some (.dat t x),.dat u y=>match Ty.set u y p t x with | some z=>some (.agg (fs.set j (.dat t z))) | none=>none
     | _,_=>none
 | _=>if p = [] then some v else none
structure Cbs (t:Ty) where
 y:t.T→List V→Option (t.T×Bool)
 b:Ty
 f:t.T→List V→Option (t.T×b.T)
inductive Sp where
 | ids (l:List Nat)
 | keys (k:Ty) (es:List (k.T×Nat))
def Sp.all:Sp→List Nat
 | .ids l=>l
 | .keys _ es=>es.map (·.2)
inductive Obj where
 | box (k:K) (c:V)
 | vec (e:Ty) (xs:List e.T)
 | map (k v:Ty) (es:List (k.T×v.T))
 | gh (t:Ty) (run:Cbs t) (x:t.T)
 | grid (e:Ty) (ids:Sp) (rows:List (Option (List e.T)))
 | gone
 | sav (i:Nat) (v:V)
 | mi (k v:Ty) (es:List (k.T×v.T)) (seen:List Nat) (cur:Option (k.T×v.T))
structure Eff where
 val:V
 wr:List (Nat×Nat×Obj):=[]
structure Tms where
 length:Nat
 ups:List (Nat×V)
 dflt:V
def findT:List (Nat×V)→Nat→Option V
 | [],_=>none
 | q :: r,t=>bif Nat.beq q.1 t then some q.2 else findT r t
def Tms.get (T:Tms) (t:Nat):V:=match findT T.ups t with | some v=>v | none=>bif Nat.blt t T.length then T.dflt else .junk
def Tms.put (T:Tms) (t:Nat) (v:V):Tms:=bif Nat.blt t T.length then { T with ups:=(t,v) :: T.ups } else T
def Tms.mapV (f:V→V) (T:Tms):Tms:={ length:=T.length,ups:=T.ups.map fun q=>(q.1,f q.2),dflt:=f T.dflt }
def indexed:Nat→List V→List (Nat×V)
 | _,[]=>[]
 | i,v :: r=>(i,v) :: indexed (i + 1) r
theorem Tms.get_put (T : Tms) (t u:Nat) (v:V):(T.put t v).get u = if t = u∧t < T.length then v else T.get u:=by
 unfold Tms.put
 cases h:Nat.blt t T.length with
 | false =>
   have : ¬ t < T.length := by intro h2;have:Nat.blt t T.length = true:=by simpa using h2
                               rw [h] at this;cases this
   rw [if_neg (fun h=>this h.2)];rfl
 | true =>
   have hlt:t < T.length:=by simpa using h
   simp only [cond_true,Tms.get,findT]
   by_cases hu:t = u
   · subst hu
     rw [Nat.beq_refl,if_pos ⟨rfl,hlt⟩];rfl
   · have:Nat.beq t u = false:=by
       cases hb:Nat.beq t u with
       | false=>rfl
       | true=>exact absurd (Nat.eq_of_beq_eq_true hb) hu
     rw [this,if_neg (fun h=>hu h.1)];rfl
theorem Tms.put_length (T:Tms) (t:Nat) (v:V):(T.put t v).length = T.length:=by unfold Tms.put;cases Nat.blt t T.length <;> rfl
theorem findT_map (f:V→V) (l:List (Nat×V)) (t:Nat):findT (l.map fun q=>(q.1,f q.2)) t = (findT l t).map f:=by
 induction l with
 | nil=>rfl
 | cons q r ih=>simp only [List.map_cons,findT];cases Nat.beq q.1 t <;> simp [ih]
theorem Tms.get_map (f:V→V) (hf:f .junk = .junk) (T:Tms) (t:Nat):(T.mapV f).get t = f (T.get t):=by
 simp only [Tms.get,Tms.mapV,findT_map]
 cases findT T.ups t with
 | some v=>rfl
 | none=>simp only [Option.map_none];cases Nat.blt t T.length <;> simp [hf]
theorem findT_indexed:∀ (l:List V) (i t:Nat),findT (indexed i l) t = if i ≤ t then l[t - i]? else none
 | [],i,t=>by simp [indexed,findT]
 | v :: r,i,t=>by
   simp only [indexed,findT,findT_indexed r (i + 1) t]
   by_cases h:i = t
   · subst h
     rw [Nat.beq_refl];simp
   · have:Nat.beq i t = false:=by
       cases hb:Nat.beq i t with
       | false=>rfl
       | true=>exact absurd (Nat.eq_of_beq_eq_true hb) h
     rw [this]
     simp only [cond_false]
     by_cases h2:i ≤ t
     · have h3:i + 1 ≤ t:=by omega
       rw [if_pos h2,if_pos h3,show t - i = (t - (i + 1)) + 1 by omega];simp
     · rw [if_neg h2,if_neg (by omega)]
structure St where
 tmps:Tms
 objs:List (Nat×Nat×Obj)
abbrev Tm:=Nat→V
abbrev Lk:=Nat→Option (Nat×Obj)
def lookObj:List (Nat×Nat×Obj)→Lk
 | [],_=>none
 | (k,s,o) :: r,k'=>if k = k' then some (s,o) else lookObj r k'
def putObj (k s:Nat) (o:Obj):List (Nat×Nat×Obj)→List (Nat×Nat×Obj)
 | []=>[(k,s,o)]
 | (k',s',o') :: r=>if k = k' then (k,s,o) :: r else if k < k' then (k,s,o) :: (k',s',o') :: r else (k',s',o') :: putObj k s o r
def putObjs:List (Nat×Nat×Obj)→List (Nat×Nat×Obj)→List (Nat×Nat×Obj)
 | [],l=>l
 | (k,s,o) :: r,l=>putObjs r (putObj k s o l)
def St.tm (st:St):Tm:=fun t=>st.tmps.get t
def St.lk (st:St):Lk:=lookObj st.objs
def St.apply (st:St) (dst:Option Tmp) (e:Eff):St :=
 { tmps:=match dst with | some d=>st.tmps.put d e.val | none=>st.tmps,objs:=putObjs e.wr st.objs }
def nextS (lk:Lk) (k:Nat):Nat:=match lk k with | some (s,_)=>s + 1 | none=>1
inductive TD where
 | int (k:IntKind)
 | bool
 | str
 | slice (e:TypeId)
 | struct (fs:List TypeId)
 | arr (n:Nat) (e:TypeId)
 | map (k v:TypeId)
 | other
structure TI where
 d:TD
 k:K
 bytes:Nat
structure Cfg where
 ty:Nat→Option TI
 glob:Nat→Option V
 call:FuncId→List V→{C:Type}→(V→Option C)→Option C
 fnTy:FuncId→Option (Ty×Ty):=fun _=>none
 own:Nat→Bool:=fun _=>false
 keys:Nat→Bool:=fun _=>false
 callX:FuncId→List V→List Obj→{C:Type}→(V→List (Nat×Obj)→List Obj→Option C)→Option C:=fun _ _ _ {_} _=>none
 xat:Nat→Bool:=fun _=>false
def subKey (k j:Nat):Nat:=1000 + 64 * k + j
def constV:Value→V
 | .int k n=>.dat (.int k) n
 | .bool b=>.dat .bool b
 | .string s=>.dat .str s.data.toList
 | .slice none 0 0=>.nils
 | .nilFunc=>.nilf
 | _=>.junk
def Cfg.val (Γ:Cfg) (tm:Tm):Operand→V
 | .tmp t=>tm t
 | .const v=>constV v
 | .global g=>match Γ.glob g with | some (.dat t x)=>.eptr (.dat t x) | _=>.junk
 | .func f=>.fn f []
end Go.Pv
