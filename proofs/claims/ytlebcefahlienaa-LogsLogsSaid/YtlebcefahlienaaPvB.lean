/- The purifying layer, part 2: the evaluator. -/
import Derived.Test.YtlebcefahlienaaPvA
set_option linter.unusedVariables false
set_option linter.unusedSimpArgs false
namespace Go.Pv
variable {C:Type}
def Ty.hasLst (t:Ty):Bool:=t.fields.any fun u=>match u with | .lst _=>true | _=>false
def zeroF:Option Ty→V
 | some (.lst _)=>.nils
 | some t=>.dat t t.zero
 | none=>.junk
def K.zero:K→V
 | .d (.lst _)=>.nils
 | .d t=>if t.hasLst then .agg (t.fields.map fun u=>zeroF (some u)) else .dat t t.zero
 | .leaf=>.junk
 | .st fs=>.agg (fs.map zeroF)
def K.fields:K→List (Option Ty)
 | .d t=>t.fields.map some
 | .leaf=>[]
 | .st fs=>fs
def K.asTy':K→Option Ty
 | .d t=>some t
 | _=>none
def thawF (lk:Lk) (k j:Nat):V→Option Ty→V×List (Nat×Nat×Obj)
 | .nils,some (.lst e)=>(.sl e (subKey k j) (nextS lk (subKey k j)),[(subKey k j,nextS lk (subKey k j),.vec e [])])
 | v,_=>(v,[])
def thawL (lk:Lk) (k:Nat):Nat→List V→List (Option Ty)→List V×List (Nat×Nat×Obj)
 | j,v :: vs,t :: ts=>((thawF lk k j v t).1 :: (thawL lk k (j + 1) vs ts).1,(thawF lk k j v t).2 ++ (thawL lk k (j + 1) vs ts).2)
 | _,vs,_=>(vs,[])
def thawK (lk:Lk) (k:Nat) (sh:K):V→V×List (Nat×Nat×Obj)
 | .agg fs=>(.agg (thawL lk k 0 fs sh.fields).1,(thawL lk k 0 fs sh.fields).2)
 | v=>match sh with
   | .d t=>thawF lk k 0 v (some t)
   | _=>(v,[])
def V.atom:V→Bool
 | .dat _ _ | .clo _ _ _ | .nilf=>true
 | _=>false
def V.arg:V→Bool
 | .dat _ _ | .clo _ _ _ | .nilf | .nils=>true
 | .eptr v=>v.atom
 | _=>false
def argsOk:List V→Bool
 | []=>true
 | v :: r=>v.arg && argsOk r
def V.pure:V→Bool
 | .fn _ caps=>argsOk caps
 | v=>v.arg
def puresOk:List V→Bool
 | []=>true
 | v :: r=>v.pure && puresOk r
def nilF:V→Option Ty→V
 | .nils,some (.lst e)=>.dat (.lst e) []
 | v,_=>v
def nilL:List V→List (Option Ty)→List V
 | v :: vs,t :: ts=>nilF v t :: nilL vs ts
 | vs,_=>vs
def nilK (k:K):V→V
 | .nils=>nilF .nils k.asTy'
 | .agg fs=>.agg (nilL fs k.fields)
 | v=>v
def nilArg (Γ:Cfg) (T:TypeId) (v:V):V :=
 match Γ.ty T with
 | some ti=>bif Γ.own (900000 + T) then v.coll else (nilK ti.k v).coll
 | none=>v.coll
def nilArgs (Γ:Cfg):List TypeId→List V→List V
 | T :: Ts,v :: vs=>nilArg Γ T v :: nilArgs Γ Ts vs
 | _,vs=>vs
def spread:(a:Ty)→a.T→List V
 | .pair t u,x=>.dat t x.1 :: spread u x.2
 | _,_=>[]
def V.toClo (Γ:Cfg):V→V
 | .fn f caps=>match Γ.fnTy f with
   | some (a,b)=>bif argsOk caps then .clo a b (fun x=>Γ.call f (spread a x ++ caps) (fun r=>r.as b)) else .fn f caps
   | none=>.fn f caps
 | v=>v
def argsAs:(a:Ty)→List V→Option a.T
 | .unit,[]=>some ()
 | .pair t u,v :: r=>match v.as t,argsAs u r with
   | some x,some y=>some (x,y)
   | _,_=>none
 | _,_=>none
def Obj.get (p:List Nat):Obj→Option V
 | .box _ c=>c.get p
 | .vec e xs=>match p with
   | i :: p=>if i < xs.length then (match Ty.get p e (xs.getD i e.zero) with | some q=>some (.dat q.1 q.2) | none=>none) else none
   | []=>none
 | _=>none
def okSize (Γ:Cfg) (T:TypeId) (k:K):Bool :=
 match Γ.ty T with
 | some ti=>decide (ti.k.size = k.size) && (ti.k.isAgg == k.isAgg)
 | none=>false
def V.isVal:V→Bool
 | .junk | .undef | .tup _=>false
 | _=>true
def K.asTy:K→Option Ty
 | .d t=>some t
 | _=>none
def thawS (lk:Lk) (k:Nat) (p:List Nat) (sh:K) (v:V):V×List (Nat×Nat×Obj) :=
 match p with
 | [j]=>thawF lk k j v sh.asTy
 | _=>thawK lk k sh v
def V.isJunk:V→Bool
 | .junk=>true
 | _=>false
def V.fitsZ (k:K):V→Bool
 | .dat t _=>decide (k.size = t.size) && (k.isAgg == t.isAgg)
 | u=>u.fits k
def rowOf {α:Type} (rows:List (Option α)) (i:Nat):Option α:=match rows[i]? with
 | some (some xs)=>some xs
 | _=>none
def idAt {α:Type} (ids:List Nat) (rows:List (Option α)) (j:Nat):Option Nat:=match ids[j]? with
 | some i=>match rowOf rows i with
   | some _=>some i
   | none=>none
 | none=>none
def evLoadRow (Γ:Cfg) (T:TypeId) (e:Ty) (k s:Nat) (ids:Sp) (rows:List (Option (List e.T))) (p:List Nat) (K':Eff→Option C):Option C :=
 match p with
 | [0,j]=>match ids with
   | .ids ids=>if okSize Γ T (.d (.lst e)) then (idAt ids rows j).bind fun i=>K' { val:=.row e k s (i + 1) } else none
   | _=>none
 | [i + 1,j]=>if okSize Γ T (.d e) then (rowOf rows i).bind fun xs=>if j < xs.length then K' { val:=.dat e (xs.getD j e.zero) } else none else none
 | _=>none
def offIs (t:Ty) (j o:Nat):Bool:=match t.fieldAt j with
 | some q=>Nat.beq q.1 o
 | none=>false
def evLoad (Γ:Cfg) (lk:Lk) (T:TypeId) (v:V) (K':Eff→Option C):Option C :=
 match v with
 | .eptr u=>match Γ.ty T with
   | some ti=>if V.fitsZ ti.k u then K' { val:=u } else none
   | none=>none
 | .ref k s p=>match lk k with
   | some (s',.box sh c)=>if s = s' then (match K.tyAt p sh,c.get p with
     | some k',some u=>if okSize Γ T k' && !u.isJunk then K' { val:=u } else none
     | _,_=>none) else none
   | some (s',.vec e xs)=>if s = s' then (match p with
     | i :: p=>match Ty.tyAt p e,Ty.get p e (xs.getD i e.zero) with
       | some t,some q=>if okSize Γ T (.d t) && decide (t = q.1) then (if i < xs.length then K' { val:=.dat q.1 q.2 } else none) else none
       | _,_=>none
     | []=>none) else none
   | some (s',.grid e ids rows)=>if s = s' then evLoadRow Γ T e k s ids rows p K' else none
   | _=>none
 | _=>none
def evStoreBox (Γ:Cfg) (lk:Lk) (T:TypeId) (k s:Nat) (p:List Nat) (sh:K) (c x:V) (K':Eff→Option C):Option C :=
 match K.tyAt p sh with
 | some k' =>
   if okSize Γ T k' && x.isVal && (thawS lk k p k' x.coll).1.fits k' then
     (match V.upd (thawS lk k p k' x.coll).1 p c with
     | some c'=>if c'.fits sh then K' { val:=.junk,wr:=(thawS lk k p k' x.coll).2 ++ [(k,s,.box sh c')] } else none
     | none=>none)
   else none
 | none=>none
def evStore (Γ:Cfg) (lk:Lk) (T:TypeId) (v x:V) (K':Eff→Option C):Option C :=
 match v with
 | .ref k s p=>match lk k with
   | some (s',.box sh c)=>if s = s' then evStoreBox Γ lk T k s p sh c x K' else none
   | some (s',.vec e xs)=>if s = s' then (match p,x.coll with
     | i :: p,.dat u y=>match Ty.tyAt p e,Ty.set u y p e (xs.getD i e.zero) with
       | some t,some z=>if okSize Γ T (.d t) && decide (t = u) then (if i < xs.length then K' { val:=.junk,wr:=[(k,s,.vec e (xs.set i z))] } else none) else none
       | _,_=>none
     | _,_=>none) else none
   | _=>none
 | _=>none
def evFieldAddr (Γ:Cfg) (lk:Lk) (T:TypeId) (v:V) (j:Nat) (K':Eff→Option C):Option C :=
 match Γ.ty T with
 | some ⟨.struct fs,sh,_⟩=>match K.at [j] sh with
   | some (o,kj)=>if kj.size = 0 then none else match v with
     | .eptr (.dat t x)=>if offIs t j o = true then (match t.fieldGet x j with | some q=>K' { val:=.eptr (.dat q.1 q.2) } | none=>none) else none
     | .ref k s p=>match lk k with
       | some (s',.box sh' _)=>if s = s' then (match K.tyAt p sh' with | some k2=>if k2 = sh then K' { val:=.ref k s (p ++ [j]) } else none | none=>none) else none
       | some (s',.vec e _)=>if s = s' then (match p with
         | i :: p=>match Ty.tyAt p e with | some t2=>if K.d t2 = sh then K' { val:=.ref k s (i :: p ++ [j]) } else none | none=>none
         | []=>none) else none
       | _=>none
     | _=>none
   | none=>none
 | _=>none
def evRowAddr (Γ:Cfg) (lk:Lk) (T:TypeId) (e:Ty) (k s p:Nat) (n:Int) (K':Eff→Option C):Option C :=
 match lk k,Γ.ty T with
 | some (s',.grid e'' ids rows),some ⟨.slice _,.d (.lst e'),_⟩=>if s = s'∧e = e'' then (match p with
   | 0=>match ids with
     | .ids ids=>if e' = .lst e then (if idx n ids.length then K' { val:=.ref k s [0,Int.toNat n] } else none) else none
     | _=>none
   | i + 1=>if e' = e then ((rowOf rows i).bind fun xs=>if idx n xs.length then K' { val:=.ref k s [i + 1,Int.toNat n] } else none) else none) else none
 | _,_=>none
def evIndexAddr (Γ:Cfg) (lk:Lk) (T:TypeId) (v i:V) (K':Eff→Option C):Option C :=
 match i with
 | .dat (.int _) n=>match v,Γ.ty T with
   | .dat (.lst e) xs,some ⟨.slice _,.d (.lst e'),_⟩ =>
     if e = e' then (if idx n (xs:List e.T).length then K' { val:=.eptr (.dat e ((xs:List e.T).getD (Int.toNat n) e.zero)) } else none) else none
   | .sl e k s,some ⟨.slice _,.d (.lst e'),_⟩=>match lk k with
     | some (s',.vec e'' xs)=>if s = s'∧e = e'∧e = e'' then (if idx n xs.length then K' { val:=.ref k s [Int.toNat n] } else none) else none
     | _=>none
   | .eptr (.dat (.arr m e) xs),some ⟨.arr m' _,.d (.arr _ e'),_⟩ =>
     if e = e'∧m = m' then (if idx n m then K' { val:=.eptr (.dat e ((xs:List e.T).getD (Int.toNat n) e.zero)) } else none) else none
   | .ref k s p,some ⟨.arr m' _,.d (.arr m e),_⟩=>match lk k with
     | some (s',.box sh' _)=>if s = s' then (match K.tyAt p sh' with
       | some k2=>if k2 = .d (.arr m e)∧m = m' then (if idx n m then K' { val:=.ref k s (p ++ [Int.toNat n]) } else none) else none
       | none=>none) else none
     | some (s',.vec e' _)=>if s = s' then (match p with
       | j :: p=>match Ty.tyAt p e' with
         | some t2=>if t2 = .arr m e∧m = m' then (if idx n m then K' { val:=.ref k s (j :: p ++ [Int.toNat n]) } else none) else none
         | none=>none
       | []=>none) else none
     | _=>none
   | .row e k s p,_=>evRowAddr Γ lk T e k s p n K'
   | _,_=>none
 | _=>none
def evIndex (Γ:Cfg) (T:TypeId) (v i:V) (K':Eff→Option C):Option C :=
 match i with
 | .dat (.int _) n=>match v,Γ.ty T with
   | .dat (.arr m e) xs,some ⟨.arr m' _,.d (.arr _ e'),_⟩ =>
     if e = e'∧m = m' then (if idx n m then K' { val:=.dat e ((xs:List e.T).getD (Int.toNat n) e.zero) } else none) else none
   | .dat .str s,some ⟨.str,.d .str,_⟩=>if idx n (s:List UInt8).length then K' { val:=.dat (.int .u8) (((s:List UInt8).getD (Int.toNat n) 0).toNat:Int) } else none
   | _,_=>none
 | _=>none
def evField (Γ:Cfg) (T:TypeId) (v:V) (j:Nat) (K':Eff→Option C):Option C :=
 match Γ.ty T with
 | some ⟨.struct _,sh,_⟩=>match v.coll with
   | .dat t x=>if sh = .d t then (match t.fieldGet x j with | some q=>K' { val:=.dat q.1 q.2 } | none=>none) else none
   | _=>none
 | _=>none
def stick (x v:Int):Int:=match x with
 | .ofNat _=>v
 | .negSucc _=>v
theorem stick_eq (x v:Int):stick x v = v:=by cases x <;> rfl
def iand (k:IntKind) (x y:Int):Int:=stick x (k.wrap ((BitVec.ofInt k.bits x &&& BitVec.ofInt k.bits y).toNat:Int))
def ior (k:IntKind) (x y:Int):Int:=k.wrap ((BitVec.ofInt k.bits x ||| BitVec.ofInt k.bits y).toNat:Int)
def ixor (k:IntKind) (x y:Int):Int:=k.wrap ((BitVec.ofInt k.bits x ^^^ BitVec.ofInt k.bits y).toNat:Int)
def iandNot (k:IntKind) (x y:Int):Int:=k.wrap ((BitVec.ofInt k.bits x &&& ~~~BitVec.ofInt k.bits y).toNat:Int)
def evInt (op:BinOp) (k:IntKind) (x y:Int) (K':Eff→Option C):Option C :=
 match op with
 | .add=>K' { val:=.dat (.int k) (k.wrap (x + y)) }
 | .sub=>K' { val:=.dat (.int k) (k.wrap (x - y)) }
 | .mul=>K' { val:=.dat (.int k) (k.wrap (x * y)) }
 | .quo=>if y = 0 then none else K' { val:=.dat (.int k) (k.wrap (x.tdiv y)) }
 | .rem=>if y = 0 then none else K' { val:=.dat (.int k) (x.tmod y) }
 | .eql=>K' { val:=.dat .bool (decide (x = y)) }
 | .neq=>K' { val:=.dat .bool (!decide (x = y)) }
 | .lss=>K' { val:=.dat .bool (decide (x < y)) }
 | .leq=>K' { val:=.dat .bool (decide (x ≤ y)) }
 | .gtr=>K' { val:=.dat .bool (decide (y < x)) }
 | .geq=>K' { val:=.dat .bool (decide (y ≤ x)) }
 | .and=>K' { val:=.dat (.int k) (iand k x y) }
 | .or=>K' { val:=.dat (.int k) (ior k x y) }
 | .xor=>K' { val:=.dat (.int k) (ixor k x y) }
 | .andNot=>K' { val:=.dat (.int k) (iandNot k x y) }
 | _=>none
def evShift (op:BinOp) (k:IntKind) (x y:Int) (K':Eff→Option C):Option C :=
 match op with
 | .shr=>if y < 0 then none else K' { val:=.dat (.int k) (x.fdiv (2 ^ min y.toNat k.bits)) }
 | .shl=>if y < 0 then none else K' { val:=.dat (.int k) (k.wrap (x * 2 ^ min y.toNat k.bits)) }
 | _=>none
def evBool (op:BinOp) (x y:Bool) (K':Eff→Option C):Option C :=
 match op with
 | .eql=>K' { val:=.dat .bool (beqB x y) }
 | .neq=>K' { val:=.dat .bool (!beqB x y) }
 | _=>none
def evStr (op:BinOp) (x y:List UInt8) (K':Eff→Option C):Option C :=
 match op with
 | .eql=>K' { val:=.dat .bool (beqS x y) }
 | .neq=>K' { val:=.dat .bool (!beqS x y) }
 | .add=>if x.length + y.length ≤ 1073741824 then K' { val:=.dat .str (x ++ y) } else none
 | _=>none
def isShift (op:BinOp):Bool:=match op with | .shl | .shr=>true | _=>false
def boolOf (Γ:Cfg) (T:TypeId):Bool :=
 match Γ.ty T with
 | some ⟨.bool,_,_⟩=>true
 | _=>false
def evEqS (Γ:Cfg) (op:BinOp) (T:TypeId) (v u:V) (K':Eff→Option C):Option C :=
 match Γ.ty T with
 | some ⟨_,.d t,_⟩=>bif Γ.keys T && t.isAgg then (match v.coll.as t,u.coll.as t with
   | some x,some y=>(match op with
     | .eql=>K' { val:=.dat .bool (t.beq x y) }
     | .neq=>K' { val:=.dat .bool (!t.beq x y) }
     | _=>none)
   | _,_=>none) else none
 | _=>none
def evNil (Γ:Cfg) (op:BinOp) (T:TypeId) (n:Nat) (K':Eff→Option C):Option C :=
 match Γ.ty T with
 | some ⟨.slice _,_,_⟩=>if 0 < n then (match op with
   | .eql=>K' { val:=.dat .bool false }
   | .neq=>K' { val:=.dat .bool true }
   | _=>none) else none
 | _=>none
def evNils (Γ:Cfg) (op:BinOp) (T:TypeId) (K':Eff→Option C):Option C :=
 match Γ.ty T with
 | some ⟨.slice _,_,_⟩=>(match op with
   | .eql=>K' { val:=.dat .bool true }
   | .neq=>K' { val:=.dat .bool false }
   | _=>none)
 | _=>none
def evBin (Γ:Cfg) (op:BinOp) (T:TypeId) (v u:V) (K':Eff→Option C):Option C :=
 match v,u with
 | .dat (.int k) x,.dat (.int k') y=>bif isShift op then evShift op k x y K' else if k = k' then evInt op k x y K' else none
 | .dat .bool x,.dat .bool y=>bif boolOf Γ T then evBool op x y K' else none
 | .dat .str x,.dat .str y=>evStr op x y K'
 | .dat (.lst e) xs,.nils=>evNil Γ op T (xs:List e.T).length K'
 | .nils,.nils=>evNils Γ op T K'
 | v,u=>evEqS Γ op T v u K'
def evUn (op:UnOp) (v:V) (K':Eff→Option C):Option C :=
 match op,v with
 | .not,.dat .bool b=>K' { val:=.dat .bool (!b) }
 | .neg,.dat (.int k) x=>K' { val:=.dat (.int k) (k.wrap (ineg x)) }
 | .xor,.dat (.int k) x=>K' { val:=.dat (.int k) (ixor k (if k.signed then -1 else k.max) x) }
 | _,_=>none
def u8Of (Γ:Cfg) (E:TypeId):Bool :=
 match Γ.ty E with
 | some ⟨.int .u8,_,_⟩=>true
 | _=>false
def evConvert (Γ:Cfg) (lk:Lk) (src dst:TypeId) (v:V) (K':Eff→Option C):Option C :=
 match Γ.ty src,Γ.ty dst,v with
 | some ⟨.int _,_,_⟩,some ⟨.int k,_,_⟩,.dat (.int _) x=>K' { val:=.dat (.int k) (k.wrap x) }
 | some ⟨.str,_,_⟩,some ⟨.str,_,_⟩,.dat .str x=>K' { val:=.dat .str x }
 | some ⟨.slice E,.d (.lst (.int .u8)),_⟩,some ⟨.str,_,_⟩,.dat (.lst (.int .u8)) xs=>if u8Of Γ E = true then K' { val:=.dat .str ((xs:List Int).map fun n=>n.toNat.toUInt8) } else none
 | some ⟨.slice E,.d (.lst (.int .u8)),_⟩,some ⟨.str,_,_⟩,.sl (.int .u8) k s=>match lk k with
   | some (s',.vec (.int .u8) xs)=>if s = s'∧u8Of Γ E = true then K' { val:=.dat .str ((xs:List Int).map fun n=>n.toNat.toUInt8) } else none
   | _=>none
 | _,_,_=>none
def K.part:K→K
 | .d t=>.d (t.partOf t.fields)
 | k=>k
def alK (Γ:Cfg) (k:K) (d:Nat):K:=bif Γ.own (800000 + d) then k.part else k
def evBox (lk:Lk) (d:Nat) (sh:K) (v:V) (K':Eff→Option C):Option C :=
 match thawK lk d sh v with
 | (c,wr)=>if c.fits sh then K' { val:=.ref d (nextS lk d) [],wr:=wr ++ [(d,nextS lk d,.box sh c)] } else none
def nilTo (e:Ty):V→V
 | .nils=>match e with | .lst u=>.dat (.lst u) [] | _=>.nils
 | v=>v
def fillElems (e:Ty):List (Nat×V)→List e.T→Option (List e.T)
 | [],xs=>some xs
 | (j,v) :: r,xs=>match (nilTo e v.coll).as e with
   | some y=>if j < xs.length then fillElems e r (xs.set j y) else none
   | none=>none
def fillFields (ts:List (Option Ty)):List (Nat×V)→List V→Option (List V)
 | [],fs=>some fs
 | (j,v) :: r,fs=>if v.isVal && decide (j < fs.length) && fitsL (fs.set j v.coll) ts then fillFields ts r (fs.set j v.coll) else none
def evBuild (Γ:Cfg) (T:TypeId) (parts:List (Nat×V)) (K':Eff→Option C):Option C :=
 match Γ.ty T with
 | some ⟨.struct _,sh,_⟩=>match fillFields sh.fields parts (sh.fields.map zeroF) with
   | some fs=>K' { val:=(V.agg fs).coll }
   | none=>none
 | some ⟨.arr n _,.d (.arr m e),_⟩=>if n = m then (match fillElems e parts (List.replicate n e.zero) with | some xs=>K' { val:=.dat (.arr m e) xs } | none=>none) else none
 | _=>none
def elemZ (Γ:Cfg) (E:TypeId) (e:Ty):Bool :=
 match Γ.ty E with
 | some ⟨_,.d t,_⟩=>t.alike e && decide (0 < e.size)
 | _=>false
def evBuildSlice (Γ:Cfg) (lk:Lk) (d:Nat) (T:TypeId) (n:Nat) (parts:List (Nat×V)) (K':Eff→Option C):Option C :=
 match Γ.ty T with
 | some ⟨.slice E,.d (.lst e),_⟩=>if elemZ Γ E e && decide (n * e.size ≤ 65536) then (match fillElems e parts (List.replicate n e.zero) with
   | some xs=>bif Γ.own d then K' { val:=.sl e d (nextS lk d),wr:=[(d,nextS lk d,.vec e xs)] } else K' { val:=.dat (.lst e) xs }
   | none=>none) else none
 | _=>none
def maxCount:Nat:=1073741824
def elemOk (Γ:Cfg) (E:TypeId) (e:Ty):Bool :=
 match Γ.ty E with
 | some ⟨_,.d t,n⟩=>t.alike e && decide (n ≤ 65536) && decide (0 < e.size)
 | _=>false
def evMakeSlice (Γ:Cfg) (lk:Lk) (d:Nat) (T:TypeId) (n c:V) (K':Eff→Option C):Option C :=
 match Γ.ty T,n,c with
 | some ⟨.slice E,.d (.lst e),_⟩,.dat (.int .i64) x,.dat (.int .i64) y =>
   if elemOk Γ E e then (if mkOk x y then
     K' { val:=.sl e d (nextS lk d),wr:=[(d,nextS lk d,.vec e (List.replicate (Int.toNat x) e.zero))] } else none) else none
 | _,_,_=>none
def mapFind {α β:Type} (eq:α→α→Bool) (k:α):List (α×β)→Option β
 | []=>none
 | q :: r=>if eq k q.1 then some q.2 else mapFind eq k r
def mapPut {α β:Type} (eq:α→α→Bool) (k:α) (v:β):List (α×β)→List (α×β)
 | []=>[(k,v)]
 | q :: r=>if eq k q.1 then (k,v) :: r else q :: mapPut eq k v r
def mapTy (Γ:Cfg) (T:TypeId):Option (Ty×Ty) :=
 match Γ.ty T with
 | some ⟨.map kT vT,_,_⟩=>bif Γ.keys kT then (match Γ.ty kT,Γ.ty vT with
   | some ⟨_,.d k,_⟩,some ⟨_,.d v,_⟩=>some (k,v)
   | _,_=>none) else none
 | _=>none
def evMakeMap (Γ:Cfg) (lk:Lk) (d:Nat) (T:TypeId) (K':Eff→Option C):Option C :=
 match mapTy Γ T with
 | some (k,v)=>K' { val:=.mp d (nextS lk d),wr:=[(d,nextS lk d,.map k v [])] }
 | none=>none
def lookK (k v:Ty) (es:List (k.T×v.T)) (i:V) (ok:Bool) (K':Eff→Option C):Option C :=
 match i.coll.as k with
 | some x=>bif ok then K' { val:=.tup [.dat v ((mapFind k.beq x es).getD v.zero),.dat .bool (mapFind k.beq x es).isSome] }
   else K' { val:=.dat v ((mapFind k.beq x es).getD v.zero) }
 | none=>none
def evLookup (Γ:Cfg) (lk:Lk) (T:TypeId) (m i:V) (ok:Bool) (K':Eff→Option C):Option C :=
 match m with
 | .dat (.map k v) es=>if mapTy Γ T = some (k,v) then lookK k v es i ok K' else none
 | .mp key s=>match lk key with
   | some (s',.map k v es)=>if s = s'∧mapTy Γ T = some (k,v) then lookK k v es i ok K' else none
   | _=>none
 | _=>none
def evMapUpdate (Γ:Cfg) (lk:Lk) (T:TypeId) (m i x:V) (K':Eff→Option C):Option C :=
 match m with
 | .mp key s=>match lk key with
   | some (s',.map k v es)=>if s = s'∧mapTy Γ T = some (k,v) then (match i.coll.as k,x.coll.as v with
     | some a,some b=>K' { val:=.junk,wr:=[(key,s,.map k v (mapPut k.beq a b es))] }
     | _,_=>none) else none
   | _=>none
 | _=>none
def boundOf (v:Option V) (dflt:Int):Option Int :=
 match v with
 | none=>some dflt
 | some (.dat (.int _) n)=>some n
 | some _=>none
def evSlice (Γ:Cfg) (lk:Lk) (T:TypeId) (v:V) (lo hi:Option V) (mx:Option V) (K':Eff→Option C):Option C :=
 match v,Γ.ty T,mx with
 | .dat (.lst e) xs,some ⟨.slice _,.d (.lst e'),_⟩,none =>
   if e = e' then (match boundOf lo 0,boundOf hi (xs:List e.T).length with
     | some l,some h=>if 0 ≤ l∧l ≤ h∧h ≤ (xs:List e.T).length then K' { val:=.dat (.lst e) (((xs:List e.T).take h.toNat).drop l.toNat) } else none
     | _,_=>none) else none
 | .dat .str s,some ⟨.str,_,_⟩,none =>
   match boundOf lo 0,boundOf hi (s:List UInt8).length with
     | some l,some h=>if 0 ≤ l∧l ≤ h∧h ≤ (s:List UInt8).length then K' { val:=.dat .str (((s:List UInt8).take h.toNat).drop l.toNat) } else none
     | _,_=>none
 | .eptr (.dat (.arr m e) xs),some ⟨.arr m' _,.d (.arr _ e'),_⟩,none =>
   if e = e'∧m = m' then (match boundOf lo 0,boundOf hi m with
     | some l,some h=>if 0 ≤ l∧l ≤ h∧h ≤ (m:Int) then K' { val:=.dat (.lst e) (((xs:List e.T).take h.toNat).drop l.toNat) } else none
     | _,_=>none) else none
 | .sl e k s,some ⟨.slice _,.d (.lst e'),_⟩,none=>match lk k with
   | some (s',.vec e'' xs)=>if s = s'∧e = e'∧e = e'' then (match boundOf lo 0,boundOf hi xs.length with
     | some l,some h=>if 0 ≤ l∧l ≤ h∧h ≤ xs.length then K' { val:=.sl e k (s + 1),wr:=[(k,s + 1,.vec e'' ((xs.take h.toNat).drop l.toNat))] } else none
     | _,_=>none) else none
   | _=>none
 | .dat (.lst e) xs,some ⟨.slice _,.d (.lst e'),_⟩,some mv =>
   if e = e' then (match boundOf lo 0,boundOf hi (-1),boundOf (some mv) 0 with
     | some l,some h,some m=>if 0 ≤ l∧l ≤ h∧h ≤ m∧m ≤ (xs:List e.T).length then K' { val:=.dat (.lst e) (((xs:List e.T).take h.toNat).drop l.toNat) } else none
     | _,_,_=>none) else none
 | _,_,_=>none
def sliceOf (lk:Lk) (e:Ty):V→Option (List e.T)
 | .dat (.lst u) xs=>if h:u = e then some (h ▸ (xs:List u.T)) else none
 | .sl u k s=>match lk k with
   | some (s',.vec u' xs)=>if s = s'∧u = u' then (if h:u' = e then some (h ▸ xs) else none) else none
   | _=>none
 | .nils=>some []
 | _=>none
def evAppend (Γ:Cfg) (lk:Lk) (d:Nat) (T T':TypeId) (v x:V) (K':Eff→Option C):Option C :=
 match Γ.ty T with
 | some ⟨.slice E,.d (.lst e),_⟩ =>
   if T = T' && elemOk Γ E e then (match sliceOf lk e x with
     | some ys=>match v with
       | .sl u k s=>match lk k with
         | some (s',.vec u' xs)=>if s = s'∧u = u' then (if h:u' = e then
             (if xs.length + ys.length ≤ maxCount then K' { val:=.sl u k (s + 1),wr:=[(k,s + 1,.vec u' (xs ++ (h ▸ ys)))] } else none) else none) else none
         | _=>none
       | .nils=>if ys.length ≤ maxCount then K' { val:=.sl e d (nextS lk d),wr:=[(d,nextS lk d,.vec e ys)] } else none
       | _=>none
     | none=>none) else none
 | _=>none
def evLen (lk:Lk) (v:V) (K':Eff→Option C):Option C :=
 match v with
 | .dat (.lst e) xs=>K' { val:=.dat (.int .i64) ((xs:List e.T).length:Int) }
 | .dat .str s=>K' { val:=.dat (.int .i64) ((s:List UInt8).length:Int) }
 | .dat (.map k v) es=>K' { val:=.dat (.int .i64) ((es:List (k.T×v.T)).length:Int) }
 | .nils=>K' { val:=.dat (.int .i64) 0 }
 | .sl e k s=>match lk k with
   | some (s',.vec _ xs)=>if s = s' then K' { val:=.dat (.int .i64) (xs.length:Int) } else none
   | _=>none
 | .mp k s=>match lk k with
   | some (s',.map _ _ es)=>if s = s' then K' { val:=.dat (.int .i64) (es.length:Int) } else none
   | _=>none
 | .row e k s p=>match lk k with
   | some (s',.grid e' ids rows)=>if s = s'∧e = e' then (match p with
     | 0=>match ids with
       | .ids ids=>K' { val:=.dat (.int .i64) (ids.length:Int) }
       | _=>none
     | i + 1=>(rowOf rows i).bind fun xs=>K' { val:=.dat (.int .i64) (xs.length:Int) }) else none
   | _=>none
 | _=>none
def lenOk (Γ:Cfg) (T:TypeId) (v:V):Bool :=
 match Γ.ty T,v with
 | some ⟨.slice _,_,_⟩,.dat (.lst _) _=>true
 | some ⟨.slice _,_,_⟩,.nils=>true
 | some ⟨.slice _,_,_⟩,.sl _ _ _=>true
 | some ⟨.slice _,_,_⟩,.row _ _ _ _=>true
 | some ⟨.str,_,_⟩,.dat .str _=>true
 | some ⟨.map _ _,_,_⟩,.dat (.map _ _) _=>true
 | some ⟨.map _ _,_,_⟩,.mp _ _=>true
 | _,_=>false
def evMinMax (mx:Bool) (vs:List V) (K':Eff→Option C):Option C :=
 match vs with
 | [.dat (.int k) x,.dat (.int k') y]=>if k = k' then K' { val:=.dat (.int k) (if mx then imax x y else imin x y) } else none
 | _=>none
def V.snap (lk:Lk):V→V
 | .sl e k s=>match lk k with
   | some (s',.vec e' xs)=>if s = s'∧e = e' then .dat (.lst e') xs else .junk
   | _=>.junk
 | .mp k s=>match lk k with
   | some (s',.map kt vt es)=>if s = s' then .dat (.map kt vt) es else .junk
   | _=>.junk
 | v=>v
def Ty.scalar:Ty→Bool
 | .int _ | .bool | .str | .unit=>true
 | .pair a b=>a.scalar && b.scalar
 | .arr _ e=>e.scalar
 | _=>false
def V.scalar1:V→Bool
 | .dat t _=>t.scalar
 | _=>false
def scalars:List V→Bool
 | []=>true
 | v :: r=>v.scalar1 && scalars r
def V.scalar:V→Bool
 | .tup vs=>scalars vs
 | v=>v.scalar1
def evCall (Γ:Cfg) (lk:Lk) (f:V) (args:List V) (K':Eff→Option C):Option C :=
 match f with
 | .fn g caps =>
   if argsOk caps then
     (if puresOk (args.map (V.toClo Γ)) then Γ.call g (args.map (V.toClo Γ) ++ caps) (fun r=>K' { val:=r })
      else if puresOk ((args.map (V.snap lk)).map (V.toClo Γ)) then Γ.call g ((args.map (V.snap lk)).map (V.toClo Γ) ++ caps) (fun r=>if r.scalar then K' { val:=r } else none)
      else none)
   else none
 | .clo a b g=>match argsAs a args with
   | some x=>(g x).bind fun y=>K' { val:=.dat b y }
   | none=>none
 | _=>none
def gB:Nat:=100000
def eB:Nat:=200000
def xKey (d j:Nat):Nat:=300000 + 64 * d + j
def V.keysA:V→List Nat
 | .ref k _ _ | .sl _ k _ | .mp k _ | .row _ k _ _=>[k]
 | _=>[]
def V.keysL:V→List Nat
 | .fn _ caps=>caps.flatMap V.keysA
 | v=>v.keysA
def V.keysG:V→List Nat
 | .agg fs=>fs.flatMap V.keysL
 | v=>v.keysL
def V.keysT:V→List Nat
 | .tup vs=>vs.flatMap V.keysG
 | v=>v.keysG
def Obj.keys:Obj→List Nat
 | .box _ c=>c.keysG
 | _=>[]
def reachK (lk:Lk):Nat→List Nat→List Nat→Option (List Nat)
 | _,[],acc=>some acc
 | 0,_ :: _,_=>none
 | n + 1,k :: todo,acc=>bif acc.contains k then reachK lk n todo acc else match lk k with
   | some q=>reachK lk n (q.2.keys ++ todo) (acc ++ [k])
   | none=>none
def idxK (k:Nat):List Nat→Nat→Option Nat
 | [],_=>none
 | k' :: r,i=>bif Nat.beq k' k then some i else idxK k r (i + 1)
def toG (ks:List Nat) (lk:Lk):V→V
 | .ref k s p=>match idxK k ks 1,lk k with
   | some i,some (s',_)=>if s = s' then .ref (gB + i) 0 p else .junk
   | _,_=>.junk
 | .sl e k s=>match idxK k ks 1,lk k with
   | some i,some (s',_)=>if s = s' then .sl e (gB + i) 0 else .junk
   | _,_=>.junk
 | .mp k s=>match idxK k ks 1,lk k with
   | some i,some (s',_)=>if s = s' then .mp (gB + i) 0 else .junk
   | _,_=>.junk
 | .row e k s p=>match idxK k ks 1,lk k with
   | some i,some (s',_)=>if s = s' then .row e (gB + i) 0 p else .junk
   | _,_=>.junk
 | .cb _=>.junk
 | v=>v
def keyBackN (e g:Nat) (ks:List Nat) (lk:Lk) (d m k:Nat):Option (Nat×Nat) :=
 bif Nat.ble e k then (bif Nat.blt (k - e) m then some (xKey d (k - e),nextS lk (xKey d (k - e))) else none) else bif Nat.blt g k then (match ks[k - g - 1]? with
     | some k'=>match lk k' with | some (s,_)=>some (k',s) | none=>none
     | none=>none) else none
def keyBack (ks:List Nat) (lk:Lk) (d m k:Nat):Option (Nat×Nat):=keyBackN eB gB ks lk d m k
def fromG (ks:List Nat) (lk:Lk) (d m:Nat):V→V
 | .ref k s p=>match keyBack ks lk d m k with | some q=>.ref q.1 (q.2 + s) p | none=>.junk
 | .sl e k s=>match keyBack ks lk d m k with | some q=>.sl e q.1 (q.2 + s) | none=>.junk
 | .mp k s=>match keyBack ks lk d m k with | some q=>.mp q.1 (q.2 + s) | none=>.junk
 | .row e k s p=>match keyBack ks lk d m k with | some q=>.row e q.1 (q.2 + s) p | none=>.junk
 | v=>v
def V.mapA (f:V→V):V→V
 | .ref k s p=>f (.ref k s p)
 | .sl e k s=>f (.sl e k s)
 | .mp k s=>f (.mp k s)
 | .row e k s p=>f (.row e k s p)
 | .cb i=>f (.cb i)
 | v=>v
def V.mapL (f:V→V):V→V
 | .fn g caps=>.fn g (caps.map (V.mapA f))
 | v=>v.mapA f
def V.mapG (f:V→V):V→V
 | .agg fs=>.agg (fs.map (V.mapL f))
 | v=>v.mapL f
def V.mapT (f:V→V):V→V
 | .tup vs=>.tup (vs.map (V.mapG f))
 | v=>v.mapG f
def Obj.mapV (f:V→V):Obj→Obj
 | .box k c=>.box k (c.mapG f)
 | .sav i v=>.sav i (v.mapT f)
 | o=>o
def Obj.fitOk:Obj→Bool
 | .box k c=>c.fits k
 | _=>true
def fitAll:List Obj→Bool
 | []=>true
 | o :: r=>o.fitOk && fitAll r
def objsOf (lk:Lk):List Nat→Option (List Obj)
 | []=>some []
 | k :: r=>match lk k,objsOf lk r with
   | some q,some l=>some (q.2 :: l)
   | _,_=>none
def V.isTup:V→Bool
 | .tup _=>true
 | _=>false
def noTups:List V→Bool
 | []=>true
 | v :: r=>!v.isTup && noTups r
def backOuts (ks:List Nat) (lk:Lk) (d m:Nat):List Nat→List (Nat×Obj)→Option (List (Nat×Nat×Obj))
 | [],[]=>some []
 | k :: r,q :: l=>match lk k,backOuts ks lk d m r l with
   | some u,some wr=>bif (q.2.mapV (fromG ks lk d m)).fitOk then some ((k,u.1 + q.1,q.2.mapV (fromG ks lk d m)) :: wr) else none
   | _,_=>none
 | _,_=>none
def backExs (ks:List Nat) (lk:Lk) (d m:Nat):Nat→List Obj→Option (List (Nat×Nat×Obj))
 | _,[]=>some []
 | j,o :: r=>match backExs ks lk d m (j + 1) r with
   | some wr=>bif (o.mapV (fromG ks lk d m)).fitOk && !ks.contains (xKey d j) then some ((xKey d j,nextS lk (xKey d j),o.mapV (fromG ks lk d m)) :: wr) else none
   | none=>none
def backX (ks:List Nat) (lk:Lk) (d:Nat) (rv:V) (outs:List (Nat×Obj)) (exs:List Obj):Option Eff :=
 match outs with
 | _ :: outs=>match backOuts ks lk d exs.length ks outs,backExs ks lk d exs.length 0 exs with
   | some a,some b=>some { val:=rv.mapT (fromG ks lk d exs.length),wr:=a ++ b }
   | _,_=>none
 | []=>none
def lkG (os:List Obj):Lk:=fun k=>if gB ≤ k then (os[k - gB]?).map fun o=>(0,o) else none
def lkX (outs:List (Nat×Obj)) (exs:List Obj):Lk:=fun k=>if eB ≤ k then (exs[k - eB]?).map fun o=>(0,o) else if gB ≤ k then outs[k - gB]? else none
def noGh:List Obj→Bool
 | []=>true
 | .gh _ _ _ :: _=>false
 | _ :: r=>noGh r
def Cbs.call {t:Ty} (c:Cbs t) (i:Nat) (x:t.T) (vs:List V) (k:t.T→V→Option C):Option C :=
 match i with
 | 0=>(c.y x vs).bind fun q=>k q.1 (.dat .bool q.2)
 | _=>(c.f x vs).bind fun q=>k q.1 (.tup (spread c.b q.2))
def Cbs.at {t:Ty} (c:Cbs t) (i:Nat) (x:t.T) (vs:List V):Option (t.T×V):=c.call i x vs fun x' y=>some (x',y)
theorem Cbs.call_at {t:Ty} (c:Cbs t) (i:Nat) (x:t.T) (vs:List V) (k:t.T→V→Option C):c.call i x vs k = match c.at i x vs with | some q=>k q.1 q.2 | none=>none:=by
 unfold Cbs.at Cbs.call
 cases i with
 | zero=>simp only;cases c.y x vs <;> rfl
 | succ i=>simp only;cases c.f x vs <;> rfl
def evCallX (Γ:Cfg) (lk:Lk) (d:Nat) (f:V) (args:List V) (K':Eff→Option C):Option C :=
 match f with
 | .fn g caps=>match reachK lk 64 ((args.map (V.toClo Γ) ++ caps).flatMap V.keysG) [] with
   | some ks=>match objsOf lk ks with
     | some os=>bif noTups (args.map (V.toClo Γ) ++ caps) && fitAll (os.map (Obj.mapV (toG ks lk))) && noGh os then
         Γ.callX g ((args.map (V.toClo Γ) ++ caps).map (V.mapG (toG ks lk))) (.gone :: os.map (Obj.mapV (toG ks lk))) fun rv outs exs=>match backX ks lk d rv outs exs with
           | some e=>K' e
           | none=>none
       else none
     | none=>none
   | none=>none
 | .cb i=>match lk gB with
   | some (s,.gh t run x)=>bif puresOk args then run.call i x args fun x' y=>bif y.scalar then K' { val:=y,wr:=[(gB,s,.gh t run x')] } else none else none
   | _=>none
 | _=>none
def Obj.single:Obj→Bool
 | .grid _ _ _=>false
 | _=>true
def V.sure (lk:Lk):V→Bool
 | .ref k s _=>match lk k with | some (s',o)=>decide (s = s') && o.single | none=>false
 | .eptr _ | .fn _ _ | .clo _ _ _=>true
 | _=>false
def V.isCap:V→Bool
 | .dat _ _ | .clo _ _ _ | .nilf | .ref _ _ _ | .eptr _ | .sl _ _ _ | .nils | .mp _ _ | .cb _ | .row _ _ _ _=>true
 | _=>false
def capsOk:List V→Bool
 | []=>true
 | v :: r=>v.isCap && capsOk r
def dstOf (o:Oper):Nat:=o.dst.getD 0
def evRangeMap (Γ:Cfg) (lk:Lk) (d:Nat) (T:TypeId) (m:V) (K':Eff→Option C):Option C :=
 match m with
 | .dat (.map k v) es=>if mapTy Γ T = some (k,v) then K' { val:=.ref d (nextS lk d) [],wr:=[(d,nextS lk d,.mi k v es [] none)] } else none
 | _=>none
def evEntry (lk:Lk) (it:V) (K':Eff→Option C):Option C :=
 match it with
 | .ref k s []=>match lk k with
   | some (s',.mi kt vt _ _ (some q))=>if s = s' then K' { val:=.tup [.dat kt q.1,.dat vt q.2] } else none
   | _=>none
 | _=>none
def evOp0 (Γ:Cfg) (o:Oper) (tm:Tm) (lk:Lk) (K':Eff→Option C):Option C :=
 match o.op with
 | .move x=>K' { val:=Γ.val tm x }
 | .assign x=>match Γ.val tm x with
   | .nils=>match Γ.ty o.type,o.dst with
     | some ⟨_,.d (.lst e),_⟩,some d=>bif Γ.own (910000 + d) then K' { val:=.nils } else bif Γ.own (500000 + d) then K' { val:=.dat (.lst e) [] } else K' { val:=.sl e d (nextS lk d),wr:=[(d,nextS lk d,.vec e [])] }
     | _,_=>none
   | v=>K' { val:=v }
 | .pick c a b=>match Γ.val tm c with
   | .dat .bool t=>bif t then K' { val:=Γ.val tm a } else K' { val:=Γ.val tm b }
   | _=>none
 | .alloc T=>match Γ.ty T,o.dst with
   | some ti,some d=>evBox lk d (alK Γ ti.k d) (bif Γ.own (700000 + d) then nilK (alK Γ ti.k d) (alK Γ ti.k d).zero else (alK Γ ti.k d).zero) K'
   | _,_=>none
 | .box T x=>match Γ.ty T,o.dst with
   | some ti,some d=>if (Γ.val tm x).isVal then evBox lk d ti.k (Γ.val tm x).coll K' else none
   | _,_=>none
 | .build T parts=>evBuild Γ T (parts.toList.map fun q=>(q.1,Γ.val tm q.2)) K'
 | .buildSlice T n parts=>match o.dst with
   | some d=>evBuildSlice Γ lk d T n (parts.toList.map fun q=>(q.1,Γ.val tm q.2)) K'
   | none=>none
 | .load T a=>evLoad Γ lk T (Γ.val tm a) K'
 | .store T a x=>evStore Γ lk T (Γ.val tm a) (Γ.val tm x) K'
 | .nilCheck x=>bif (Γ.val tm x).sure lk then K' { val:=Γ.val tm x } else none
 | .binOp op T x y _=>evBin Γ op T (Γ.val tm x) (Γ.val tm y) K'
 | .unOp op _ x=>evUn op (Γ.val tm x) K'
 | .convert s t x=>evConvert Γ lk s t (Γ.val tm x) K'
 | .makeFunc g first caps=>match g,first.toList with
   | .func f,[]=>bif capsOk (caps.toList.map (Γ.val tm)) then K' { val:=.fn f (caps.toList.map (Γ.val tm)) } else none
   | .func f,x :: xs=>match Γ.fnTy f with
     | some (a,b)=>bif argsOk ((x :: xs).map (Γ.val tm) ++ caps.toList.map (Γ.val tm)) then K' { val:=.clo a b fun y=>Γ.call f ((x :: xs).map (Γ.val tm) ++ (spread a y ++ caps.toList.map (Γ.val tm))) (fun r=>r.as b) } else none
     | none=>none
   | _,_=>none
 | .makeSlice T n c=>match o.dst with
   | some d=>evMakeSlice Γ lk d T (Γ.val tm n) (Γ.val tm c) K'
   | none=>none
 | .slice T x lo hi mx=>evSlice Γ lk T (Γ.val tm x) (lo.map (Γ.val tm)) (hi.map (Γ.val tm)) (mx.map (Γ.val tm)) K'
 | .fieldAddr T x j=>evFieldAddr Γ lk T (Γ.val tm x) j K'
 | .field T x j=>evField Γ T (Γ.val tm x) j K'
 | .indexAddr T x i=>evIndexAddr Γ lk T (Γ.val tm x) (Γ.val tm i) K'
 | .index T x i=>evIndex Γ T (Γ.val tm x) (Γ.val tm i) K'
 | .makeMap T r=>match r,o.dst with
   | none,some d=>evMakeMap Γ lk d T K'
   | _,_=>none
 | .lookup T x i ok=>evLookup Γ lk T (Γ.val tm x) (Γ.val tm i) ok K'
 | .mapUpdate T m i x=>evMapUpdate Γ lk T (Γ.val tm m) (Γ.val tm i) (Γ.val tm x) K'
 | .insert T m i x=>evMapUpdate Γ lk T (Γ.val tm m) (Γ.val tm i) (Γ.val tm x) K'
 | .range T x=>match o.dst with
   | some d=>evRangeMap Γ lk d T (Γ.val tm x) K'
   | none=>none
 | .entry x=>evEntry lk (Γ.val tm x) K'
 | .extract x i=>match Γ.val tm x with
   | .tup vs=>match vs[i]? with | some v=>K' { val:=v } | none=>none
   | _=>none
 | .call c=>match c.callee with
   | .builtin .len=>match c.args.toList,c.argTypes.toList with
     | [x],T :: _=>bif lenOk Γ T (Γ.val tm x) then evLen lk (Γ.val tm x) K' else none
     | _,_=>none
   | .builtin .append=>match c.args.toList,c.argTypes.toList,o.dst with
     | [x,y],[T,T'],some d=>evAppend Γ lk d T T' (Γ.val tm x) (Γ.val tm y) K'
     | _,_,_=>none
   | .builtin .max=>evMinMax true (c.args.toList.map (Γ.val tm)) K'
   | .builtin .min=>evMinMax false (c.args.toList.map (Γ.val tm)) K'
   | .value f=>bif Γ.xat (dstOf o) then evCallX Γ lk (dstOf o) (Γ.val tm f) (nilArgs Γ c.argTypes.toList (c.args.toList.map (Γ.val tm))) K'
     else evCall Γ lk (Γ.val tm f) (nilArgs Γ c.argTypes.toList (c.args.toList.map (Γ.val tm))) K'
   | _=>none
 | _=>none
def isGridO:Option (Nat×Obj)→Bool
 | some (_,.grid _ _ _)=>true
 | _=>false
def V.isRow:V→Bool
 | .row _ _ _ _=>true
 | _=>false
def anyRow:List V→Bool
 | []=>false
 | v :: r=>v.isRow || anyRow r
def gridTy (Γ:Cfg) (T:TypeId):Option (TypeId×Ty) :=
 match Γ.ty T with
 | some ⟨.slice E,.d (.lst (.lst e)),_⟩=>some (E,e)
 | _=>none
def asRow (lk:Lk) (d:Nat) (e:Ty):V→Option (List e.T×List (Nat×Nat×Obj))
 | .nils=>some ([],[])
 | .sl e' k s=>match lk k with
   | some (s',.vec e'' xs)=>bif decide (s = s') && decide (e' = e'') && !Nat.beq k d then (if h:e'' = e then some (h ▸ xs,[(k,s + 1,.gone)]) else none) else none
   | _=>none
 | _=>none
def evGNil (Γ:Cfg) (lk:Lk) (d:Nat) (T:TypeId) (v:V) (K':Eff→Option C):Option C :=
 match gridTy Γ T,v with
 | some (_,e),.nils=>K' { val:=.row e d (nextS lk d) 0,wr:=[(d,nextS lk d,.grid e (.ids []) [])] }
 | _,_=>none
def evGBuild (Γ:Cfg) (lk:Lk) (d:Nat) (T:TypeId) (n:Nat) (parts:List (Nat×V)) (K':Eff→Option C):Option C :=
 match gridTy Γ T,parts with
 | some (E,e),[(0,v)]=>bif elemZ Γ E (.lst e) && Nat.beq n 1 then (match asRow lk d e v with
   | some q=>K' { val:=.row e d (nextS lk d) 0,wr:=q.2 ++ [(d,nextS lk d,.grid e (.ids [0]) [some q.1])] }
   | none=>none) else none
 | _,_=>none
def evGMake (Γ:Cfg) (lk:Lk) (d:Nat) (T:TypeId) (n c:V) (K':Eff→Option C):Option C :=
 match gridTy Γ T,n,c with
 | some (E,e),.dat (.int .i64) x,.dat (.int .i64) y =>
   if elemOk Γ E (.lst e) then (if mkOk x y then K' { val:=.row e d (nextS lk d) 0,wr:=[(d,nextS lk d,.grid e (.ids (List.range (Int.toNat x))) (List.replicate (Int.toNat x) (some [])))] } else none) else none
 | _,_,_=>none
def evGStoreOut (lk:Lk) (k s:Nat) (e:Ty) (ids:List Nat) (rows:List (Option (List e.T))) (j:Nat) (x:V) (K':Eff→Option C):Option C :=
 match x with
 | .row e' k' s' (i + 1)=>if e' = e∧k' = k∧s' = s then (rowOf rows i).bind fun _=>if j < ids.length then K' { val:=.junk,wr:=[(k,s,.grid e (.ids (ids.set j i)) rows)] } else none else none
 | x=>match asRow lk k e x with
   | some q=>if j < ids.length then K' { val:=.junk,wr:=q.2 ++ [(k,s,.grid e (.ids (ids.set j rows.length)) (rows ++ [some q.1]))] } else none
   | none=>none
def evGStoreIn (k s:Nat) (e:Ty) (ids:Sp) (rows:List (Option (List e.T))) (i j:Nat) (x:V) (K':Eff→Option C):Option C :=
 match x with
 | .dat u y=>if h:u = e then (rowOf rows i).bind fun xs=>if j < xs.length then K' { val:=.junk,wr:=[(k,s,.grid e ids (rows.set i (some (xs.set j (h ▸ y)))))] } else none else none
 | _=>none
def evGStore (Γ:Cfg) (lk:Lk) (T:TypeId) (v x:V) (K':Eff→Option C):Option C :=
 match v with
 | .ref k s [p,j]=>match lk k with
   | some (s',.grid e ids rows)=>if s = s' then (match p with
     | 0=>match ids with
       | .ids ids=>if okSize Γ T (.d (.lst e)) then evGStoreOut lk k s e ids rows j x K' else none
       | _=>none
     | i + 1=>if okSize Γ T (.d e) then evGStoreIn k s e ids rows i j x.coll K' else none) else none
   | _=>none
 | _=>none
def evGSlice (Γ:Cfg) (lk:Lk) (T:TypeId) (v:V) (lo hi mx:Option V) (K':Eff→Option C):Option C :=
 match v,gridTy Γ T,mx with
 | .row e k s 0,some (_,e'),none=>match lk k with
   | some (s',.grid e'' (.ids ids) rows)=>if s = s'∧e = e'∧e = e'' then (match boundOf lo 0,boundOf hi ids.length with
     | some l,some h=>if 0 ≤ l∧l ≤ h∧h ≤ ids.length then K' { val:=.row e k (s + 1) 0,wr:=[(k,s + 1,.grid e'' (.ids ((ids.take h.toNat).drop l.toNat)) rows)] } else none
     | _,_=>none) else none
   | _=>none
 | _,_,_=>none
def shiftIds (n:Nat) (ids:List Nat):List Nat:=ids.map fun i=>n + i
def evGAppend (Γ:Cfg) (lk:Lk) (d:Nat) (T T':TypeId) (v x:V) (K':Eff→Option C):Option C :=
 match v,x with
 | .row e k s 0,.row e2 k2 s2 0=>match gridTy Γ T,lk k,lk k2 with
   | some (E,e0),some (s',.grid e' (.ids ids) rows),some (s2',.grid e2' (.ids ids2) rows2)=>bif decide (T = T') && elemOk Γ E (.lst e0) && decide (s = s') && decide (s2 = s2') && decide (e = e0) && decide (e' = e0) && decide (e2 = e') && !Nat.beq k k2 then
       (if h:e2' = e' then (if ids.length + ids2.length ≤ maxCount then
         K' { val:=.row e k (s + 1) 0,wr:=[(k2,s2 + 1,.gone),(k,s + 1,.grid e' (.ids (ids ++ shiftIds rows.length ids2)) (rows ++ (h ▸ rows2)))] } else none) else none) else none
   | _,_,_=>none
 | _,_=>none
def evRAppend (Γ:Cfg) (lk:Lk) (T T':TypeId) (v x:V) (K':Eff→Option C):Option C :=
 match v with
 | .row e k s (i + 1)=>match Γ.ty T,lk k with
   | some ⟨.slice E,.d (.lst e0),_⟩,some (s',.grid e' sp rows)=>bif decide (T = T') && elemOk Γ E e0 && decide (s = s') && decide (e = e0) && decide (e' = e0) then
       (match sliceOf lk e' x with
       | some ys=>(rowOf rows i).bind fun xs=>if xs.length + ys.length ≤ maxCount then K' { val:=.row e' k s (rows.length + 1),wr:=[(k,s,.grid e' sp (rows.set i none ++ [some (xs ++ ys)]))] } else none
       | none=>none) else none
   | _,_=>none
 | _=>none
def V.isPart:V→Bool
 | .row _ _ _ (_ + 1)=>true
 | _=>false
def evGMap (Γ:Cfg) (lk:Lk) (d:Nat) (T:TypeId) (K':Eff→Option C):Option C :=
 match mapTy Γ T with
 | some (k,.lst e)=>K' { val:=.row e d (nextS lk d) 0,wr:=[(d,nextS lk d,.grid e (.keys k []) [])] }
 | _=>none
def rowsLook {α:Type}:Option Nat→List (Option (List α))→Nat×List (Option (List α))
 | some j,rows=>(j,rows)
 | none,rows=>(rows.length,rows ++ [some []])
def evGLook (Γ:Cfg) (lk:Lk) (T:TypeId) (m i:V) (ok:Bool) (K':Eff→Option C):Option C :=
 match m with
 | .row e g s 0=>match lk g,mapTy Γ T with
   | some (s',.grid e' (.keys k es) rows),some (k',.lst e0)=>bif decide (s = s') && decide (e = e') && decide (e0 = e') && decide (k' = k) && !ok then
       (match i.coll.as k with
       | some y=>K' { val:=.row e' g s ((rowsLook (mapFind k.beq y es) rows).1 + 1),wr:=[(g,s,.grid e' (.keys k es) (rowsLook (mapFind k.beq y es) rows).2)] }
       | none=>none) else none
   | _,_=>none
 | _=>none
def evGPut (Γ:Cfg) (lk:Lk) (T:TypeId) (m i x:V) (K':Eff→Option C):Option C :=
 match m,x with
 | .row e g s 0,.row e2 g2 s2 (j + 1)=>match lk g,mapTy Γ T with
   | some (s',.grid e' (.keys k es) rows),some (k',.lst e0)=>bif decide (s = s') && decide (e = e') && decide (e0 = e') && decide (k' = k) && decide (e2 = e') && decide (g2 = g) && decide (s2 = s') then
       (match i.coll.as k with
       | some y=>(rowOf rows j).bind fun _=>K' { val:=.junk,wr:=[(g,s,.grid e' (.keys k (mapPut k.beq y j es)) rows)] }
       | none=>none) else none
   | _,_=>none
 | _,_=>none
def copyP {α:Type} (n:Nat) (ys xs:List α):List α:=ys.take n ++ xs.drop ys.length
def evGWhole (Γ:Cfg) (lk:Lk) (T:TypeId) (v:V) (lo hi mx:Option V) (K':Eff→Option C):Option C :=
 match v,Γ.ty T,lo,hi,mx with
 | .ref k s [],some ⟨.arr m' _,.d (.arr m e),_⟩,none,none,none=>match lk k with
   | some (s',.box (.d (.arr n e'')) _)=>if s = s'∧e = e''∧m' = m∧n = m then K' { val:=.row e k s 0 } else none
   | _=>none
 | _,_,_,_,_=>none
def evGCopy (Γ:Cfg) (lk:Lk) (T T':TypeId) (v x:V) (K':Eff→Option C):Option C :=
 match v with
 | .row e k s 0=>match Γ.ty T,lk k with
   | some ⟨.slice E,.d (.lst e0),_⟩,some (s',.box (.d (.arr n e1)) (.dat (.arr n2 e2) xs))=>bif decide (T = T') && elemOk Γ E e0 && decide (e0.size = 1) && decide (s = s') && decide (e = e0) && decide (e1 = e0) && decide (n2 = n) then
       (if h:e2 = e0 then (match sliceOf lk e0 x with
         | some ys=>K' { val:=.dat (.int .i64) ((min ys.length n:Nat):Int),wr:=[(k,s,.box (.d (.arr n e0)) (.dat (.arr n e0) (copyP n ys (h ▸ (xs:List e2.T)))))] }
         | none=>none) else none) else none
   | _,_=>none
 | _=>none
def snapC (lk:Lk):List V→(List V→Option C)→Option C
 | [],K'=>K' []
 | v :: r,K'=>match v with
   | .row e k s (i + 1)=>match lk k with
     | some (s',.grid e' ids rows)=>if s = s'∧e = e' then (rowOf rows i).bind fun xs=>snapC lk r fun vs=>K' (.dat (.lst e') xs :: vs) else none
     | _=>none
   | v=>snapC lk r fun vs=>K' (v.snap lk :: vs)
def evGCall (Γ:Cfg) (lk:Lk) (f:V) (args:List V) (K':Eff→Option C):Option C :=
 match f with
 | .fn g caps=>if argsOk caps then snapC lk args fun vs=>if puresOk (vs.map (V.toClo Γ)) then Γ.call g (vs.map (V.toClo Γ) ++ caps) (fun r=>if r.scalar then K' { val:=r } else none) else none else none
 | _=>none
def gB2:Nat:=600000
def V.isNils:V→Bool
 | .nils=>true
 | _=>false
def evGCap (Γ:Cfg) (T:TypeId) (v:V) (K':Eff→Option C):Option C :=
 match v,Γ.ty T with
 | .nils,some ⟨.slice _,_,_⟩=>K' { val:=.dat (.int .i64) 0 }
 | _,_=>none
def evGSliceN (Γ:Cfg) (T:TypeId) (lo hi mx:Option V) (K':Eff→Option C):Option C :=
 match Γ.ty T,lo,hi,mx with
 | some ⟨.slice _,.d (.lst _),_⟩,none,some (.dat (.int _) n),none=>if (n:Int) = 0 then K' { val:=.nils } else none
 | _,_,_,_=>none
def evGZeros (Γ:Cfg) (lk:Lk) (d:Nat) (T T':TypeId) (x:V) (K':Eff→Option C):Option C :=
 match Γ.ty T,Γ.ty T',x with
 | some ⟨.slice E,.d (.lst e),_⟩,some ⟨.int _,_,_⟩,.dat (.int .i64) n =>
   if elemOk Γ E e then (if 0 < (n:Int)∧(n:Int) ≤ 1073741824 then K' { val:=.sl e d (nextS lk d),wr:=[(d,nextS lk d,.vec e (List.replicate (Int.toNat n) e.zero))] } else none) else none
 | _,_,_=>none
def gridOp (Γ:Cfg) (o:Oper) (tm:Tm) (lk:Lk):Bool :=
 match o.op with
 | .assign x=>match Γ.val tm x with | .nils=>Γ.own (gB2 + dstOf o) | _=>false
 | .buildSlice _ _ _=>Γ.own (gB2 + dstOf o)
 | .makeSlice _ _ _=>Γ.own (gB2 + dstOf o)
 | .store _ a _=>match Γ.val tm a with | .ref k _ _=>isGridO (lk k) | _=>false
 | .slice _ x _ _ _=>(Γ.val tm x).isRow || (Γ.val tm x).isNils || Γ.own (gB2 + dstOf o)
 | .makeMap _ r=>r.isNone && Γ.own (gB2 + dstOf o)
 | .lookup _ x _ _=>(Γ.val tm x).isRow
 | .mapUpdate _ m _ _=>(Γ.val tm m).isRow
 | .call c=>match c.callee with
   | .builtin .cap=>true
   | .builtin .append=>match c.args.toList,c.argTypes.toList with | [x,_],[T,T']=>(Γ.val tm x).isRow || ((Γ.val tm x).isNils && !Nat.beq T T') | _,_=>false
   | .builtin .copy=>true
   | .value _=>!Γ.xat (dstOf o) && anyRow (nilArgs Γ c.argTypes.toList (c.args.toList.map (Γ.val tm)))
   | _=>false
 | _=>false
def evGOp (Γ:Cfg) (o:Oper) (tm:Tm) (lk:Lk) (K':Eff→Option C):Option C :=
 match o.op with
 | .assign x=>match o.dst with | some d=>evGNil Γ lk d o.type (Γ.val tm x) K' | none=>none
 | .buildSlice T n parts=>match o.dst with | some d=>evGBuild Γ lk d T n (parts.toList.map fun q=>(q.1,Γ.val tm q.2)) K' | none=>none
 | .makeSlice T n c=>match o.dst with | some d=>evGMake Γ lk d T (Γ.val tm n) (Γ.val tm c) K' | none=>none
 | .store T a x=>evGStore Γ lk T (Γ.val tm a) (Γ.val tm x) K'
 | .slice T x lo hi mx=>bif (Γ.val tm x).isRow then evGSlice Γ lk T (Γ.val tm x) (lo.map (Γ.val tm)) (hi.map (Γ.val tm)) (mx.map (Γ.val tm)) K' else bif (Γ.val tm x).isNils then evGSliceN Γ T (lo.map (Γ.val tm)) (hi.map (Γ.val tm)) (mx.map (Γ.val tm)) K' else evGWhole Γ lk T (Γ.val tm x) (lo.map (Γ.val tm)) (hi.map (Γ.val tm)) (mx.map (Γ.val tm)) K'
 | .makeMap T _=>match o.dst with | some d=>evGMap Γ lk d T K' | none=>none
 | .lookup T x i ok=>evGLook Γ lk T (Γ.val tm x) (Γ.val tm i) ok K'
 | .mapUpdate T m i x=>evGPut Γ lk T (Γ.val tm m) (Γ.val tm i) (Γ.val tm x) K'
 | .call c=>match c.callee with
   | .builtin .copy=>match c.args.toList,c.argTypes.toList with
     | [x,y],[T,T']=>evGCopy Γ lk T T' (Γ.val tm x) (Γ.val tm y) K'
     | _,_=>none
   | .builtin .cap=>match c.args.toList,c.argTypes.toList with
     | [x],[T]=>evGCap Γ T (Γ.val tm x) K'
     | _,_=>none
   | .builtin .append=>match c.args.toList,c.argTypes.toList,o.dst with
     | [x,y],[T,T'],some d=>bif (Γ.val tm x).isNils then evGZeros Γ lk d T T' (Γ.val tm y) K' else bif (Γ.val tm x).isPart then evRAppend Γ lk T T' (Γ.val tm x) (Γ.val tm y) K' else evGAppend Γ lk d T T' (Γ.val tm x) (Γ.val tm y) K'
     | _,_,_=>none
   | .value f=>evGCall Γ lk (Γ.val tm f) (nilArgs Γ c.argTypes.toList (c.args.toList.map (Γ.val tm))) K'
   | _=>none
 | _=>none
def evOp (Γ:Cfg) (o:Oper) (tm:Tm) (lk:Lk) (K':Eff→Option C):Option C :=
 bif gridOp Γ o tm lk then evGOp Γ o tm lk K' else evOp0 Γ o tm lk K'
end Go.Pv
