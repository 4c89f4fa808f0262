/- The purifying layer, part 2: the evaluator. -/
import Derived.Test.YtiinfljjfceckaaDoorPvA
set_option linter.unusedVariables false
set_option linter.unusedSimpArgs false
namespace Go.Pv
variable {C:Type}
def Ty.hasLst (t:Ty):Bool:=t.fields.any fun u=>match u with | .lst _=>true | _=>false
def z6Q:Option Ty→V
 | some (.lst _)=>.nils
 | some t=>.dat t t.zero
 | none=>.junk
def K.zero:K→V
 | .d (.lst _)=>.nils
 | .d t=>if t.hasLst then .agg (t.fields.map fun u=>z6Q (some u)) else .dat t t.zero
 | .leaf=>.junk
 | .st fs=>.agg (fs.map z6Q)
def K.fields:K→List (Option Ty)
 | .d t=>t.fields.map some
 | .leaf=>[]
 | .st fs=>fs
def K.asTy':K→Option Ty
 | .d t=>some t
 | _=>none
def q6O (lk:Lk) (k j:Nat):V→Option Ty→V×List (Nat×Nat×Obj)
 | .nils,some (.lst e)=>(.sl e (q3C k j) (q0L lk (q3C k j)),[(q3C k j,q0L lk (q3C k j),.vec e [])])
 | v,_=>(v,[])
def q7G (lk:Lk) (k:Nat):Nat→List V→List (Option Ty)→List V×List (Nat×Nat×Obj)
 | j,v :: vs,t :: ts=>((q6O lk k j v t).1 :: (q7G lk k (j + 1) vs ts).1,(q6O lk k j v t).2 ++ (q7G lk k (j + 1) vs ts).2)
 | _,vs,_=>(vs,[])
def z1A (lk:Lk) (k:Nat) (sh:K):V→V×List (Nat×Nat×Obj)
 | .agg fs=>(.agg (q7G lk k 0 fs sh.fields).1,(q7G lk k 0 fs sh.fields).2)
 | v=>match sh with
   | .d t=>q6O lk k 0 v (some t)
   | _=>(v,[])
def V.atom:V→Bool
 | .dat _ _ | .clo _ _ _ | .nilf=>true
 | _=>false
def V.arg:V→Bool
 | .dat _ _ | .clo _ _ _ | .nilf | .nils=>true
 | .eptr v=>v.atom
 | _=>false
def q2N:List V→Bool
 | []=>true
 | v :: r=>v.arg && q2N r
def V.pure:V→Bool
 | .fn _ caps=>q2N caps
 | v=>v.arg
def q1V:List V→Bool
 | []=>true
 | v :: r=>v.pure && q1V r
def nilF:V→Option Ty→V
 | .nils,some (.lst e)=>.dat (.lst e) []
 | v,_=>v
def nilL:List V→List (Option Ty)→List V
 | v :: vs,t :: ts=>nilF v t :: nilL vs ts
 | vs,_=>vs
def nilK (k:K):V→V
 | .nils=>nilF .nils k.asTy'
 | .agg fs=>.agg (nilL fs k.fields)
 | v=>v
def q4G (Γ:Cfg) (T:TypeId) (v:V):V :=
 match Γ.ty T with
 | some ti=>bif Γ.own (900000 + T) then v.coll else (nilK ti.k v).coll
 | none=>v.coll
def q1B (Γ:Cfg):List TypeId→List V→List V
 | T :: Ts,v :: vs=>q4G Γ T v :: q1B Γ Ts vs
 | _,vs=>vs
def spread:(a:Ty)→a.T→List V
 | .pair t u,x=>.dat t x.1 :: spread u x.2
 | _,_=>[]
def V.q2T (Γ:Cfg):V→V
 | .fn f caps=>match Γ.fnTy f with
   | some (a,b)=>bif q2N caps then .clo a b (fun x=>Γ.call f (spread a x ++ caps) (fun r=>r.as b)) else .fn f caps
   | none=>.fn f caps
 | v=>v
def q0Z:(a:Ty)→List V→Option a.T
 | .unit,[]=>some ()
 | .pair t u,v :: r=>match v.as t,q0Z u r with
   | some x,some y=>some (x,y)
   | _,_=>none
 | _,_=>none
def Obj.get (p:List Nat):Obj→Option V
 | .box _ c=>c.get p
 | .vec e xs=>match p with
   | i :: p=>if i < xs.length then (match Ty.get p e (xs.getD i e.zero) with | some q=>some (.dat q.1 q.2) | none=>none) else none
   | []=>none
 | _=>none
def q8J (Γ:Cfg) (T:TypeId) (k:K):Bool :=
 match Γ.ty T with
 | some ti=>decide (ti.k.size = k.size) && (ti.k.isAgg == k.isAgg)
 | none=>false
def V.isVal:V→Bool
 | .junk | .undef | .tup _=>false
 | _=>true
def K.asTy:K→Option Ty
 | .d t=>some t
 | _=>none
def z1Y (lk:Lk) (k:Nat) (p:List Nat) (sh:K) (v:V):V×List (Nat×Nat×Obj) :=
 match p with
 | [j]=>q6O lk k j v sh.asTy
 | _=>z1A lk k sh v
def V.q4K:V→Bool
 | .junk=>true
 | _=>false
def V.fitsZ (k:K):V→Bool
 | .dat t _=>decide (k.size = t.size) && (k.isAgg == t.isAgg)
 | u=>u.fits k
def rowOf {α:Type} (rows:List (Option α)) (i:Nat):Option α:=match rows[i]? with
 | some (some xs)=>some xs
 | _=>none
def idAt {α:Type} (ids:List Nat) (rows:List (Option α)) (j:Nat):Option Nat:=match ids[j]? with
 | some i=>match rowOf rows i with
   | some _=>some i
   | none=>none
 | none=>none
def q9J (Γ:Cfg) (T:TypeId) (e:Ty) (k s:Nat) (ids:List Nat) (rows:List (Option (List e.T))) (p:List Nat) (K':Eff→Option C):Option C :=
 match p with
 | [0,j]=>if q8J Γ T (.d (.lst e)) then (idAt ids rows j).bind fun i=>K' { val:=.row e k s (i + 1) } else none
 | [i + 1,j]=>if q8J Γ T (.d e) then (rowOf rows i).bind fun xs=>if j < xs.length then K' { val:=.dat e (xs.getD j e.zero) } else none else none
 | _=>none
def offIs (t:Ty) (j o:Nat):Bool:=match t.fieldAt j with
 | some q=>Nat.beq q.1 o
 | none=>false
def q4Q (Γ:Cfg) (lk:Lk) (T:TypeId) (v:V) (K':Eff→Option C):Option C :=
 match v with
 | .eptr u=>match Γ.ty T with
   | some ti=>if V.fitsZ ti.k u then K' { val:=u } else none
   | none=>none
 | .ref k s p=>match lk k with
   | some (s',.box sh c)=>if s = s' then (match K.tyAt p sh,c.get p with
     | some k',some u=>if q8J Γ T k' && !u.q4K then K' { val:=u } else none
     | _,_=>none) else none
   | some (s',.vec e xs)=>if s = s' then (match p with
     | i :: p=>match Ty.tyAt p e,Ty.get p e (xs.getD i e.zero) with
       | some t,some q=>if q8J Γ T (.d t) && decide (t = q.1) then (if i < xs.length then K' { val:=.dat q.1 q.2 } else none) else none
       | _,_=>none
     | []=>none) else none
   | some (s',.grid e ids rows)=>if s = s' then q9J Γ T e k s ids rows p K' else none
   | _=>none
 | _=>none
def q5O (Γ:Cfg) (lk:Lk) (T:TypeId) (k s:Nat) (p:List Nat) (sh:K) (c x:V) (K':Eff→Option C):Option C :=
 match K.tyAt p sh with
 | some k' =>
   if q8J Γ T k' && x.isVal && (z1Y lk k p k' x.coll).1.fits k' then
     (match V.upd (z1Y lk k p k' x.coll).1 p c with
     | some c'=>if c'.fits sh then K' { val:=.junk,wr:=(z1Y lk k p k' x.coll).2 ++ [(k,s,.box sh c')] } else none
     | none=>none)
   else none
 | none=>none
def q8C (Γ:Cfg) (lk:Lk) (T:TypeId) (v x:V) (K':Eff→Option C):Option C :=
 match v with
 | .ref k s p=>match lk k with
   | some (s',.box sh c)=>if s = s' then q5O Γ lk T k s p sh c x K' else none
   | some (s',.vec e xs)=>if s = s' then (match p,x.coll with
     | i :: p,.dat u y=>match Ty.tyAt p e,Ty.set u y p e (xs.getD i e.zero) with
       | some t,some z=>if q8J Γ T (.d t) && decide (t = u) then (if i < xs.length then K' { val:=.junk,wr:=[(k,s,.vec e (xs.set i z))] } else none) else none
       | _,_=>none
     | _,_=>none) else none
   | _=>none
 | _=>none
def q1X (Γ:Cfg) (lk:Lk) (T:TypeId) (v:V) (j:Nat) (K':Eff→Option C):Option C :=
 match Γ.ty T with
 | some ⟨.struct fs,sh,_⟩=>match K.at [j] sh with
   | some (o,kj)=>if kj.size = 0 then none else match v with
     | .eptr (.dat t x)=>if offIs t j o = true then (match t.q1U x j with | some q=>K' { val:=.eptr (.dat q.1 q.2) } | none=>none) else none
     | .ref k s p=>match lk k with
       | some (s',.box sh' _)=>if s = s' then (match K.tyAt p sh' with | some k2=>if k2 = sh then K' { val:=.ref k s (p ++ [j]) } else none | none=>none) else none
       | some (s',.vec e _)=>if s = s' then (match p with
         | i :: p=>match Ty.tyAt p e with | some t2=>if K.d t2 = sh then K' { val:=.ref k s (i :: p ++ [j]) } else none | none=>none
         | []=>none) else none
       | _=>none
     | _=>none
   | none=>none
 | _=>none
def q6F (Γ:Cfg) (lk:Lk) (T:TypeId) (e:Ty) (k s p:Nat) (n:Int) (K':Eff→Option C):Option C :=
 match lk k,Γ.ty T with
 | some (s',.grid e'' ids rows),some ⟨.slice _,.d (.lst e'),_⟩=>if s = s'∧e = e'' then (match p with
   | 0=>if e' = .lst e then (if idx n ids.length then K' { val:=.ref k s [0,Int.toNat n] } else none) else none
   | i + 1=>if e' = e then ((rowOf rows i).bind fun xs=>if idx n xs.length then K' { val:=.ref k s [i + 1,Int.toNat n] } else none) else none) else none
 | _,_=>none
def q1Q (Γ:Cfg) (lk:Lk) (T:TypeId) (v i:V) (K':Eff→Option C):Option C :=
 match i with
 | .dat (.int _) n=>match v,Γ.ty T with
   | .dat (.lst e) xs,some ⟨.slice _,.d (.lst e'),_⟩ =>
     if e = e' then (if idx n (xs:List e.T).length then K' { val:=.eptr (.dat e ((xs:List e.T).getD (Int.toNat n) e.zero)) } else none) else none
   | .sl e k s,some ⟨.slice _,.d (.lst e'),_⟩=>match lk k with
     | some (s',.vec e'' xs)=>if s = s'∧e = e'∧e = e'' then (if idx n xs.length then K' { val:=.ref k s [Int.toNat n] } else none) else none
     | _=>none
   | .eptr (.dat (.arr m e) xs),some ⟨.arr m' _,.d (.arr _ e'),_⟩ =>
     if e = e'∧m = m' then (if idx n m then K' { val:=.eptr (.dat e ((xs:List e.T).getD (Int.toNat n) e.zero)) } else none) else none
   | .ref k s p,some ⟨.arr m' _,.d (.arr m e),_⟩=>match lk k with
     | some (s',.box sh' _)=>if s = s' then (match K.tyAt p sh' with
       | some k2=>if k2 = .d (.arr m e)∧m = m' then (if idx n m then K' { val:=.ref k s (p ++ [Int.toNat n]) } else none) else none
       | none=>none) else none
     | some (s',.vec e' _)=>if s = s' then (match p with
       | j :: p=>match Ty.tyAt p e' with
         | some t2=>if t2 = .arr m e∧m = m' then (if idx n m then K' { val:=.ref k s (j :: p ++ [Int.toNat n]) } else none) else none
         | none=>none
       | []=>none) else none
     | _=>none
   | .row e k s p,_=>q6F Γ lk T e k s p n K'
   | _,_=>none
 | _=>none
def z7A (Γ:Cfg) (T:TypeId) (v i:V) (K':Eff→Option C):Option C :=
 match i with
 | .dat (.int _) n=>match v,Γ.ty T with
   | .dat (.arr m e) xs,some ⟨.arr m' _,.d (.arr _ e'),_⟩ =>
     if e = e'∧m = m' then (if idx n m then K' { val:=.dat e ((xs:List e.T).getD (Int.toNat n) e.zero) } else none) else none
   | .dat .str s,some ⟨.str,.d .str,_⟩=>if idx n (s:List UInt8).length then K' { val:=.dat (.int .u8) (((s:List UInt8).getD (Int.toNat n) 0).toNat:Int) } else none
   | _,_=>none
 | _=>none
def z5U (Γ:Cfg) (T:TypeId) (v:V) (j:Nat) (K':Eff→Option C):Option C :=
 match Γ.ty T with
 | some ⟨.struct _,sh,_⟩=>match v.coll with
   | .dat t x=>if sh = .d t then (match t.q1U x j with | some q=>K' { val:=.dat q.1 q.2 } | none=>none) else none
   | _=>none
 | _=>none
def stick (x v:Int):Int:=match x with
 | .ofNat _=>v
 | .negSucc _=>v
theorem stick_eq (x v:Int):stick x v = v:=by cases x <;> rfl
def iand (k:IntKind) (x y:Int):Int:=stick x (k.wrap ((BitVec.ofInt k.bits x &&& BitVec.ofInt k.bits y).toNat:Int))
def ior (k:IntKind) (x y:Int):Int:=k.wrap ((BitVec.ofInt k.bits x ||| BitVec.ofInt k.bits y).toNat:Int)
def ixor (k:IntKind) (x y:Int):Int:=k.wrap ((BitVec.ofInt k.bits x ^^^ BitVec.ofInt k.bits y).toNat:Int)
def iandNot (k:IntKind) (x y:Int):Int:=k.wrap ((BitVec.ofInt k.bits x &&& ~~~BitVec.ofInt k.bits y).toNat:Int)
def evInt (op:BinOp) (k:IntKind) (x y:Int) (K':Eff→Option C):Option C :=
 match op with
 | .add=>K' { val:=.dat (.int k) (k.wrap (x + y)) }
 | .sub=>K' { val:=.dat (.int k) (k.wrap (x - y)) }
 | .mul=>K' { val:=.dat (.int k) (k.wrap (x * y)) }
 | .quo=>if y = 0 then none else K' { val:=.dat (.int k) (k.wrap (x.tdiv y)) }
 | .rem=>if y = 0 then none else K' { val:=.dat (.int k) (x.tmod y) }
 | .eql=>K' { val:=.dat .bool (decide (x = y)) }
 | .neq=>K' { val:=.dat .bool (!decide (x = y)) }
 | .lss=>K' { val:=.dat .bool (decide (x < y)) }
 | .leq=>K' { val:=.dat .bool (decide (x ≤ y)) }
 | .gtr=>K' { val:=.dat .bool (decide (y < x)) }
 | .geq=>K' { val:=.dat .bool (decide (y ≤ x)) }
 | .and=>K' { val:=.dat (.int k) (iand k x y) }
 | .or=>K' { val:=.dat (.int k) (ior k x y) }
 | .xor=>K' { val:=.dat (.int k) (ixor k x y) }
 | .andNot=>K' { val:=.dat (.int k) (iandNot k x y) }
 | _=>none
def j0W (op:BinOp) (k:IntKind) (x y:Int) (K':Eff→Option C):Option C :=
 match op with
 | .shr=>if y < 0 then none else K' { val:=.dat (.int k) (x.fdiv (2 ^ min y.toNat k.bits)) }
 | .shl=>if y < 0 then none else K' { val:=.dat (.int k) (k.wrap (x * 2 ^ min y.toNat k.bits)) }
 | _=>none
def evBool (op:BinOp) (x y:Bool) (K':Eff→Option C):Option C :=
 match op with
 | .eql=>K' { val:=.dat .bool (beqB x y) }
 | .neq=>K' { val:=.dat .bool (!beqB x y) }
 | _=>none
def evStr (op:BinOp) (x y:List UInt8) (K':Eff→Option C):Option C :=
 match op with
 | .eql=>K' { val:=.dat .bool (beqS x y) }
 | .neq=>K' { val:=.dat .bool (!beqS x y) }
 | .add=>if x.length + y.length ≤ 1073741824 then K' { val:=.dat .str (x ++ y) } else none
 | _=>none
def isShift (op:BinOp):Bool:=match op with | .shl | .shr=>true | _=>false
def boolOf (Γ:Cfg) (T:TypeId):Bool :=
 match Γ.ty T with
 | some ⟨.bool,_,_⟩=>true
 | _=>false
def evEqS (Γ:Cfg) (op:BinOp) (T:TypeId) (v u:V) (K':Eff→Option C):Option C :=
 match Γ.ty T with
 | some ⟨_,.d t,_⟩=>bif Γ.keys T && t.isAgg then (match v.coll.as t,u.coll.as t with
   | some x,some y=>(match op with
     | .eql=>K' { val:=.dat .bool (t.beq x y) }
     | .neq=>K' { val:=.dat .bool (!t.beq x y) }
     | _=>none)
   | _,_=>none) else none
 | _=>none
def evNil (Γ:Cfg) (op:BinOp) (T:TypeId) (n:Nat) (K':Eff→Option C):Option C :=
 match Γ.ty T with
 | some ⟨.slice _,_,_⟩=>if 0 < n then (match op with
   | .eql=>K' { val:=.dat .bool false }
   | .neq=>K' { val:=.dat .bool true }
   | _=>none) else none
 | _=>none
def evNils (Γ:Cfg) (op:BinOp) (T:TypeId) (K':Eff→Option C):Option C :=
 match Γ.ty T with
 | some ⟨.slice _,_,_⟩=>(match op with
   | .eql=>K' { val:=.dat .bool true }
   | .neq=>K' { val:=.dat .bool false }
   | _=>none)
 | _=>none
def evBin (Γ:Cfg) (op:BinOp) (T:TypeId) (v u:V) (K':Eff→Option C):Option C :=
 match v,u with
 | .dat (.int k) x,.dat (.int k') y=>bif isShift op then j0W op k x y K' else if k = k' then evInt op k x y K' else none
 | .dat .bool x,.dat .bool y=>bif boolOf Γ T then evBool op x y K' else none
 | .dat .str x,.dat .str y=>evStr op x y K'
 | .dat (.lst e) xs,.nils=>evNil Γ op T (xs:List e.T).length K'
 | .nils,.nils=>evNils Γ op T K'
 | v,u=>evEqS Γ op T v u K'
def evUn (op:UnOp) (v:V) (K':Eff→Option C):Option C :=
 match op,v with
 | .not,.dat .bool b=>K' { val:=.dat .bool (!b) }
 | .neg,.dat (.int k) x=>K' { val:=.dat (.int k) (k.wrap (ineg x)) }
 | .xor,.dat (.int k) x=>K' { val:=.dat (.int k) (ixor k (if k.signed then -1 else k.max) x) }
 | _,_=>none
def u8Of (Γ:Cfg) (E:TypeId):Bool :=
 match Γ.ty E with
 | some ⟨.int .u8,_,_⟩=>true
 | _=>false
def q3M (Γ:Cfg) (lk:Lk) (src dst:TypeId) (v:V) (K':Eff→Option C):Option C :=
 match Γ.ty src,Γ.ty dst,v with
 | some ⟨.int _,_,_⟩,some ⟨.int k,_,_⟩,.dat (.int _) x=>K' { val:=.dat (.int k) (k.wrap x) }
 | some ⟨.str,_,_⟩,some ⟨.str,_,_⟩,.dat .str x=>K' { val:=.dat .str x }
 | some ⟨.slice E,.d (.lst (.int .u8)),_⟩,some ⟨.str,_,_⟩,.dat (.lst (.int .u8)) xs=>if u8Of Γ E = true then K' { val:=.dat .str ((xs:List Int).map fun n=>n.toNat.toUInt8) } else none
 | some ⟨.slice E,.d (.lst (.int .u8)),_⟩,some ⟨.str,_,_⟩,.sl (.int .u8) k s=>match lk k with
   | some (s',.vec (.int .u8) xs)=>if s = s'∧u8Of Γ E = true then K' { val:=.dat .str ((xs:List Int).map fun n=>n.toNat.toUInt8) } else none
   | _=>none
 | _,_,_=>none
def K.part:K→K
 | .d t=>.d (t.partOf t.fields)
 | k=>k
def alK (Γ:Cfg) (k:K) (d:Nat):K:=bif Γ.own (800000 + d) then k.part else k
def z6K (lk:Lk) (d:Nat) (sh:K) (v:V) (K':Eff→Option C):Option C :=
 match z1A lk d sh v with
 | (c,wr)=>if c.fits sh then K' { val:=.ref d (q0L lk d) [],wr:=wr ++ [(d,q0L lk d,.box sh c)] } else none
def nilTo (e:Ty):V→V
 | .nils=>match e with | .lst u=>.dat (.lst u) [] | _=>.nils
 | v=>v
def q4A (e:Ty):List (Nat×V)→List e.T→Option (List e.T)
 | [],xs=>some xs
 | (j,v) :: r,xs=>match (nilTo e v.coll).as e with
   | some y=>if j < xs.length then q4A e r (xs.set j y) else none
   | none=>none
def q5M (ts:List (Option Ty)):List (Nat×V)→List V→Option (List V)
 | [],fs=>some fs
 | (j,v) :: r,fs=>if v.isVal && decide (j < fs.length) && q2D (fs.set j v.coll) ts then q5M ts r (fs.set j v.coll) else none
def z5K (Γ:Cfg) (T:TypeId) (parts:List (Nat×V)) (K':Eff→Option C):Option C :=
 match Γ.ty T with
 | some ⟨.struct _,sh,_⟩=>match q5M sh.fields parts (sh.fields.map z6Q) with
   | some fs=>K' { val:=(V.agg fs).coll }
   | none=>none
 | some ⟨.arr n _,.d (.arr m e),_⟩=>if n = m then (match q4A e parts (List.replicate n e.zero) with | some xs=>K' { val:=.dat (.arr m e) xs } | none=>none) else none
 | _=>none
def elemZ (Γ:Cfg) (E:TypeId) (e:Ty):Bool :=
 match Γ.ty E with
 | some ⟨_,.d t,_⟩=>t.alike e && decide (0 < e.size)
 | _=>false
def q1A (Γ:Cfg) (lk:Lk) (d:Nat) (T:TypeId) (n:Nat) (parts:List (Nat×V)) (K':Eff→Option C):Option C :=
 match Γ.ty T with
 | some ⟨.slice E,.d (.lst e),_⟩=>if elemZ Γ E e && decide (n * e.size ≤ 65536) then (match q4A e parts (List.replicate n e.zero) with
   | some xs=>bif Γ.own d then K' { val:=.sl e d (q0L lk d),wr:=[(d,q0L lk d,.vec e xs)] } else K' { val:=.dat (.lst e) xs }
   | none=>none) else none
 | _=>none
def maxCount:Nat:=1073741824
def q8K (Γ:Cfg) (E:TypeId) (e:Ty):Bool :=
 match Γ.ty E with
 | some ⟨_,.d t,n⟩=>t.alike e && decide (n ≤ 65536) && decide (0 < e.size)
 | _=>false
def q1I (Γ:Cfg) (lk:Lk) (d:Nat) (T:TypeId) (n c:V) (K':Eff→Option C):Option C :=
 match Γ.ty T,n,c with
 | some ⟨.slice E,.d (.lst e),_⟩,.dat (.int .i64) x,.dat (.int .i64) y =>
   if q8K Γ E e then (if mkOk x y then
     K' { val:=.sl e d (q0L lk d),wr:=[(d,q0L lk d,.vec e (List.replicate (Int.toNat x) e.zero))] } else none) else none
 | _,_,_=>none
def q0C {α β:Type} (eq:α→α→Bool) (k:α):List (α×β)→Option β
 | []=>none
 | q :: r=>if eq k q.1 then some q.2 else q0C eq k r
def q0S {α β:Type} (eq:α→α→Bool) (k:α) (v:β):List (α×β)→List (α×β)
 | []=>[(k,v)]
 | q :: r=>if eq k q.1 then (k,v) :: r else q :: q0S eq k v r
def mapTy (Γ:Cfg) (T:TypeId):Option (Ty×Ty) :=
 match Γ.ty T with
 | some ⟨.map kT vT,_,_⟩=>bif Γ.keys kT then (match Γ.ty kT,Γ.ty vT with
   | some ⟨_,.d k,_⟩,some ⟨_,.d v,_⟩=>some (k,v)
   | _,_=>none) else none
 | _=>none
def q3G (Γ:Cfg) (lk:Lk) (d:Nat) (T:TypeId) (K':Eff→Option C):Option C :=
 match mapTy Γ T with
 | some (k,v)=>K' { val:=.mp d (q0L lk d),wr:=[(d,q0L lk d,.map k v [])] }
 | none=>none
def lookK (k v:Ty) (es:List (k.T×v.T)) (i:V) (ok:Bool) (K':Eff→Option C):Option C :=
 match i.coll.as k with
 | some x=>bif ok then K' { val:=.tup [.dat v ((q0C k.beq x es).getD v.zero),.dat .bool (q0C k.beq x es).isSome] }
   else K' { val:=.dat v ((q0C k.beq x es).getD v.zero) }
 | none=>none
def q5B (Γ:Cfg) (lk:Lk) (T:TypeId) (m i:V) (ok:Bool) (K':Eff→Option C):Option C :=
 match m with
 | .dat (.map k v) es=>if mapTy Γ T = some (k,v) then lookK k v es i ok K' else none
 | .mp key s=>match lk key with
   | some (s',.map k v es)=>if s = s'∧mapTy Γ T = some (k,v) then lookK k v es i ok K' else none
   | _=>none
 | _=>none
def q1J (Γ:Cfg) (lk:Lk) (T:TypeId) (m i x:V) (K':Eff→Option C):Option C :=
 match m with
 | .mp key s=>match lk key with
   | some (s',.map k v es)=>if s = s'∧mapTy Γ T = some (k,v) then (match i.coll.as k,x.coll.as v with
     | some a,some b=>K' { val:=.junk,wr:=[(key,s,.map k v (q0S k.beq a b es))] }
     | _,_=>none) else none
   | _=>none
 | _=>none
def q2C (v:Option V) (dflt:Int):Option Int :=
 match v with
 | none=>some dflt
 | some (.dat (.int _) n)=>some n
 | some _=>none
def q8A (Γ:Cfg) (lk:Lk) (T:TypeId) (v:V) (lo hi:Option V) (mx:Option V) (K':Eff→Option C):Option C :=
 match v,Γ.ty T,mx with
 | .dat (.lst e) xs,some ⟨.slice _,.d (.lst e'),_⟩,none =>
   if e = e' then (match q2C lo 0,q2C hi (xs:List e.T).length with
     | some l,some h=>if 0 ≤ l∧l ≤ h∧h ≤ (xs:List e.T).length then K' { val:=.dat (.lst e) (((xs:List e.T).take h.toNat).drop l.toNat) } else none
     | _,_=>none) else none
 | .dat .str s,some ⟨.str,_,_⟩,none =>
   match q2C lo 0,q2C hi (s:List UInt8).length with
     | some l,some h=>if 0 ≤ l∧l ≤ h∧h ≤ (s:List UInt8).length then K' { val:=.dat .str (((s:List UInt8).take h.toNat).drop l.toNat) } else none
     | _,_=>none
 | .eptr (.dat (.arr m e) xs),some ⟨.arr m' _,.d (.arr _ e'),_⟩,none =>
   if e = e'∧m = m' then (match q2C lo 0,q2C hi m with
     | some l,some h=>if 0 ≤ l∧l ≤ h∧h ≤ (m:Int) then K' { val:=.dat (.lst e) (((xs:List e.T).take h.toNat).drop l.toNat) } else none
     | _,_=>none) else none
 | .sl e k s,some ⟨.slice _,.d (.lst e'),_⟩,none=>match lk k with
   | some (s',.vec e'' xs)=>if s = s'∧e = e'∧e = e'' then (match q2C lo 0,q2C hi xs.length with
     | some l,some h=>if 0 ≤ l∧l ≤ h∧h ≤ xs.length then K' { val:=.sl e k (s + 1),wr:=[(k,s + 1,.vec e'' ((xs.take h.toNat).drop l.toNat))] } else none
     | _,_=>none) else none
   | _=>none
 | .dat (.lst e) xs,some ⟨.slice _,.d (.lst e'),_⟩,some mv =>
   if e = e' then (match q2C lo 0,q2C hi (-1),q2C (some mv) 0 with
     | some l,some h,some m=>if 0 ≤ l∧l ≤ h∧h ≤ m∧m ≤ (xs:List e.T).length then K' { val:=.dat (.lst e) (((xs:List e.T).take h.toNat).drop l.toNat) } else none
     | _,_,_=>none) else none
 | _,_,_=>none
def q4O (lk:Lk) (e:Ty):V→Option (List e.T)
 | .dat (.lst u) xs=>if h:u = e then some (h ▸ (xs:List u.T)) else none
 | .sl u k s=>match lk k with
   | some (s',.vec u' xs)=>if s = s'∧u = u' then (if h:u' = e then some (h ▸ xs) else none) else none
   | _=>none
 | .nils=>some []
 | _=>none
def q2P (Γ:Cfg) (lk:Lk) (d:Nat) (T T':TypeId) (v x:V) (K':Eff→Option C):Option C :=
 match Γ.ty T with
 | some ⟨.slice E,.d (.lst e),_⟩ =>
   if T = T' && q8K Γ E e then (match q4O lk e x with
     | some ys=>match v with
       | .sl u k s=>match lk k with
         | some (s',.vec u' xs)=>if s = s'∧u = u' then (if h:u' = e then
             (if xs.length + ys.length ≤ maxCount then K' { val:=.sl u k (s + 1),wr:=[(k,s + 1,.vec u' (xs ++ (h ▸ ys)))] } else none) else none) else none
         | _=>none
       | .nils=>if ys.length ≤ maxCount then K' { val:=.sl e d (q0L lk d),wr:=[(d,q0L lk d,.vec e ys)] } else none
       | _=>none
     | none=>none) else none
 | _=>none
def z2B (lk:Lk) (v:V) (K':Eff→Option C):Option C :=
 match v with
 | .dat (.lst e) xs=>K' { val:=.dat (.int .i64) ((xs:List e.T).length:Int) }
 | .dat .str s=>K' { val:=.dat (.int .i64) ((s:List UInt8).length:Int) }
 | .dat (.map k v) es=>K' { val:=.dat (.int .i64) ((es:List (k.T×v.T)).length:Int) }
 | .nils=>K' { val:=.dat (.int .i64) 0 }
 | .sl e k s=>match lk k with
   | some (s',.vec _ xs)=>if s = s' then K' { val:=.dat (.int .i64) (xs.length:Int) } else none
   | _=>none
 | .mp k s=>match lk k with
   | some (s',.map _ _ es)=>if s = s' then K' { val:=.dat (.int .i64) (es.length:Int) } else none
   | _=>none
 | .row e k s p=>match lk k with
   | some (s',.grid e' ids rows)=>if s = s'∧e = e' then (match p with
     | 0=>K' { val:=.dat (.int .i64) (ids.length:Int) }
     | i + 1=>(rowOf rows i).bind fun xs=>K' { val:=.dat (.int .i64) (xs.length:Int) }) else none
   | _=>none
 | _=>none
def lenOk (Γ:Cfg) (T:TypeId) (v:V):Bool :=
 match Γ.ty T,v with
 | some ⟨.slice _,_,_⟩,.dat (.lst _) _=>true
 | some ⟨.slice _,_,_⟩,.nils=>true
 | some ⟨.slice _,_,_⟩,.sl _ _ _=>true
 | some ⟨.slice _,_,_⟩,.row _ _ _ _=>true
 | some ⟨.str,_,_⟩,.dat .str _=>true
 | some ⟨.map _ _,_,_⟩,.dat (.map _ _) _=>true
 | some ⟨.map _ _,_,_⟩,.mp _ _=>true
 | _,_=>false
def q7O (mx:Bool) (vs:List V) (K':Eff→Option C):Option C :=
 match vs with
 | [.dat (.int k) x,.dat (.int k') y]=>if k = k' then K' { val:=.dat (.int k) (if mx then imax x y else imin x y) } else none
 | _=>none
def V.snap (lk:Lk):V→V
 | .sl e k s=>match lk k with
   | some (s',.vec e' xs)=>if s = s'∧e = e' then .dat (.lst e') xs else .junk
   | _=>.junk
 | .mp k s=>match lk k with
   | some (s',.map kt vt es)=>if s = s' then .dat (.map kt vt) es else .junk
   | _=>.junk
 | v=>v
def Ty.scalar:Ty→Bool
 | .int _ | .bool | .str | .unit=>true
 | .pair a b=>a.scalar && b.scalar
 | .arr _ e=>e.scalar
 | _=>false
def V.j0M:V→Bool
 | .dat t _=>t.scalar
 | _=>false
def scalars:List V→Bool
 | []=>true
 | v :: r=>v.j0M && scalars r
def V.scalar:V→Bool
 | .tup vs=>scalars vs
 | v=>v.j0M
def z4U (Γ:Cfg) (lk:Lk) (f:V) (args:List V) (K':Eff→Option C):Option C :=
 match f with
 | .fn g caps =>
   if q2N caps then
     (if q1V (args.map (V.q2T Γ)) then Γ.call g (args.map (V.q2T Γ) ++ caps) (fun r=>K' { val:=r })
      else if q1V ((args.map (V.snap lk)).map (V.q2T Γ)) then Γ.call g ((args.map (V.snap lk)).map (V.q2T Γ) ++ caps) (fun r=>if r.scalar then K' { val:=r } else none)
      else none)
   else none
 | .clo a b g=>match q0Z a args with
   | some x=>(g x).bind fun y=>K' { val:=.dat b y }
   | none=>none
 | _=>none
def gB:Nat:=100000
def eB:Nat:=200000
def xKey (d j:Nat):Nat:=300000 + 64 * d + j
def V.keysA:V→List Nat
 | .ref k _ _ | .sl _ k _ | .mp k _ | .row _ k _ _=>[k]
 | _=>[]
def V.z6H:V→List Nat
 | .fn _ caps=>caps.flatMap V.keysA
 | v=>v.keysA
def V.keysG:V→List Nat
 | .agg fs=>fs.flatMap V.z6H
 | v=>v.z6H
def V.q1C:V→List Nat
 | .tup vs=>vs.flatMap V.keysG
 | v=>v.keysG
def Obj.keys:Obj→List Nat
 | .box _ c=>c.keysG
 | _=>[]
def q4S (lk:Lk):Nat→List Nat→List Nat→Option (List Nat)
 | _,[],acc=>some acc
 | 0,_ :: _,_=>none
 | n + 1,k :: todo,acc=>bif acc.contains k then q4S lk n todo acc else match lk k with
   | some q=>q4S lk n (q.2.keys ++ todo) (acc ++ [k])
   | none=>none
def idxK (k:Nat):List Nat→Nat→Option Nat
 | [],_=>none
 | k' :: r,i=>bif Nat.beq k' k then some i else idxK k r (i + 1)
def toG (ks:List Nat) (lk:Lk):V→V
 | .ref k s p=>match idxK k ks 1,lk k with
   | some i,some (s',_)=>if s = s' then .ref (gB + i) 0 p else .junk
   | _,_=>.junk
 | .sl e k s=>match idxK k ks 1,lk k with
   | some i,some (s',_)=>if s = s' then .sl e (gB + i) 0 else .junk
   | _,_=>.junk
 | .mp k s=>match idxK k ks 1,lk k with
   | some i,some (s',_)=>if s = s' then .mp (gB + i) 0 else .junk
   | _,_=>.junk
 | .row e k s p=>match idxK k ks 1,lk k with
   | some i,some (s',_)=>if s = s' then .row e (gB + i) 0 p else .junk
   | _,_=>.junk
 | .cb _=>.junk
 | v=>v
def q7T (e g:Nat) (ks:List Nat) (lk:Lk) (d m k:Nat):Option (Nat×Nat) :=
 bif Nat.ble e k then (bif Nat.blt (k - e) m then some (xKey d (k - e),q0L lk (xKey d (k - e))) else none) else bif Nat.blt g k then (match ks[k - g - 1]? with
     | some k'=>match lk k' with | some (s,_)=>some (k',s) | none=>none
     | none=>none) else none
def q3V (ks:List Nat) (lk:Lk) (d m k:Nat):Option (Nat×Nat):=q7T eB gB ks lk d m k
def q2H (ks:List Nat) (lk:Lk) (d m:Nat):V→V
 | .ref k s p=>match q3V ks lk d m k with | some q=>.ref q.1 (q.2 + s) p | none=>.junk
 | .sl e k s=>match q3V ks lk d m k with | some q=>.sl e q.1 (q.2 + s) | none=>.junk
 | .mp k s=>match q3V ks lk d m k with | some q=>.mp q.1 (q.2 + s) | none=>.junk
 | .row e k s p=>match q3V ks lk d m k with | some q=>.row e q.1 (q.2 + s) p | none=>.junk
 | v=>v
def V.mapA (f:V→V):V→V
 | .ref k s p=>f (.ref k s p)
 | .sl e k s=>f (.sl e k s)
 | .mp k s=>f (.mp k s)
 | .row e k s p=>f (.row e k s p)
 | .cb i=>f (.cb i)
 | v=>v
def V.mapL (f:V→V):V→V
 | .fn g caps=>.fn g (caps.map (V.mapA f))
 | v=>v.mapA f
def V.mapG (f:V→V):V→V
 | .agg fs=>.agg (fs.map (V.mapL f))
 | v=>v.mapL f
def V.mapT (f:V→V):V→V
 | .tup vs=>.tup (vs.map (V.mapG f))
 | v=>v.mapG f
def Obj.mapV (f:V→V):Obj→Obj
 | .box k c=>.box k (c.mapG f)
 | .sav i v=>.sav i (v.mapT f)
 | o=>o
def Obj.q5R:Obj→Bool
 | .box k c=>c.fits k
 | _=>true
def fitAll:List Obj→Bool
 | []=>true
 | o :: r=>o.q5R && fitAll r
def q7A (lk:Lk):List Nat→Option (List Obj)
 | []=>some []
 | k :: r=>match lk k,q7A lk r with
   | some q,some l=>some (q.2 :: l)
   | _,_=>none
def V.isTup:V→Bool
 | .tup _=>true
 | _=>false
def q6M:List V→Bool
 | []=>true
 | v :: r=>!v.isTup && q6M r
def q1F (ks:List Nat) (lk:Lk) (d m:Nat):List Nat→List (Nat×Obj)→Option (List (Nat×Nat×Obj))
 | [],[]=>some []
 | k :: r,q :: l=>match lk k,q1F ks lk d m r l with
   | some u,some wr=>bif (q.2.mapV (q2H ks lk d m)).q5R then some ((k,u.1 + q.1,q.2.mapV (q2H ks lk d m)) :: wr) else none
   | _,_=>none
 | _,_=>none
def q3T (ks:List Nat) (lk:Lk) (d m:Nat):Nat→List Obj→Option (List (Nat×Nat×Obj))
 | _,[]=>some []
 | j,o :: r=>match q3T ks lk d m (j + 1) r with
   | some wr=>bif (o.mapV (q2H ks lk d m)).q5R && !ks.contains (xKey d j) then some ((xKey d j,q0L lk (xKey d j),o.mapV (q2H ks lk d m)) :: wr) else none
   | none=>none
def backX (ks:List Nat) (lk:Lk) (d:Nat) (rv:V) (outs:List (Nat×Obj)) (exs:List Obj):Option Eff :=
 match outs with
 | _ :: outs=>match q1F ks lk d exs.length ks outs,q3T ks lk d exs.length 0 exs with
   | some a,some b=>some { val:=rv.mapT (q2H ks lk d exs.length),wr:=a ++ b }
   | _,_=>none
 | []=>none
def lkG (os:List Obj):Lk:=fun k=>if gB ≤ k then (os[k - gB]?).map fun o=>(0,o) else none
def lkX (outs:List (Nat×Obj)) (exs:List Obj):Lk:=fun k=>if eB ≤ k then (exs[k - eB]?).map fun o=>(0,o) else if gB ≤ k then outs[k - gB]? else none
def noGh:List Obj→Bool
 | []=>true
 | .gh _ _ _ :: _=>false
 | _ :: r=>noGh r
def Cbs.call {t:Ty} (c:Cbs t) (i:Nat) (x:t.T) (vs:List V) (k:t.T→V→Option C):Option C :=
 match i with
 | 0=>(c.y x vs).bind fun q=>k q.1 (.dat .bool q.2)
 | _=>(c.f x vs).bind fun q=>k q.1 (.tup (spread c.b q.2))
def Cbs.at {t:Ty} (c:Cbs t) (i:Nat) (x:t.T) (vs:List V):Option (t.T×V):=c.call i x vs fun x' y=>some (x',y)
theorem Cbs.j0B {t:Ty} (c:Cbs t) (i:Nat) (x:t.T) (vs:List V) (k:t.T→V→Option C):c.call i x vs k = match c.at i x vs with | some q=>k q.1 q.2 | none=>none:=by
 unfold Cbs.at Cbs.call
 cases i with
 | zero=>simp only;cases c.y x vs <;> rfl
 | succ i=>simp only;cases c.f x vs <;> rfl
def q3W (Γ:Cfg) (lk:Lk) (d:Nat) (f:V) (args:List V) (K':Eff→Option C):Option C :=
 match f with
 | .fn g caps=>match q4S lk 64 ((args.map (V.q2T Γ) ++ caps).flatMap V.keysG) [] with
   | some ks=>match q7A lk ks with
     | some os=>bif q6M (args.map (V.q2T Γ) ++ caps) && fitAll (os.map (Obj.mapV (toG ks lk))) && noGh os then
         Γ.callX g ((args.map (V.q2T Γ) ++ caps).map (V.mapG (toG ks lk))) (.gone :: os.map (Obj.mapV (toG ks lk))) fun rv outs exs=>match backX ks lk d rv outs exs with
           | some e=>K' e
           | none=>none
       else none
     | none=>none
   | none=>none
 | .cb i=>match lk gB with
   | some (s,.gh t run x)=>bif q1V args then run.call i x args fun x' y=>bif y.scalar then K' { val:=y,wr:=[(gB,s,.gh t run x')] } else none else none
   | _=>none
 | _=>none
def Obj.single:Obj→Bool
 | .grid _ _ _=>false
 | _=>true
def V.sure (lk:Lk):V→Bool
 | .ref k s _=>match lk k with | some (s',o)=>decide (s = s') && o.single | none=>false
 | .eptr _ | .fn _ _ | .clo _ _ _=>true
 | _=>false
def V.isCap:V→Bool
 | .dat _ _ | .clo _ _ _ | .nilf | .ref _ _ _ | .eptr _ | .sl _ _ _ | .nils | .mp _ _ | .cb _ | .row _ _ _ _=>true
 | _=>false
def capsOk:List V→Bool
 | []=>true
 | v :: r=>v.isCap && capsOk r
def dstOf (o:Oper):Nat:=o.dst.getD 0
def q2I (Γ:Cfg) (lk:Lk) (d:Nat) (T:TypeId) (m:V) (K':Eff→Option C):Option C :=
 match m with
 | .dat (.map k v) es=>if mapTy Γ T = some (k,v) then K' { val:=.ref d (q0L lk d) [],wr:=[(d,q0L lk d,.mi k v es [] none)] } else none
 | _=>none
def q7Q (lk:Lk) (it:V) (K':Eff→Option C):Option C :=
 match it with
 | .ref k s []=>match lk k with
   | some (s',.mi kt vt _ _ (some q))=>if s = s' then K' { val:=.tup [.dat kt q.1,.dat vt q.2] } else none
   | _=>none
 | _=>none
def z2T (Γ:Cfg) (o:Oper) (tm:Tm) (lk:Lk) (K':Eff→Option C):Option C :=
 match o.op with
 | .move x=>K' { val:=Γ.val tm x }
 | .assign x=>match Γ.val tm x with
   | .nils=>match Γ.ty o.type,o.dst with
     | some ⟨_,.d (.lst e),_⟩,some d=>bif Γ.own (910000 + d) then K' { val:=.nils } else bif Γ.own (500000 + d) then K' { val:=.dat (.lst e) [] } else K' { val:=.sl e d (q0L lk d),wr:=[(d,q0L lk d,.vec e [])] }
     | _,_=>none
   | v=>K' { val:=v }
 | .pick c a b=>match Γ.val tm c with
   | .dat .bool t=>bif t then K' { val:=Γ.val tm a } else K' { val:=Γ.val tm b }
   | _=>none
 | .alloc T=>match Γ.ty T,o.dst with
   | some ti,some d=>z6K lk d (alK Γ ti.k d) (bif Γ.own (700000 + d) then nilK (alK Γ ti.k d) (alK Γ ti.k d).zero else (alK Γ ti.k d).zero) K'
   | _,_=>none
 | .box T x=>match Γ.ty T,o.dst with
   | some ti,some d=>if (Γ.val tm x).isVal then z6K lk d ti.k (Γ.val tm x).coll K' else none
   | _,_=>none
 | .build T parts=>z5K Γ T (parts.toList.map fun q=>(q.1,Γ.val tm q.2)) K'
 | .buildSlice T n parts=>match o.dst with
   | some d=>q1A Γ lk d T n (parts.toList.map fun q=>(q.1,Γ.val tm q.2)) K'
   | none=>none
 | .load T a=>q4Q Γ lk T (Γ.val tm a) K'
 | .store T a x=>q8C Γ lk T (Γ.val tm a) (Γ.val tm x) K'
 | .nilCheck x=>bif (Γ.val tm x).sure lk then K' { val:=Γ.val tm x } else none
 | .binOp op T x y _=>evBin Γ op T (Γ.val tm x) (Γ.val tm y) K'
 | .unOp op _ x=>evUn op (Γ.val tm x) K'
 | .convert s t x=>q3M Γ lk s t (Γ.val tm x) K'
 | .makeFunc g first caps=>match g,first.toList with
   | .func f,[]=>bif capsOk (caps.toList.map (Γ.val tm)) then K' { val:=.fn f (caps.toList.map (Γ.val tm)) } else none
   | .func f,x :: xs=>match Γ.fnTy f with
     | some (a,b)=>bif q2N ((x :: xs).map (Γ.val tm) ++ caps.toList.map (Γ.val tm)) then K' { val:=.clo a b fun y=>Γ.call f ((x :: xs).map (Γ.val tm) ++ (spread a y ++ caps.toList.map (Γ.val tm))) (fun r=>r.as b) } else none
     | none=>none
   | _,_=>none
 | .makeSlice T n c=>match o.dst with
   | some d=>q1I Γ lk d T (Γ.val tm n) (Γ.val tm c) K'
   | none=>none
 | .slice T x lo hi mx=>q8A Γ lk T (Γ.val tm x) (lo.map (Γ.val tm)) (hi.map (Γ.val tm)) (mx.map (Γ.val tm)) K'
 | .fieldAddr T x j=>q1X Γ lk T (Γ.val tm x) j K'
 | .field T x j=>z5U Γ T (Γ.val tm x) j K'
 | .indexAddr T x i=>q1Q Γ lk T (Γ.val tm x) (Γ.val tm i) K'
 | .index T x i=>z7A Γ T (Γ.val tm x) (Γ.val tm i) K'
 | .makeMap T r=>match r,o.dst with
   | none,some d=>q3G Γ lk d T K'
   | _,_=>none
 | .lookup T x i ok=>q5B Γ lk T (Γ.val tm x) (Γ.val tm i) ok K'
 | .mapUpdate T m i x=>q1J Γ lk T (Γ.val tm m) (Γ.val tm i) (Γ.val tm x) K'
 | .insert T m i x=>q1J Γ lk T (Γ.val tm m) (Γ.val tm i) (Γ.val tm x) K'
 | .range T x=>match o.dst with
   | some d=>q2I Γ lk d T (Γ.val tm x) K'
   | none=>none
 | .entry x=>q7Q lk (Γ.val tm x) K'
 | .extract x i=>match Γ.val tm x with
   | .tup vs=>match vs[i]? with | some v=>K' { val:=v } | none=>none
   | _=>none
 | .call c=>match c.callee with
   | .builtin .len=>match c.args.toList,c.argTypes.toList with
     | [x],T :: _=>bif lenOk Γ T (Γ.val tm x) then z2B lk (Γ.val tm x) K' else none
     | _,_=>none
   | .builtin .append=>match c.args.toList,c.argTypes.toList,o.dst with
     | [x,y],[T,T'],some d=>q2P Γ lk d T T' (Γ.val tm x) (Γ.val tm y) K'
     | _,_,_=>none
   | .builtin .max=>q7O true (c.args.toList.map (Γ.val tm)) K'
   | .builtin .min=>q7O false (c.args.toList.map (Γ.val tm)) K'
   | .value f=>bif Γ.xat (dstOf o) then q3W Γ lk (dstOf o) (Γ.val tm f) (q1B Γ c.argTypes.toList (c.args.toList.map (Γ.val tm))) K'
     else z4U Γ lk (Γ.val tm f) (q1B Γ c.argTypes.toList (c.args.toList.map (Γ.val tm))) K'
   | _=>none
 | _=>none
def isGridO:Option (Nat×Obj)→Bool
 | some (_,.grid _ _ _)=>true
 | _=>false
def V.isRow:V→Bool
 | .row _ _ _ _=>true
 | _=>false
def anyRow:List V→Bool
 | []=>false
 | v :: r=>v.isRow || anyRow r
def j1E (Γ:Cfg) (T:TypeId):Option (TypeId×Ty) :=
 match Γ.ty T with
 | some ⟨.slice E,.d (.lst (.lst e)),_⟩=>some (E,e)
 | _=>none
def asRow (lk:Lk) (d:Nat) (e:Ty):V→Option (List e.T×List (Nat×Nat×Obj))
 | .nils=>some ([],[])
 | .sl e' k s=>match lk k with
   | some (s',.vec e'' xs)=>bif decide (s = s') && decide (e' = e'') && !Nat.beq k d then (if h:e'' = e then some (h ▸ xs,[(k,s + 1,.gone)]) else none) else none
   | _=>none
 | _=>none
def z4X (Γ:Cfg) (lk:Lk) (d:Nat) (T:TypeId) (v:V) (K':Eff→Option C):Option C :=
 match j1E Γ T,v with
 | some (_,e),.nils=>K' { val:=.row e d (q0L lk d) 0,wr:=[(d,q0L lk d,.grid e [] [])] }
 | _,_=>none
def q4U (Γ:Cfg) (lk:Lk) (d:Nat) (T:TypeId) (n:Nat) (parts:List (Nat×V)) (K':Eff→Option C):Option C :=
 match j1E Γ T,parts with
 | some (E,e),[(0,v)]=>bif elemZ Γ E (.lst e) && Nat.beq n 1 then (match asRow lk d e v with
   | some q=>K' { val:=.row e d (q0L lk d) 0,wr:=q.2 ++ [(d,q0L lk d,.grid e [0] [some q.1])] }
   | none=>none) else none
 | _,_=>none
def q6S (Γ:Cfg) (lk:Lk) (d:Nat) (T:TypeId) (n c:V) (K':Eff→Option C):Option C :=
 match j1E Γ T,n,c with
 | some (E,e),.dat (.int .i64) x,.dat (.int .i64) y =>
   if q8K Γ E (.lst e) then (if mkOk x y then K' { val:=.row e d (q0L lk d) 0,wr:=[(d,q0L lk d,.grid e (List.range (Int.toNat x)) (List.replicate (Int.toNat x) (some [])))] } else none) else none
 | _,_,_=>none
def q2V (lk:Lk) (k s:Nat) (e:Ty) (ids:List Nat) (rows:List (Option (List e.T))) (j:Nat) (x:V) (K':Eff→Option C):Option C :=
 match x with
 | .row e' k' s' (i + 1)=>if e' = e∧k' = k∧s' = s then (rowOf rows i).bind fun _=>if j < ids.length then K' { val:=.junk,wr:=[(k,s,.grid e (ids.set j i) rows)] } else none else none
 | x=>match asRow lk k e x with
   | some q=>if j < ids.length then K' { val:=.junk,wr:=q.2 ++ [(k,s,.grid e (ids.set j rows.length) (rows ++ [some q.1]))] } else none
   | none=>none
def q5N (k s:Nat) (e:Ty) (ids:List Nat) (rows:List (Option (List e.T))) (i j:Nat) (x:V) (K':Eff→Option C):Option C :=
 match x with
 | .dat u y=>if h:u = e then (rowOf rows i).bind fun xs=>if j < xs.length then K' { val:=.junk,wr:=[(k,s,.grid e ids (rows.set i (some (xs.set j (h ▸ y)))))] } else none else none
 | _=>none
def q5D (Γ:Cfg) (lk:Lk) (T:TypeId) (v x:V) (K':Eff→Option C):Option C :=
 match v with
 | .ref k s [p,j]=>match lk k with
   | some (s',.grid e ids rows)=>if s = s' then (match p with
     | 0=>if q8J Γ T (.d (.lst e)) then q2V lk k s e ids rows j x K' else none
     | i + 1=>if q8J Γ T (.d e) then q5N k s e ids rows i j x.coll K' else none) else none
   | _=>none
 | _=>none
def q4Y (Γ:Cfg) (lk:Lk) (T:TypeId) (v:V) (lo hi mx:Option V) (K':Eff→Option C):Option C :=
 match v,j1E Γ T,mx with
 | .row e k s 0,some (_,e'),none=>match lk k with
   | some (s',.grid e'' ids rows)=>if s = s'∧e = e'∧e = e'' then (match q2C lo 0,q2C hi ids.length with
     | some l,some h=>if 0 ≤ l∧l ≤ h∧h ≤ ids.length then K' { val:=.row e k (s + 1) 0,wr:=[(k,s + 1,.grid e'' ((ids.take h.toNat).drop l.toNat) rows)] } else none
     | _,_=>none) else none
   | _=>none
 | _,_,_=>none
def q1Y (n:Nat) (ids:List Nat):List Nat:=ids.map fun i=>n + i
def q3K (Γ:Cfg) (lk:Lk) (d:Nat) (T T':TypeId) (v x:V) (K':Eff→Option C):Option C :=
 match v,x with
 | .row e k s 0,.row e2 k2 s2 0=>match j1E Γ T,lk k,lk k2 with
   | some (E,e0),some (s',.grid e' ids rows),some (s2',.grid e2' ids2 rows2)=>bif decide (T = T') && q8K Γ E (.lst e0) && decide (s = s') && decide (s2 = s2') && decide (e = e0) && decide (e' = e0) && decide (e2 = e') && !Nat.beq k k2 then
       (if h:e2' = e' then (if ids.length + ids2.length ≤ maxCount then
         K' { val:=.row e k (s + 1) 0,wr:=[(k2,s2 + 1,.gone),(k,s + 1,.grid e' (ids ++ q1Y rows.length ids2) (rows ++ (h ▸ rows2)))] } else none) else none) else none
   | _,_,_=>none
 | _,_=>none
def copyP {α:Type} (n:Nat) (ys xs:List α):List α:=ys.take n ++ xs.drop ys.length
def q5A (Γ:Cfg) (lk:Lk) (T:TypeId) (v:V) (lo hi mx:Option V) (K':Eff→Option C):Option C :=
 match v,Γ.ty T,lo,hi,mx with
 | .ref k s [],some ⟨.arr m' _,.d (.arr m e),_⟩,none,none,none=>match lk k with
   | some (s',.box (.d (.arr n e'')) _)=>if s = s'∧e = e''∧m' = m∧n = m then K' { val:=.row e k s 0 } else none
   | _=>none
 | _,_,_,_,_=>none
def q7Y (Γ:Cfg) (lk:Lk) (T T':TypeId) (v x:V) (K':Eff→Option C):Option C :=
 match v with
 | .row e k s 0=>match Γ.ty T,lk k with
   | some ⟨.slice E,.d (.lst e0),_⟩,some (s',.box (.d (.arr n e1)) (.dat (.arr n2 e2) xs))=>bif decide (T = T') && q8K Γ E e0 && decide (e0.size = 1) && decide (s = s') && decide (e = e0) && decide (e1 = e0) && decide (n2 = n) then
       (if h:e2 = e0 then (match q4O lk e0 x with
         | some ys=>K' { val:=.dat (.int .i64) ((min ys.length n:Nat):Int),wr:=[(k,s,.box (.d (.arr n e0)) (.dat (.arr n e0) (copyP n ys (h ▸ (xs:List e2.T)))))] }
         | none=>none) else none) else none
   | _,_=>none
 | _=>none
def z8D (lk:Lk):List V→(List V→Option C)→Option C
 | [],K'=>K' []
 | v :: r,K'=>match v with
   | .row e k s (i + 1)=>match lk k with
     | some (s',.grid e' ids rows)=>if s = s'∧e = e' then (rowOf rows i).bind fun xs=>z8D lk r fun vs=>K' (.dat (.lst e') xs :: vs) else none
     | _=>none
   | v=>z8D lk r fun vs=>K' (v.snap lk :: vs)
def q7K (Γ:Cfg) (lk:Lk) (f:V) (args:List V) (K':Eff→Option C):Option C :=
 match f with
 | .fn g caps=>if q2N caps then z8D lk args fun vs=>if q1V (vs.map (V.q2T Γ)) then Γ.call g (vs.map (V.q2T Γ) ++ caps) (fun r=>if r.scalar then K' { val:=r } else none) else none else none
 | _=>none
def gB2:Nat:=600000
def V.q8U:V→Bool
 | .nils=>true
 | _=>false
def evGCap (Γ:Cfg) (T:TypeId) (v:V) (K':Eff→Option C):Option C :=
 match v,Γ.ty T with
 | .nils,some ⟨.slice _,_,_⟩=>K' { val:=.dat (.int .i64) 0 }
 | _,_=>none
def q6Z (Γ:Cfg) (T:TypeId) (lo hi mx:Option V) (K':Eff→Option C):Option C :=
 match Γ.ty T,lo,hi,mx with
 | some ⟨.slice _,.d (.lst _),_⟩,none,some (.dat (.int _) n),none=>if (n:Int) = 0 then K' { val:=.nils } else none
 | _,_,_,_=>none
def q5F (Γ:Cfg) (lk:Lk) (d:Nat) (T T':TypeId) (x:V) (K':Eff→Option C):Option C :=
 match Γ.ty T,Γ.ty T',x with
 | some ⟨.slice E,.d (.lst e),_⟩,some ⟨.int _,_,_⟩,.dat (.int .i64) n =>
   if q8K Γ E e then (if 0 < (n:Int)∧(n:Int) ≤ 1073741824 then K' { val:=.sl e d (q0L lk d),wr:=[(d,q0L lk d,.vec e (List.replicate (Int.toNat n) e.zero))] } else none) else none
 | _,_,_=>none
def q4R (Γ:Cfg) (o:Oper) (tm:Tm) (lk:Lk):Bool :=
 match o.op with
 | .assign x=>match Γ.val tm x with | .nils=>Γ.own (gB2 + dstOf o) | _=>false
 | .buildSlice _ _ _=>Γ.own (gB2 + dstOf o)
 | .makeSlice _ _ _=>Γ.own (gB2 + dstOf o)
 | .store _ a _=>match Γ.val tm a with | .ref k _ _=>isGridO (lk k) | _=>false
 | .slice _ x _ _ _=>(Γ.val tm x).isRow || (Γ.val tm x).q8U || Γ.own (gB2 + dstOf o)
 | .call c=>match c.callee with
   | .builtin .cap=>true
   | .builtin .append=>match c.args.toList,c.argTypes.toList with | [x,_],[T,T']=>(Γ.val tm x).isRow || ((Γ.val tm x).q8U && !Nat.beq T T') | _,_=>false
   | .builtin .copy=>true
   | .value _=>!Γ.xat (dstOf o) && anyRow (q1B Γ c.argTypes.toList (c.args.toList.map (Γ.val tm)))
   | _=>false
 | _=>false
def z6A (Γ:Cfg) (o:Oper) (tm:Tm) (lk:Lk) (K':Eff→Option C):Option C :=
 match o.op with
 | .assign x=>match o.dst with | some d=>z4X Γ lk d o.type (Γ.val tm x) K' | none=>none
 | .buildSlice T n parts=>match o.dst with | some d=>q4U Γ lk d T n (parts.toList.map fun q=>(q.1,Γ.val tm q.2)) K' | none=>none
 | .makeSlice T n c=>match o.dst with | some d=>q6S Γ lk d T (Γ.val tm n) (Γ.val tm c) K' | none=>none
 | .store T a x=>q5D Γ lk T (Γ.val tm a) (Γ.val tm x) K'
 | .slice T x lo hi mx=>bif (Γ.val tm x).isRow then q4Y Γ lk T (Γ.val tm x) (lo.map (Γ.val tm)) (hi.map (Γ.val tm)) (mx.map (Γ.val tm)) K' else bif (Γ.val tm x).q8U then q6Z Γ T (lo.map (Γ.val tm)) (hi.map (Γ.val tm)) (mx.map (Γ.val tm)) K' else q5A Γ lk T (Γ.val tm x) (lo.map (Γ.val tm)) (hi.map (Γ.val tm)) (mx.map (Γ.val tm)) K'
 | .call c=>match c.callee with
   | .builtin .copy=>match c.args.toList,c.argTypes.toList with
     | [x,y],[T,T']=>q7Y Γ lk T T' (Γ.val tm x) (Γ.val tm y) K'
     | _,_=>none
   | .builtin .cap=>match c.args.toList,c.argTypes.toList with
     | [x],[T]=>evGCap Γ T (Γ.val tm x) K'
     | _,_=>none
   | .builtin .append=>match c.args.toList,c.argTypes.toList,o.dst with
     | [x,y],[T,T'],some d=>bif (Γ.val tm x).q8U then q5F Γ lk d T T' (Γ.val tm y) K' else q3K Γ lk d T T' (Γ.val tm x) (Γ.val tm y) K'
     | _,_,_=>none
   | .value f=>q7K Γ lk (Γ.val tm f) (q1B Γ c.argTypes.toList (c.args.toList.map (Γ.val tm))) K'
   | _=>none
 | _=>none
def evOp (Γ:Cfg) (o:Oper) (tm:Tm) (lk:Lk) (K':Eff→Option C):Option C :=
 bif q4R Γ o tm lk then z6A Γ o tm lk K' else z2T Γ o tm lk K'
end Go.Pv
