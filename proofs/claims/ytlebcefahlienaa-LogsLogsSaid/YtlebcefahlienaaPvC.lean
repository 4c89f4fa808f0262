/- The purifying layer, part 3: regions, code, functions. -/
import Derived.Test.YtlebcefahlienaaPvB
set_option linter.unusedVariables false
set_option linter.unusedSimpArgs false
namespace Go.Pv
variable {C:Type}
def frzAtom (Γ:Cfg) (key cur:Nat) (o:Obj):V→V
 | .ref k s p=>if k = key then (if s = cur then (match o.get p with
     | some u=>if (u.coll.toClo Γ).atom then .eptr (u.coll.toClo Γ) else .junk
     | none=>.junk) else .junk) else .ref k s p
 | .sl e k s=>if k = key then (if s = cur then (match o with
     | .vec e' xs=>if e = e' then .dat (.lst e') xs else .junk
     | _=>.junk) else .junk) else .sl e k s
 | .mp k s=>if k = key then (if s = cur then (match o with
     | .map kt vt es=>.dat (.map kt vt) es
     | _=>.junk) else .junk) else .mp k s
 | .row e k s p=>if k = key then .junk else .row e k s p
 | v=>v
def isG (k:Nat):Bool:=Nat.ble gB k && Nat.blt k eB
def delObj (k:Nat) (l:List (Nat×Nat×Obj)):List (Nat×Nat×Obj):=l.filter fun q=>q.1 != k
def objsOk:List (Nat×Nat×Obj)→Bool
 | []=>true
 | q :: r=>q.2.2.fitOk && objsOk r
def Obj.frzOk (Γ:Cfg):Obj→Bool
 | .box _ c=>(c.coll.toClo Γ).atom
 | .vec _ _ | .map _ _ _=>true
 | _=>false
def gridAll {α:Type} (rows:List (Option α)):List Nat→Option (List α)
 | []=>some []
 | i :: r=>(rowOf rows i).bind fun x=>(gridAll rows r).bind fun l=>some (x :: l)
def gridMap {α β:Type} (rows:List (Option α)):List (β×Nat)→Option (List (β×α))
 | []=>some []
 | q :: r=>(rowOf rows q.2).bind fun x=>(gridMap rows r).bind fun l=>some ((q.1,x) :: l)
def frzGAtom (key cur:Nat) (e:Ty) (t:Ty) (y:t.T):V→V
 | .ref k s p=>if k = key then .junk else .ref k s p
 | .sl e' k s=>if k = key then .junk else .sl e' k s
 | .mp k s=>if k = key then .junk else .mp k s
 | .row e' k s p=>if k = key then (if s = cur∧e' = e then (match p with | 0=>.dat t y | _=>.junk) else .junk) else .row e' k s p
 | v=>v
def frzWith (k:Nat) (f:V→V) (st:St):Option St :=
 bif objsOk ((delObj k st.objs).map fun q=>(q.1,q.2.1,q.2.2.mapV f)) then
   some { tmps:=st.tmps.mapV (V.mapT f),objs:=(delObj k st.objs).map fun q=>(q.1,q.2.1,q.2.2.mapV f) } else none
def goneG (k:Nat) (st:St):St:=bif isG k then { st with objs:=putObj k 1000 .gone st.objs } else st
def frz1 (Γ:Cfg) (k:Nat) (st:St) (K':St→Option C):Option C :=
 match st.lk k with
 | some (s,.grid e (.ids ids) rows)=>(gridAll rows ids).bind fun xss=>match frzWith k (frzGAtom k s e (.lst (.lst e)) xss) st with
   | some st'=>K' (goneG k st')
   | none=>none
 | some (s,.grid e (.keys kt es) rows)=>(gridMap rows es).bind fun ys=>match frzWith k (frzGAtom k s e (.map kt (.lst e)) ys) st with
   | some st'=>K' (goneG k st')
   | none=>none
 | some (s,o)=>match (bif o.frzOk Γ then frzWith k (frzAtom Γ k s o) st else none) with
   | some st'=>K' (goneG k st')
   | none=>none
 | none=>K' st
def frz (Γ:Cfg):List Nat→St→(St→Option C)→Option C
 | [],st,K'=>K' st
 | k :: r,st,K'=>frz1 Γ k st fun st'=>frz Γ r st' K'
def lkN (lk:Lk) (k:Nat):Option (Nat×Obj):=match lk k with
 | some q=>bif isG k && !Nat.beq q.1 0 then none else some q
 | none=>none
def renAtom (keep:List Nat) (lk:Lk):V→V
 | .ref k s p=>if keep.contains k then (match lkN lk k with | some (s',_)=>if s = s' then .ref k 0 p else .junk | none=>.junk) else .junk
 | .sl e k s=>if keep.contains k then (match lkN lk k with | some (s',_)=>if s = s' then .sl e k 0 else .junk | none=>.junk) else .junk
 | .mp k s=>if keep.contains k then (match lkN lk k with | some (s',_)=>if s = s' then .mp k 0 else .junk | none=>.junk) else .junk
 | .row e k s p=>if keep.contains k then (match lkN lk k with | some (s',_)=>if s = s' then .row e k 0 p else .junk | none=>.junk) else .junk
 | v=>v
def keptV (keepT keepK:List Nat) (st:St):List V:=keepT.map fun t=>(st.tm t).mapT (renAtom keepK st.lk)
def keptO (keepK:List Nat) (st:St):List (Option Obj):=keepK.map fun k=>(lkN st.lk k).map fun q=>q.2.mapV (renAtom keepK st.lk)
def objsAt:List Nat→List (Option Obj)→List (Nat×Nat×Obj)
 | k :: ks,some o :: os=>(k,0,o) :: objsAt ks os
 | _ :: ks,none :: os=>objsAt ks os
 | _,_=>[]
def build (n:Nat) (keepT keepK:List Nat) (vs:List V) (os:List (Option Obj)):St:={ tmps:={ length:=n,ups:=keepT.zip vs,dflt:=.junk },objs:=objsAt keepK os }
def norm (keepT keepK:List Nat) (st:St):St:=build st.tmps.length keepT keepK (keptV keepT keepK st) (keptO keepK st)
structure Foot where
 dst:Option Tmp
 tmps:List Tmp
 keys:List Nat
 wkeys:List Nat
def opTmps (ops:Array Oper) (o:Oper):List Tmp :=
 (o.op.operands.toList.filterMap fun | .tmp t=>some t | _=>none) ++
 (match o.guard with
  | some (g,_)=>((ops[g]?).bind (·.dst)).toList
  | none=>[])
def lazyOp:Op→Bool
 | .move _ | .assign _ | .extract _ _ | .pick _ _ _=>true
 | _=>false
def opKeys (Γ:Cfg) (o:Oper) (tm:Tm):List Nat:=bif lazyOp o.op then [] else o.op.operands.toList.flatMap fun x=>(Γ.val tm x).keysT
def footOf (Γ:Cfg) (ops:Array Oper) (o:Oper) (tm:Tm) (e:Eff):Foot :=
 { dst:=o.dst,tmps:=opTmps ops o,keys:=opKeys Γ o tm ++ e.wr.map (·.1),wkeys:=e.wr.map (·.1) }
def meets (a b:List Nat):Bool:=a.any fun x=>b.contains x
def Foot.clash (a b:Foot):Bool :=
 (match a.dst with | some d=>b.tmps.contains d || b.dst == some d | none=>false) ||
 (match b.dst with | some d=>a.tmps.contains d | none=>false) ||
 meets a.wkeys b.keys || meets b.wkeys a.keys
def bef1 (acc:List Nat) (o:Oper):Nat:=o.after.toList.foldl (fun s e=>if Region.binds .any e then s ||| 2 ^ e.on ||| acc.getD e.on 0 else s) 0
def befores:List Oper→List Nat→List Nat
 | [],acc=>acc
 | o :: r,acc=>befores r (acc ++ [bef1 acc o])
def edgesOk:Nat→List Oper→Bool
 | _,[]=>true
 | i,o :: r=>(o.after.toList.all fun e=>!Region.binds .any e || decide (e.on < i)) && edgesOk (i + 1) r
def clashesOk (bf:List Nat) (i:Nat) (f:Foot):Nat→List Foot→Bool
 | _,[]=>true
 | j,g :: r=>(!(f.clash g) || (bf.getD j 0).testBit i) && clashesOk bf i f (j + 1) r
def feetOk (bf:List Nat):Nat→List Foot→Bool
 | _,[]=>true
 | i,f :: r=>clashesOk bf i f (i + 1) r && feetOk bf (i + 1) r
def guardTmp (ops:Array Oper) (j:Nat):Option Tmp:=(ops[j]?).bind (·.dst)
def skipFoot (ops:Array Oper) (o:Oper):Foot:={ dst:=o.dst,tmps:=opTmps ops o,keys:=[],wkeys:=[] }
def writersOf:Nat→List Foot→List (Nat×List Nat)
 | _,[]=>[]
 | i,f :: r=>bif f.wkeys.isEmpty then writersOf (i + 1) r else (i,f.wkeys) :: writersOf (i + 1) r
def keyRow (bf:List Nat) (i:Nat) (w:List Nat):Nat→List Foot→Bool
 | _,[]=>true
 | j,g :: r=>(!(meets w g.keys) || Nat.beq i j || (bif Nat.blt i j then (bf.getD j 0).testBit i else (bf.getD i 0).testBit j)) && keyRow bf i w (j + 1) r
def keysOk (bf:List Nat) (fs:List Foot):Bool:=(writersOf 0 fs).all fun q=>keyRow bf q.1 q.2 0 fs
def footsOk (ops:Array Oper) (fs:List Foot):Bool :=
 edgesOk 0 ops.toList && feetOk (befores ops.toList []) 0 (ops.toList.map (skipFoot ops)) && keysOk (befores ops.toList []) fs
def evOps (Γ:Cfg) (ops:Array Oper) (draw:Bool):List Oper→St→List Foot→(St→Option C)→Option C
 | [],st,fs,K'=>bif draw then (bif footsOk ops fs.reverse then K' st else none) else K' st
 | o :: r,st,fs,K' =>
   match o.guard with
   | none=>evOp Γ o st.tm st.lk fun e=>evOps Γ ops draw r (st.apply o.dst e) (bif draw then footOf Γ ops o st.tm e :: fs else fs) K'
   | some (j,want)=>match guardTmp ops j with
     | none=>none
     | some g=>match st.tm g with
       | .undef=>evOps Γ ops draw r (st.apply o.dst { val:=.undef }) (bif draw then skipFoot ops o :: fs else fs) K'
       | .dat .bool b =>
         bif b then
           (bif want then evOp Γ o { st with tmps:=st.tmps.put g (.dat .bool true):St }.tm st.lk fun e=>evOps Γ ops draw r (St.apply { st with tmps:=st.tmps.put g (.dat .bool true) } o.dst e) (bif draw then footOf Γ ops o { st with tmps:=st.tmps.put g (.dat .bool true):St }.tm e :: fs else fs) K'
            else evOps Γ ops draw r (St.apply { st with tmps:=st.tmps.put g (.dat .bool true) } o.dst { val:=.undef }) (bif draw then skipFoot ops o :: fs else fs) K')
         else
           (bif want then evOps Γ ops draw r (St.apply { st with tmps:=st.tmps.put g (.dat .bool false) } o.dst { val:=.undef }) (bif draw then skipFoot ops o :: fs else fs) K'
            else evOp Γ o { st with tmps:=st.tmps.put g (.dat .bool false):St }.tm st.lk fun e=>evOps Γ ops draw r (St.apply { st with tmps:=st.tmps.put g (.dat .bool false) } o.dst e) (bif draw then footOf Γ ops o { st with tmps:=st.tmps.put g (.dat .bool false):St }.tm e :: fs else fs) K')
       | _=>none
inductive Ex where
 | normal
 | exit (id:Nat)
 | ret
 deriving DecidableEq
structure LoopFn where
 run:{C:Type}→Nat→List V→List (Option Obj)→(Ex→St→Option C)→Option C
structure RTold where
 t:Ty
 enc:t.T→List (Option Obj)
 ex:t.T→Ex
 dec:Ex→List (Option Obj)→Option t.T
 run:List V→t.T→List V→Option (t.T×Bool)
 fin:{C:Type}→(Ex→List (Option Obj)→Option C)→t.T→Option C
 cb:Option (Nat×FuncId×List Nat):=none
 b:Ty:=.unit
 f:List V→t.T→List V→Option (t.T×b.T):=fun _ _ _=>none
structure Ann where
 loops:List (Nat×(List Nat×List Nat)×(List Nat×List Nat)):=[]
 frz:List (Nat×List Nat):=[]
 L:Nat→Option LoopFn:=fun _=>none
 fuel:Nat→List V→List (Option Obj)→Nat:=fun _ _ _=>1073741824
 R:Nat→Option RTold:=fun _=>none
 Li:Nat→Option LoopFn:=fun _=>none
 M:Nat→Option LoopFn:=fun _=>none
 Lm:Nat→Option LoopFn:=fun _=>none
 sc:Bool:=true
 ntR:Nat:=0
def Ann.inR (an:Ann):Ann:={ an with R:=fun _=>none,L:=an.Li,M:=fun _=>none,sc:=false }
def Ann.inM (an:Ann):Ann:={ an with R:=fun _=>none,L:=an.Lm,Li:=fun _=>none,M:=fun _=>none,sc:=false }
def findP {α:Type} (p:Nat):List (Nat×α)→Option α
 | []=>none
 | q :: r=>bif Nat.beq q.1 p then some q.2 else findP p r
def Ann.keepOf (an:Ann) (p:Nat):List Nat×List Nat:=match findP p an.loops with | some q=>q.1 | none=>([],[])
def Ann.outOf (an:Ann) (p:Nat):List Nat×List Nat:=match findP p an.loops with | some q=>q.2 | none=>([],[])
def Ann.frzOf (an:Ann) (p:Nat):List Nat:=match findP p an.frz with | some q=>q | none=>[]
def leave (kT kK:List Nat) (K':Ex→St→Option C) (e:Ex) (st:St):Option C:=bif objsOk (norm kT kK st).objs then K' e (norm kT kK st) else none
def iter (nm:St→St) (F:(St→Option C)→St→Option C):Nat→St→Option C
 | 0,_=>none
 | n + 1,st=>F (fun st'=>bif objsOk (nm st').objs then iter nm F n (nm st') else none) st
def sameA:V→V→Bool
 | .ref k s p,.ref k' s' p'=>Nat.beq k k' && Nat.beq s s' && decide (p = p')
 | .sl e k s,.sl e' k' s'=>decide (e = e') && Nat.beq k k' && Nat.beq s s'
 | .mp k s,.mp k' s'=>Nat.beq k k' && Nat.beq s s'
 | .row e k s p,.row e' k' s' p'=>decide (e = e') && Nat.beq k k' && Nat.beq s s' && Nat.beq p p'
 | v,_=>v.arg || v.isJunk || (match v with | .cb _ | .nils | .undef=>true | _=>false)
def sameAs:List V→List V→Bool
 | [],[]=>true
 | v :: vs,u :: us=>sameA v u && sameAs vs us
 | _,_=>false
def sameL:V→V→Bool
 | .fn f vs,.fn g us=>Nat.beq f g && sameAs vs us
 | v,u=>sameA v u
def sB:Nat:=400000
def savObjs:Nat→List V→List (Nat×Nat×Obj)
 | _,[]=>[]
 | i,v :: r=>(sB + i,0,.sav i v) :: savObjs (i + 1) r
def startR (n:Nat) (keepT keepK:List Nat) (vs:List V) (os:List (Option Obj)) (ps:List Nat) (xs:List V):St :=
 { tmps:={ length:=n,ups:=ps.zip xs ++ keepT.zip vs,dflt:=.junk },objs:=objsAt keepK os ++ savObjs 0 vs }
def savedR (keepK:List Nat) (lk:Lk):Nat→List V→Bool
 | _,[]=>true
 | i,v :: r=>(match lk (sB + i) with
   | some (_,.sav j u)=>Nat.beq i j && sameL v (u.mapT (renAtom keepK lk))
   | _=>false) && savedR keepK lk (i + 1) r
def noSav:List (Nat×Nat×Obj)→Bool
 | []=>true
 | (_,_,.sav _ _) :: _=>false
 | _ :: r=>noSav r
def endOkR (keepK:List Nat) (vs:List V) (st:St):Bool :=
 savedR keepK st.lk 0 vs && objsOk (objsAt keepK (keptO keepK st)) && noSav (objsAt keepK (keptO keepK st))
def ltAll (n:Nat):List Nat→Bool
 | []=>true
 | k :: r=>Nat.blt k n && ltAll n r
def smallK:List Nat→Bool
 | []=>true
 | k :: r=>Nat.blt k sB && smallK r
def rbodyWith (E:Code→Nat→St→(Ex→St→Option C)→Option C) (asg body:Code) (p n:Nat) (keepT keepK:List Nat) (vs:List V) (os:List (Option Obj)) (ps:List Nat) (xs:List V) (K:Ex→List (Option Obj)→Option C):Option C :=
 bif objsOk (objsAt keepK os) && Nat.beq ps.length xs.length && decide ps.Nodup && smallK keepK && ltAll n ps then
   E asg (2 * p) (startR n keepT keepK vs os ps xs) fun e st=>match e with
     | .normal=>E body (2 * p + 1) st fun e st=>bif endOkR keepK vs st then K e (keptO keepK st) else none
     | _=>none
 else none
def endR (R:RTold) (n:Nat) (keepT keepK:List Nat) (vs:List V) (K':Ex→St→Option C):List (Nat×Obj)→Option C
 | (_,.gh t' _ x) :: _=>if h:t' = R.t then R.fin (fun e os=>K' e (build n keepT keepK vs os)) (h ▸ x) else none
 | _=>none
def cbLk (lk:Lk):Option (Nat×FuncId×List Nat)→Lk
 | none=>lk
 | some c=>fun k=>bif Nat.beq k c.1 then (match lk k with | some (s,_)=>some (s,.box .leaf .nilf) | none=>none) else lk k
def cbSet (ks:List Nat) (l:List Obj):Option (Nat×FuncId×List Nat)→List Obj
 | none=>l
 | some c=>match idxK c.1 ks 1 with | some i=>l.set i (.box .leaf (.cb 1)) | none=>l
def capAt (tm:Tm) (lk:Lk) (keepT:List Nat):List Nat→List V→Bool
 | [],[]=>true
 | t :: ts,.ref k s [] :: cs=>(match tm t with | .ref k' s' []=>Nat.beq k k' && Nat.beq s s' | _=>false) && keepT.contains t && (match lk k with | some (s',.box _ _)=>Nat.beq s s' | _=>false) && capAt tm lk keepT ts cs
 | _,_=>false
def cbFit (tm:Tm) (lk:Lk) (keepT:List Nat):Option (Nat×FuncId×List Nat)→Bool
 | none=>true
 | some c=>match lk c.1 with
   | some (_,.box .leaf (.fn g caps))=>Nat.beq g c.2.1 && capAt tm lk keepT c.2.2 caps
   | _=>false
def evRange (Γ:Cfg) (R:RTold) (f:V) (n:Nat) (keepT keepK:List Nat) (st:St) (K':Ex→St→Option C):Option C :=
 match f with
 | .fn g caps=>match reachK (cbLk st.lk R.cb) 64 (caps.flatMap V.keysA) [],R.dec .normal (keptO keepK st) with
   | some ks,some x=>match objsOf st.lk ks with
     | some os=>bif fitAll (os.map (Obj.mapV (toG ks st.lk))) && noGh os && !meets ks keepK && objsOk (norm keepT keepK st).objs && noSav (norm keepT keepK st).objs && cbFit st.tm st.lk keepT R.cb then
         Γ.callX g (.cb 0 :: caps.map (V.mapA (toG ks st.lk))) (cbSet ks (.gh R.t ⟨R.run (keptV keepT keepK st),R.b,R.f (keptV keepT keepK st)⟩ x :: os.map (Obj.mapV (toG ks st.lk))) R.cb) fun _ outs _=>endR R n keepT keepK (keptV keepT keepK st) K' outs
       else none
     | none=>none
   | _,_=>none
 | _=>none
def staysF (keepK:List Nat) (lk:Lk):List V→Bool
 | []=>true
 | v :: r=>sameL v (v.mapT (renAtom keepK lk)) && staysF keepK lk r
def untup (b:Ty):V→Option b.T
 | .tup vs=>argsAs b vs
 | _=>none
def fbody (Γ:Cfg) (n:Nat) (keepT keepK:List Nat) (g:FuncId) (ts:List Nat) (vs:List V) (os:List (Option Obj)) (xs:List V) (K:V→List (Option Obj)→Option C):Option C :=
 evCallX Γ (build n keepT keepK vs os).lk 0 (.fn g (ts.map (build n keepT keepK vs os).tm)) xs fun e =>
   bif staysF keepK ((build n keepT keepK vs os).apply none e).lk vs && objsOk (norm [] keepK ((build n keepT keepK vs os).apply none e)).objs && noSav (norm [] keepK ((build n keepT keepK vs os).apply none e)).objs && e.val.scalar then
     K e.val (keptO keepK ((build n keepT keepK vs os).apply none e)) else none
def ev (Γ:Cfg) (an:Ann):Code→Nat→St→(Ex→St→Option C)→Option C
 | .skip,_,st,K'=>K' .normal st
 | .label _,_,st,K'=>K' .normal st
 | .region id ops draw,_,st,K'=>frz Γ (an.frzOf id) st fun st=>evOps Γ ops draw ops.toList st [] fun st=>frz Γ (an.frzOf (id + 1000000)) st fun st=>K' .normal st
 | .seq a b,p,st,K'=>ev Γ an a (2 * p) st fun e st=>match e with
   | .normal=>ev Γ an b (2 * p + 1) st K'
   | e=>K' e st
 | .cond c a b,p,st,K'=>match Γ.val st.tm c with
   | .dat .bool t=>bif t then ev Γ an a (2 * p) st K' else ev Γ an b (2 * p + 1) st K'
   | _=>none
 | .block id b,p,st,K'=>ev Γ an b (2 * p) st fun e st=>match e with
   | .exit id'=>if id' = id then K' .normal st else K' (.exit id') st
   | e=>K' e st
 | .loop b,p,st,K'=>match an.M p with
   | some f=>f.run st.tmps.length (keptV (an.keepOf p).1 (an.keepOf p).2 st) (keptO (an.keepOf p).2 st) K'
   | none=>match an.L p with
   | some f=>f.run st.tmps.length (keptV (an.keepOf p).1 (an.keepOf p).2 st) (keptO (an.keepOf p).2 st) K'
   | none=>bif objsOk (norm (an.keepOf p).1 (an.keepOf p).2 st).objs then
       iter (norm (an.keepOf p).1 (an.keepOf p).2) (fun k st=>ev Γ an b (2 * p) st fun e st=>match e with
         | .normal=>k st
         | e=>leave (an.outOf p).1 (an.outOf p).2 K' e st) (an.fuel p (keptV (an.keepOf p).1 (an.keepOf p).2 st) (keptO (an.keepOf p).2 st)) (norm (an.keepOf p).1 (an.keepOf p).2 st)
     else none
 | .scope b,p,st,K'=>bif an.sc then ev Γ an b (2 * p) st K' else none
 | .rangeFunc f _ _ _,p,st,K'=>match an.R p with
   | some R=>evRange Γ R (Γ.val st.tm f) st.tmps.length (an.keepOf p).1 (an.keepOf p).2 st K'
   | none=>none
 | .exit id,_,st,K'=>K' (.exit id) st
 | .ret,_,st,K'=>K' .ret st
 | _,_,_,_=>none
def loopRun (Γ:Cfg) (an:Ann) (b:Code) (p:Nat) (m:Nat) (st:St) (K':Ex→St→Option C):Option C :=
 iter (norm (an.keepOf p).1 (an.keepOf p).2) (fun k st=>ev Γ an b (2 * p) st fun e st=>match e with
   | .normal=>k st
   | e=>leave (an.outOf p).1 (an.outOf p).2 K' e st) m st
def loopEv (Γ:Cfg) (an:Ann) (b:Code) (p:Nat) (n:Nat) (vs:List V) (os:List (Option Obj)) (K':Ex→St→Option C):Option C :=
 bif objsOk (build n (an.keepOf p).1 (an.keepOf p).2 vs os).objs then loopRun Γ an b p (an.fuel p vs os) (build n (an.keepOf p).1 (an.keepOf p).2 vs os) K' else none
def loopBody:Option Code→Code
 | some (.loop b)=>b
 | _=>.skip
def codeAt (root:Code):Nat→Nat→Option Code
 | 0,_=>none
 | k + 1,p=>if p = 1 then some root else
   match codeAt root k (p / 2) with
   | some (.seq a b)=>if p % 2 = 0 then some a else some b
   | some (.cond _ a b)=>if p % 2 = 0 then some a else some b
   | some (.block _ b)=>if p % 2 = 0 then some b else none
   | some (.loop b)=>if p % 2 = 0 then some b else none
   | some (.scope b)=>if p % 2 = 0 then some b else none
   | some (.rangeFunc _ _ a b)=>if p % 2 = 0 then some a else some b
   | _=>none
def LOk0 (Γ:Cfg) (an:Ann) (root:Code):Prop :=
 ∀ p f,an.L p = some f→∀ k b,codeAt root k p = some (.loop b)→∀ {C:Type} n vs os (K':Ex→St→Option C) r,f.run n vs os K' = some r→loopEv Γ an b p n vs os K' = some r
def rbody (Γ:Cfg) (an:Ann) (asg body:Code) (p n:Nat) (vs:List V) (os:List (Option Obj)) (ps:List Nat) (xs:List V) (K:Ex→List (Option Obj)→Option C):Option C :=
 rbodyWith (ev Γ an.inR) asg body p n (an.keepOf p).1 (an.keepOf p).2 vs os ps xs K
structure FOk (Γ:Cfg) (an:Ann) (p:Nat) (R:RTold):Prop where
 none:R.cb = none→∀ vs x xs,R.f vs x xs = none
 some:∀ c,R.cb = some c→∀ vs x xs q,R.f vs x xs = some q→R.ex x = .normal ∧
   fbody Γ an.ntR (an.keepOf p).1 (an.keepOf p).2 c.2.1 c.2.2 vs (R.enc x) xs (fun rv os=>(R.dec .normal os).bind fun x'=>(untup R.b rv).map fun y=>(x',y)) = some q
def ROk (Γ:Cfg) (an:Ann) (root:Code):Prop :=
 ∀ p R,an.R p = some R→(∀ e os x,R.dec e os = some x→R.enc x = os∧R.ex x = e)∧(∀ {C:Type} (K:Ex→List (Option Obj)→Option C) x r,R.fin K x = some r→K (R.ex x) (R.enc x) = some r)∧FOk Γ an p R ∧
   ∀ k f ps asg body,codeAt root k p = some (.rangeFunc f ps asg body)→∀ n vs x xs r,n = an.ntR→R.run vs x xs = some r→R.ex x = .normal ∧
     rbody Γ an asg body p n vs (R.enc x) ps.toList xs (fun e os=>(R.dec e os).bind fun x'=>some (x',(match e with | .normal=>true | _=>false))) = some r
def resAtom (lk:Lk):V→V
 | .ref k s p=>match lk k with
   | some (s',o)=>if s = s' then (match o.get p with | some u=>if u.coll.atom then .eptr u.coll else .junk | none=>.junk) else .junk
   | none=>.junk
 | .sl e k s=>match lk k with
   | some (s',.vec e' xs)=>if s = s'∧e = e' then .dat (.lst e') xs else .junk
   | _=>.junk
 | .mp k s=>match lk k with
   | some (s',.map kt vt es)=>if s = s' then .dat (.map kt vt) es else .junk
   | _=>.junk
 | .row _ _ _ _=>.junk
 | .nils=>.junk
 | v=>v
def V.res (lk:Lk):V→V
 | .agg fs=>.agg (fs.map (V.mapL (resAtom lk)))
 | v=>v.mapL (resAtom lk)
def resVal (Γ:Cfg) (st:St) (T:TypeId):ResultVar→(V→Option C)→Option C
 | .tmp t,K'=>K' (nilArg Γ T ((st.tm t).res st.lk))
 | .cell a T',K'=>evLoad Γ st.lk T' (st.tm a) fun e=>K' (nilArg Γ T (e.val.res st.lk))
def resVals (Γ:Cfg) (st:St):List TypeId→List ResultVar→(List V→Option C)→Option C
 | T :: Ts,r :: rs,K'=>resVal Γ st T r fun v=>resVals Γ st Ts rs fun vs=>K' (v :: vs)
 | [],[],K'=>K' []
 | _,_,_=>none
def retV:List V→V
 | [v]=>v
 | vs=>.tup vs
def evFn (Γ:Cfg) (an:Ann) (fn:Func) (args:List V) (K':V→Option C):Option C :=
 match fn.body with
 | none=>none
 | some c=>ev Γ an c 1 { tmps:={ length:=args.length + (fn.ntmps - args.length),ups:=indexed 0 args,dflt:=.undef },objs:=[] } fun e st=>match e with
   | .exit _=>none
   | _=>resVals Γ st fn.resultTypes.toList fn.results.toList fun vs=>if puresOk vs then K' (retV vs) else none
def isGiven (n k:Nat):Bool:=Nat.ble gB k && Nat.blt k (gB + n)
def endKey (exp:List Nat) (n k:Nat):Option (Nat×Bool):=bif isGiven n k then some (k,true) else match idxK k exp 0 with | some j=>some (eB + j,false) | none=>none
def endAtom (exp:List Nat) (n:Nat) (lk:Lk):V→V
 | .ref k s p=>match endKey exp n k with
   | some q=>(match lk k with | some (s',_)=>if s = s' then .ref q.1 (bif q.2 then s else 0) p else .junk | none=>.junk)
   | none=>resAtom lk (.ref k s p)
 | .sl e k s=>match endKey exp n k with
   | some q=>(match lk k with | some (s',_)=>if s = s' then .sl e q.1 (bif q.2 then s else 0) else .junk | none=>.junk)
   | none=>resAtom lk (.sl e k s)
 | .mp k s=>match endKey exp n k with
   | some q=>(match lk k with | some (s',_)=>if s = s' then .mp q.1 (bif q.2 then s else 0) else .junk | none=>.junk)
   | none=>resAtom lk (.mp k s)
 | .row e k s p=>match endKey exp n k with
   | some q=>(match lk k with | some (s',_)=>if s = s' then .row e q.1 (bif q.2 then s else 0) p else .junk | none=>.junk)
   | none=>.junk
 | v=>v
def resValX (Γ:Cfg) (exp:List Nat) (n:Nat) (st:St) (T:TypeId):ResultVar→(V→Option C)→Option C
 | .tmp t,K'=>K' (nilArg Γ T ((st.tm t).mapT (endAtom exp n st.lk)))
 | .cell a T',K'=>evLoad Γ st.lk T' (st.tm a) fun e=>K' (nilArg Γ T (e.val.mapT (endAtom exp n st.lk)))
def resValsX (Γ:Cfg) (exp:List Nat) (n:Nat) (st:St):List TypeId→List ResultVar→(List V→Option C)→Option C
 | T :: Ts,r :: rs,K'=>resValX Γ exp n st T r fun v=>resValsX Γ exp n st Ts rs fun vs=>K' (v :: vs)
 | [],[],K'=>K' []
 | _,_,_=>none
def givenObjs:Nat→List Obj→List (Nat×Nat×Obj)
 | _,[]=>[]
 | i,o :: r=>(i,0,o) :: givenObjs (i + 1) r
def endObj (exp:List Nat) (n:Nat) (lk:Lk) (k:Nat):Option (Nat×Obj):=match lk k with
 | some q=>bif (q.2.mapV (endAtom exp n lk)).fitOk then some (q.1,q.2.mapV (endAtom exp n lk)) else none
 | none=>none
def endOuts (exp:List Nat) (n:Nat) (lk:Lk):Nat→Nat→Option (List (Nat×Obj))
 | _,0=>some []
 | k,m + 1=>match endObj exp n lk k,endOuts exp n lk (k + 1) m with
   | some q,some r=>some (q :: r)
   | _,_=>none
def endExs (exp:List Nat) (n:Nat) (lk:Lk):List Nat→Option (List Obj)
 | []=>some []
 | k :: r=>match endObj exp n lk k,endExs exp n lk r with
   | some q,some l=>some (q.2 :: l)
   | _,_=>none
def expOk (exp:List Nat):Bool:=decide exp.Nodup && exp.all fun k=>Nat.blt k gB || Nat.ble eB k
def noSavL:List Obj→Bool
 | []=>true
 | .sav _ _ :: _=>false
 | _ :: r=>noSavL r
def pickX (lk:Lk):List Nat→List Nat
 | m :: a :: b :: r=>bif Nat.beq m 999999999 then (match lk a with | some _=>a | none=>b) :: pickX lk r else m :: pickX lk (a :: b :: r)
 | r=>r
def evEndX (Γ:Cfg) (fn:Func) (exp:List Nat) (os:List Obj) (st:St) (K':V→List (Nat×Obj)→List Obj→Option C):Option C :=
 bif expOk exp then resValsX Γ exp os.length st fn.resultTypes.toList fn.results.toList fun vs=>match endOuts exp os.length st.lk gB os.length,endExs exp os.length st.lk exp with
   | some outs,some exs=>bif noTups vs then K' (retV vs) outs exs else none
   | _,_=>none
 else none
def evFnX (Γ:Cfg) (an:Ann) (fn:Func) (exp:List Nat) (args:List V) (os:List Obj) (K':V→List (Nat×Obj)→List Obj→Option C):Option C :=
 match fn.body with
 | none=>none
 | some c=>bif Nat.blt os.length 100000 && noSavL os then ev Γ an c 1 { tmps:={ length:=args.length + (fn.ntmps - args.length),ups:=indexed 0 args,dflt:=.undef },objs:=givenObjs gB os } fun e st=>match e with
   | .exit _=>none
   | _=>evEndX Γ fn (pickX st.lk exp) os st K'
   else none
end Go.Pv
