/- The purifying layer, part 3: regions, code, functions. -/
import Derived.Test.YtcfhdpbebiibjaaDoorPvB
set_option linter.unusedVariables false
set_option linter.unusedSimpArgs false
namespace Go.Pv
variable {C : Type}

/-! ### Renaming within values -/
def V.mapA (f : V → V) : V → V
  | .ref k s p => f (.ref k s p)
  | .sl e k s => f (.sl e k s)
  | .mp k s => f (.mp k s)
  | v => v
def V.mapL (f : V → V) : V → V
  | .fn g caps => .fn g (caps.map (V.mapA f))
  | v => v.mapA f
def V.mapG (f : V → V) : V → V
  | .agg fs => .agg (fs.map (V.mapL f))
  | v => v.mapL f
def V.mapT (f : V → V) : V → V
  | .tup vs => .tup (vs.map (V.mapG f))
  | v => v.mapG f
def Obj.mapV (f : V → V) : Obj → Obj
  | .box k c => .box k (c.mapG f)
  | o => o

/-- What an atom becomes when object k, as it stands, is frozen. -/
def frzAtom (Γ : Cfg) (key cur : Nat) (o : Obj) : V → V
  | .ref k s p => if k = key then (if s = cur then (match o.get p with
      | some u => if (u.coll.toClo Γ).atom then .eptr (u.coll.toClo Γ) else .junk
      | none => .junk) else .junk) else .ref k s p
  | .sl e k s => if k = key then (if s = cur then (match o with
      | .vec e' xs => if e = e' then .dat (.lst e') xs else .junk
      | _ => .junk) else .junk) else .sl e k s
  | .mp k s => if k = key then (if s = cur then (match o with
      | .map kt vt es => .dat (.map kt vt) es
      | _ => .junk) else .junk) else .mp k s
  | v => v
def delObj (k : Nat) (l : List (Nat × Nat × Obj)) : List (Nat × Nat × Obj) := l.filter fun q => q.1 != k
def Obj.fitOk : Obj → Bool
  | .box k c => c.fits k
  | _ => true
def objsOk : List (Nat × Nat × Obj) → Bool
  | [] => true
  | q :: r => q.2.2.fitOk && objsOk r
/-- May it be frozen? A box must hold data, or a function. -/
def Obj.frzOk (Γ : Cfg) : Obj → Bool
  | .box _ c => (c.coll.toClo Γ).atom
  | _ => true
def frz1 (Γ : Cfg) (k : Nat) (st : St) : Option St :=
  match st.lk k with
  | some (s, o) => bif o.frzOk Γ && objsOk ((delObj k st.objs).map fun q => (q.1, q.2.1, q.2.2.mapV (frzAtom Γ k s o))) then
      some { tmps := st.tmps.mapV (V.mapT (frzAtom Γ k s o)), objs := (delObj k st.objs).map fun q => (q.1, q.2.1, q.2.2.mapV (frzAtom Γ k s o)) } else none
  | none => some st
def frz (Γ : Cfg) : List Nat → St → Option St
  | [], st => some st
  | k :: r, st => match frz1 Γ k st with | some st' => frz Γ r st' | none => none

/-- At a loop's head: what is not kept is forgotten, stamps begin anew. -/
def renAtom (keep : List Nat) (lk : Lk) : V → V
  | .ref k s p => if keep.contains k then (match lk k with | some (s', _) => if s = s' then .ref k 0 p else .junk | none => .junk) else .junk
  | .sl e k s => if keep.contains k then (match lk k with | some (s', _) => if s = s' then .sl e k 0 else .junk | none => .junk) else .junk
  | .mp k s => if keep.contains k then (match lk k with | some (s', _) => if s = s' then .mp k 0 else .junk | none => .junk) else .junk
  | v => v
def keptV (keepT keepK : List Nat) (st : St) : List V := keepT.map fun t => (st.tm t).mapT (renAtom keepK st.lk)
def keptO (keepK : List Nat) (st : St) : List (Option Obj) := keepK.map fun k => (st.lk k).map fun q => q.2.mapV (renAtom keepK st.lk)
def objsAt : List Nat → List (Option Obj) → List (Nat × Nat × Obj)
  | k :: ks, some o :: os => (k, 0, o) :: objsAt ks os
  | _ :: ks, none :: os => objsAt ks os
  | _, _ => []
def build (n : Nat) (keepT keepK : List Nat) (vs : List V) (os : List (Option Obj)) : St := { tmps := { length := n, ups := keepT.zip vs, dflt := .junk }, objs := objsAt keepK os }
def norm (keepT keepK : List Nat) (st : St) : St := build st.tmps.length keepT keepK (keptV keepT keepK st) (keptO keepK st)

/-! ### Regions -/
def V.keysA : V → List Nat
  | .ref k _ _ | .sl _ k _ | .mp k _ => [k]
  | _ => []
def V.keysL : V → List Nat
  | .fn _ caps => caps.flatMap V.keysA
  | v => v.keysA
def V.keysG : V → List Nat
  | .agg fs => fs.flatMap V.keysL
  | v => v.keysL
def V.keysT : V → List Nat
  | .tup vs => vs.flatMap V.keysG
  | v => v.keysG

structure Foot where
  dst : Option Tmp
  tmps : List Tmp
  keys : List Nat
  wkeys : List Nat

def opTmps (ops : Array Oper) (o : Oper) : List Tmp :=
  (o.op.operands.toList.filterMap fun | .tmp t => some t | _ => none) ++
  (match o.guard with
   | some (g, _) => ((ops[g]?).bind (·.dst)).toList
   | none => [])
def footOf (Γ : Cfg) (ops : Array Oper) (o : Oper) (tm : Tm) (e : Eff) : Foot :=
  { dst := o.dst, tmps := opTmps ops o, keys := (o.op.operands.toList.flatMap fun x => (Γ.val tm x).keysT) ++ e.wr.map (·.1), wkeys := e.wr.map (·.1) }
def meets (a b : List Nat) : Bool := a.any fun x => b.contains x
def Foot.clash (a b : Foot) : Bool :=
  (match a.dst with | some d => b.tmps.contains d || b.dst == some d | none => false) ||
  (match b.dst with | some d => a.tmps.contains d | none => false) ||
  meets a.wkeys b.keys || meets b.wkeys a.keys
/-- What must have been done before an operation, as bits. -/
def bef1 (acc : List Nat) (o : Oper) : Nat := o.after.toList.foldl (fun s e => if Region.binds .any e then s ||| 2 ^ e.on ||| acc.getD e.on 0 else s) 0
def befores : List Oper → List Nat → List Nat
  | [], acc => acc
  | o :: r, acc => befores r (acc ++ [bef1 acc o])
def edgesOk : Nat → List Oper → Bool
  | _, [] => true
  | i, o :: r => (o.after.toList.all fun e => !Region.binds .any e || decide (e.on < i)) && edgesOk (i + 1) r
/-- Whatever clashes is in order. -/
def clashesOk (bf : List Nat) (i : Nat) (f : Foot) : Nat → List Foot → Bool
  | _, [] => true
  | j, g :: r => (!(f.clash g) || (bf.getD j 0).testBit i) && clashesOk bf i f (j + 1) r
def feetOk (bf : List Nat) : Nat → List Foot → Bool
  | _, [] => true
  | i, f :: r => clashesOk bf i f (i + 1) r && feetOk bf (i + 1) r

def guardTmp (ops : Array Oper) (j : Nat) : Option Tmp := (ops[j]?).bind (·.dst)

def skipFoot (ops : Array Oper) (o : Oper) : Foot := { dst := o.dst, tmps := opTmps ops o, keys := [], wkeys := [] }
/-- Who writes objects, and which. -/
def writersOf : Nat → List Foot → List (Nat × List Nat)
  | _, [] => []
  | i, f :: r => bif f.wkeys.isEmpty then writersOf (i + 1) r else (i, f.wkeys) :: writersOf (i + 1) r
/-- One that writes is in order with all that look. -/
def keyRow (bf : List Nat) (i : Nat) (w : List Nat) : Nat → List Foot → Bool
  | _, [] => true
  | j, g :: r => (!(meets w g.keys) || Nat.beq i j || (bif Nat.blt i j then (bf.getD j 0).testBit i else (bf.getD i 0).testBit j)) && keyRow bf i w (j + 1) r
def keysOk (bf : List Nat) (fs : List Foot) : Bool := (writersOf 0 fs).all fun q => keyRow bf q.1 q.2 0 fs
/-- Slots: once for the region; objects: as the operations were carried out. -/
def footsOk (ops : Array Oper) (fs : List Foot) : Bool :=
  edgesOk 0 ops.toList && feetOk (befores ops.toList []) 0 (ops.toList.map (skipFoot ops)) && keysOk (befores ops.toList []) fs
/-- The operations in the order of the text. -/
def evOps (Γ : Cfg) (ops : Array Oper) (draw : Bool) : List Oper → St → List Foot → (St → Option C) → Option C
  | [], st, fs, K' => bif draw then (bif footsOk ops fs.reverse then K' st else none) else K' st
  | o :: r, st, fs, K' =>
    match o.guard with
    | none => evOp Γ o st.tm st.lk fun e => evOps Γ ops draw r (st.apply o.dst e) (bif draw then footOf Γ ops o st.tm e :: fs else fs) K'
    | some (j, want) => match guardTmp ops j with
      | none => none
      | some g => match st.tm g with
        | .undef => evOps Γ ops draw r (st.apply o.dst { val := .undef }) (bif draw then skipFoot ops o :: fs else fs) K'
        | .dat .bool b =>
          bif b then
            (bif want then evOp Γ o { st with tmps := st.tmps.put g (.dat .bool true) : St }.tm st.lk fun e => evOps Γ ops draw r (St.apply { st with tmps := st.tmps.put g (.dat .bool true) } o.dst e) (bif draw then footOf Γ ops o { st with tmps := st.tmps.put g (.dat .bool true) : St }.tm e :: fs else fs) K'
             else evOps Γ ops draw r (St.apply { st with tmps := st.tmps.put g (.dat .bool true) } o.dst { val := .undef }) (bif draw then skipFoot ops o :: fs else fs) K')
          else
            (bif want then evOps Γ ops draw r (St.apply { st with tmps := st.tmps.put g (.dat .bool false) } o.dst { val := .undef }) (bif draw then skipFoot ops o :: fs else fs) K'
             else evOp Γ o { st with tmps := st.tmps.put g (.dat .bool false) : St }.tm st.lk fun e => evOps Γ ops draw r (St.apply { st with tmps := st.tmps.put g (.dat .bool false) } o.dst e) (bif draw then footOf Γ ops o { st with tmps := st.tmps.put g (.dat .bool false) : St }.tm e :: fs else fs) K')
        | _ => none

/-! ### Code -/
inductive Ex where
  | normal
  | exit (id : Nat)
  | ret
  deriving DecidableEq

/-- A loop, told from outside. -/
structure LoopFn where
  run : {C : Type} → Nat → List V → List (Option Obj) → (Ex → St → Option C) → Option C
structure Ann where
  loops : List (Nat × (List Nat × List Nat) × (List Nat × List Nat)) := []
  frz : List (Nat × List Nat) := []
  L : Nat → Option LoopFn := fun _ => none
  fuel : Nat → List V → List (Option Obj) → Nat := fun _ _ _ => 1073741824

def findP {α : Type} (p : Nat) : List (Nat × α) → Option α
  | [] => none
  | q :: r => bif Nat.beq q.1 p then some q.2 else findP p r
def Ann.keepOf (an : Ann) (p : Nat) : List Nat × List Nat := match findP p an.loops with | some q => q.1 | none => ([], [])
def Ann.outOf (an : Ann) (p : Nat) : List Nat × List Nat := match findP p an.loops with | some q => q.2 | none => ([], [])
def Ann.frzOf (an : Ann) (p : Nat) : List Nat := match findP p an.frz with | some q => q | none => []
/-- A loop is left: what is not kept is forgotten. -/
def leave (kT kK : List Nat) (K' : Ex → St → Option C) (e : Ex) (st : St) : Option C := bif objsOk (norm kT kK st).objs then K' e (norm kT kK st) else none

def iter (nm : St → St) (F : (St → Option C) → St → Option C) : Nat → St → Option C
  | 0, _ => none
  | n + 1, st => F (fun st' => bif objsOk (nm st').objs then iter nm F n (nm st') else none) st

def ev (Γ : Cfg) (an : Ann) : Code → Nat → St → (Ex → St → Option C) → Option C
  | .skip, _, st, K' => K' .normal st
  | .label _, _, st, K' => K' .normal st
  | .region id ops draw, _, st, K' => match frz Γ (an.frzOf id) st with
    | some st => evOps Γ ops draw ops.toList st [] (K' .normal)
    | none => none
  | .seq a b, p, st, K' => ev Γ an a (2 * p) st fun e st => match e with
    | .normal => ev Γ an b (2 * p + 1) st K'
    | e => K' e st
  | .cond c a b, p, st, K' => match Γ.val st.tm c with
    | .dat .bool t => bif t then ev Γ an a (2 * p) st K' else ev Γ an b (2 * p + 1) st K'
    | _ => none
  | .block id b, p, st, K' => ev Γ an b (2 * p) st fun e st => match e with
    | .exit id' => if id' = id then K' .normal st else K' (.exit id') st
    | e => K' e st
  | .loop b, p, st, K' => match an.L p with
    | some f => f.run st.tmps.length (keptV (an.keepOf p).1 (an.keepOf p).2 st) (keptO (an.keepOf p).2 st) K'
    | none => bif objsOk (norm (an.keepOf p).1 (an.keepOf p).2 st).objs then
        iter (norm (an.keepOf p).1 (an.keepOf p).2) (fun k st => ev Γ an b (2 * p) st fun e st => match e with
          | .normal => k st
          | e => leave (an.outOf p).1 (an.outOf p).2 K' e st) (an.fuel p (keptV (an.keepOf p).1 (an.keepOf p).2 st) (keptO (an.keepOf p).2 st)) (norm (an.keepOf p).1 (an.keepOf p).2 st)
      else none
  | .scope b, p, st, K' => ev Γ an b (2 * p) st K'
  | .exit id, _, st, K' => K' (.exit id) st
  | .ret, _, st, K' => K' .ret st
  | _, _, _, _ => none

/-- A loop, gone through. -/
def loopRun (Γ : Cfg) (an : Ann) (b : Code) (p : Nat) (m : Nat) (st : St) (K' : Ex → St → Option C) : Option C :=
  iter (norm (an.keepOf p).1 (an.keepOf p).2) (fun k st => ev Γ an b (2 * p) st fun e st => match e with
    | .normal => k st
    | e => leave (an.outOf p).1 (an.outOf p).2 K' e st) m st
def loopEv (Γ : Cfg) (an : Ann) (b : Code) (p : Nat) (n : Nat) (vs : List V) (os : List (Option Obj)) (K' : Ex → St → Option C) : Option C :=
  bif objsOk (build n (an.keepOf p).1 (an.keepOf p).2 vs os).objs then loopRun Γ an b p (an.fuel p vs os) (build n (an.keepOf p).1 (an.keepOf p).2 vs os) K' else none

def loopBody : Option Code → Code
  | some (.loop b) => b
  | _ => .skip
/-- Where a path leads within code. -/
def codeAt (root : Code) : Nat → Nat → Option Code
  | 0, _ => none
  | k + 1, p => if p = 1 then some root else
    match codeAt root k (p / 2) with
    | some (.seq a b) => if p % 2 = 0 then some a else some b
    | some (.cond _ a b) => if p % 2 = 0 then some a else some b
    | some (.block _ b) => if p % 2 = 0 then some b else none
    | some (.loop b) => if p % 2 = 0 then some b else none
    | some (.scope b) => if p % 2 = 0 then some b else none
    | _ => none
/-- Loops that are told from outside are so. -/
def LOk (Γ : Cfg) (an : Ann) (root : Code) : Prop :=
  ∀ p f, an.L p = some f → ∀ k b, codeAt root k p = some (.loop b) → ∀ {C : Type} n vs os (K' : Ex → St → Option C) r, f.run n vs os K' = some r → loopEv Γ an b p n vs os K' = some r

/-! ### Functions -/
/-- When an activation ends, whatever it owns is written no more. -/
def resAtom (lk : Lk) : V → V
  | .ref k s p => match lk k with
    | some (s', o) => if s = s' then (match o.get p with | some u => if u.coll.atom then .eptr u.coll else .junk | none => .junk) else .junk
    | none => .junk
  | .sl e k s => match lk k with
    | some (s', .vec e' xs) => if s = s' ∧ e = e' then .dat (.lst e') xs else .junk
    | _ => .junk
  | .mp k s => match lk k with
    | some (s', .map kt vt es) => if s = s' then .dat (.map kt vt) es else .junk
    | _ => .junk
  | .nils => .junk
  | v => v
def V.res (lk : Lk) : V → V
  | .agg fs => .agg (fs.map (V.mapL (resAtom lk)))
  | v => v.mapL (resAtom lk)

def resVal (Γ : Cfg) (st : St) (T : TypeId) : ResultVar → (V → Option C) → Option C
  | .tmp t, K' => K' (nilArg Γ T ((st.tm t).res st.lk))
  | .cell a T', K' => evLoad Γ st.lk T' (st.tm a) fun e => K' (nilArg Γ T (e.val.res st.lk))
def resVals (Γ : Cfg) (st : St) : List TypeId → List ResultVar → (List V → Option C) → Option C
  | T :: Ts, r :: rs, K' => resVal Γ st T r fun v => resVals Γ st Ts rs fun vs => K' (v :: vs)
  | [], [], K' => K' []
  | _, _, _ => none

def retV : List V → V
  | [v] => v
  | vs => .tup vs

def evFn (Γ : Cfg) (an : Ann) (fn : Func) (args : List V) (K' : V → Option C) : Option C :=
  match fn.body with
  | none => none
  | some c => ev Γ an c 1 { tmps := { length := args.length + (fn.ntmps - args.length), ups := indexed 0 args, dflt := .undef }, objs := [] } fun e st => match e with
    | .exit _ => none
    | _ => resVals Γ st fn.resultTypes.toList fn.results.toList fun vs => if puresOk vs then K' (retV vs) else none

end Go.Pv
