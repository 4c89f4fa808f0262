/- The purifying layer, part 29: loops over maps, told from outside. -/
import Derived.Test.YtiinfljjfceckaaDoorPvAA
set_option linter.unusedVariables false
set_option linter.unusedSimpArgs false
namespace Go.Pv
open Go.ChangeMaps (setBlock)
variable {P:Program} {Γ:Cfg} {C:Type} {cx:Cx} {tm:Tm} {lk:Lk} {a:Act} {w:World} {Fz:Nat→Prop} {pos:Nat→Value} {U:Nat→Prop}
def z9D {α:Type} (es:List α) (seen:List Nat):Bool:=(List.range es.length).all fun i=>seen.contains i
def z5N {X E:Type} (step:E→X→List E→List Nat→Option (X×List E×List Nat)):Nat→X→List E→List Nat→X→Prop
 | 0,x,es,seen,xf=>z9D es seen = true∧xf = x
 | m + 1,x,es,seen,xf=>(z9D es seen = true∧xf = x) ∨ (z9D es seen = false∧∀ i q,es[i]? = some q→seen.contains i = false→∃ y,step q x es (seen ++ [i]) = some y∧z5N step m y.1 y.2.1 y.2.2 xf)
open Classical in
noncomputable def mall {X E:Type} (step:E→X→List E→List Nat→Option (X×List E×List Nat)) (x:X) (es:List E):Option X :=
 if h:∃ xf,∃ m,z5N step m x es [] xf then some h.choose else none
noncomputable def mrun {X E:Type} (step:E→X→List E→List Nat→Option (X×List E×List Nat)) (x:X) (es:List E):Option X :=
 match es with
 | []=>some x
 | [q]=>(step q x [q] [0]).bind fun y=>bif z9D y.2.1 y.2.2 then some y.1 else mall step x [q]
 | es=>mall step x es
theorem z5N.fun {X E:Type} {step:E→X→List E→List Nat→Option (X×List E×List Nat)}:∀ (m m':Nat) (x:X) (es:List E) (seen:List Nat) (a b:X),z5N step m x es seen a→z5N step m' x es seen b→a = b
 | 0,0,x,es,seen,a,b,h,k=>h.2.trans k.2.symm
 | 0,m' + 1,x,es,seen,a,b,h,k=>by
   rcases k with k | k
   · exact h.2.trans k.2.symm
   · rw [h.1] at k;exact absurd k.1 (by simp)
 | m + 1,0,x,es,seen,a,b,h,k=>by
   rcases h with h | h
   · exact h.2.trans k.2.symm
   · rw [k.1] at h;exact absurd h.1 (by simp)
 | m + 1,m' + 1,x,es,seen,a,b,h,k=>by
   rcases h with h | h <;> rcases k with k | k
   · exact h.2.trans k.2.symm
   · rw [h.1] at k;exact absurd k.1 (by simp)
   · rw [k.1] at h;exact absurd h.1 (by simp)
   · obtain ⟨i,q,hi,hs⟩:∃ i q,es[i]? = some q∧seen.contains i = false:=by
       have:=h.1
       unfold z9D at this
       rw [List.all_eq_false] at this
       obtain ⟨i,hi,hc⟩:=this
       have hi:i < es.length:=by simpa using hi
       exact ⟨i,es[i],by simp [hi],by simpa using hc⟩
     obtain ⟨y,hy,hr⟩:=h.2 i q hi hs
     obtain ⟨z,hz,kr⟩:=k.2 i q hi hs
     rw [hy] at hz
     simp only [Option.some.injEq] at hz
     subst hz
     exact z5N.fun m m' _ _ _ a b hr kr
structure z2P where
 nt:Nat
 d:Nat
 t0:Nat
 t1:Nat
 t2:Nat
 id:Nat
 kt:Ty
 vt:Ty
 sv:List Sh1
 so:List OSh
 kT:List Nat
 kK:List Nat
 oT:List Nat
 oK:List Nat
 step:(kt.T×vt.T)→(q0I sv×q0E so)→List (kt.T×vt.T)→List Nat→Option ((q0I sv×q0E so)×List (kt.T×vt.T)×List Nat)
 out:q0I sv×q0E so→St
abbrev z2P.X (t:z2P):Type:=q0I t.sv×q0E t.so
abbrev z2P.E (t:z2P):Type:=t.kt.T×t.vt.T
def z2P.head (t:z2P) (x:t.X) (es:List t.E) (seen:List Nat) (cur:Option t.E):St :=
 build t.nt (t.t0 :: t.kT) (t.d :: t.kK) (.ref t.d 0 [] :: put1 t.sv x.1) (some (.mi t.kt t.vt es seen cur) :: putO t.so x.2)
def z2P.over (t:z2P) (x:t.X) (es:List t.E) (seen:List Nat) (cur:Option t.E):St :=
 ((t.head x es seen cur).apply (some t.t1) { val:=.tup [.dat .bool false] }).apply (some t.t2) { val:=.dat .bool false }
def z2P.met (t:z2P) (x:t.X) (q:t.E) (es:List t.E) (seen:List Nat):St :=
 ((t.head x es [] none).apply (some t.t1) { val:=.tup [.dat .bool true,.dat t.kt q.1,.dat t.vt q.2],wr:=[(t.d,0,.mi t.kt t.vt es seen (some q))] }).apply (some t.t2) { val:=.dat .bool true }
def z2P.back (t:z2P) (st:St):Option (t.X×List t.E×List Nat) :=
 bif q1L (norm (t.t0 :: t.kT) (t.d :: t.kK) st).objs then
   match get1 (.a (.ref t.d 0 []) :: t.sv) (z1R (t.t0 :: t.kT) (t.d :: t.kK) st),getO (.mi t.kt t.vt :: t.so) (z0Y (t.d :: t.kK) st) with
   | some x,some y=>some ((x.2,y.2),y.1.1,y.1.2.1)
   | _,_=>none
 else none
noncomputable def z2P.fn (t:z2P):j1Q:=⟨fun n vs os K'=>bif Nat.beq n t.nt then
   (match get1 (.a (.ref t.d 0 []) :: t.sv) vs,getO (.mi t.kt t.vt :: t.so) os with
   | some x,some y=>(match y.1.2.1 with
     | []=>(mrun t.step (x.2,y.2) y.1.1).bind fun xf=>K' (.exit t.id) (t.out xf)
     | _=>none)
   | _,_=>none) else none⟩
structure MToldOk (Γ:Cfg) (an:Ann) (root:Code) (p:Nat) (t:z2P):Prop where
 keep:an.q0K p = (t.t0 :: t.kT,t.d :: t.kK)
 pos:Nat.ble 1 p = true
 lt:Nat.blt t.t1 t.nt = true
 ne:Nat.beq t.t0 t.t1 = false
 fit:∀ x es seen cur,q1L (t.head x es seen cur).objs = true
 outfit:∀ x,q1L (t.out x).objs = true
 outs:∀ x es seen cur,norm t.oT t.oK (t.over x es seen cur) = t.out x
 code:∃ rid ops o1 o2 c2,q0G root 64 p = some (.loop (.seq (.region rid ops false) c2))∧ops.toList = [o1,o2]∧o1.op = .next (.tmp t.t0) false∧o1.dst = some t.t1∧o1.guard = none∧o2.op = .extract (.tmp t.t1) 0∧o2.dst = some t.t2∧o2.guard = none ∧
   (∀ x q es seen,ev Γ an.inM c2 (2 * (2 * p) + 1) (t.met x q es seen) (fun e st=>match e with | .normal=>t.back st | _=>none) = t.step q x es seen) ∧
   (∀ x es seen cur,ev Γ an.inM c2 (2 * (2 * p) + 1) (t.over x es seen cur) (fun e st=>match e with | .exit i=>bif Nat.beq i t.id then some st else none | _=>none) = some (t.over x es seen cur))
end Go.Pv
