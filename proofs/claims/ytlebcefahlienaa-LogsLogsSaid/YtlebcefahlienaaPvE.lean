/- The purifying layer, part 5: abstract values in a world, and the relation between abstract and real states. -/
import Derived.Test.YtlebcefahlienaaPvD
import Derived.RangeFuncIn
import Derived.RangeFuncSeq
set_option linter.unusedVariables false
set_option linter.unusedSimpArgs false
namespace Go.Pv
def Pt {α β:Type} (R:α→β→Prop):List α→List β→Prop
 | [],ys=>ys = []
 | x :: xs,ys=>∃ y r,ys = y :: r∧R x y∧Pt R xs r
theorem Pt.mono {α β:Type} {R R':α→β→Prop} (h:∀ x y,R x y→R' x y):∀ (xs:List α) (ys:List β),Pt R xs ys→Pt R' xs ys
 | [],_,hc=>hc
 | x :: xs,ys,⟨y,r,he,h1,h2⟩=>⟨y,r,he,h _ _ h1,Pt.mono h xs r h2⟩
theorem Pt.length {α β:Type} {R:α→β→Prop}:∀ (xs:List α) (ys:List β),Pt R xs ys→ys.length = xs.length
 | [],_,hc=>by subst hc;rfl
 | x :: xs,ys,⟨y,r,he,h1,h2⟩=>by subst he;simp [Pt.length xs r h2]
theorem Pt.append {α β:Type} {R:α→β→Prop}:∀ (xs:List α) (ys:List β) (xs':List α) (ys':List β),Pt R xs ys→Pt R xs' ys'→Pt R (xs ++ xs') (ys ++ ys')
 | [],ys,xs',ys',h,h'=>by have:ys = []:=h;subst this;exact h'
 | x :: xs,ys,xs',ys',⟨y,r,he,h1,h2⟩,h'=>by subst he;exact ⟨y,r ++ ys',rfl,h1,Pt.append xs r xs' ys' h2 h'⟩
theorem Pt.get {α β:Type} {R:α→β→Prop}:∀ (xs:List α) (ys:List β),Pt R xs ys→∀ (i:Nat) (x:α),xs[i]? = some x→∃ y,ys[i]? = some y∧R x y
 | [],_,_,i,x,h=>by simp at h
 | x :: xs,ys,⟨y,r,he,h1,h2⟩,0,z,h=>by subst he;simp at h;subst h;exact ⟨y,rfl,h1⟩
 | x :: xs,ys,⟨y,r,he,h1,h2⟩,i + 1,z,h=>by subst he;simp at h;obtain ⟨u,hu,hR⟩:=Pt.get xs r h2 i z h;exact ⟨u,by simpa using hu,hR⟩
theorem Pt.map {α β γ:Type} {R:α→β→Prop} {R':γ→β→Prop} (f:α→γ) (h:∀ x y,R x y→R' (f x) y):∀ (xs:List α) (ys:List β),Pt R xs ys→Pt R' (xs.map f) ys
 | [],_,hc=>hc
 | x :: xs,ys,⟨y,r,he,h1,h2⟩=>⟨y,r,he,h _ _ h1,Pt.map f h xs r h2⟩
theorem All2.map {α γ:Type} {R:α→List Value→Prop} {R':γ→List Value→Prop} (f:α→γ) (h:∀ x y,R x y→R' (f x) y):∀ (xs:List α) (ys:List Value),All2 R xs ys→All2 R' (xs.map f) ys
 | [],_,hc=>hc
 | x :: xs,ys,⟨y,r,he,h1,h2⟩=>⟨y,r,he,h _ _ h1,All2.map f h xs r h2⟩
structure Step (Fz:Nat→Prop) (w:World) (Fz':Nat→Prop) (w':World):Prop where
 os:w'.os = w.os
 tape:w'.tape = w.tape
 output:w'.output = w.output
 size:w.heap.size ≤ w'.heap.size
 block:∀ b,b < w.heap.size→w'.heap[b]? = w.heap[b]?
 fz:∀ b,b < w.heap.size→(Fz' b ↔ Fz b)
 lt:∀ b,Fz' b→b < w'.heap.size
theorem Step.refl {Fz:Nat→Prop} {w:World} (h:∀ b,Fz b→b < w.heap.size):Step Fz w Fz w:=⟨rfl,rfl,rfl,Nat.le_refl _,fun _ _=>rfl,fun _ _=>Iff.rfl,h⟩
theorem Step.trans {F1 F2 F3:Nat→Prop} {a b c:World} (h:Step F1 a F2 b) (k:Step F2 b F3 c):Step F1 a F3 c :=
 ⟨k.os.trans h.os,k.tape.trans h.tape,k.output.trans h.output,Nat.le_trans h.size k.size,fun x hx=>(k.block x (Nat.lt_of_lt_of_le hx h.size)).trans (h.block x hx),
  fun x hx=>(k.fz x (Nat.lt_of_lt_of_le hx h.size)).trans (h.fz x hx),k.lt⟩
theorem Step.fut {Fz Fz':Nat→Prop} {w w':World} (h:Step Fz w Fz' w') (hl:∀ b,Fz b→b < w.heap.size):Fut Fz w Fz' w' :=
 fun b hb=>⟨(h.fz b (hl b hb)).2 hb,h.block b (hl b hb)⟩
section
variable (P:Program) (G:Nat→Option V)
def GlobC (Fz:Nat→Prop) (w:World):Prop :=
 ∀ g t x,G g = some (.dat t x)→Fz g∧∃ c T fz cells,w.heap[g]? = some (.cells c T fz)∧RepC Fz w t x cells∧cells <+: c.toList
structure Inv (Fz:Nat→Prop) (w:World):Prop where
 lt:∀ b,Fz b→b < w.heap.size
 glob:GlobC G Fz w
variable {G}
theorem Inv.step {Fz Fz':Nat→Prop} {w w':World} (h:Inv G Fz w) (hs:Fut Fz w Fz' w') (hl:∀ b,Fz' b→b < w'.heap.size):Inv G Fz' w' :=
 ⟨hl,fun g t x hg=>let ⟨hf,c,T,fz,cells,h1,h2,h3⟩:=h.glob g t x hg;⟨(hs g hf).1,c,T,fz,cells,(hs g hf).2.trans h1,h2.mono hs,h3⟩⟩
variable (G)
def CallsT (f:FuncId) (args:Array Value) (Fz:Nat→Prop) (w:World) (R:(Nat→Prop)→World→Value→Prop):Prop :=
 Calls P f args w fun e w'=>∃ v Fz',e = .returned v∧Step Fz w Fz' w'∧R Fz' w' v
def RepArgs (Fz:Nat→Prop) (w:World):(a:Ty)→a.T→List Value→Prop
 | .unit,_,vs=>vs = []
 | .pair t u,x,vs=>∃ v r,vs = v :: r∧RepD Fz w t x.1 v∧RepArgs Fz w u x.2 r
 | _,_,_=>False
def HasBody (P : Program) (f : FuncId) : Prop := ∃ fn, P.funcs[f]? = some fn ∧ fn.body.isSome = true ∧ (fn.name == "runtime.NumGoroutine") = false
def CloOk (Fz:Nat→Prop) (w:World) (f:FuncId) (fi caps:Array Value) (a b:Ty) (g:a.T→Option b.T):Prop :=
 HasBody P f∧∀ Fz' w',Fut Fz w Fz' w'→Inv G Fz' w'→∀ x vs y,RepArgs Fz' w' a x vs→g x = some y→CallsT P f (fi ++ vs.toArray ++ caps) Fz' w' fun Fz'' w'' v=>RepD Fz'' w'' b y v
def RepA0 (Fz:Nat→Prop) (w:World):V→Value→Prop
 | .dat t x,v=>RepD Fz w t x v
 | .clo a b g,v=>∃ f fi caps,v = .func (.func f) fi caps∧CloOk P G Fz w f fi caps a b g
 | .nilf,v=>v = .nilFunc
 | _,_=>False
def RepP (Fz:Nat→Prop) (w:World):V→List Value→Prop
 | .dat t x,cs=>RepC Fz w t x cs
 | v,cs=>∃ u,cs = [u]∧RepA0 P G Fz w v u
end
theorem CloOk.mono {P:Program} {G:Nat→Option V} {Fz Fz':Nat→Prop} {w w':World} (hf:Fut Fz w Fz' w') {f:FuncId} {fi caps:Array Value} {a b:Ty} {g:a.T→Option b.T}
   (h:CloOk P G Fz w f fi caps a b g):CloOk P G Fz' w' f fi caps a b g:=⟨h.1,fun F2 w2 hf2=>h.2 F2 w2 (hf.trans hf2)⟩
theorem RepA0.mono {P:Program} {G:Nat→Option V} {Fz Fz':Nat→Prop} {w w':World} (hf:Fut Fz w Fz' w'):∀ (v:V) (u:Value),RepA0 P G Fz w v u→RepA0 P G Fz' w' v u:=by
 intro v u h
 cases v <;> simp only [RepA0] at h ⊢ <;> first | exact h | exact h.mono hf | exact h.elim | skip
 obtain ⟨f,fi,caps,h1,h2⟩:=h
 exact ⟨f,fi,caps,h1,h2.mono hf⟩
theorem RepP.mono {P:Program} {G:Nat→Option V} {Fz Fz':Nat→Prop} {w w':World} (hf:Fut Fz w Fz' w') (v:V) (cs:List Value) (h:RepP P G Fz w v cs):RepP P G Fz' w' v cs:=by
 cases v <;> simp only [RepP] at h ⊢ <;> first | exact h.mono hf | (obtain ⟨u,h1,h2⟩:=h;exact ⟨u,h1,RepA0.mono hf _ _ h2⟩)
structure E where
 P:Program
 G:Nat→Option V
 Fz:Nat→Prop
 w:World
 lk:Lk
 pos:Nat→Value
 cv:Nat→Option Value
 sv:Nat→Option Value
def vaddr:Value→Option Addr
 | .pointer (some a)=>some a
 | .slice (some a) _ _=>some a
 | _=>none
def vblk:Value→Option Nat
 | .pointer (some a)=>some a.block
 | .slice (some a) _ _=>some a.block
 | .map (some b)=>some b
 | _=>none
def VB:Value→Nat→Prop
 | .tuple vs,b=>∃ v ∈ vs.toList,vblk v = some b
 | v,b=>vblk v = some b
def NB (v:Value):Prop:=∀ b,¬ VB v b
theorem VB_undef (b:Nat):VB undef b ↔ False:=by simp [VB,undef]
theorem NB_undef:NB undef:=fun b h=>(VB_undef b).1 h
def Obj.off:Obj→List Nat→Option Nat
 | .box sh _,p=>(K.at p sh).map (·.1)
 | .vec e _,i :: p=>(Ty.at p e).map fun q=>i * e.size + q.1
 | .mi _ _ _ _ _,[]=>some 0
 | _,_=>none
def aliveP {α:Type} (rows:List (Option α)):Nat→Prop
 | 0=>True
 | i + 1=>∃ xs,rows[i]? = some (some xs)
def partV:Value→Nat→Option Value
 | .tuple hs,p=>hs[p]?
 | _,_=>none
def Obj.alike:Obj→Obj→Prop
 | .box sh _,.box sh' _=>sh = sh'
 | .vec e _,.vec e' _=>e = e'
 | .map k v _,.map k' v' _=>k = k'∧v = v'
 | .gh _ _ _,.gh _ _ _=>True
 | .gone,.gone=>True
 | .sav i _,.sav j _=>i = j
 | .mi k v _ _ _,.mi k' v' _ _ _=>k = k'∧v = v'
 | .grid e _ rows,.grid e' _ rows'=>e = e'∧∀ p,aliveP rows' p→aliveP rows p
 | _,_=>False
theorem Obj.alike_refl (o:Obj):o.alike o:=by cases o <;> simp [Obj.alike]
def Ext:Obj→Value→Obj→Value→Prop
 | .grid e _ rows,v,.grid e' _ rows',v'=>e = e'∧∀ p,(partV v p).isSome→(partV v' p).isSome∧(aliveP rows' p→aliveP rows p∧partV v' p = partV v p)
 | o,v,o',v'=>o.alike o'∧v' = v
theorem Ext.mk {o o':Obj} {v v':Value} (h:o.alike o') (hv:v' = v):Ext o v o' v':=by
 subst hv
 cases o <;> cases o' <;> first | exact ⟨h,rfl⟩ | exact h.elim | exact ⟨h.1,fun p hs=>⟨hs,fun hp=>⟨h.2 p hp,rfl⟩⟩⟩
theorem Ext.trans {a b c:Obj} {u v w:Value} (h:Ext a u b v) (k:Ext b v c w):Ext a u c w:=by
 cases a <;> cases b <;> cases c <;> simp only [Ext,Obj.alike] at h k ⊢ <;> first | exact h.1.elim | exact k.1.elim | skip
 all_goals first
   | exact ⟨h.1.trans k.1,k.2.trans h.2⟩
   | exact ⟨⟨h.1.1.trans k.1.1,h.1.2.trans k.1.2⟩,k.2.trans h.2⟩
   | exact ⟨trivial,k.2.trans h.2⟩
   | (obtain ⟨rfl,h2⟩:=h
      obtain ⟨rfl,k2⟩:=k
      refine ⟨rfl,fun p hp=>⟨(k2 p (h2 p hp).1).1,fun ha=>?_⟩⟩
      obtain ⟨k3,k4⟩:=(k2 p (h2 p hp).1).2 ha
      obtain ⟨h3,h4⟩:=(h2 p hp).2 k3
      exact ⟨h3,k4.trans h4⟩)
theorem Obj.alike_off {a b:Obj} (h:a.alike b) (p:List Nat):b.off p = a.off p:=by
 cases a <;> cases b <;> simp only [Obj.alike] at h
 · subst h;rfl
 · subst h;cases p <;> rfl
 · rfl
 · rfl
 · rfl
 · rfl
 · rfl
 · cases p <;> rfl
def Obj.at:Obj→Value→List Nat→Value→Prop
 | .grid e _ rows,pv,p,v=>∀ i j,p = [i,j]→(partV pv i).isSome∧(aliveP rows i→∃ h a,partV pv i = some h∧vaddr h = some a∧v = .pointer (some ⟨a.block,a.off + j * (if i = 0 then 1 else e.size),none⟩))
 | o,pv,p,v=>∃ d a,o.off p = some d∧vaddr pv = some a∧v = .pointer (some ⟨a.block,a.off + d,none⟩)
def Obj.rowAt (e:Ty):Obj→Value→Nat→Value→Prop
 | .grid e' _ rows,pv,p,v=>e' = e∧(partV pv p).isSome∧(aliveP rows p→partV pv p = some v)
 | .box (.d (.arr n e')) _,pv,p,v=>e' = e∧p = 0∧∃ a,vaddr pv = some a∧v = .slice (some a) n n
 | _,_,_,_=>False
theorem Obj.at.ext {o o':Obj} {v v':Value} (h:Ext o v o' v') {p:List Nat} {u:Value} (k:o.at v p u):o'.at v' p u:=by
 cases o <;> cases o' <;> simp only [Ext,Obj.alike] at h <;> first | exact h.1.elim | skip
 all_goals first
   | (obtain ⟨h1,rfl⟩:=h
      obtain ⟨d,a,k1,k2,k3⟩:=k
      exact ⟨d,a,(Obj.alike_off (by first | exact h1 | trivial) p).trans k1,k2,k3⟩)
   | (obtain ⟨rfl,h2⟩:=h
      intro i j hp
      obtain ⟨k1,k2⟩:=k i j hp
      obtain ⟨h3,h4⟩:=h2 i k1
      refine ⟨h3,fun ha=>?_⟩
      obtain ⟨h5,h6⟩:=h4 ha
      obtain ⟨g,a,g1,g2,g3⟩:=k2 h5
      exact ⟨g,a,h6.trans g1,g2,g3⟩)
theorem Obj.rowAt.ext {o o':Obj} {v v':Value} (h:Ext o v o' v') {e:Ty} {p:Nat} {u:Value} (k:o.rowAt e v p u):o'.rowAt e v' p u:=by
 cases o <;> first | exact k.elim | skip
 · cases o' <;> simp only [Ext,Obj.alike] at h <;> first | exact h.1.elim | skip
   obtain ⟨rfl,rfl⟩:=h
   rename_i sh c c2
   cases sh <;> first | exact k.elim | skip
   rename_i t
   cases t <;> first | exact k.elim | exact k
 · cases o' <;> simp only [Ext,Obj.alike] at h <;> first | exact h.1.elim | skip
   obtain ⟨rfl,h2⟩:=h
   obtain ⟨rfl,k1,k2⟩:=k
   obtain ⟨h3,h4⟩:=h2 p k1
   refine ⟨rfl,h3,fun ha=>?_⟩
   obtain ⟨h5,h6⟩:=h4 ha
   exact h6.trans (k2 h5)
def Obj.isVec (e:Ty):Obj→Prop
 | .vec e' _=>e' = e
 | _=>False
theorem Obj.alike_isVec {a b:Obj} (h:a.alike b) {e:Ty} (k:a.isVec e):b.isVec e:=by
 cases a <;> cases b <;> simp_all [Obj.alike,Obj.isVec]
def Obj.isMp:Obj→Prop
 | .map _ _ _=>True
 | _=>False
theorem Ext.isVec {o o':Obj} {v v':Value} (h:Ext o v o' v') {e:Ty} (k:o.isVec e):o'.isVec e∧v' = v:=by
 cases o <;> first | exact k.elim | skip
 exact ⟨Obj.alike_isVec h.1 k,h.2⟩
theorem Ext.isMp {o o':Obj} {v v':Value} (h:Ext o v o' v') (k:o.isMp):o'.isMp∧v' = v:=by
 cases o <;> first | exact k.elim | skip
 refine ⟨?_,h.2⟩
 have:=h.1
 cases o' <;> first | exact this.elim | trivial
def RepA (E:E):V→Value→Prop
 | .dat t x,v=>RepA0 E.P E.G E.Fz E.w (.dat t x) v
 | .clo a b g,v=>RepA0 E.P E.G E.Fz E.w (.clo a b g) v
 | .nilf,v=>v = .nilFunc
 | .junk,_=>True
 | .undef,v=>v = Go.undef
 | .ref k s p,v=>v.oneCell' = true∧∃ s' o,E.lk k = some (s',o)∧s ≤ s'∧(s = s'→o.at (E.pos k) p v)
 | .eptr u,v=>∃ b off c T fz cells,v = .pointer (some ⟨b,off,none⟩)∧E.Fz b∧E.w.heap[b]? = some (.cells c T fz)∧RepP E.P E.G E.Fz E.w u cells∧cells <+: c.toList.drop off
 | .sl e k s,v=>v.oneCell' = true∧∃ s' o,E.lk k = some (s',o)∧s ≤ s'∧(s = s'→o.isVec e∧v = E.pos k)
 | .nils,v=>v = .slice none 0 0
 | .mp k s,v=>v.oneCell' = true∧∃ s' o,E.lk k = some (s',o)∧s ≤ s'∧(s = s'→o.isMp∧v = E.pos k)
 | .row e k s p,v=>v.oneCell' = true∧∃ s' o,E.lk k = some (s',o)∧s ≤ s'∧(s = s'→o.rowAt e (E.pos k) p v)
 | .cb i,v=>v.oneCell' = true∧E.cv i = some v
 | _,_=>False
def RepL (E:E):V→Value→Prop
 | .fn f caps,v=>∃ us,v = .func (.func f) #[] us.toArray∧Pt (RepA E) caps us
 | v,u=>RepA E v u
def RepF (E:E):V→List Value→Prop
 | .dat t x,cs=>RepC E.Fz E.w t x cs
 | v,cs=>∃ u,cs = [u]∧u.oneCell' = true∧RepL E v u
def RepG (E:E):V→Value→Prop
 | .agg fs,v=>∃ cs,v = .agg cs.toArray∧All2 (RepF E) fs cs
 | v,u=>RepL E v u
def RepT (E:E):V→Value→Prop
 | .tup vs,v=>∃ us,v = .tuple us.toArray∧Pt (RepG E) vs us
 | v,u=>RepG E v u
def RepB (E:E):V→List Value→Prop
 | .agg fs,cs=>All2 (RepF E) fs cs
 | v,cs=>RepF E v cs
def RepVec (Fz:Nat→Prop) (w:World) (e:Ty) (xs:List e.T) (v:Value):Prop :=
 (v = .slice none 0 0∧xs = []) ∨ ∃ b off cap cells T,v = .slice (some ⟨b,off,none⟩) xs.length cap∧w.heap[b]? = some (.cells cells T (0,0))∧xs.length ≤ cap∧cap ≤ maxLen ∧
     off + cap * e.size ≤ cells.size∧∃ cs,All2 (RepC Fz w e) xs cs∧cs <+: cells.toList.drop off
def RepIds (w:World) {α:Type} (h0:Value) (ids:List Nat) (rows:List (Option α)) (hs:Array Value):Prop :=
 (h0 = .slice none 0 0∧ids = []) ∨ ∃ b off cap cells T,h0 = .slice (some ⟨b,off,none⟩) ids.length cap∧w.heap[b]? = some (.cells cells T (0,0))∧ids.length ≤ cap∧cap ≤ maxLen ∧
     off + cap ≤ cells.size∧(∀ j,j < ids.length→∃ h,cells[off + j]? = some h∧h.oneCell' = true)∧∀ (j i:Nat) (xs:α) (h:Value),ids[j]? = some i→rows[i]? = some (some xs)→hs[i + 1]? = some h→cells[off + j]? = some h
def RepSp (Fz:Nat→Prop) (w:World) {α:Type} (h0:Value) (sp:Sp) (rows:List (Option α)) (hs:Array Value):Prop :=
 match sp with
 | .ids ids=>RepIds w h0 ids rows hs
 | .keys k es=>∃ b ents clock,h0 = .map (some b)∧w.heap[b]? = some (.map ents clock)∧clock = ents.size ∧
     MapRep (fun x u=>∃ cs,RepC Fz w k x cs∧u = pack k cs) (fun i u=>u.oneCell' = true∧∀ (xs:α) (h:Value),rows[i]? = some (some xs)→hs[i + 1]? = some h→u = h) 0 es ents.toList
structure RepGrid (Fz:Nat→Prop) (w:World) (e:Ty) (ids:Sp) (rows:List (Option (List e.T))) (hs:Array Value):Prop where
 size:hs.size = rows.length + 1
 row:∀ i xs h,rows[i]? = some (some xs)→hs[i + 1]? = some h→RepVec Fz w e xs h
 gone:∀ i h,rows[i]? = some none→hs[i + 1]? = some h→vblk h = none
 out:∀ h0,hs[0]? = some h0→RepSp Fz w h0 ids rows hs
 apart:∀ (p q:Nat) h h' b,hs[p]? = some h→hs[q]? = some h'→vblk h = some b→vblk h' = some b→p = q
 inb:∀ i ∈ ids.all,i < rows.length
theorem RepVec.mono {Fz Fz':Nat→Prop} {w w':World} (hf:Fut Fz w Fz' w') {e:Ty} {xs:List e.T} {v:Value} (hb:∀ b,vblk v = some b→w'.heap[b]? = w.heap[b]?) (h:RepVec Fz w e xs v):RepVec Fz' w' e xs v :=
 h.imp id fun ⟨b,off,cap,cells,T,h1,h2,h3,h4,h5,cs,h6,h7⟩=>⟨b,off,cap,cells,T,h1,(hb b (by rw [h1];rfl)).trans h2,h3,h4,h5,cs,All2.mono (fun x cs hx=>hx.mono hf) _ _ h6,h7⟩
theorem RepIds.mono {w w':World} {α:Type} {h0:Value} {ids:List Nat} {rows:List (Option α)} {hs:Array Value} (hb:∀ b,vblk h0 = some b→w'.heap[b]? = w.heap[b]?) (h:RepIds w h0 ids rows hs):RepIds w' h0 ids rows hs :=
 h.imp id fun ⟨b,off,cap,cells,T,h1,h2,h3,h4,h5,h6⟩=>⟨b,off,cap,cells,T,h1,(hb b (by rw [h1];rfl)).trans h2,h3,h4,h5,h6⟩
theorem RepVec.lt {Fz:Nat→Prop} {w:World} {e:Ty} {xs:List e.T} {v:Value} (h:RepVec Fz w e xs v) {b:Nat} (hb:vblk v = some b):∃ cells T,w.heap[b]? = some (.cells cells T (0,0)):=by
 rcases h with ⟨rfl,_⟩ | ⟨b',off,cap,cells,T,rfl,h3,_⟩
 · cases hb
 · obtain rfl:b' = b:=Option.some.inj hb
   exact ⟨cells,T,h3⟩
theorem RepIds.lt {w:World} {α:Type} {h0:Value} {ids:List Nat} {rows:List (Option α)} {hs:Array Value} (h:RepIds w h0 ids rows hs) {b:Nat} (hb:vblk h0 = some b):∃ cells T,w.heap[b]? = some (.cells cells T (0,0)):=by
 rcases h with ⟨rfl,_⟩ | ⟨b',off,cap,cells,T,rfl,h3,_⟩
 · cases hb
 · obtain rfl:b' = b:=Option.some.inj hb
   exact ⟨cells,T,h3⟩
theorem RepSp.mono {Fz Fz':Nat→Prop} {w w':World} (hf:Fut Fz w Fz' w') {α:Type} {h0:Value} {sp:Sp} {rows:List (Option α)} {hs:Array Value} (hb:∀ b,vblk h0 = some b→w'.heap[b]? = w.heap[b]?) (h:RepSp Fz w h0 sp rows hs):RepSp Fz' w' h0 sp rows hs:=by
 cases sp with
 | ids l=>exact RepIds.mono hb h
 | keys k es =>
   obtain ⟨b,ents,clock,h1,h2,h3,h4⟩:=h
   exact ⟨b,ents,clock,h1,(hb b (by rw [h1];rfl)).trans h2,h3,MapRep.mono (fun x u ⟨c,hc,hu⟩=>⟨c,hc.mono hf,hu⟩) (fun _ _ h=>h) _ _ _ h4⟩
theorem MapRep.monoV {α β:Type} {RK:α→Value→Prop} {RV RV':β→Value→Prop}:∀ (n:Nat) (xs:List (α×β)) (es:List MapEntry),(∀ q ∈ xs,∀ u,RV q.2 u→RV' q.2 u)→MapRep RK RV n xs es→MapRep RK RV' n xs es
 | _,[],_,_,h=>h
 | n,q :: r,es,k,⟨e,es',he,h1,h2,hb,h3⟩=>⟨e,es',he,h1,k q (by simp) _ h2,hb,MapRep.monoV (n + 1) r es' (fun x hx=>k x (by simp [hx])) h3⟩
theorem RepSp.rows {Fz:Nat→Prop} {w:World} {α:Type} {h0:Value} {sp:Sp} {rows rows':List (Option α)} {hs hs':Array Value}
   (k:∀ i ∈ sp.all,∀ (ys:α) (g:Value),rows'[i]? = some (some ys)→hs'[i + 1]? = some g→∃ xs:α,rows[i]? = some (some xs)∧hs[i + 1]? = some g) (h:RepSp Fz w h0 sp rows hs):RepSp Fz w h0 sp rows' hs':=by
 cases sp with
 | ids l =>
   refine Or.imp id (fun ⟨b,off,cap,cells,T,g1,g2,g3,g4,g5,g6,g7⟩=>⟨b,off,cap,cells,T,g1,g2,g3,g4,g5,g6,fun j i ys g k1 k2 k3=>?_⟩) (show RepIds w h0 l rows hs from h)
   obtain ⟨xs,j2,j3⟩:=k i (List.mem_of_getElem? k1) ys g k2 k3
   exact g7 j i xs g k1 j2 j3
 | keys kt es =>
   obtain ⟨b,ents,clock,h1,h2,h3,h4⟩:=h
   refine ⟨b,ents,clock,h1,h2,h3,MapRep.monoV _ _ _ (fun q hq u ⟨hu,hv⟩=>⟨hu,fun ys g k2 k3=>?_⟩) h4⟩
   obtain ⟨xs,j2,j3⟩:=k q.2 (List.mem_map_of_mem hq) ys g k2 k3
   exact hv xs g j2 j3
theorem RepSp.lt {Fz:Nat→Prop} {w:World} {α:Type} {h0:Value} {sp:Sp} {rows:List (Option α)} {hs:Array Value} (h:RepSp Fz w h0 sp rows hs) {b:Nat} (hb:vblk h0 = some b):(∃ cells T,w.heap[b]? = some (.cells cells T (0,0))) ∨ ∃ ents clock,w.heap[b]? = some (.map ents clock):=by
 cases sp with
 | ids l=>exact .inl (RepIds.lt h hb)
 | keys k es =>
   obtain ⟨b',ents,clock,rfl,h2,_⟩:=h
   obtain rfl:b' = b:=Option.some.inj hb
   exact .inr ⟨ents,clock,h2⟩
theorem VB_tuple {hs:Array Value} {b:Nat}:VB (.tuple hs) b ↔ ∃ (p:Nat) (h:Value),hs[p]? = some h∧vblk h = some b:=by
 simp only [VB]
 constructor
 · rintro ⟨v,hv,hb⟩
   obtain ⟨p,hp⟩:=List.getElem?_of_mem hv
   exact ⟨p,v,by simpa using hp,hb⟩
 · rintro ⟨p,h,hp,hb⟩
   exact ⟨h,by simpa using Array.mem_of_getElem? hp,hb⟩
theorem RepGrid.mono {Fz Fz':Nat→Prop} {w w':World} (hf:Fut Fz w Fz' w') {e:Ty} {ids:Sp} {rows:List (Option (List e.T))} {hs:Array Value} (hb:∀ b,VB (.tuple hs) b→w'.heap[b]? = w.heap[b]?) (h:RepGrid Fz w e ids rows hs):RepGrid Fz' w' e ids rows hs :=
 ⟨h.size,fun i xs g h1 h2=>(h.row i xs g h1 h2).mono hf fun b hb'=>hb b (VB_tuple.2 ⟨_,_,h2,hb'⟩),h.gone,fun h0 h1=>(h.out h0 h1).mono hf fun b hb'=>hb b (VB_tuple.2 ⟨_,_,h1,hb'⟩),h.apart,h.inb⟩
theorem RepGrid.lt {Fz:Nat→Prop} {w:World} {e:Ty} {ids:Sp} {rows:List (Option (List e.T))} {hs:Array Value} (h:RepGrid Fz w e ids rows hs) {b:Nat} (hb:VB (.tuple hs) b):(∃ cells T,w.heap[b]? = some (.cells cells T (0,0))) ∨ ∃ ents clock,w.heap[b]? = some (.map ents clock):=by
 obtain ⟨p,g,h1,h2⟩:=VB_tuple.1 hb
 cases p with
 | zero=>exact (h.out g h1).lt h2
 | succ i =>
   have hi:i < rows.length:=by have:=(Array.getElem?_eq_some_iff.1 h1).1;have:=h.size;omega
   cases hr:rows[i] with
   | none=>rw [h.gone i g (by simp [hi,hr]) h1] at h2;cases h2
   | some xs=>exact .inl ((h.row i xs g (by simp [hi,hr]) h1).lt h2)
def RepO (E:E):Obj→Value→Prop
 | .box sh c,v=>c.fits sh = true∧∃ b cells T,v = .pointer (some ⟨b,0,none⟩)∧E.w.heap[b]? = some (.cells cells T (0,0))∧RepB E c cells.toList
 | .vec e xs,v=>(v = .slice none 0 0∧xs = []) ∨ ∃ b off cap cells T,v = .slice (some ⟨b,off,none⟩) xs.length cap∧E.w.heap[b]? = some (.cells cells T (0,0))∧xs.length ≤ cap∧cap ≤ maxLen ∧
     off + cap * e.size ≤ cells.size∧∃ cs,All2 (RepC E.Fz E.w e) xs cs∧cs <+: cells.toList.drop off
 | .gh _ _ _,v=>NB v
 | .gone,v=>NB v
 | .sav i x,v=>NB v∧∃ u,E.sv i = some u∧RepT E x u
 | .grid e ids rows,v=>∃ hs,v = .tuple hs∧RepGrid E.Fz E.w e ids rows hs
 | .mi k v es seen cur,pv=>∃ r,pv = .pointer (some ⟨r,0,none⟩)∧((E.w.heap[r]? = some (.mapIter none 0 #[] 0)∧es = []) ∨ ∃ b ents since,E.w.heap[r]? = some (.mapIter (some b) since seen.toArray since)∧E.Fz b∧E.w.heap[b]? = some (.map ents since)∧since = ents.size ∧
     MapRep (fun x u=>∃ cs,RepC E.Fz E.w k x cs∧u = pack k cs) (fun x u=>∃ cs,RepC E.Fz E.w v x cs∧u = pack v cs) 0 es ents.toList)∧∀ q,cur = some q→∃ i,seen.getLast? = some i∧es[i]? = some q
 | .map k v es,u=>∃ b ents clock,u = .map (some b)∧E.w.heap[b]? = some (.map ents clock)∧clock = ents.size ∧
     MapRep (fun x u=>∃ cs,RepC E.Fz E.w k x cs∧u = pack k cs) (fun x u=>∃ cs,RepC E.Fz E.w v x cs∧u = pack v cs) 0 es ents.toList
structure Le (A B:E):Prop where
 P:B.P = A.P
 G:B.G = A.G
 cv:∀ i v,A.cv i = some v→B.cv i = some v
 sv:∀ i v,A.sv i = some v→B.sv i = some v
 fut:Fut A.Fz A.w B.Fz B.w
 lk:∀ k s o,A.lk k = some (s,o)→∃ s' o',B.lk k = some (s',o')∧s ≤ s'∧(s = s'→Ext o (A.pos k) o' (B.pos k))
variable {A B:E}
theorem RepA.mono (h:Le A B):∀ (v:V) (u:Value),RepA A v u→RepA B v u:=by
 intro v u hr
 cases v <;> simp only [RepA] at hr ⊢ <;> try exact hr
 case dat t x=>rw [h.P,h.G];exact RepA0.mono h.fut _ _ hr
 case clo a b g=>rw [h.P,h.G];exact RepA0.mono h.fut _ _ hr
 case ref k s p =>
   obtain ⟨hone,s',o,h1,h2,h3⟩:=hr
   obtain ⟨s2,o2,g1,g2,g3⟩:=h.lk k s' o h1
   exact ⟨hone,s2,o2,g1,Nat.le_trans h2 g2,fun e=>(h3 (by omega)).ext (g3 (by omega))⟩
 case eptr u' =>
   obtain ⟨b,off,c,T,fz,cells,h1,h2,h3,h4,h5⟩:=hr
   exact ⟨b,off,c,T,fz,cells,h1,(h.fut b h2).1,(h.fut b h2).2.trans h3,by rw [h.P,h.G];exact RepP.mono h.fut _ _ h4,h5⟩
 case sl e k s =>
   obtain ⟨hone,s',o,h1,h2,h3⟩:=hr
   obtain ⟨s2,o2,g1,g2,g3⟩:=h.lk k s' o h1
   refine ⟨hone,s2,o2,g1,Nat.le_trans h2 g2,fun e=>?_⟩
   obtain ⟨k1,k2⟩:=h3 (by omega)
   obtain ⟨k3,k4⟩:=(g3 (by omega)).isVec k1
   exact ⟨k3,k2.trans k4.symm⟩
 case mp k s =>
   obtain ⟨hone,s',o,h1,h2,h3⟩:=hr
   obtain ⟨s2,o2,g1,g2,g3⟩:=h.lk k s' o h1
   refine ⟨hone,s2,o2,g1,Nat.le_trans h2 g2,fun e=>?_⟩
   obtain ⟨k1,k2⟩:=h3 (by omega)
   obtain ⟨k3,k4⟩:=(g3 (by omega)).isMp k1
   exact ⟨k3,k2.trans k4.symm⟩
 case row e k s p =>
   obtain ⟨hone,s',o,h1,h2,h3⟩:=hr
   obtain ⟨s2,o2,g1,g2,g3⟩:=h.lk k s' o h1
   exact ⟨hone,s2,o2,g1,Nat.le_trans h2 g2,fun e=>(h3 (by omega)).ext (g3 (by omega))⟩
 case cb i=>exact ⟨hr.1,h.cv _ _ hr.2⟩
theorem RepL.mono (h:Le A B) (v:V) (u:Value) (hr:RepL A v u):RepL B v u:=by
 cases v <;> simp only [RepL] at hr ⊢ <;> first | exact RepA.mono h _ _ hr | skip
 obtain ⟨us,h1,h2⟩:=hr
 exact ⟨us,h1,Pt.mono (RepA.mono h) _ _ h2⟩
theorem RepF.mono (h:Le A B) (v:V) (u:List Value) (hr:RepF A v u):RepF B v u:=by
 cases v <;> simp only [RepF] at hr ⊢ <;> first | exact hr.mono h.fut | (obtain ⟨x,h1,h2,h3⟩:=hr;exact ⟨x,h1,h2,RepL.mono h _ _ h3⟩)
theorem RepG.mono (h:Le A B) (v:V) (u:Value) (hr:RepG A v u):RepG B v u:=by
 cases v <;> simp only [RepG] at hr ⊢ <;> first | exact RepL.mono h _ _ hr | skip
 obtain ⟨us,h1,h2⟩:=hr
 exact ⟨us,h1,All2.mono (RepF.mono h) _ _ h2⟩
theorem RepT.mono (h:Le A B) (v:V) (u:Value) (hr:RepT A v u):RepT B v u:=by
 cases v <;> simp only [RepT] at hr ⊢ <;> first | exact RepG.mono h _ _ hr | skip
 obtain ⟨us,h1,h2⟩:=hr
 exact ⟨us,h1,Pt.mono (RepG.mono h) _ _ h2⟩
theorem RepB.mono (h:Le A B) (v:V) (u:List Value) (hr:RepB A v u):RepB B v u:=by
 cases v <;> simp only [RepB] at hr ⊢ <;> first | exact RepF.mono h _ _ hr | skip
 exact All2.mono (RepF.mono h) _ _ hr
theorem RepO.mono (h:Le A B) (o:Obj) (u:Value) (hb:∀ b,VB u b→B.w.heap[b]? = A.w.heap[b]?) (hr:RepO A o u):RepO B o u:=by
 cases o <;> simp only [RepO] at hr ⊢ <;> try exact hr
 case sav i x=>exact ⟨hr.1,let ⟨u,h1,h2⟩:=hr.2;⟨u,h.sv _ _ h1,RepT.mono h _ _ h2⟩⟩
 case grid e ids rows =>
   obtain ⟨hs,h1,h2⟩:=hr
   subst h1
   exact ⟨hs,rfl,h2.mono h.fut hb⟩
 case box sh c =>
   obtain ⟨h1,b,cells,T,h2,h3,h4⟩:=hr
   exact ⟨h1,b,cells,T,h2,(hb b (by rw [h2];rfl)).trans h3,RepB.mono h _ _ h4⟩
 case vec e xs =>
   refine hr.imp id fun ⟨b,off,cap,cells,T,h1,h2,h3,h4,h5,cs,h6,h7⟩=>⟨b,off,cap,cells,T,h1,(hb b (by rw [h1];rfl)).trans h2,h3,h4,h5,cs,All2.mono (fun x cs hx=>hx.mono h.fut) _ _ h6,h7⟩
 case map k v es =>
   obtain ⟨b,ents,clock,h1,h2,h3,h4⟩:=hr
   exact ⟨b,ents,clock,h1,(hb b (by rw [h1];rfl)).trans h2,h3,MapRep.mono (fun x u ⟨c,hc,hu⟩=>⟨c,hc.mono h.fut,hu⟩) (fun x u ⟨c,hc,hu⟩=>⟨c,hc.mono h.fut,hu⟩) _ _ _ h4⟩
 case mi k v es seen cur =>
   obtain ⟨r,h1,h2,h3⟩:=hr
   refine ⟨r,h1,h2.imp (fun h4=>⟨(hb r (by rw [h1];rfl)).trans h4.1,h4.2⟩) fun ⟨b,ents,since,h4,h5,h6,h7,h8⟩=>⟨b,ents,since,(hb r (by rw [h1];rfl)).trans h4,(h.fut b h5).1,(h.fut b h5).2.trans h6,h7,
     MapRep.mono (fun x u ⟨c,hc,hu⟩=>⟨c,hc.mono h.fut,hu⟩) (fun x u ⟨c,hc,hu⟩=>⟨c,hc.mono h.fut,hu⟩) _ _ _ h8⟩,h3⟩
structure StepW (Wr:Nat→Prop) (Fz:Nat→Prop) (w:World) (Fz':Nat→Prop) (w':World):Prop where
 os:w'.os = w.os
 tape:w'.tape = w.tape
 output:w'.output = w.output
 size:w.heap.size ≤ w'.heap.size
 block:∀ b,b < w.heap.size→¬ Wr b→w'.heap[b]? = w.heap[b]?
 fz:∀ b,b < w.heap.size→¬ Wr b→(Fz' b ↔ Fz b)
 lt:∀ b,Fz' b→b < w'.heap.size
theorem Step.toW {Wr Fz Fz':Nat→Prop} {w w':World} (h:Step Fz w Fz' w'):StepW Wr Fz w Fz' w':=⟨h.os,h.tape,h.output,h.size,fun b hb _=>h.block b hb,fun b hb _=>h.fz b hb,h.lt⟩
theorem StepW.refl {Wr Fz:Nat→Prop} {w:World} (h:∀ b,Fz b→b < w.heap.size):StepW Wr Fz w Fz w:=(Step.refl h).toW
theorem StepW.trans {Wr F1 F2 F3:Nat→Prop} {a b c:World} (h:StepW Wr F1 a F2 b) (k:StepW Wr F2 b F3 c):StepW Wr F1 a F3 c :=
 ⟨k.os.trans h.os,k.tape.trans h.tape,k.output.trans h.output,Nat.le_trans h.size k.size,fun x hx hw=>(k.block x (Nat.lt_of_lt_of_le hx h.size) hw).trans (h.block x hx hw),
  fun x hx hw=>(k.fz x (Nat.lt_of_lt_of_le hx h.size) hw).trans (h.fz x hx hw),k.lt⟩
theorem StepW.fut {Wr Fz Fz':Nat→Prop} {w w':World} (h:StepW Wr Fz w Fz' w') (hl:∀ b,Fz b→b < w.heap.size) (hw:∀ b,Wr b→¬ Fz b):Fut Fz w Fz' w' :=
 fun b hb=>⟨(h.fz b (hl b hb) (fun k=>hw b k hb)).2 hb,h.block b (hl b hb) (fun k=>hw b k hb)⟩
structure GhSem where
 t:Ty
 run:Cbs t
 J:t.T→(Nat→Prop)→(Nat→Prop)→World→Prop
 cv:Nat→Option Value
structure Near (w0:World) (Wr U Fz:Nat→Prop) (w:World) (Fz':Nat→Prop) (w':World):Prop where
 os:w'.os = w.os
 tape:w'.tape = w.tape
 output:w'.output = w.output
 size:w.heap.size ≤ w'.heap.size
 same:∀ b,(U b ∨ (b < w0.heap.size∧¬ Wr b))→w'.heap[b]? = w.heap[b]?
 fz:∀ b,(U b ∨ (b < w0.heap.size∧¬ Wr b))→(Fz' b ↔ Fz b)
 fut:Fut Fz w Fz' w'
 lt:∀ b,Fz' b→b < w'.heap.size
abbrev E0 (P:Program) (G:Nat→Option V) (Fz:Nat→Prop) (w:World):E:=⟨P,G,Fz,w,fun _=>none,fun _=>undef,fun _=>none,fun _=>none⟩
def CallV (P:Program) (v:Value) (us:List Value) (w:World) (R:Ending→World→Prop):Prop :=
 match v with
 | .func (.func f) _ caps=>v = .func (.func f) #[] caps∧HasBody P f∧Calls P f (us.toArray ++ caps) w R
 | .func (.yield l) _ _=>v = .func (.yield l) #[] #[]∧YieldAt Fence.wide 0 P l us.toArray w R
 | _=>False
def CbOk (P:Program) (G:Nat→Option V) (q:GhSem):Prop :=
 ∀ i x vs x' y,q.run.at i x vs = some (x',y)→puresOk vs = true→y.scalar = true→∀ (U Fz:Nat→Prop) (w:World) (us:List Value),q.J x U Fz w→(∀ b,U b→b < w.heap.size∧¬ Fz b)→Inv G Fz w→Pt (RepG (E0 P G Fz w)) vs us →
   ∃ f,q.cv i = some f∧f.oneCell' = true∧CallV P f us w fun e w'=>∃ v Fz' U',e = .returned v∧RepT (E0 P G Fz' w') y v∧q.J x' U' Fz' w'∧StepW U Fz w Fz' w'∧∀ b,U' b→b < w'.heap.size∧¬ Fz' b∧(U b ∨ w.heap.size ≤ b)
structure Cx where
 P:Program
 G:Nat→Option V
 w0:World
 Fz0:Nat→Prop
 nt:Nat
 Wr:Nat→Prop
 gh:GhSem
 frame:∀ x U Fz w Fz' w',gh.J x U Fz w→Near w0 Wr U Fz w Fz' w'→gh.J x U Fz' w'
 cbok:CbOk P G gh
 sav:Nat→Option Value
 q0:Nat
 og:Nat→Option (Obj×Value)
 ogG:∀ k q,og k = some q→isG k = true
abbrev Cx.e (cx:Cx) (Fz:Nat→Prop) (w:World) (lk:Lk) (pos:Nat→Value):E:=⟨cx.P,cx.G,Fz,w,lk,pos,cx.gh.cv,cx.sav⟩
structure Held (cx:Cx) (lk:Lk) (w:World) (Fz:Nat→Prop) (pos:Nat→Value) (U:Nat→Prop):Prop where
 objs:∀ k s o,lk k = some (s,o)→RepO (cx.e Fz w lk pos) o (pos k)
 own:∀ k s o b,lk k = some (s,o)→VB (pos k) b→¬ Fz b∧(cx.w0.heap.size ≤ b ∨ cx.Wr b)
 inj:∀ k s o k' s' o' b,lk k = some (s,o)→lk k' = some (s',o')→VB (pos k) b→VB (pos k') b→k = k'
 step:StepW cx.Wr cx.Fz0 cx.w0 Fz w
 inv0:Inv cx.G cx.Fz0 cx.w0
 wr0:∀ b,cx.Wr b→¬ cx.Fz0 b
 gh:∀ k s t run x,lk k = some (s,.gh t run x)→k = gB∧∃ J cv,cx.gh = ⟨t,run,J,cv⟩∧J x U Fz w
 orig:∀ k o q,lk k = some (0,o)→cx.og k = some q→Ext q.1 q.2 o (pos k)
 ugh:∀ b,U b→b < w.heap.size∧¬ Fz b∧(cx.w0.heap.size ≤ b ∨ cx.Wr b)∧∀ k s o,lk k = some (s,o)→¬ VB (pos k) b
def QuietD (cx:Cx) (w:World) (Fz U:Nat→Prop) (d:Deferred):Prop:=∃ D,d = { target:=.collected D,args:=#[] }∧w.heap[D]? = some (.deferred (some []))∧cx.q0 ≤ D∧¬ U D∧¬ Fz D
structure RelIn (cx:Cx) (tm:Tm) (lk:Lk) (a:Act) (w:World) (Fz:Nat→Prop) (pos:Nat→Value) (U:Nat→Prop):Prop extends Held cx lk w Fz pos U where
 size:a.tmps.size = cx.nt
 defers:∀ d ∈ a.defers,QuietD cx w Fz U d
 dnd:a.defers.Nodup
 tmps:∀ t,RepT (cx.e Fz w lk pos) (tm t) (a.tmps.getD t undef)
theorem RepO.lt {o:Obj} {u:Value} (h:RepO A o u) {b:Nat} (hb:VB u b):b < A.w.heap.size:=by
 cases o <;> simp only [RepO] at h
 · obtain ⟨_,b',cells,T,rfl,h3,_⟩:=h
   simp [VB,vblk] at hb;subst hb;exact (Array.getElem?_eq_some_iff.1 h3).1
 · rcases h with ⟨rfl,_⟩ | ⟨b',off,cap,cells,T,rfl,h3,_⟩
   · simp [VB,vblk] at hb
   · simp [VB,vblk] at hb;subst hb;exact (Array.getElem?_eq_some_iff.1 h3).1
 · obtain ⟨b',ents,clock,rfl,h3,_⟩:=h
   simp [VB,vblk] at hb;subst hb;exact (Array.getElem?_eq_some_iff.1 h3).1
 · exact absurd hb (h _)
 · obtain ⟨hs,rfl,h2⟩:=h
   rcases h2.lt hb with ⟨cells,T,h3⟩ | ⟨ents,c,h3⟩ <;> exact (Array.getElem?_eq_some_iff.1 h3).1
 · exact absurd hb (h _)
 · exact absurd hb (h.1 _)
 · obtain ⟨r,rfl,h2,_⟩:=h
   simp [VB,vblk] at hb;subst hb
   rcases h2 with ⟨h2,_⟩ | ⟨_,_,_,h2,_⟩ <;> exact (Array.getElem?_eq_some_iff.1 h2).1
theorem RepO.noMark {o:Obj} {u:Value} (h:RepO A o u) {b:Nat} (hb:VB u b) (ds:Option (List Deferred)):A.w.heap[b]? ≠ some (.deferred ds):=by
 cases o <;> simp only [RepO] at h
 · obtain ⟨_,b',cells,T,rfl,h3,_⟩:=h
   simp [VB,vblk] at hb;subst hb;rw [h3];simp
 · rcases h with ⟨rfl,_⟩ | ⟨b',off,cap,cells,T,rfl,h3,_⟩
   · simp [VB,vblk] at hb
   · simp [VB,vblk] at hb;subst hb;rw [h3];simp
 · obtain ⟨b',ents,clock,rfl,h3,_⟩:=h
   simp [VB,vblk] at hb;subst hb;rw [h3];simp
 · exact absurd hb (h _)
 · obtain ⟨hs,rfl,h2⟩:=h
   rcases h2.lt hb with ⟨cells,T,h3⟩ | ⟨ents,c,h3⟩ <;> (rw [h3];simp)
 · exact absurd hb (h _)
 · exact absurd hb (h.1 _)
 · obtain ⟨r,rfl,h2,_⟩:=h
   simp [VB,vblk] at hb;subst hb
   rcases h2 with ⟨h2,_⟩ | ⟨_,_,_,h2,_⟩ <;> rw [h2] <;> simp
variable {cx:Cx} {tm:Tm} {lk:Lk} {a:Act} {w:World} {Fz:Nat→Prop} {pos:Nat→Value} {U:Nat→Prop}
theorem Held.fut (r:Held cx lk w Fz pos U):Fut cx.Fz0 cx.w0 Fz w:=r.step.fut r.inv0.lt r.wr0
theorem Held.inv (r:Held cx lk w Fz pos U):Inv cx.G Fz w:=r.inv0.step r.fut r.step.lt
theorem RelIn.inv (r:RelIn cx tm lk a w Fz pos U):Inv cx.G Fz w:=r.toHeld.inv
def updTm (tm:Tm) (nt:Nat) (dst:Option Tmp) (v:V):Tm:=fun t=>if dst = some t∧t < nt then v else tm t
def updLk1 (lk:Lk) (k s:Nat) (o:Obj):Lk:=fun x=>if x = k then some (s,o) else lk x
def updLk:List (Nat×Nat×Obj)→Lk→Lk
 | [],lk=>lk
 | (k,s,o) :: r,lk=>updLk r (updLk1 lk k s o)
def updPos (pos:Nat→Value) (k:Nat) (v:Value):Nat→Value:=fun x=>if x = k then v else pos x
theorem getD_put (a:Act) (dst:Option Tmp) (v:Value) (t:Nat):(a.put dst v).tmps.getD t undef = if dst = some t∧t < a.tmps.size then v else a.tmps.getD t undef:=by
 cases dst with
 | none=>simp [Act.put]
 | some d =>
   simp only [Act.put,Array.getD_eq_getD_getElem?,Array.getElem?_setIfInBounds]
   by_cases h:d = t
   · subst h
     by_cases hl:d < a.tmps.size
     · simp [hl]
     · simp [hl]
   · simp [h]
theorem size_put (a:Act) (dst:Option Tmp) (v:Value):(a.put dst v).tmps.size = a.tmps.size:=by cases dst <;> simp [Act.put]
theorem defers_put (a:Act) (dst:Option Tmp) (v:Value):(a.put dst v).defers = a.defers:=by cases dst <;> rfl
theorem RelIn.value (r:RelIn cx tm lk a w Fz pos U) (dst:Option Tmp) {v:V} {u:Value} (h:RepT (cx.e Fz w lk pos) v u):RelIn cx (updTm tm cx.nt dst v) lk (a.put dst u) w Fz pos U:=by
 refine ⟨r.toHeld,by rw [size_put];exact r.size,by rw [defers_put];exact r.defers,by rw [defers_put];exact r.dnd,fun t=>?_⟩
 rw [getD_put,r.size]
 unfold updTm
 split
 · exact h
 · exact r.tmps t
theorem near_step {U Fz Fz':Nat→Prop} {w w':World} (r:Held cx lk w Fz pos U) (hs:Step Fz w Fz' w'):Near cx.w0 cx.Wr U Fz w Fz' w':=by
 have hlt:∀ b,(U b ∨ (b < cx.w0.heap.size∧¬ cx.Wr b))→b < w.heap.size:=fun b h=>h.elim (fun h=>(r.ugh b h).1) (fun h=>Nat.lt_of_lt_of_le h.1 r.step.size)
 exact ⟨hs.os,hs.tape,hs.output,hs.size,fun b h=>hs.block b (hlt b h),fun b h=>hs.fz b (hlt b h),hs.fut r.step.lt,hs.lt⟩
theorem Held.near (r:Held cx lk w Fz pos U) {Fz':Nat→Prop} {w':World} (hn:Near cx.w0 cx.Wr U Fz w Fz' w') (ho:∀ k s o b,lk k = some (s,o)→VB (pos k) b→w'.heap[b]? = w.heap[b]?∧¬ Fz' b):Held cx lk w' Fz' pos U:=by
 have hle:Le (cx.e Fz w lk pos) (cx.e Fz' w' lk pos):=⟨rfl,rfl,fun _ _ h=>h,fun _ _ h=>h,hn.fut,fun k s o h=>⟨s,o,h,Nat.le_refl _,fun _=>Ext.mk (Obj.alike_refl _) rfl⟩⟩
 refine ⟨fun k s o h=>?_,fun k s o b h hb=>⟨(ho k s o b h hb).2,(r.own k s o b h hb).2⟩,r.inj,⟨hn.os.trans r.step.os,hn.tape.trans r.step.tape,hn.output.trans r.step.output,Nat.le_trans r.step.size hn.size,fun b hb hw=>?_,fun b hb hw=>?_,hn.lt⟩,r.inv0,r.wr0,fun k s t run x h=>?_,r.orig,fun b hb=>?_⟩
 · exact RepO.mono hle _ _ (fun b hb=>(ho k s o b h hb).1) (r.objs k s o h)
 · exact (hn.same b (.inr ⟨hb,hw⟩)).trans (r.step.block b hb hw)
 · exact (hn.fz b (.inr ⟨hb,hw⟩)).trans (r.step.fz b hb hw)
 · obtain ⟨hk,J,cv,hg,hJ⟩:=r.gh k s t run x h
   refine ⟨hk,J,cv,hg,?_⟩
   have hf:=cx.frame
   rw [hg] at hf
   exact hf x U Fz w Fz' w' hJ hn
 · obtain ⟨h1,h2,h3,h4⟩:=r.ugh b hb
   exact ⟨Nat.lt_of_lt_of_le h1 hn.size,fun h=>h2 ((hn.fz b (.inl hb)).1 h),h3,h4⟩
theorem Held.call (r:Held cx lk w Fz pos U) {Fz':Nat→Prop} {w':World} (hs:Step Fz w Fz' w'):Held cx lk w' Fz' pos U:=by
 refine r.near (near_step r hs) fun k s o b h hb=>?_
 have hlt:b < w.heap.size:=(r.objs k s o h).lt hb
 exact ⟨hs.block b hlt,fun hf=>(r.own k s o b h hb).1 ((hs.fz b hlt).1 hf)⟩
theorem QuietD.step {d:Deferred} {Fz':Nat→Prop} {w':World} {U:Nat→Prop} (h:QuietD cx w Fz U d) (hs:Step Fz w Fz' w'):QuietD cx w' Fz' U d:=by
 obtain ⟨D,h1,h2,h3,h4,h5⟩:=h
 have hD:=(Array.getElem?_eq_some_iff.1 h2).1
 exact ⟨D,h1,(hs.block D hD).trans h2,h3,h4,fun h=>h5 ((hs.fz D hD).1 h)⟩
theorem RelIn.call (r:RelIn cx tm lk a w Fz pos U) {Fz':Nat→Prop} {w':World} (hs:Step Fz w Fz' w'):RelIn cx tm lk a w' Fz' pos U:=by
 have hle:Le (cx.e Fz w lk pos) (cx.e Fz' w' lk pos):=⟨rfl,rfl,fun _ _ h=>h,fun _ _ h=>h,hs.fut r.step.lt,fun k s o h=>⟨s,o,h,Nat.le_refl _,fun _=>Ext.mk (Obj.alike_refl _) rfl⟩⟩
 exact ⟨r.toHeld.call hs,r.size,fun d hd=>(r.defers d hd).step hs,r.dnd,fun t=>RepT.mono hle _ _ (r.tmps t)⟩
theorem RelIn.obj (r:RelIn cx tm lk a w Fz pos U) (k s:Nat) (o:Obj) (v:Value) {w':World}
   (hs:∀ s0 o0,lk k = some (s0,o0)→s0 ≤ s∧(s0 = s→Ext o0 (pos k) o v))
   (hos:w'.os = w.os) (htape:w'.tape = w.tape) (hout:w'.output = w.output) (hsize:w.heap.size ≤ w'.heap.size)
   (hblk:∀ b,b < w.heap.size→¬ VB v b→w'.heap[b]? = w.heap[b]?)
   (hnew:∀ b,VB v b→(∃ s0 o0,lk k = some (s0,o0)∧VB (pos k) b) ∨ w.heap.size ≤ b)
   (hrep:Le (cx.e Fz w lk pos) (cx.e Fz w' (updLk1 lk k s o) (updPos pos k v))→RepO (cx.e Fz w' (updLk1 lk k s o) (updPos pos k v)) o v) (hgh:∀ t run x,o ≠ .gh t run x:=by intro _ _ _ h;cases h) (h0:s = 0→lk k ≠ none:=by first | (intro h;omega) | (intro _;simp_all)) :
   RelIn cx tm (updLk1 lk k s o) a w' Fz (updPos pos k v) U:=by
 have hown:∀ b,VB v b→¬ Fz b∧(cx.w0.heap.size ≤ b ∨ cx.Wr b):=by
   intro b hb
   rcases hnew b hb with ⟨s0,o0,h1,h2⟩ | h
   · exact r.own k s0 o0 b h1 h2
   · exact ⟨fun hf=>by have:=r.step.lt b hf;omega,.inl (Nat.le_trans r.step.size h)⟩
 have hfut:Fut Fz w Fz w':=fun b hb=>⟨hb,hblk b (r.step.lt b hb) (fun hv=>(hown b hv).1 hb)⟩
 have hU:∀ b,U b→¬ VB v b:=by
   intro b hb hv
   obtain ⟨h1,h2,h3,h4⟩:=r.ugh b hb
   rcases hnew b hv with ⟨s0,o0,g1,g2⟩ | h
   · exact h4 k s0 o0 g1 g2
   · omega
 have hnear:Near cx.w0 cx.Wr U Fz w Fz w':=by
   refine ⟨hos,htape,hout,hsize,fun b hb=>?_,fun _ _=>Iff.rfl,hfut,fun b hb=>Nat.lt_of_lt_of_le (r.step.lt b hb) hsize⟩
   rcases hb with hb | ⟨h1,h2⟩
   · exact hblk b (r.ugh b hb).1 (hU b hb)
   · exact hblk b (Nat.lt_of_lt_of_le h1 r.step.size) fun hv => by rcases (hown b hv).2 with h | h;· omega
                                                                   · exact h2 h
 have hle:Le (cx.e Fz w lk pos) (cx.e Fz w' (updLk1 lk k s o) (updPos pos k v)):=by
   refine ⟨rfl,rfl,fun _ _ h=>h,fun _ _ h=>h,hfut,fun k' s' o' h=>?_⟩
   by_cases hk:k' = k
   · subst hk
     obtain ⟨h1,h2⟩:=hs s' o' h
     refine ⟨s,o,by simp [updLk1],h1,fun e=>?_⟩
     have:=h2 e
     simpa [updPos] using this
   · exact ⟨s',o',by simpa [updLk1,hk] using h,Nat.le_refl _,fun _=>Ext.mk (Obj.alike_refl _) (by simp [updPos,hk])⟩
 have hne:∀ k' s' o' b,k' ≠ k→lk k' = some (s',o')→VB (pos k') b→¬ VB v b:=by
   intro k' s' o' b hk h hb hv
   rcases hnew b hv with ⟨s0,o0,h1,h2⟩ | hge
   · exact hk (r.inj k' s' o' k s0 o0 b h h1 hb h2)
   · have:b < w.heap.size:=(r.objs k' s' o' h).lt hb
     omega
 refine ⟨⟨fun k' s' o' h=>?_,fun k' s' o' b h hb=>?_,?_,?_,r.inv0,r.wr0,fun k' s' t run x h=>?_,fun k' o' q h hq=>?_,fun b hb=>?_⟩,r.size,fun d hd=>?_,r.dnd,fun t=>RepT.mono hle _ _ (r.tmps t)⟩
 · by_cases hk:k' = k
   · subst hk
     simp only [updLk1,if_true,Option.some.injEq,Prod.mk.injEq] at h
     obtain ⟨rfl,rfl⟩:=h
     have:=hrep hle
     simpa [updPos] using this
   · have h':lk k' = some (s',o'):=by simpa [updLk1,hk] using h
     have hp:updPos pos k v k' = pos k':=by simp [updPos,hk]
     rw [hp]
     refine RepO.mono hle _ _ (fun b hb=>?_) (r.objs k' s' o' h')
     have hlt:=(r.objs k' s' o' h').lt hb
     exact hblk b hlt (hne k' s' o' b hk h' hb)
 · by_cases hk:k' = k
   · subst hk
     have:VB v b:=by simpa [updPos] using hb
     exact hown b this
   · have h':lk k' = some (s',o'):=by simpa [updLk1,hk] using h
     have hb':VB (pos k') b:=by simpa [updPos,hk] using hb
     exact r.own k' s' o' b h' hb'
 · intro k1 s1 o1 k2 s2 o2 b h1 h2 hb1 hb2
   by_cases e1:k1 = k
   · by_cases e2:k2 = k
     · omega
     · exfalso
       have h2':lk k2 = some (s2,o2):=by simpa [updLk1,e2] using h2
       have hb2':VB (pos k2) b:=by simpa [updPos,e2] using hb2
       exact hne k2 s2 o2 b e2 h2' hb2' (by simpa [updPos,e1] using hb1)
   · have h1':lk k1 = some (s1,o1):=by simpa [updLk1,e1] using h1
     have hb1':VB (pos k1) b:=by simpa [updPos,e1] using hb1
     by_cases e2:k2 = k
     · exact absurd (by simpa [updPos,e2] using hb2) (hne k1 s1 o1 b e1 h1' hb1')
     · exact r.inj k1 s1 o1 k2 s2 o2 b h1' (by simpa [updLk1,e2] using h2) hb1' (by simpa [updPos,e2] using hb2)
 · refine ⟨hos.trans r.step.os,htape.trans r.step.tape,hout.trans r.step.output,Nat.le_trans r.step.size hsize,fun b hb hw=>?_,r.step.fz,fun b hb=>Nat.lt_of_lt_of_le (r.step.lt b hb) hsize⟩
   exact (hnear.same b (.inr ⟨hb,hw⟩)).trans (r.step.block b hb hw)
 · have hk:k' ≠ k:=by
     intro hk
     subst hk
     simp only [updLk1,if_true,Option.some.injEq,Prod.mk.injEq] at h
     exact hgh t run x h.2
   have h':lk k' = some (s',.gh t run x):=by simpa [updLk1,hk] using h
   obtain ⟨g1,J,cv,g2,g3⟩:=r.gh k' s' t run x h'
   refine ⟨g1,J,cv,g2,?_⟩
   have hf:=cx.frame
   rw [g2] at hf
   exact hf x U Fz w Fz w' g3 hnear
 · by_cases hk:k' = k
   · subst hk
     simp only [updLk1,if_true,Option.some.injEq,Prod.mk.injEq] at h
     obtain ⟨rfl,rfl⟩:=h
     cases hlk:lk k' with
     | none=>exact absurd hlk (h0 rfl)
     | some q0 =>
       obtain ⟨s0,o0⟩:=q0
       obtain ⟨e1,e2⟩:=hs s0 o0 hlk
       obtain rfl:s0 = 0:=by omega
       simp only [updPos,if_true]
       exact (r.orig k' o0 q hlk hq).trans (e2 rfl)
   · have h':lk k' = some (0,o'):=by simpa [updLk1,hk] using h
     have:=r.orig k' o' q h' hq
     simpa [updPos,hk] using this
 · obtain ⟨h1,h2,h3,h4⟩:=r.ugh b hb
   refine ⟨Nat.lt_of_lt_of_le h1 hsize,h2,h3,fun k' s' o' h hb'=>?_⟩
   by_cases hk:k' = k
   · subst hk
     exact hU b hb (by simpa [updPos] using hb')
   · exact h4 k' s' o' (by simpa [updLk1,hk] using h) (by simpa [updPos,hk] using hb')
 · obtain ⟨D,h1,h2,h3,h4,h5⟩:=r.defers d hd
   refine ⟨D,h1,(hblk D (Array.getElem?_eq_some_iff.1 h2).1 fun hv=>?_).trans h2,h3,h4,h5⟩
   rcases hnew D hv with ⟨s0,o0,g1,g2⟩ | h
   · exact (r.objs k s0 o0 g1).noMark g2 _ h2
   · have:=(Array.getElem?_eq_some_iff.1 h2).1;omega
end Go.Pv
