/- The purifying layer, part 29: loops over maps, told from outside. -/
import Derived.Test.YtlebcefahlienaaPvAA
set_option linter.unusedVariables false
set_option linter.unusedSimpArgs false
namespace Go.Pv
open Go.ChangeMaps (setBlock)
variable {P:Program} {Γ:Cfg} {C:Type} {cx:Cx} {tm:Tm} {lk:Lk} {a:Act} {w:World} {Fz:Nat→Prop} {pos:Nat→Value} {U:Nat→Prop}
def allSeen {α:Type} (es:List α) (seen:List Nat):Bool:=(List.range es.length).all fun i=>seen.contains i
theorem allSeen_false {α:Type} {es:List α} {seen:List Nat} {i:Nat} {q:α} (h:es[i]? = some q) (hs:seen.contains i = false):allSeen es seen = false:=by
 cases ha:allSeen es seen with
 | false=>rfl
 | true =>
   unfold allSeen at ha
   rw [List.all_eq_true] at ha
   have:=ha i (by simpa using (List.getElem?_eq_some_iff.1 h).1)
   rw [hs] at this;cases this
theorem drew_rel (r:RelIn cx tm lk a w Fz pos U):RelIn cx tm lk a w.drew Fz pos U:=r.call ⟨rfl,rfl,rfl,Nat.le_refl _,fun _ _=>rfl,fun _ _=>Iff.rfl,r.step.lt⟩
theorem mapNext (r:RelIn cx tm lk a w Fz pos U) {d s:Nat} {kt vt:Ty} {es:List (kt.T×vt.T)} {seen:List Nat} {cur:Option (kt.T×vt.T)} (hlk:lk d = some (s,.mi kt vt es seen cur)) {u:Value} (hu:RepT (cx.e Fz w lk pos) (.ref d s []) u) (ty:TypeId) :
   (allSeen es seen = true∧(Instr.next u false ty).run P w = .ok (.tuple #[.bool false]) w) ∨
   ∃ i q v w' pos',es[i]? = some q∧seen.contains i = false∧(Instr.next u false ty).run P w = .ok v w'∧RelIn cx tm (updLk1 lk d s (.mi kt vt es (seen ++ [i]) (some q))) a w' Fz pos' U ∧
     RepT (cx.e Fz w' (updLk1 lk d s (.mi kt vt es (seen ++ [i]) (some q))) pos') (.tup [.dat .bool true,.dat kt q.1,.dat vt q.2]) v:=by
 obtain ⟨_,s2,ob,h2,_,hval⟩:=hu
 have h2:lk d = some (s2,ob):=h2
 rw [hlk] at h2
 simp only [Option.some.injEq,Prod.mk.injEq] at h2
 obtain ⟨rfl,rfl⟩:=h2
 obtain ⟨dd,ad,hoff,had,hu⟩:=hval rfl
 obtain ⟨rb,hpos,hcase,hcur⟩:=r.objs d s _ hlk
 have had:vaddr (pos d) = some ad:=had
 rw [hpos] at had
 simp only [vaddr,Option.some.injEq] at had
 subst had
 simp only [Obj.off,Option.some.injEq] at hoff
 subst hoff
 have hu:u = .pointer (some ⟨rb,0,none⟩):=by simpa using hu
 subst hu
 rcases hcase with ⟨hr,hes⟩ | ⟨b,ents,since,hr,hfz,hb,hsz,hm⟩
 · subst hes
   refine .inl ⟨rfl,?_⟩
   simp only [Instr.next,getObj,Sem.run_bind,Sem.run,hr,Result.andThen]
   rfl
 · have hborn:=MapRep_born 0 es _ hm
   have hlen:ents.toList.length = es.length:=by have:=congrArg List.length hborn;simpa using this
   have hold:∀ x ∈ ents.toList,x.born < since:=by
     intro x hx
     have:x.born ∈ ents.toList.map (·.born):=List.mem_map_of_mem hx
     rw [hborn] at this
     simp at this
     simp at hlen
     omega
   have hcon:∀ i,seen.toArray.contains i = seen.contains i:=fun i=>by simp
   rcases run_next_at (P:=P) w ty rb b since since seen.toArray ents since hr hb hold (Nat.le_refl _) with ⟨h0,hrun⟩ | ⟨e,he,w1,hw1,hrun⟩
   · refine .inl ⟨?_,hrun⟩
     unfold allSeen
     rw [List.all_eq_true]
     intro i hi
     have hi:i < es.length:=by simpa using hi
     obtain ⟨ent,g1,_,_,g4⟩:=MapRep_get 0 es _ hm i es[i] (by simp [hi])
     cases hc:seen.contains i with
     | true=>rfl
     | false =>
       have:ent ∈ leftOf ents seen.toArray:=by
         unfold leftOf
         rw [Array.mem_filter]
         refine ⟨by have:=List.mem_of_getElem? g1;simpa using this,?_⟩
         rw [hcon,g4,Nat.zero_add,hc];rfl
       have:=Array.size_pos_of_mem this
       omega
   · have hmem:e ∈ ents∧seen.contains e.born = false:=by
       have:e ∈ leftOf ents seen.toArray:=by simpa using he
       unfold leftOf at this
       rw [Array.mem_filter] at this
       refine ⟨this.1,?_⟩
       have h3:=this.2
       rw [hcon] at h3
       simpa using h3
     obtain ⟨j,hj⟩:=List.getElem?_of_mem (show e ∈ ents.toList by simpa using hmem.1)
     have hjl:j < es.length:=by have:=(List.getElem?_eq_some_iff.1 hj).1;omega
     obtain ⟨ent,g1,⟨ck,hck,hkey⟩,⟨cv,hcv,hval2⟩,g4⟩:=MapRep_get 0 es _ hm j es[j] (by simp [hjl])
     rw [hj] at g1
     simp only [Option.some.injEq] at g1
     subst g1
     have hbj:e.born = j:=by omega
     have hseen:seen.contains j = false:=by rw [← hbj];exact hmem.2
     have hr1:w1.heap[rb]? = some (.mapIter (some b) since seen.toArray since):=by rcases hw1 with rfl | rfl <;> exact hr
     have hb1:w1.heap[b]? = some (.map ents since):=by rcases hw1 with rfl | rfl <;> exact hb
     have rr:RelIn cx tm lk a w1 Fz pos U:=by rcases hw1 with rfl | rfl;exact r;exact drew_rel r
     have hheap:∀ x:Nat,w1.heap[x]? = w.heap[x]?:=by intro x;rcases hw1 with rfl | rfl <;> rfl
     have hlt:rb < w1.heap.size:=(Array.getElem?_eq_some_iff.1 hr1).1
     have hsame:(setBlock w1 rb (.mapIter (some b) since (seen.toArray.push e.born) since)).heap[rb]? = some (.mapIter (some b) since (seen.toArray.push e.born) since):=by simp [setBlock,hlt]
     have hoth:∀ x:Nat,x ≠ rb→(setBlock w1 rb (.mapIter (some b) since (seen.toArray.push e.born) since)).heap[x]? = w1.heap[x]?:=by
       intro x hx
       simp only [setBlock,Array.getElem?_setIfInBounds]
       rw [if_neg (fun h=>hx h.symm)]
     have hne:b ≠ rb:=fun h=>(r.own d s _ rb hlk (by rw [hpos];rfl)).1 (h ▸ hfz)
     have hfut:Fut Fz w Fz (setBlock w1 rb (.mapIter (some b) since (seen.toArray.push e.born) since)):=fun x hx=>⟨hx,(hoth x (fun h=>(r.own d s _ rb hlk (by rw [hpos];rfl)).1 (h ▸ hx))).trans (hheap x)⟩
     have r2:=rr.obj d s (.mi kt vt es (seen ++ [j]) (some es[j])) (pos d) (w':=setBlock w1 rb (.mapIter (some b) since (seen.toArray.push e.born) since)) (fun s0 o0 h=>by
         rw [hlk] at h
         simp only [Option.some.injEq,Prod.mk.injEq] at h
         obtain ⟨rfl,rfl⟩:=h
         exact ⟨Nat.le_refl _,fun _=>Ext.mk ⟨rfl,rfl⟩ rfl⟩) rfl rfl rfl (by simp [setBlock]) (fun x _ hx=>hoth x fun h=>hx (by rw [hpos,h];rfl)) (fun x hx=>.inl ⟨s,_,hlk,hx⟩)
       (fun hle=>⟨rb,hpos,.inr ⟨b,ents,since,by rw [hbj] at hsame;rw [hbj];refine hsame.trans ?_;simp,hfz,(hoth b hne).trans hb1,hsz,
         MapRep.mono (fun x u ⟨c,hc,hu⟩=>⟨c,hc.mono hfut,hu⟩) (fun x u ⟨c,hc,hu⟩=>⟨c,hc.mono hfut,hu⟩) _ _ _ hm⟩,fun q hq=>by
           simp only [Option.some.injEq] at hq
           subst hq
           exact ⟨j,by simp,by simp [hjl]⟩⟩) (h0:=by intro _;rw [hlk];simp)
     exact .inr ⟨j,es[j],_,_,_,by simp [hjl],hseen,hrun,r2,[.bool true,e.key,e.val],rfl,.bool true,_,rfl,⟨[.bool true],rfl,rfl⟩,e.key,_,rfl,⟨ck,RepC.mono hfut _ _ _ hck,hkey⟩,e.val,_,rfl,⟨cv,RepC.mono hfut _ _ _ hcv,hval2⟩,rfl⟩
theorem mapHead (hΓ:CfgOk P Γ) (hP:cx.P = P) (hg:cx.G = Γ.glob) {F:Fence} (hF:Wide F) {n id:Nat} {ops:Array Oper} {o1 o2:Oper} {t0 t1 t2 d:Nat} {kt vt:Ty} {es:List (kt.T×vt.T)} {seen:List Nat} {cur:Option (kt.T×vt.T)} {S:S2} {Q:Exit→Act→World→Prop}
   (hops:ops.toList = [o1,o2]) (h1:o1.op = .next (.tmp t0) false) (h1d:o1.dst = some t1) (h1g:o1.guard = none) (h2:o2.op = .extract (.tmp t1) 0) (h2d:o2.dst = some t2) (h2g:o2.guard = none) (ht:t1 < cx.nt) (hS0:S.1 t0 = .ref d 0 []) (hS1:S.2 d = some (0,.mi kt vt es seen cur)) (r:RelS cx S a w)
   (hover:allSeen es seen = true→∀ a' w',RelS cx ((S.put cx.nt (some t1) { val:=.tup [.dat .bool false] }).put cx.nt (some t2) { val:=.dat .bool false }) a' w'→Q .normal a' w')
   (hmet:∀ i q,es[i]? = some q→seen.contains i = false→∀ a' w',RelS cx ((S.put cx.nt (some t1) { val:=.tup [.dat .bool true,.dat kt q.1,.dat vt q.2],wr:=[(d,0,.mi kt vt es (seen ++ [i]) (some q))] }).put cx.nt (some t2) { val:=.dat .bool true }) a' w'→Q .normal a' w') :
   (Code.region id ops false).wpIn F n P Q a w:=by
 apply wpIn_region
 have hsz:ops.size = 2:=by have:=congrArg List.length hops;simpa using this
 have hr2:List.range ops.size = [0,1]:=by rw [hsz];rfl
 rw [hr2,wpOpsIn_cons]
 have ho1:ops[0]? = some o1:=by
   have:ops.toList[0]? = some o1:=by rw [hops];rfl
   simpa using this
 obtain ⟨Fz,pos,U,r⟩:=r
 unfold wpOpIn
 rw [ho1]
 simp only
 have hw:Region.wanted o1 (yielded ops a.tmps) = true:=by unfold Region.wanted;rw [h1g]
 rw [hw,if_pos rfl]
 refine wpOp_of_done hF (fun c hc=>by rw [h1] at hc;cases hc) ?_
 -- what comes after
 have rest:∀ (S':S2) (v:V) (vs:List V),S'.1 t1 = .tup (v :: vs)→∀ a' w',RelS cx S' a' w'→(∀ a' w',RelS cx (S'.put cx.nt (some t2) { val:=v }) a' w'→Q .normal a' w')→wpOpsIn F n P ops Q [1] a' w':=by
   intro S' v vs hv a' w' r' hQ
   have:=text_ops (n:=n) (Q:=Q) (ops:=ops) hΓ hP hg hF [(o2,some { val:=v })] 1 S' a' w' (by rw [hops];rfl) ⟨⟨by simp [h2g],fun e he=>by
       simp only [Option.some.injEq] at he
       subst he
       have hg2:gridOp Γ o2 S'.1 S'.2 = false:=by unfold gridOp;rw [h2]
       unfold evOp
       rw [hg2]
       simp only [cond_false]
       unfold evOp0
       rw [h2]
       simp only [Cfg.val,hv]
       rfl⟩,trivial⟩ r' (fun a2 w2 r2=>hQ a2 w2 (by
         have:runS cx.nt [(o2,some { val:=v })] S' = S'.put cx.nt (some t2) { val:=v }:=by simp only [runS,S2.step,Act1.eff,Option.getD_some,h2d]
         rw [this] at r2;exact r2))
   simpa using this
 have hval:=r.tmps t0
 rw [hS0] at hval
 have hev:∀ v w',(Instr.next (a.tmps.getD t0 undef) false o1.type).run P w = .ok v w'→(execOp a.eval o1).run P w = .ok (.value v) w':=by
   intro v w' h
   have h':=h
   rw [Array.getD_eq_getD_getElem?] at h'
   unfold execOp
   simp [h1,Act.eval,h']
 have hput:∀ (S0:S2) (v:V) (wr:List (Nat×Nat×Obj)) (vs:List V),v = .tup vs→(S0.put cx.nt (some t1) { val:=v,wr:=wr }).1 t1 = .tup vs:=by
   intro S0 v wr vs hv
   simp [S2.put,updTm,ht,hv]
 rcases mapNext (P:=P) r hS1 hval o1.type with ⟨hall,hrun⟩ | ⟨i,q,v,w',pos',hq,hs,hrun,r2,hv⟩
 · refine .inl ⟨_,w,hev _ _ hrun,?_⟩
   have r3:=r.value o1.dst (v:=.tup [.dat .bool false]) (u:=.tuple #[.bool false]) ⟨[.bool false],rfl,.bool false,[],rfl,⟨[.bool false],rfl,rfl⟩,rfl⟩
   refine rest (S.put cx.nt (some t1) { val:=.tup [.dat .bool false] }) (.dat .bool false) [] (hput _ _ _ _ rfl) _ _ ⟨Fz,pos,U,by rw [← h1d];exact r3⟩ fun a' w' r'=>hover hall a' w' r'
 · refine .inl ⟨v,w',hev _ _ hrun,?_⟩
   have r3:=r2.value o1.dst hv
   refine rest (S.put cx.nt (some t1) { val:=.tup [.dat .bool true,.dat kt q.1,.dat vt q.2],wr:=[(d,0,.mi kt vt es (seen ++ [i]) (some q))] }) (.dat .bool true) [.dat kt q.1,.dat vt q.2] (hput _ _ _ _ rfl) _ _ ⟨Fz,pos',U,by rw [← h1d];exact r3⟩ fun a' w' r'=>hmet i q hq hs a' w' r'
def AllRuns {X E:Type} (step:E→X→List E→List Nat→Option (X×List E×List Nat)):Nat→X→List E→List Nat→X→Prop
 | 0,x,es,seen,xf=>allSeen es seen = true∧xf = x
 | m + 1,x,es,seen,xf=>(allSeen es seen = true∧xf = x) ∨ (allSeen es seen = false∧∀ i q,es[i]? = some q→seen.contains i = false→∃ y,step q x es (seen ++ [i]) = some y∧AllRuns step m y.1 y.2.1 y.2.2 xf)
open Classical in
noncomputable def mall {X E:Type} (step:E→X→List E→List Nat→Option (X×List E×List Nat)) (x:X) (es:List E):Option X :=
 if h:∃ xf,∃ m,AllRuns step m x es [] xf then some h.choose else none
noncomputable def mrun {X E:Type} (step:E→X→List E→List Nat→Option (X×List E×List Nat)) (x:X) (es:List E):Option X :=
 match es with
 | []=>some x
 | [q]=>(step q x [q] [0]).bind fun y=>bif allSeen y.2.1 y.2.2 then some y.1 else mall step x [q]
 | es=>mall step x es
theorem mall_all {X E:Type} {step:E→X→List E→List Nat→Option (X×List E×List Nat)} {x xf:X} {es:List E} (h:mall step x es = some xf):∃ m,AllRuns step m x es [] xf:=by
 unfold mall at h
 split at h
 · rename_i hh
   simp only [Option.some.injEq] at h
   subst h
   exact hh.choose_spec
 · cases h
theorem mrun_all {X E:Type} {step:E→X→List E→List Nat→Option (X×List E×List Nat)} {x xf:X} {es:List E} (h:mrun step x es = some xf):∃ m,AllRuns step m x es [] xf:=by
 unfold mrun at h
 split at h
 · simp only [Option.some.injEq] at h
   subst h
   exact ⟨0,rfl,rfl⟩
 · rename_i q
   cases hs:step q x [q] [0] with
   | none=>rw [hs] at h;simp at h
   | some y =>
     rw [hs] at h
     simp only [Option.bind_some] at h
     cases ha:allSeen y.2.1 y.2.2 with
     | false=>rw [ha] at h;exact mall_all h
     | true =>
       rw [ha] at h
       simp only [cond_true,Option.some.injEq] at h
       refine ⟨1,.inr ⟨by simp [allSeen],fun i q' hi _=>?_⟩⟩
       cases i with
       | zero =>
         simp only [List.getElem?_cons_zero,Option.some.injEq] at hi
         subst hi
         exact ⟨y,hs,ha,h.symm⟩
       | succ i=>simp at hi
 · exact mall_all h
theorem AllRuns.fun {X E:Type} {step:E→X→List E→List Nat→Option (X×List E×List Nat)}:∀ (m m':Nat) (x:X) (es:List E) (seen:List Nat) (a b:X),AllRuns step m x es seen a→AllRuns step m' x es seen b→a = b
 | 0,0,x,es,seen,a,b,h,k=>h.2.trans k.2.symm
 | 0,m' + 1,x,es,seen,a,b,h,k=>by
   rcases k with k | k
   · exact h.2.trans k.2.symm
   · rw [h.1] at k;exact absurd k.1 (by simp)
 | m + 1,0,x,es,seen,a,b,h,k=>by
   rcases h with h | h
   · exact h.2.trans k.2.symm
   · rw [k.1] at h;exact absurd h.1 (by simp)
 | m + 1,m' + 1,x,es,seen,a,b,h,k=>by
   rcases h with h | h <;> rcases k with k | k
   · exact h.2.trans k.2.symm
   · rw [h.1] at k;exact absurd k.1 (by simp)
   · rw [k.1] at h;exact absurd h.1 (by simp)
   · obtain ⟨i,q,hi,hs⟩:∃ i q,es[i]? = some q∧seen.contains i = false:=by
       have:=h.1
       unfold allSeen at this
       rw [List.all_eq_false] at this
       obtain ⟨i,hi,hc⟩:=this
       have hi:i < es.length:=by simpa using hi
       exact ⟨i,es[i],by simp [hi],by simpa using hc⟩
     obtain ⟨y,hy,hr⟩:=h.2 i q hi hs
     obtain ⟨z,hz,kr⟩:=k.2 i q hi hs
     rw [hy] at hz
     simp only [Option.some.injEq] at hz
     subst hz
     exact AllRuns.fun m m' _ _ _ a b hr kr
structure MTold where
 nt:Nat
 d:Nat
 t0:Nat
 t1:Nat
 t2:Nat
 id:Nat
 kt:Ty
 vt:Ty
 sv:List Sh1
 so:List OSh
 kT:List Nat
 kK:List Nat
 oT:List Nat
 oK:List Nat
 step:(kt.T×vt.T)→(Prod1 sv×ProdO so)→List (kt.T×vt.T)→List Nat→Option ((Prod1 sv×ProdO so)×List (kt.T×vt.T)×List Nat)
 out:Prod1 sv×ProdO so→St
abbrev MTold.X (t:MTold):Type:=Prod1 t.sv×ProdO t.so
abbrev MTold.E (t:MTold):Type:=t.kt.T×t.vt.T
def MTold.head (t:MTold) (x:t.X) (es:List t.E) (seen:List Nat) (cur:Option t.E):St :=
 build t.nt (t.t0 :: t.kT) (t.d :: t.kK) (.ref t.d 0 [] :: put1 t.sv x.1) (some (.mi t.kt t.vt es seen cur) :: putO t.so x.2)
def MTold.over (t:MTold) (x:t.X) (es:List t.E) (seen:List Nat) (cur:Option t.E):St :=
 ((t.head x es seen cur).apply (some t.t1) { val:=.tup [.dat .bool false] }).apply (some t.t2) { val:=.dat .bool false }
def MTold.met (t:MTold) (x:t.X) (q:t.E) (es:List t.E) (seen:List Nat):St :=
 ((t.head x es [] none).apply (some t.t1) { val:=.tup [.dat .bool true,.dat t.kt q.1,.dat t.vt q.2],wr:=[(t.d,0,.mi t.kt t.vt es seen (some q))] }).apply (some t.t2) { val:=.dat .bool true }
def MTold.back (t:MTold) (st:St):Option (t.X×List t.E×List Nat) :=
 bif objsOk (norm (t.t0 :: t.kT) (t.d :: t.kK) st).objs then
   match get1 (.a (.ref t.d 0 []) :: t.sv) (keptV (t.t0 :: t.kT) (t.d :: t.kK) st),getO (.mi t.kt t.vt :: t.so) (keptO (t.d :: t.kK) st) with
   | some x,some y=>some ((x.2,y.2),y.1.1,y.1.2.1)
   | _,_=>none
 else none
noncomputable def MTold.fn (t:MTold):LoopFn:=⟨fun n vs os K'=>bif Nat.beq n t.nt then
   (match get1 (.a (.ref t.d 0 []) :: t.sv) vs,getO (.mi t.kt t.vt :: t.so) os with
   | some x,some y=>(match y.1.2.1 with
     | []=>(mrun t.step (x.2,y.2) y.1.1).bind fun xf=>K' (.exit t.id) (t.out xf)
     | _=>none)
   | _,_=>none) else none⟩
noncomputable def toldM:List (Nat×MTold)→Nat→Option LoopFn
 | [],_=>none
 | q :: r,p=>bif Nat.beq q.1 p then some q.2.fn else toldM r p
structure MToldOk (Γ:Cfg) (an:Ann) (root:Code) (p:Nat) (t:MTold):Prop where
 keep:an.keepOf p = (t.t0 :: t.kT,t.d :: t.kK)
 pos:Nat.ble 1 p = true
 lt:Nat.blt t.t1 t.nt = true
 ne:Nat.beq t.t0 t.t1 = false
 fit:∀ x es seen cur,objsOk (t.head x es seen cur).objs = true
 outfit:∀ x,objsOk (t.out x).objs = true
 outs:∀ x es seen cur,norm t.oT t.oK (t.over x es seen cur) = t.out x
 code:∃ rid ops o1 o2 c2,codeAt root 64 p = some (.loop (.seq (.region rid ops false) c2))∧ops.toList = [o1,o2]∧o1.op = .next (.tmp t.t0) false∧o1.dst = some t.t1∧o1.guard = none∧o2.op = .extract (.tmp t.t1) 0∧o2.dst = some t.t2∧o2.guard = none ∧
   (∀ x q es seen,ev Γ an.inM c2 (2 * (2 * p) + 1) (t.met x q es seen) (fun e st=>match e with | .normal=>t.back st | _=>none) = t.step q x es seen) ∧
   (∀ x es seen cur,ev Γ an.inM c2 (2 * (2 * p) + 1) (t.over x es seen cur) (fun e st=>match e with | .exit i=>bif Nat.beq i t.id then some st else none | _=>none) = some (t.over x es seen cur))
def AllM (Γ:Cfg) (an:Ann) (root:Code):List (Nat×MTold)→Prop
 | []=>True
 | q :: r=>MToldOk Γ an root q.1 q.2∧AllM Γ an root r
theorem codeAt_up {root:Code} {p:Nat} {c:Code} {k:Nat} (h:codeAt root k p = some c):∀ {k':Nat},k ≤ k'→codeAt root k' p = some c:=by
 intro k' hk
 obtain ⟨j,rfl⟩:∃ j,k' = k + j:=⟨k' - k,by omega⟩
 clear hk
 induction j with
 | zero=>exact h
 | succ j ih=>exact codeAt_mono _ _ _ ih
theorem build_lk0 (n:Nat) (ts:List Nat) (d:Nat) (ks:List Nat) (vs:List V) (o:Obj) (os:List (Option Obj)):(build n ts (d :: ks) vs (some o :: os)).lk = updLk1 (lookObj (objsAt ks os)) d 0 o:=by
 funext x
 show lookObj ((d,0,o) :: objsAt ks os) x = _
 simp only [lookObj,updLk1]
 by_cases h:x = d
 · rw [if_pos h.symm,if_pos h]
 · rw [if_neg (fun e=>h e.symm),if_neg h]
theorem MToldOk.sound {an:Ann} {root:Code} {p:Nat} {t:MTold} (hΓ:CfgOk P Γ) (h:MToldOk Γ an root p t) (hL:LOk0 Γ an.inM root) {k:Nat} {b:Code} (hb:codeAt root k p = some (.loop b)) (hP:cx.P = P) (hg:cx.G = Γ.glob) {F:Fence} (hF:Wide F) {n:Nat} {st:St} {K':Ex→St→Option C} {r0:C}
   (hl:st.tmps.length = cx.nt) (hr:t.fn.run st.tmps.length (keptV (an.keepOf p).1 (an.keepOf p).2 st) (keptO (an.keepOf p).2 st) K' = some r0) (r:RelS cx st.s2 a w) {Q:Exit→Act→World→Prop}
   (hQ:∀ e st' a' w',st'.tmps.length = cx.nt→RelS cx st'.s2 a' w'→K' e st' = some r0→Q (exOf e) a' w'):(Code.loop b).wpIn F n P Q a w:=by
 obtain ⟨rid,ops,o1,o2,c2,hc,hops,h1,h1d,h1g,h2,h2d,h2g,hmet,hover⟩:=h.code
 have hbe:b = .seq (.region rid ops false) c2:=by
   have e1:=codeAt_up hb (show k ≤ max k 64 by omega)
   have e2:=codeAt_up hc (show 64 ≤ max k 64 by omega)
   rw [e1] at e2
   simpa using e2
 subst hbe
 have hat:AtP root p (.loop (.seq (.region rid ops false) c2)):=by
   exact ⟨by simpa using h.pos,k,hb⟩
 -- what the shapes say
 simp only [MTold.fn] at hr
 cases hn:Nat.beq st.tmps.length t.nt with
 | false=>rw [hn] at hr;simp at hr
 | true =>
   rw [hn] at hr
   simp only [cond_true] at hr
   have hnt:st.tmps.length = t.nt:=Nat.eq_of_beq_eq_true hn
   rw [h.keep] at hr
   split at hr
   · rename_i xv yv hx hy
     obtain ⟨⟨⟩,xv⟩:=xv
     obtain ⟨⟨es,seen,cur⟩,yo⟩:=yv
     split at hr
     · rename_i hseen
       simp only at hseen
       subst hseen
       cases hm:mrun t.step (xv,yo) es with
       | none=>rw [hm] at hr;simp at hr
       | some xf =>
         rw [hm] at hr
         simp only [Option.bind_some] at hr
         obtain ⟨m,hall⟩:=mrun_all hm
         have hnorm:norm (t.t0 :: t.kT) (t.d :: t.kK) st = t.head (xv,yo) es [] cur:=by
           unfold norm MTold.head
           rw [get1_put _ _ _ hx,getO_put _ _ _ hy,hnt]
           rfl
         have hok:objsOk (norm (t.t0 :: t.kT) (t.d :: t.kK) st).objs = true:=by rw [hnorm];exact h.fit _ _ _ _
         obtain ⟨r1,l1⟩:=norm_rep hok r
         rw [hnorm] at r1
         have hlen:∀ x es seen cur,(t.head x es seen cur).tmps.length = cx.nt:=fun x es seen cur=>by rw [← hl,hnt];rfl
         refine wpIn_loop_ghost (fun m a w=>∃ x es seen cur,RelS cx (t.head x es seen cur).s2 a w∧AllRuns t.step m x es seen xf) (m:=m) ⟨_,es,[],cur,r1,hall⟩ fun m a w hI=>?_
         obtain ⟨x,es,seen,cur,r1,hall⟩:=hI
         refine wpIn_seq ?_
         have hS0:(t.head x es seen cur).s2.1 t.t0 = .ref t.d 0 []:=by
           show Tms.get _ t.t0 = _
           simp [MTold.head,build,Tms.get,findT]
         have hS1:(t.head x es seen cur).s2.2 t.d = some (0,.mi t.kt t.vt es seen cur):=by
           show (t.head x es seen cur).lk t.d = _
           unfold MTold.head
           rw [build_lk0];simp [updLk1]
         have hLR:LOk P Γ an.inM root:=⟨hL,noMaps rfl _⟩
         have hLI:LOk P Γ an.inM.inR root:=⟨(fun p f hp=>by cases hp),noMaps rfl _⟩
         have hRO:ROk Γ an.inM root:=fun p R hp=>by cases hp
         have hc2:AtP root (2 * (2 * p) + 1) c2:=(hat.l (.inr (.inr (.inr (.inl rfl))))).r (.inl ⟨_,rfl⟩)
         refine mapHead hΓ hP hg hF hops h1 h1d h1g h2 h2d h2g (by rw [← hl,hnt];simpa using h.lt) hS0 hS1 r1 (fun hs a' w' r'=>?_) (fun i q hq hs a' w' r'=>?_)
         · -- all were met
           have hxf:xf = x:=by
             cases m with
             | zero=>exact hall.2
             | succ m =>
               rcases hall with hh | hh
               · exact hh.2
               · rw [hs] at hh;exact absurd hh.1 (by simp)
           have r2:RelS cx (t.over x es seen cur).s2 a' w':=by
             have:(t.over x es seen cur).s2 = ((t.head x es seen cur).s2.put cx.nt (some t.t1) { val:=.tup [.dat .bool false] }).put cx.nt (some t.t2) { val:=.dat .bool false }:=by
               unfold MTold.over
               rw [apply_s2,apply_s2,apply_len,hlen]
             rw [this];exact r'
           refine ev_sound hΓ c2 cx hP hg F hF n an.inM root hLR hLI hRO (fun h=>by cases h) (.inl fun _=>rfl) _ hc2 (t.over x es seen cur) _ _ a' w' (by unfold MTold.over;rw [apply_len,apply_len,hlen]) (hover x es seen cur) r2 _ fun e st' a2 w2 hl2 r2' hk=>?_
           cases e with
           | normal=>simp at hk
           | ret=>simp at hk
           | exit i =>
             simp only at hk
             cases hi:Nat.beq i t.id with
             | false=>rw [hi] at hk;simp at hk
             | true =>
               rw [hi] at hk
               simp only [cond_true,Option.some.injEq] at hk
               have hi:=Nat.eq_of_beq_eq_true hi
               subst hi
               subst hk
               have hok2:objsOk (norm t.oT t.oK (t.over x es seen cur)).objs = true:=by rw [h.outs];exact h.outfit _
               obtain ⟨r3,l3⟩:=norm_rep hok2 r2'
               rw [h.outs] at r3 l3
               rw [hxf] at hr
               exact hQ (.exit t.id) (t.out x) a2 w2 (l3.trans hl2) r3 hr
         · -- one more
           have hnall:=allSeen_false hq hs
           obtain ⟨m',y,hm',hy,hall'⟩:∃ m' y,m = m' + 1∧t.step q x es (seen ++ [i]) = some y∧AllRuns t.step m' y.1 y.2.1 y.2.2 xf:=by
             cases m with
             | zero=>have h9:=hall.1;rw [hnall] at h9;cases h9
             | succ m =>
               rcases hall with hh | hh
               · have h9:=hh.1;rw [hnall] at h9;cases h9
               · obtain ⟨y,h5,h6⟩:=hh.2 i q hq hs
                 exact ⟨m,y,rfl,h5,h6⟩
           have r2:RelS cx (t.met x q es (seen ++ [i])).s2 a' w':=by
             have:(t.met x q es (seen ++ [i])).s2 = ((t.head x es seen cur).s2.put cx.nt (some t.t1) { val:=.tup [.dat .bool true,.dat t.kt q.1,.dat t.vt q.2],wr:=[(t.d,0,.mi t.kt t.vt es (seen ++ [i]) (some q))] }).put cx.nt (some t.t2) { val:=.dat .bool true }:=by
               unfold MTold.met
               rw [apply_s2,apply_s2,apply_len,hlen]
               have:(t.head x es [] none).s2.put cx.nt (some t.t1) { val:=.tup [.dat .bool true,.dat t.kt q.1,.dat t.vt q.2],wr:=[(t.d,0,.mi t.kt t.vt es (seen ++ [i]) (some q))] } = (t.head x es seen cur).s2.put cx.nt (some t.t1) { val:=.tup [.dat .bool true,.dat t.kt q.1,.dat t.vt q.2],wr:=[(t.d,0,.mi t.kt t.vt es (seen ++ [i]) (some q))] }:=by
                 simp only [S2.put,Prod.mk.injEq]
                 refine ⟨rfl,?_⟩
                 show updLk _ (t.head x es [] none).lk = updLk _ (t.head x es seen cur).lk
                 unfold MTold.head
                 rw [build_lk0,build_lk0]
                 funext z
                 simp only [updLk,updLk1]
                 split <;> rfl
               rw [this]
             rw [this];exact r'
           refine ev_sound hΓ c2 cx hP hg F hF n an.inM root hLR hLI hRO (fun h=>by cases h) (.inl fun _=>rfl) _ hc2 (t.met x q es (seen ++ [i])) _ _ a' w' (by unfold MTold.met;rw [apply_len,apply_len,hlen]) ((hmet x q es (seen ++ [i])).trans hy) r2 _ fun e st' a2 w2 hl2 r2' hk=>?_
           cases e with
           | exit i=>simp at hk
           | ret=>simp at hk
           | normal =>
             simp only [MTold.back] at hk
             cases hok2:objsOk (norm (t.t0 :: t.kT) (t.d :: t.kK) st').objs with
             | false=>rw [hok2] at hk;simp at hk
             | true =>
               rw [hok2] at hk
               simp only [cond_true] at hk
               split at hk
               · rename_i xv2 yv2 hx2 hy2
                 obtain ⟨⟨⟩,xv2⟩:=xv2
                 obtain ⟨⟨es2,seen2,cur2⟩,yo2⟩:=yv2
                 simp only [Option.some.injEq] at hk
                 subst hk
                 have hnorm2:norm (t.t0 :: t.kT) (t.d :: t.kK) st' = t.head (xv2,yo2) es2 seen2 cur2:=by
                   unfold norm MTold.head
                   rw [get1_put _ _ _ hx2,getO_put _ _ _ hy2,hl2,← hl,hnt]
                   rfl
                 obtain ⟨r3,l3⟩:=norm_rep hok2 r2'
                 rw [hnorm2] at r3
                 exact ⟨m',by omega,_,_,_,_,r3,hall'⟩
               · simp at hk
     · simp at hr
   · simp at hr
def mapParts:Option Code→Nat×Array Oper×Code
 | some (.loop (.seq (.region id ops _) c))=>(id,ops,c)
 | _=>(0,#[],.skip)
def op0 (ops:Array Oper):Oper:=match ops.toList with | a :: _=>a | []=>default
def op1 (ops:Array Oper):Oper:=match ops.toList with | _ :: b :: _=>b | _=>default
theorem toldM_ok (hΓ:CfgOk P Γ) {an:Ann} {root:Code} (l:List (Nat×MTold)) (hM:an.M = toldM l) (hL:LOk0 Γ an.inM root) (h:AllM Γ an root l):MOk P Γ an root:=by
 intro p f hp k b hk cx hP hg F hF n C st K' r0 a w hl hr r Q hQ
 rw [hM] at hp
 have key:∀ l:List (Nat×MTold),AllM Γ an root l→toldM l p = some f→∃ t:MTold,f = t.fn∧MToldOk Γ an root p t:=by
   intro l
   induction l with
   | nil=>intro _ h;cases h
   | cons q l ih =>
     intro ha h
     simp only [toldM] at h
     cases hq:Nat.beq q.1 p with
     | true =>
       rw [hq] at h
       simp only [cond_true,Option.some.injEq] at h
       refine ⟨q.2,h.symm,?_⟩
       rw [← Nat.eq_of_beq_eq_true hq];exact ha.1
     | false=>rw [hq] at h;exact ih ha.2 h
 obtain ⟨t,rfl,ht⟩:=key l h hp
 exact ht.sound hΓ hL hk hP hg hF hl hr r hQ
end Go.Pv
