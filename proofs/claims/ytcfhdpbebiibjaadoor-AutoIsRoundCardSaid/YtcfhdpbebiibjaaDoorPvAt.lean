/- Seat 05: the number of the sequence at a state ((Machine).at), a loop over a function. -/
import Derived.RangeFuncWrites
import Derived.Shelf.Abstract
import Derived.WalkKit
import Derived.OwnWalkIn
import Derived.TacticsInMore
import Derived.LoopNIn
import Derived.LoopIn
import Derived.Test.YtcfhdpbebiibjaaDoorPvAM
import Derived.Test.YtcfhdpbebiibjaaDoorProg
set_option linter.unusedVariables false
set_option linter.unusedSimpArgs false
namespace Go.Pv
open Go.Proofs Go.RowKit Go.Shelf
attribute [local go_sem] Oper.semAt_some
set_option maxHeartbeats 1000000 in
theorem digits_in (F:Fence) (n:Nat) (h5:F.fn 94) (hro:F.round = none) (x y:Int) (w:World) :
   CallsIn F n Tryd.prog 94 #[.int .i64 x,.int .i64 y] w fun e w'=>e = .returned (.func (.func 102) #[] #[.pointer (some ⟨w.heap.size,0,none⟩),.pointer (some ⟨w.heap.size + 1,0,none⟩)]) ∧
     w' = (w.alloc (.cells #[.int .i64 x] 2)).alloc (.cells #[.int .i64 y] 3):=by
 refine callsIn_of_wp Tryd.func94 rfl h5 ?_ hro
 simp only [Tryd.ntmps94,List.size_toArray,List.length_cons,List.length_nil,Nat.reduceAdd,Nat.reduceSub,Array.replicate_succ,Array.replicate_zero,List.push_toArray,List.append_toArray,List.nil_append,List.cons_append]
 gi_wp2
 go_ret
 exact ⟨rfl,rfl⟩
def atStep (nx:List (List Int)) (b n s:Int):Option Int :=
 if b = 0 then none else if idx s nx.length then if idx (n.tmod b) (nx.getD s.toNat []).length then some ((nx.getD s.toNat []).getD (n.tmod b).toNat 0) else none else none
def atP (nx:List (List Int)) (b:Int):Nat→Int→Int→Option Int
 | 0,_,_=>none
 | N + 1,n,s=>if 0 < n then (match atStep nx b n s with | some s'=>atP nx b N (IntKind.i64.wrap (n.tdiv b)) s' | none=>none) else some s
set_option maxRecDepth 100000 in
set_option maxHeartbeats 2000000 in
theorem iter_in (F:Fence) (m:Nat) (h6:F.fn 102) (hro:F.round = none) (hm:1 ≤ m) (l Bn Bb:Nat) (nx:List (List Int)) (b:Int) (J:Int→Int→World→Prop)
   (hc:∀ s n W,J s n W→W.cell? ⟨Bn,0,none⟩ = some (.int .i64 n)∧W.frozen? ⟨Bn,0,none⟩ = false∧W.cell? ⟨Bb,0,none⟩ = some (.int .i64 b))
   (hset:∀ s n n' W,J s n W→J s n' (W.setCell ⟨Bn,0,none⟩ (.int .i64 n')))
   (hY:∀ s n s' W,J s n W→0 < n→atStep nx b n s = some s'→YieldAt F (m - 1) Tryd.prog l #[.int .i64 (n.tmod b)] W fun e W'=>e = .returned (.bool true)∧J s' n W')
   (N:Nat) (s n sf:Int) (W:World) (hat:atP nx b N n s = some sf) (hJ:J s n W) :
   CallsIn F m Tryd.prog 102 #[.func (.yield l) #[] #[],.pointer (some ⟨Bn,0,none⟩),.pointer (some ⟨Bb,0,none⟩)] W fun e W'=>(∃ v,e = .returned v)∧∃ n',J sf n' W':=by
 refine callsIn_of_wp Tryd.func102 rfl h6 ?_ hro
 simp only [Tryd.ntmps102,List.size_toArray,List.length_cons,List.length_nil,Nat.reduceAdd,Nat.reduceSub,Array.replicate_succ,Array.replicate_zero,List.push_toArray,List.append_toArray,List.nil_append,List.cons_append]
 gi_wp2
 refine wpIn_loop_ghost (fun M a W=>∃ s n x3 x4 x5 x6 x7 x8 x9 x10 x11 x12 x13 x14 x15,a = { tmps:=#[.func (.yield l) #[] #[],.pointer (some ⟨Bn,0,none⟩),.pointer (some ⟨Bb,0,none⟩),x3,x4,x5,x6,x7,x8,x9,x10,x11,x12,x13,x14,x15],defers:=[] }∧J s n W∧atP nx b M n s = some sf)
   ⟨s,n,_,_,_,_,_,_,_,_,_,_,_,_,_,rfl,hJ,hat⟩ ?_
 rintro M a W ⟨s,n,x3,x4,x5,x6,x7,x8,x9,x10,x11,x12,x13,x14,x15,rfl,hJ,hat⟩
 obtain ⟨c1,c2,c3⟩:=hc s n W hJ
 cases M with
 | zero=>simp [atP] at hat
 | succ M =>
   simp only [atP] at hat
   by_cases hn:0 < n
   · rw [if_pos hn] at hat
     cases hs:atStep nx b n s with
     | none=>rw [hs] at hat;simp at hat
     | some s' =>
       rw [hs] at hat
       simp only at hat
       have hb:b ≠ 0:=by
         intro h0
         unfold atStep at hs
         rw [if_pos h0] at hs
         cases hs
       obtain ⟨fn,tmps,assign,body,hy,hR⟩:=hY s n s' W hJ hn hs
       have hmod:n.tmod b = n % b:=Int.tmod_eq_emod_of_nonneg (by omega)
       rw [hmod] at hy
       gi_wp2
       refine hR.mono ?_
       rintro e W3 ⟨rfl,hJ3⟩
       obtain ⟨d1,d2,d3⟩:=hc s' n W3 hJ3
       gi_wp2
       exact ⟨M,Nat.lt_succ_self M,s',_,_,_,_,_,_,_,_,_,_,_,_,_,_,rfl,hset _ _ _ _ hJ3,by rw [← IntWalk.i64_left];exact hat⟩
   · rw [if_neg hn] at hat
     simp only [Option.some.injEq] at hat
     subst hat
     gi_wp2
     refine ⟨fun f h=>(by cases h),?_⟩
     gi_wp2
     go_end0
     exact ⟨⟨_,rfl⟩,_,hJ⟩
theorem rf_law {F:Fence} {n:Nat} {P:Program} {g:Operand} {ps:Array Tmp} {assign body:Code} {Q:Exit→Act→World→Prop} {a:Act} {w:World}
   (hro:F.round = none) (h1:1 ≤ n) {gf:Nat} {lb:Array Value} (hg:a.eval g = .func (.func gf) #[] lb) (hFg:F.fn gf) (eg:∀ args w,(callFunc gf args).run P w = .ok (.enter gf args) w)
   (h:∀ (fn:FuncId) (rec:LoopState→Option Code→Loop),F.fn fn→rec = (fun st pe=>{ state:=st,pending:=pe,fn,tmps:=a.tmps,params:=ps,assign,body,defers:=w.heap.size }) →
     CallsIn F (n - 1) P gf (#[.func (.yield (w.heap.size + 1)) #[] #[]] ++ lb) ((w.alloc (.deferred (some []))).alloc (.loop (rec .ready none))) fun e W =>
       ∃ v,e = .returned v∧W.heap[w.heap.size + 1]? = some (.loop (rec .ready none))∧∀ r:Loop,Q .normal { a with defers:={ target:=.collected w.heap.size,args:=#[] } :: a.defers } (W.putObj (w.heap.size + 1) (.loop r))) :
   (Code.rangeFunc g ps assign body).wpIn F n P Q a w:=by
 refine wpIn_rangeFunc ?_
 intro fn hfn
 rw [hro]
 obtain ⟨rec,hrec⟩:∃ rec:LoopState→Option Code→Loop,rec = fun st pe=>{ state:=st,pending:=pe,fn,tmps:=a.tmps,params:=ps,assign,body,defers:=w.heap.size }:=⟨_,rfl⟩
 refine ⟨w.heap.size + 1,[{ target:=.collected w.heap.size,args:=#[] }],(w.alloc (.deferred (some []))).alloc (.loop (rec .ready none)),{ target:=.fn (.func gf) lb,args:=#[.func (.yield (w.heap.size + 1)) #[] #[]] },(w.alloc (.deferred (some []))).alloc (.loop (rec .ready none)),gf,
   #[.func (.yield (w.heap.size + 1)) #[] #[]] ++ lb,(w.alloc (.deferred (some []))).alloc (.loop (rec .ready none)),?_,?_,?_,?_,fun _=>h1,?_⟩
 · rw [hrec];exact run_enterLoop_outer _ _ _ _ _
 · simp only [resolve,hg]
   simp [go_sem]
 · intro f' hf';simp [Target.leads] at hf';subst hf';exact hFg
 · simp [invoke,go_sem,eg]
 · refine (h fn rec hfn hrec).mono ?_
   rintro e W ⟨v,rfl,hl,hQ⟩
   have:=run_endLoop (P:=P) hl (by rw [hrec];simp)
   rw [hrec] at this
   exact ⟨none,_,this,hQ _⟩
theorem round_law {F:Fence} {m l:Nat} {P:Program} {rec:LoopState→Option Code→Loop} {fn:FuncId} {tmps:Array Value} {ps:Array Tmp} {assign body:Code} {D:Nat} {args:Array Value} {W:World} {R:World→Prop} (hfn:F.fn fn)
   (hrec:rec = fun st pe=>{ state:=st,pending:=pe,fn,tmps,params:=ps,assign,body,defers:=D }) (hl:W.heap[l]? = some (.loop (rec .ready none))) (hps:args.size = ps.size) (a₁:Act)
   (hassign:∀ K:Act→World→Prop,K a₁ W→assign.wpIn (F.inRound l) m P (Exit.then K (fun _ _ _=>False)) { tmps:=(ps.zip args).foldl (fun t (p,v)=>t.setIfInBounds p v) tmps,defers:=[] } W)
   (hbody:body.wpIn (F.inRound l) m P (fun e _ W'=>e = .normal∧W'.heap[l]? = some (.loop { rec .ready none with state:=.busy })∧R (W'.putObj l (.loop (rec .ready none)))) a₁ (W.putObj l (.loop { rec .ready none with state:=.busy }))) :
   YieldAt F m P l args W fun e W'=>e = .returned (.bool true)∧R W':=by
 have hy:=run_yield (P:=P) (args:=args) hl (by rw [hrec];exact hps)
 rw [hrec] at hy
 refine ⟨fn,_,assign,body,hy,roundIn_of_wpIn hfn (hassign _ ⟨_,run_beginRound hl (by rw [hrec]),?_⟩)⟩
 refine wpIn_mono hbody ?_
 rintro e a3 W3 ⟨rfl,hl3,hR⟩
 have:=run_endRound (P:=P) none hl3
 rw [hrec] at this hR
 exact ⟨_,_,this,rfl,hR⟩
structure At (w W:World) (v0 v1 v2:Value) (s n b:Int) (rec:Loop):Prop where
 below:Below w.heap.size w W
 m0:W.cell? ⟨w.heap.size,0,none⟩ = some v0
 m1:W.cell? ⟨w.heap.size,1,none⟩ = some v1
 m2:W.cell? ⟨w.heap.size,2,none⟩ = some v2
 cs:W.cell? ⟨w.heap.size + 1,0,none⟩ = some (.int .i64 s)
 fs:W.frozen? ⟨w.heap.size + 1,0,none⟩ = false
 cn:W.cell? ⟨w.heap.size + 1 + 1,0,none⟩ = some (.int .i64 n)
 fn:W.frozen? ⟨w.heap.size + 1 + 1,0,none⟩ = false
 cb:W.cell? ⟨w.heap.size + 1 + 1 + 1,0,none⟩ = some (.int .i64 b)
 rl:W.heap[w.heap.size + 1 + 1 + 1 + 1 + 1]? = some (.loop rec)
 rd:W.heap[w.heap.size + 1 + 1 + 1 + 1]? = some (.deferred (some []))
theorem cell_new (W:World) (cs:Array Value) (t:TypeId) (j:Nat) (v:Value) (h:cs[j]? = some v):(W.alloc (.cells cs t)).cell? ⟨W.heap.size,j,none⟩ = some v∧(W.alloc (.cells cs t)).frozen? ⟨W.heap.size,j,none⟩ = false:=by
 have:=World.alloc_heap_new W (.cells cs t)
 constructor
 · simp only [World.cell?,this];exact h
 · simp only [World.frozen?,this];simp
theorem cell_al {W:World} {a:Addr} {v:Value} (o:Go.Obj) (h:W.cell? a = some v):(W.alloc o).cell? a = some v:=cell_kept h (World.grownBy_alloc W o none) (fun r e=>by cases e)
theorem frozen_al {W:World} {a:Addr} {v:Value} (o:Go.Obj) (h:W.cell? a = some v) (hf:W.frozen? a = false):(W.alloc o).frozen? a = false:=(frozen_kept h (World.grownBy_alloc W o none) (fun r e=>by cases e)).trans hf
theorem cell_put {W:World} {a:Addr} {l:Nat} (o:Go.Obj) (hl:a.block ≠ l):(W.putObj l o).cell? a = W.cell? a:=by
 simp only [World.cell?,World.putObj_heap_other hl]
theorem frozen_put {W:World} {a:Addr} {l:Nat} (o:Go.Obj) (hl:a.block ≠ l):(W.putObj l o).frozen? a = W.frozen? a:=by
 simp only [World.frozen?,World.putObj_heap_other hl]
variable {w W:World} {v0 v1 v2:Value} {s n b:Int} {rec:Loop}
theorem Below.put {B:Nat} {w W:World} (h:Below B w W) {l:Nat} (hl:B ≤ l) (o:Go.Obj):Below B w (W.putObj l o) :=
 ⟨h.os,h.tape,h.output,by simp [h.size],fun k hk=>(World.putObj_heap_other (by omega)).trans (h.block k hk)⟩
theorem At.put (h:At w W v0 v1 v2 s n b rec) (r:Loop):At w (W.putObj (w.heap.size + 1 + 1 + 1 + 1 + 1) (.loop r)) v0 v1 v2 s n b r :=
 ⟨Below.put h.below (by omega) _,(cell_put _ (by simp [Nat.add_assoc])).trans h.m0,(cell_put _ (by simp [Nat.add_assoc])).trans h.m1,(cell_put _ (by simp [Nat.add_assoc])).trans h.m2,(cell_put _ (by simp [Nat.add_assoc])).trans h.cs,(frozen_put _ (by simp [Nat.add_assoc])).trans h.fs,
   (cell_put _ (by simp [Nat.add_assoc])).trans h.cn,(frozen_put _ (by simp [Nat.add_assoc])).trans h.fn,(cell_put _ (by simp [Nat.add_assoc])).trans h.cb,World.putObj_heap_same (Array.getElem?_eq_some_iff.1 h.rl).1,(World.putObj_heap_other (by omega)).trans h.rd⟩
theorem cell_set_other {W:World} {p q:Addr} {v:Value} (h:p.block ≠ q.block):(W.setCell p v).cell? q = W.cell? q:=World.cell?_setCell_other _ _ _ _ (fun e=>h (by rw [e]))
theorem At.setN (h:At w W v0 v1 v2 s n b rec) (n':Int):At w (W.setCell ⟨w.heap.size + 1 + 1,0,none⟩ (.int .i64 n')) v0 v1 v2 s n' b rec :=
 ⟨h.below.setCell (by simp [Nat.add_assoc]) _,(cell_set_other (by simp [Nat.add_assoc])).trans h.m0,(cell_set_other (by simp [Nat.add_assoc])).trans h.m1,(cell_set_other (by simp [Nat.add_assoc])).trans h.m2,(cell_set_other (by simp [Nat.add_assoc])).trans h.cs,(World.frozen?_setCell _ _ _ _).trans h.fs,
   World.cell?_setCell_same _ _ _ h.cn,(World.frozen?_setCell _ _ _ _).trans h.fn,(cell_set_other (by simp [Nat.add_assoc])).trans h.cb,(Below.heap_setCell _ _ _ _ (by simp [Nat.add_assoc])).trans h.rl,(Below.heap_setCell _ _ _ _ (by simp [Nat.add_assoc])).trans h.rd⟩
theorem At.setS (h:At w W v0 v1 v2 s n b rec) (s':Int):At w (W.setCell ⟨w.heap.size + 1,0,none⟩ (.int .i64 s')) v0 v1 v2 s' n b rec :=
 ⟨h.below.setCell (by simp [Nat.add_assoc]) _,(cell_set_other (by simp [Nat.add_assoc])).trans h.m0,(cell_set_other (by simp [Nat.add_assoc])).trans h.m1,(cell_set_other (by simp [Nat.add_assoc])).trans h.m2,World.cell?_setCell_same _ _ _ h.cs,(World.frozen?_setCell _ _ _ _).trans h.fs,
   (cell_set_other (by simp [Nat.add_assoc])).trans h.cn,(World.frozen?_setCell _ _ _ _).trans h.fn,(cell_set_other (by simp [Nat.add_assoc])).trans h.cb,(Below.heap_setCell _ _ _ _ (by simp [Nat.add_assoc])).trans h.rl,(Below.heap_setCell _ _ _ _ (by simp [Nat.add_assoc])).trans h.rd⟩
def IsInts (w:World) (v:Value) (xs:List Int):Prop :=
 ∃ ad cap,v = .slice ad xs.length cap∧∀ i,i < xs.length→∃ b off,ad = some ⟨b,off,none⟩∧b < w.heap.size∧w.cell? ⟨b,off + i,none⟩ = some (.int .i64 (xs.getD i 0))
def IsRows (w:World) (v:Value) (xs:List (List Int)):Prop :=
 ∃ ad cap,v = .slice ad xs.length cap∧∀ i,i < xs.length→∃ b off,ad = some ⟨b,off,none⟩∧b < w.heap.size∧∃ u,w.cell? ⟨b,off + i,none⟩ = some u∧IsInts w u (xs.getD i [])
set_option maxHeartbeats 2000000 in
theorem at_in (b0 s0 n0:Int) (o1 o2:Value) (w:World) (N:Nat) (nx:List (List Int)) (sf:Int) (hat:atP nx b0 N n0 s0 = some sf)
   (hnx:IsRows w o2 nx) (os:List Int) (ho1:IsInts w o1 os) (hsf:idx sf os.length) :
   CallsIn Fence.wide 5 Tryd.prog 70 #[.agg #[.int .i64 b0,o1,o2],.int .i64 s0,.int .i64 n0] w fun e W=>e = .returned (.int .i64 (os.getD sf.toNat 0))∧Below w.heap.size w W:=by
 refine callsIn_of_wp_marks Tryd.func70 rfl trivial ?_ rfl
 simp only [Tryd.ntmps70,List.size_toArray,List.length_cons,List.length_nil,Nat.reduceAdd,Nat.reduceSub,Array.replicate_succ,Array.replicate_zero,List.push_toArray,List.append_toArray,List.nil_append,List.cons_append]
 gi_wp2
 refine ⟨trivial,(digits_in Fence.wide 4 trivial rfl _ _ _).mono ?_⟩
 rintro e w' ⟨rfl,rfl⟩
 gi_wp2
 refine rf_law (gf:=102) rfl (by omega) rfl trivial (enters_of Tryd.func102 (by kernel_rfl) rfl) fun fn rec hfn hrec=>?_
 simp only [World.size_alloc] at hrec ⊢
 have hA:At w ((((((w.alloc (.cells #[.int .i64 b0,o1,o2] 28)).alloc (.cells #[.int .i64 s0] 3)).alloc (.cells #[.int .i64 n0] 2)).alloc (.cells #[.int .i64 b0] 3)).alloc (.deferred (some []))).alloc (.loop (rec .ready none)))
     (.int .i64 b0) o1 o2 s0 n0 b0 (rec .ready none):=by
   have a0:=cell_new w #[.int .i64 b0,o1,o2] 28 0 _ rfl
   have a1:=cell_new w #[.int .i64 b0,o1,o2] 28 1 _ rfl
   have a2:=cell_new w #[.int .i64 b0,o1,o2] 28 2 _ rfl
   have c1:=cell_new (w.alloc (.cells #[.int .i64 b0,o1,o2] 28)) #[.int .i64 s0] 3 0 _ rfl
   have c2:=cell_new ((w.alloc (.cells #[.int .i64 b0,o1,o2] 28)).alloc (.cells #[.int .i64 s0] 3)) #[.int .i64 n0] 2 0 _ rfl
   have c3:=cell_new (((w.alloc (.cells #[.int .i64 b0,o1,o2] 28)).alloc (.cells #[.int .i64 s0] 3)).alloc (.cells #[.int .i64 n0] 2)) #[.int .i64 b0] 3 0 _ rfl
   have c4:=World.alloc_heap_new ((((w.alloc (.cells #[.int .i64 b0,o1,o2] 28)).alloc (.cells #[.int .i64 s0] 3)).alloc (.cells #[.int .i64 n0] 2)).alloc (.cells #[.int .i64 b0] 3)) (.deferred (some []))
   have c5:=World.alloc_heap_new (((((w.alloc (.cells #[.int .i64 b0,o1,o2] 28)).alloc (.cells #[.int .i64 s0] 3)).alloc (.cells #[.int .i64 n0] 2)).alloc (.cells #[.int .i64 b0] 3)).alloc (.deferred (some []))) (.loop (rec .ready none))
   simp only [World.size_alloc] at c1 c2 c3 c4 c5
   refine ⟨?_,cell_al _ (cell_al _ (cell_al _ (cell_al _ (cell_al _ a0.1)))),cell_al _ (cell_al _ (cell_al _ (cell_al _ (cell_al _ a1.1)))),cell_al _ (cell_al _ (cell_al _ (cell_al _ (cell_al _ a2.1)))),
     cell_al _ (cell_al _ (cell_al _ (cell_al _ c1.1))),frozen_al _ (cell_al _ (cell_al _ (cell_al _ c1.1))) (frozen_al _ (cell_al _ (cell_al _ c1.1)) (frozen_al _ (cell_al _ c1.1) (frozen_al _ c1.1 c1.2))),
     cell_al _ (cell_al _ (cell_al _ c2.1)),frozen_al _ (cell_al _ (cell_al _ c2.1)) (frozen_al _ (cell_al _ c2.1) (frozen_al _ c2.1 c2.2)),cell_al _ (cell_al _ c3.1),c5,(Below.heap_alloc _ _ _ (by simp)).trans c4⟩
   exact ((((((Below.refl _ w).alloc (Nat.le_refl _) _).alloc (by simp) _).alloc (by simp [Nat.add_assoc]) _).alloc (by simp [Nat.add_assoc]) _).alloc (by simp [Nat.add_assoc]) _).alloc (by simp [Nat.add_assoc]) _
 refine (iter_in Fence.wide 4 trivial rfl (by omega) (w.heap.size + 1 + 1 + 1 + 1 + 1) (w.heap.size + 1 + 1) (w.heap.size + 1 + 1 + 1) nx b0 (fun s n W=>At w W (.int .i64 b0) o1 o2 s n b0 (rec .ready none))
   (fun s n W h=>⟨h.cn,h.fn,h.cb⟩) (fun s n n' W h=>h.setN n') ?_ N s0 n0 sf _ hat hA).mono ?_
 · intro s n s' W hJ hn hs
   unfold atStep at hs
   split at hs
   · simp at hs
   · rename_i hb
     split at hs
     · rename_i hi
       split at hs
       · rename_i hi2
         simp only [Option.some.injEq] at hs
         subst hs
         obtain ⟨ad,cap,rfl,hel⟩:=hnx
         obtain ⟨b2,f2,rfl,hlt2,u,hu1,hu2⟩:=hel s.toNat (by omega)
         obtain ⟨ad3,cap3,rfl,hel3⟩:=hu2
         obtain ⟨b3,f3,rfl,hlt3,hu3⟩:=hel3 (n.tmod b0).toNat (by omega)
         have hmod:n.tmod b0 = n % b0:=Int.tmod_eq_emod_of_nonneg (by omega)
         rw [hmod] at hu3 hi2 ⊢
         generalize nx.getD s.toNat [] = row at *
         generalize row.getD (n % b0).toNat 0 = s' at *
         obtain ⟨hi2a,hi2b⟩:=hi2
         obtain ⟨hia,hib⟩:=hi
         refine round_law (a₁:={ tmps:=#[.agg #[.int .i64 b0,o1,.slice (some ⟨b2,f2,none⟩) nx.length cap],.int .i64 s0,.int .i64 n0,.pointer (some ⟨w.heap.size,0,none⟩),.pointer (some ⟨w.heap.size + 1,0,none⟩),undef,.int .i64 0,.int .i64 (n % b0),.int .i64 n0,
           .pointer (some ⟨w.heap.size,0,none⟩),.int .i64 b0,.func (.func 102) #[] #[.pointer (some ⟨w.heap.size + 1 + 1,0,none⟩),.pointer (some ⟨w.heap.size + 1 + 1 + 1,0,none⟩)],.int .i64 (n % b0),undef,undef,undef,undef,undef,undef,undef,undef,undef,undef,undef,undef,undef],defers:=[] }) hfn hrec hJ.rl (by rfl) ?_ ?_
         · intro K hK
           gi_wp2
           exact hK
         · have hJ2:=hJ.put { rec .ready none with state:=.busy }
           have e1:=(hJ2.below.cell (p:=⟨b2,f2 + s.toNat,none⟩) hlt2).trans hu1
           have e2:=(hJ2.below.cell (p:=⟨b3,f3 + (n % b0).toNat,none⟩) hlt3).trans hu3
           have e3:=hJ2.m2
           have e4:=hJ2.cs
           have e5:=hJ2.fs
           generalize W.putObj (w.heap.size + 1 + 1 + 1 + 1 + 1) (.loop { rec .ready none with state:=.busy }) = W2 at hJ2 e1 e2 e3 e4 e5
           gi_wp2
           refine ⟨?_,(hJ2.setS s').put _⟩
           have:=(hJ2.setS s').rl
           rw [hrec] at this
           exact this
       · simp at hs
     · simp at hs
 · rintro e W ⟨⟨v,rfl⟩,n',hJ⟩
   refine ⟨v,rfl,hJ.rl,fun r=>?_⟩
   have hJ2:=hJ.put r
   have e1:=hJ2.m1
   have e2:=hJ2.cs
   have e3:=hJ2.rd
   generalize W.putObj (w.heap.size + 1 + 1 + 1 + 1 + 1) (.loop r) = W2 at hJ2 e1 e2 e3
   obtain ⟨ad,cap,rfl,hel⟩:=ho1
   obtain ⟨hia,hib⟩:=hsf
   obtain ⟨b1,f1,rfl,hlt1,hu1⟩:=hel sf.toNat (by omega)
   have e4:=(hJ2.below.cell (p:=⟨b1,f1 + sf.toNat,none⟩) hlt1).trans hu1
   obtain ⟨sv,hsv⟩:∃ sv,os.getD sf.toNat 0 = sv:=⟨_,rfl⟩
   rw [hsv] at e4
   gi_wp2
   refine ⟨by simp,.inl ⟨_,_,rfl,run_takeDeferred e3,?_⟩⟩
   exact ⟨_,results_tmp rfl _ _ _,by rw [hsv];rfl,Below.put hJ2.below (by simp [Nat.add_assoc]) _⟩
theorem lies_at {Fz:Nat→Prop} {w:World} {e:Ty} {xs:List e.T} {cells:List Value} {ad:Option Addr} (hlt:∀ b,Fz b→b < w.heap.size) (hsz:e.size = 1) (hall:All2 (RepC Fz w e) xs cells) (hl:Lies Fz w ad xs.length cells) :
   ∀ i,i < xs.length→∃ b off,ad = some ⟨b,off,none⟩∧b < w.heap.size∧∃ u,w.cell? ⟨b,off + i,none⟩ = some u∧RepC Fz w e (xs.getD i e.zero) [u]:=by
 intro i hi
 rcases hl with ⟨_,h0⟩ | ⟨b,off,c,T,fz,h1,h2,h3,h4⟩
 · omega
 · have g1:=(getD_rep hall hi).1
   rw [hsz] at g1
   have hlen:=g1.size
   rw [hsz] at hlen
   obtain ⟨u,hu⟩:∃ u,(cells.drop (i * 1)).take 1 = [u]:=by
     generalize (cells.drop (i * 1)).take 1 = l at hlen
     match l,hlen with
     | [u],_=>exact ⟨u,rfl⟩
   rw [hu] at g1
   refine ⟨b,off,h1,hlt b h2,u,?_,g1⟩
   have hcu:cells[i]? = some u:=by
     have:((cells.drop (i * 1)).take 1)[0]? = some u:=by rw [hu];rfl
     simpa [List.getElem?_take,List.getElem?_drop] using this
   obtain ⟨tl,ht⟩:=h4
   have:(c.toList.drop off)[i]? = some u:=by rw [← ht,List.getElem?_append_left (List.getElem?_eq_some_iff.1 hcu).1];exact hcu
   rw [List.getElem?_drop] at this
   simp only [World.cell?,h3]
   simpa using this
theorem isInts_of {Fz:Nat→Prop} {w:World} (hlt:∀ b,Fz b→b < w.heap.size) {xs:List Int} {v:Value} (h:RepC Fz w (.lst (.int .i64)) xs [v]):IsInts w v xs:=by
 obtain ⟨ad,len,cap,cells,hv,hlen,hcap,hall,hl⟩:=h
 simp only [List.cons.injEq,and_true] at hv
 have hlen:xs.length = len:=hlen
 subst hlen
 refine ⟨ad,cap,hv,fun i hi=>?_⟩
 obtain ⟨b,off,h1,h2,u,h3,h4⟩:=lies_at hlt rfl hall hl i hi
 refine ⟨b,off,h1,h2,?_⟩
 have:[u] = [Value.int .i64 (xs.getD i 0)]:=h4
 simp only [List.cons.injEq,and_true] at this
 rw [h3,this]
theorem isRows_of {Fz:Nat→Prop} {w:World} (hlt:∀ b,Fz b→b < w.heap.size) {xs:List (List Int)} {v:Value} (h:RepC Fz w (.lst (.lst (.int .i64))) xs [v]):IsRows w v xs:=by
 obtain ⟨ad,len,cap,cells,hv,hlen,hcap,hall,hl⟩:=h
 simp only [List.cons.injEq,and_true] at hv
 have hlen:xs.length = len:=hlen
 subst hlen
 refine ⟨ad,cap,hv,fun i hi=>?_⟩
 obtain ⟨b,off,h1,h2,u,h3,h4⟩:=lies_at hlt rfl hall hl i hi
 exact ⟨b,off,h1,h2,u,h3,isInts_of hlt h4⟩
def g70 (N:Nat) (m:Int×List Int×List (List Int)×Unit) (s n:Int):Option Int :=
 (atP m.2.2.1 m.1 N n s).bind fun sf=>if idx sf m.2.1.length then some (m.2.1.getD sf.toNat 0) else none
abbrev MT:Ty:=.pair (.int .i64) (.pair (.lst (.int .i64)) (.pair (.lst (.lst (.int .i64))) .unit))
theorem at_fn (G:Nat→Option V) (N:Nat) (a:ProdT [.d MT,.d (.int .i64),.d (.int .i64)]) (y:Int) (h:g70 N a.1 a.2.1 a.2.2.1 = some y):FnOk Tryd.prog G 70 (putAll [.d MT,.d (.int .i64),.d (.int .i64)] a) (.dat (.int .i64) y):=by
 intro Fz w vs hinv hvs
 obtain ⟨m,s,n,u⟩:=a
 obtain ⟨v0,r0,rfl,h0,v1,r1,rfl,h1,v2,r2,rfl,h2,hr⟩:=hvs
 have hr:r2 = []:=hr
 subst hr
 obtain ⟨cs,hc,rfl⟩:=dat_rep h0
 obtain ⟨b0,os,nx,un⟩:=m
 obtain ⟨c1,c2,rfl,hb,o1,c3,rfl,ho,o2,c4,rfl,hn,hu⟩:=hc
 have hb:c1 = [.int .i64 b0]:=hb
 have hu:c4 = []:=hu
 subst hb hu
 have ho2:=ho
 have hn2:=hn
 obtain ⟨ad1,len1,cap1,_,rfl,_⟩:=ho2
 obtain ⟨ad2,len2,cap2,_,rfl,_⟩:=hn2
 have e1:v1 = .int .i64 s:=repInt h1
 have e2:v2 = .int .i64 n:=repInt h2
 subst e1 e2
 simp only [g70] at h
 cases hat:atP nx b0 N n s with
 | none=>rw [hat] at h;simp at h
 | some sf =>
   rw [hat] at h
   simp only [Option.bind_some] at h
   split at h
   · rename_i hsf
     simp only [Option.some.injEq] at h
     subst h
     have:=at_in b0 s n _ _ w N nx sf hat (isRows_of hinv.lt hn) os (isInts_of hinv.lt ho) hsf
     have h5:=callsIn_wide.1 this
     unfold CallsT
     refine Calls.mono h5 fun e w' hq=>?_
     obtain ⟨he,hbl⟩:=hq
     exact ⟨_,Fz,he,⟨hbl.os,hbl.tape,hbl.output,hbl.size,hbl.block,fun _ _=>Iff.rfl,fun b hb=>Nat.lt_of_lt_of_le (hinv.lt b hb) hbl.size⟩,mkInt (E0 _ _ Fz w') .i64 _⟩
   · simp at h
end Go.Pv
