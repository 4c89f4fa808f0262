/- The purifying layer, part 24c: a round of a range over a function. -/
import Derived.Test.YtlebcefahlienaaPvXr
set_option linter.unusedVariables false
set_option linter.unusedSimpArgs false
namespace Go.Pv
variable {P:Program} {Γ:Cfg} {C:Type} {cx:Cx} {tm:Tm} {lk:Lk} {a:Act} {w:World} {Fz:Nat→Prop} {pos:Nat→Value} {U:Nat→Prop}
def Cx.withSav (cx:Cx) (s:Nat→Option Value):Cx:={ cx with sav:=s }
theorem RepA_sv (A:E) (s:Nat→Option Value):RepA { A with sv:=s } = RepA A:=by funext v u;cases v <;> rfl
theorem RepL_sv (A:E) (s:Nat→Option Value):RepL { A with sv:=s } = RepL A:=by funext v u;cases v <;> simp only [RepL,RepA_sv]
theorem RepF_sv (A:E) (s:Nat→Option Value):RepF { A with sv:=s } = RepF A:=by funext v u;cases v <;> simp only [RepF,RepL_sv]
theorem RepG_sv (A:E) (s:Nat→Option Value):RepG { A with sv:=s } = RepG A:=by funext v u;cases v <;> simp only [RepG,RepL_sv,RepF_sv]
theorem RepT_sv (A:E) (s:Nat→Option Value):RepT { A with sv:=s } = RepT A:=by funext v u;cases v <;> simp only [RepT,RepG_sv]
theorem RepB_sv (A:E) (s:Nat→Option Value):RepB { A with sv:=s } = RepB A:=by funext v u;cases v <;> simp only [RepB,RepF_sv]
def Obj.isSav:Obj→Bool
 | .sav _ _=>true
 | _=>false
theorem RepO_sv (A:E) (s:Nat→Option Value) {o:Obj} {u:Value} (ho:o.isSav = false) (h:RepO A o u):RepO { A with sv:=s } o u:=by
 cases o <;> simp only [Obj.isSav,Bool.true_eq_false] at ho <;> simp only [RepO,RepB_sv] at h ⊢ <;> exact h
theorem Held.offSav {s:Nat→Option Value} (r:Held (cx.withSav s) lk w Fz pos U) (hn:∀ k s' o,lk k = some (s',o)→o.isSav = false):Held cx lk w Fz pos U :=
 ⟨fun k s' o h=>RepO_sv ((cx.withSav s).e Fz w lk pos) cx.sav (hn k s' o h) (r.objs k s' o h),r.own,r.inj,r.step,r.inv0,r.wr0,r.gh,r.orig,r.ugh⟩
theorem noSav_look:∀ (l:List (Nat×Nat×Obj)),noSav l = true→∀ k s o,lookObj l k = some (s,o)→o.isSav = false
 | [],_,k,s,o,h=>by simp [lookObj] at h
 | (k',s',o') :: r,hn,k,s,o,h=>by
   have hr:noSav r = true∧o'.isSav = false:=by
     cases o' <;> simp only [noSav,Bool.false_eq_true] at hn <;> exact ⟨hn,rfl⟩
   simp only [lookObj] at h
   split at h
   · simp only [Option.some.injEq,Prod.mk.injEq] at h
     rw [← h.2];exact hr.2
   · exact noSav_look r hr.1 k s o h
theorem Held.unbase {w1:World} {Fz1 U1:Nat→Prop} {lk1:Lk} {pos1:Nat→Value} {Wr:Nat→Prop} {s:Nat→Option Value} {h1:cx.w0.heap.size ≤ w.heap.size} {h2:∀ b,Wr b→cx.w0.heap.size ≤ b ∨ cx.Wr b}
   (r0:Held cx lk w Fz pos U) (r:Held (cx.rebase w Fz Wr s h1 h2) lk1 w1 Fz1 pos1 U1):Held (cx.withSav s) lk1 w1 Fz1 pos1 U1:=by
 have hs:StepW Wr Fz w Fz1 w1:=r.step
 have hn:∀ b,b < cx.w0.heap.size→¬ cx.Wr b→¬ Wr b:=fun b hb hw hW=>(h2 b hW).elim (fun k=>by omega) hw
 have hown:∀ b,(w.heap.size ≤ b ∨ Wr b)→cx.w0.heap.size ≤ b ∨ cx.Wr b:=fun b hb=>hb.elim (fun k=>.inl (Nat.le_trans h1 k)) (h2 b)
 refine ⟨r.objs,fun k s o b h hb=>⟨(r.own k s o b h hb).1,hown b (r.own k s o b h hb).2⟩,r.inj,⟨hs.os.trans r0.step.os,hs.tape.trans r0.step.tape,hs.output.trans r0.step.output,Nat.le_trans r0.step.size hs.size,
   fun b hb hw=>(hs.block b (Nat.lt_of_lt_of_le hb h1) (hn b hb hw)).trans (r0.step.block b hb hw),fun b hb hw=>(hs.fz b (Nat.lt_of_lt_of_le hb h1) (hn b hb hw)).trans (r0.step.fz b hb hw),hs.lt⟩,r0.inv0,r0.wr0,r.gh,r.orig,fun b hb=>?_⟩
 obtain ⟨g1,g2,g3,g4⟩:=r.ugh b hb
 exact ⟨g1,g2,hown b g3,g4⟩
def codeOf:Ex→Code
 | .normal=>.skip
 | .exit id=>.exit id
 | .ret=>.ret
def recOf (rec:LoopState→Option Code→Loop):Ex→Loop
 | .normal=>rec .ready none
 | e=>rec .done (some (codeOf e))
def hdR (R:RTold) (n:Nat) (keepT keepK:List Nat) (vs:List V) (x:R.t.T):St:=build n keepT keepK vs (R.enc x)
def JR (cx:Cx) (R:RTold) (n:Nat) (keepT keepK:List Nat) (vs:List V) (aT:Array Value) (dfs:List Deferred) (D l:Nat) (rec:LoopState→Option Code→Loop) (x:R.t.T) (UJ Fz:Nat→Prop) (W:World):Prop :=
 ∃ pos U',RelIn cx (hdR R n keepT keepK vs x).tm (hdR R n keepT keepK vs x).lk ⟨aT,dfs⟩ W Fz pos U'∧(∀ b,UJ b ↔ (b = D ∨ b = l ∨ WrO (hdR R n keepT keepK vs x).lk pos U' b))∧W.heap[D]? = some (.deferred (some [])) ∧
   W.heap[l]? = some (.loop (recOf rec (R.ex x)))∧¬ WrO (hdR R n keepT keepK vs x).lk pos U' D∧¬ WrO (hdR R n keepT keepK vs x).lk pos U' l∧(∀ k s o,(hdR R n keepT keepK vs x).lk k = some (s,o)→o.isSav = false)
section
variable {R:RTold} {n:Nat} {keepT keepK:List Nat} {vs:List V} {aT:Array Value} {dfs:List Deferred} {D l:Nat} {rec:LoopState→Option Code→Loop}
theorem JR.near {w1:World} {WrI:Nat→Prop} (h1:cx.w0.heap.size ≤ w1.heap.size) (h2:∀ b,WrI b→cx.w0.heap.size ≤ b ∨ cx.Wr b) (h3:∀ d ∈ dfs,∀ D',d = { target:=.collected D',args:=#[] }→D' < w1.heap.size∧¬ WrI D')
   {x:R.t.T} {UJ Fz':Nat→Prop} {W W':World} (hJ:JR cx R n keepT keepK vs aT dfs D l rec x UJ Fz W) (hn:Near w1 WrI UJ Fz W Fz' W'):JR cx R n keepT keepK vs aT dfs D l rec x UJ Fz' W':=by
 obtain ⟨pos,U',r,hU,hD,hl,g1,g2,g3⟩:=hJ
 have hb:∀ b,WrO (hdR R n keepT keepK vs x).lk pos U' b→UJ b:=fun b h=>(hU b).2 (.inr (.inr h))
 refine ⟨pos,U',r.near ⟨hn.os,hn.tape,hn.output,hn.size,fun b h=>hn.same b ?_,fun b h=>hn.fz b ?_,hn.fut,hn.lt⟩ (fun k s o b h1 h2=>?_) (fun d hd D' e1 e2 e3=>?_),hU,(hn.same D (.inl ((hU D).2 (.inl rfl)))).trans hD,(hn.same l (.inl ((hU l).2 (.inr (.inl rfl))))).trans hl,g1,g2,g3⟩
 · exact h.imp (fun h=>hb b (.inr h)) fun h=>⟨Nat.lt_of_lt_of_le h.1 h1,fun hw=>(h2 b hw).elim (fun k=>by have:=h.1;omega) h.2⟩
 · exact h.imp (fun h=>hb b (.inr h)) fun h=>⟨Nat.lt_of_lt_of_le h.1 h1,fun hw=>(h2 b hw).elim (fun k=>by have:=h.1;omega) h.2⟩
 · have hu:=hb b (.inl ⟨k,s,o,h1,h2⟩)
   exact ⟨hn.same b (.inl hu),fun hf=>(r.own k s o b h1 h2).1 ((hn.fz b (.inl hu)).1 hf)⟩
 · exact ⟨hn.same D' (.inr (h3 d hd D' e1)),hn.fz D' (.inr (h3 d hd D' e1))⟩
end
theorem findT_app:∀ (p q:List (Nat×V)) (t:Nat),findT (p ++ q) t = match findT p t with | some v=>some v | none=>findT q t
 | [],q,t=>rfl
 | x :: p,q,t=>by
   simp only [List.cons_append,findT]
   cases Nat.beq x.1 t
   · exact findT_app p q t
   · rfl
theorem look_app:∀ (p q:List (Nat×Nat×Obj)) (k:Nat),lookObj (p ++ q) k = match lookObj p k with | some v=>some v | none=>lookObj q k
 | [],q,t=>rfl
 | (k',s',o') :: p,q,k=>by
   simp only [List.cons_append,lookObj]
   split
   · rfl
   · exact look_app p q k
theorem sav_look:∀ (vs:List V) (i k s:Nat) (o:Obj),lookObj (savObjs i vs) k = some (s,o)→∃ j v,vs[j]? = some v∧k = sB + (i + j)∧s = 0∧o = .sav (i + j) v
 | [],i,k,s,o,h=>by simp [savObjs,lookObj] at h
 | v :: r,i,k,s,o,h=>by
   simp only [savObjs,lookObj] at h
   split at h
   · rename_i hk
     simp only [Option.some.injEq,Prod.mk.injEq] at h
     exact ⟨0,v,rfl,hk.symm,h.1.symm,h.2.symm⟩
   · obtain ⟨j,u,h1,h2,h3,h4⟩:=sav_look r (i + 1) k s o h
     exact ⟨j + 1,u,by simpa using h1,by omega,h3,by rw [h4];congr 1;omega⟩
theorem small_mem:∀ (ks:List Nat),smallK ks = true→∀ k ∈ ks,k < sB
 | [],_,k,h=>by simp at h
 | k' :: r,hs,k,h=>by
   simp only [smallK,Bool.and_eq_true] at hs
   rcases List.mem_cons.1 h with rfl | h
   · simpa using hs.1
   · exact small_mem r hs.2 k h
theorem ltAll_mem {n:Nat}:∀ (ks:List Nat),ltAll n ks = true→∀ k ∈ ks,k < n
 | [],_,k,h=>by simp at h
 | k' :: r,hs,k,h=>by
   simp only [ltAll,Bool.and_eq_true] at hs
   rcases List.mem_cons.1 h with rfl | h
   · simpa using hs.1
   · exact ltAll_mem r hs.2 k h
theorem objsAt_keys:∀ (ks:List Nat) (os:List (Option Obj)) (k s:Nat) (o:Obj),lookObj (objsAt ks os) k = some (s,o)→k ∈ ks
 | [],os,k,s,o,h=>by cases os <;> simp [objsAt,lookObj] at h
 | k' :: ks,[],k,s,o,h=>by simp [objsAt,lookObj] at h
 | k' :: ks,none :: os,k,s,o,h=>List.mem_cons_of_mem _ (objsAt_keys ks os k s o h)
 | k' :: ks,some o' :: os,k,s,o,h=>by
   simp only [objsAt,lookObj] at h
   split at h
   · rename_i hk;subst hk;simp
   · exact List.mem_cons_of_mem _ (objsAt_keys ks os k s o h)
theorem fold_rep {RX:V→Value→Prop}:∀ (ps:List Nat) (xs:List V) (us:List Value) (T:Array Value),Pt RX xs us→ps.length = xs.length→ps.Nodup→(∀ p ∈ ps,p < T.size) →
   ((ps.zip us).foldl (fun t q=>t.setIfInBounds q.1 q.2) T).size = T.size∧∀ t,(∃ v,findT (ps.zip xs) t = some v∧RX v (((ps.zip us).foldl (fun t q=>t.setIfInBounds q.1 q.2) T).getD t undef)) ∨
     (findT (ps.zip xs) t = none∧((ps.zip us).foldl (fun t q=>t.setIfInBounds q.1 q.2) T).getD t undef = T.getD t undef)
 | [],xs,us,T,_,_,_,_=>⟨rfl,fun t=>.inr ⟨by cases xs <;> rfl,rfl⟩⟩
 | p :: ps,[],us,T,_,h,_,_=>by simp at h
 | p :: ps,x :: xs,us,T,⟨u,r,he,h1,h2⟩,hl,hnd,hlt=>by
   subst he
   rw [List.nodup_cons] at hnd
   obtain ⟨g1,g2⟩:=fold_rep ps xs r (T.setIfInBounds p u) h2 (by simpa using hl) hnd.2 (fun q hq=>by simpa using hlt q (List.mem_cons_of_mem _ hq))
   refine ⟨by simpa using g1,fun t=>?_⟩
   simp only [List.zip_cons_cons,List.foldl_cons,findT]
   have hnone:∀ (ps:List Nat) (xs:List V),p ∉ ps→findT (ps.zip xs) p = none:=by
     intro ps
     induction ps with
     | nil=>intro xs _;cases xs <;> rfl
     | cons q ps ih =>
       intro xs hp
       simp only [List.mem_cons,not_or] at hp
       cases xs with
       | nil=>rfl
       | cons y xs =>
         simp only [List.zip_cons_cons,findT]
         have:Nat.beq q p = false:=by
           cases hb:Nat.beq q p with
           | false=>rfl
           | true=>exact absurd (Nat.eq_of_beq_eq_true hb).symm hp.1
         rw [this];exact ih xs hp.2
   cases hb:Nat.beq p t with
   | true =>
     have:=Nat.eq_of_beq_eq_true hb
     subst this
     left
     refine ⟨x,rfl,?_⟩
     rcases g2 p with ⟨v,hv,_⟩ | ⟨_,hv⟩
     · rw [hnone ps xs hnd.1] at hv;cases hv
     · rw [hv]
       have hp:=hlt p (by simp)
       simp only [Array.getD_eq_getD_getElem?,Array.getElem?_setIfInBounds,hp,if_true,Option.getD_some]
       exact h1
   | false =>
     have hne:p ≠ t:=fun e=>by subst e;simp at hb
     simp only [cond_false]
     rcases g2 t with h | ⟨h3,h4⟩
     · exact .inl h
     · refine .inr ⟨h3,h4.trans ?_⟩
       simp only [Array.getD_eq_getD_getElem?,Array.getElem?_setIfInBounds,hne,if_false]
end Go.Pv
