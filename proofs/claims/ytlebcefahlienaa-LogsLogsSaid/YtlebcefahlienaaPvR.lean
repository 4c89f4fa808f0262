/- The purifying layer, part 18: an operation's effect leans on its operands and on their objects alone. -/
import Derived.Test.YtlebcefahlienaaPvQ
set_option linter.unusedVariables false
set_option linter.unusedSimpArgs false
namespace Go.Pv
variable {P:Program} {Γ:Cfg} {C:Type}
theorem tm_op0 (o:Oper) {tm tm':Tm} (lk:Lk) (K:Eff→Option C) (h:∀ x ∈ o.op.operands.toList,Γ.val tm' x = Γ.val tm x):evOp0 Γ o tm' lk K = evOp0 Γ o tm lk K:=by
 unfold evOp0
 cases ho:o.op <;> rw [ho] at h
 case build T ps=>
   have:ps.toList.map (fun q=>(q.1,Γ.val tm' q.2)) = ps.toList.map (fun q=>(q.1,Γ.val tm q.2)):=List.map_congr_left fun q hq=>by rw [h q.2 (by simp [Op.operands];exact ⟨q.1,by simpa using hq⟩)]
   simp only [this]
 case buildSlice T n ps =>
   have:ps.toList.map (fun q=>(q.1,Γ.val tm' q.2)) = ps.toList.map (fun q=>(q.1,Γ.val tm q.2)):=List.map_congr_left fun q hq=>by rw [h q.2 (by simp [Op.operands];exact ⟨q.1,by simpa using hq⟩)]
   simp only [this]
 case makeFunc g first caps =>
   have h1:caps.toList.map (Γ.val tm') = caps.toList.map (Γ.val tm):=List.map_congr_left fun x hx=>h x (by simp [Op.operands];exact .inr (by simpa using hx))
   have h2:∀ x xs,first.toList = x :: xs→(x :: xs).map (Γ.val tm') = (x :: xs).map (Γ.val tm):=fun x xs hfi=>List.map_congr_left fun y hy=>h y (by simp [Op.operands];exact .inl (by rw [← hfi] at hy;simpa using hy))
   simp only [h1]
   split
   · rfl
   · rename_i hfi;simp only [h2 _ _ hfi]
   · rfl
 case slice T x lo hi mx =>
   have h1:Γ.val tm' x = Γ.val tm x:=h x (by simp [Op.operands])
   have h2:lo.map (Γ.val tm') = lo.map (Γ.val tm):=by cases lo <;> simp;exact h _ (by simp [Op.operands])
   have h3:hi.map (Γ.val tm') = hi.map (Γ.val tm):=by cases hi <;> simp;exact h _ (by simp [Op.operands])
   have h4:mx.map (Γ.val tm') = mx.map (Γ.val tm):=by cases mx <;> simp;exact h _ (by simp [Op.operands])
   simp only [h1,h2,h3,h4]
 case call c =>
   obtain ⟨callee,args,Ts⟩:=c
   have hm:args.toList.map (Γ.val tm') = args.toList.map (Γ.val tm):=List.map_congr_left fun x hx=>h x (by
     cases callee <;> simp [Op.operands,Call.operands] <;> first | simpa using hx | exact .inr (by simpa using hx))
   simp only
   cases callee with
   | builtin b =>
     cases b <;> simp only [hm] <;> first | rfl | skip
     · split
       · rename_i x y T T' d hx _ _
         have h1:=h x (by simp [Op.operands,Call.operands];rw [← Array.mem_toList_iff,hx];simp)
         have h2:=h y (by simp [Op.operands,Call.operands];rw [← Array.mem_toList_iff,hx];simp)
         rw [h1,h2]
       · rfl
     · split
       · rename_i x T _ hx _
         have h1:=h x (by simp [Op.operands,Call.operands];rw [← Array.mem_toList_iff,hx];simp)
         rw [h1]
       · rfl
   | value f =>
     have hf:=h f (by simp [Op.operands,Call.operands])
     simp only [hm,hf]
   | invoke recv name=>rfl
 all_goals first | rfl | (simp [Op.operands] at h;simp only [h])
theorem tm_gop (o:Oper) {tm tm':Tm} (lk:Lk) (K:Eff→Option C) (h:∀ x ∈ o.op.operands.toList,Γ.val tm' x = Γ.val tm x):evGOp Γ o tm' lk K = evGOp Γ o tm lk K:=by
 unfold evGOp
 cases ho:o.op <;> rw [ho] at h
 case buildSlice T n ps =>
   have:ps.toList.map (fun q=>(q.1,Γ.val tm' q.2)) = ps.toList.map (fun q=>(q.1,Γ.val tm q.2)):=List.map_congr_left fun q hq=>by rw [h q.2 (by simp [Op.operands];exact ⟨q.1,by simpa using hq⟩)]
   simp only [this]
 case slice T x lo hi mx =>
   have h1:Γ.val tm' x = Γ.val tm x:=h x (by simp [Op.operands])
   have h2:lo.map (Γ.val tm') = lo.map (Γ.val tm):=by cases lo <;> simp;exact h _ (by simp [Op.operands])
   have h3:hi.map (Γ.val tm') = hi.map (Γ.val tm):=by cases hi <;> simp;exact h _ (by simp [Op.operands])
   have h4:mx.map (Γ.val tm') = mx.map (Γ.val tm):=by cases mx <;> simp;exact h _ (by simp [Op.operands])
   simp only [h1,h2,h3,h4]
 case call c =>
   obtain ⟨callee,args,Ts⟩:=c
   have hm:args.toList.map (Γ.val tm') = args.toList.map (Γ.val tm):=List.map_congr_left fun x hx=>h x (by
     cases callee <;> simp [Op.operands,Call.operands] <;> first | simpa using hx | exact .inr (by simpa using hx))
   simp only
   cases callee with
   | builtin b =>
     cases b <;> simp only <;> first | rfl | skip
     case cap =>
       split
       · rename_i x T hx _
         have h1:=fun z (hz:z ∈ [x])=>h z (by simp [Op.operands,Call.operands];rw [← Array.mem_toList_iff,hx];exact hz)
         simp only [h1 x List.mem_cons_self]
       · rfl
     case append =>
       split
       · rename_i x y T T' d hx _ _
         have h1:=fun z (hz:z ∈ [x,y])=>h z (by simp [Op.operands,Call.operands];rw [← Array.mem_toList_iff,hx];exact hz)
         simp only [h1 x List.mem_cons_self,h1 y (List.mem_cons_of_mem _ List.mem_cons_self)]
       · rfl
     case copy =>
       split
       · rename_i x y T T' hx _
         have h1:=fun z (hz:z ∈ [x,y])=>h z (by simp [Op.operands,Call.operands];rw [← Array.mem_toList_iff,hx];exact hz)
         simp only [h1 x List.mem_cons_self,h1 y (List.mem_cons_of_mem _ List.mem_cons_self)]
       · rfl
   | value f =>
     have hf:=h f (by simp [Op.operands,Call.operands])
     simp only [hm,hf]
   | invoke recv name=>rfl
 all_goals first | rfl | (simp [Op.operands] at h;simp only [h])
theorem tm_grid (o:Oper) {tm tm':Tm} (lk:Lk) (h:∀ x ∈ o.op.operands.toList,Γ.val tm' x = Γ.val tm x):gridOp Γ o tm' lk = gridOp Γ o tm lk:=by
 unfold gridOp
 cases ho:o.op <;> rw [ho] at h
 case slice T x lo hi mx =>
   have h1:Γ.val tm' x = Γ.val tm x:=h x (by simp [Op.operands])
   simp only [h1]
 case call c =>
   obtain ⟨callee,args,Ts⟩:=c
   have hm:args.toList.map (Γ.val tm') = args.toList.map (Γ.val tm):=List.map_congr_left fun x hx=>h x (by
     cases callee <;> simp [Op.operands,Call.operands] <;> first | simpa using hx | exact .inr (by simpa using hx))
   simp only
   cases callee with
   | builtin b =>
     cases b <;> simp only <;> first | rfl | skip
     · split
       · rename_i x y T T' hx _
         have h1:=fun z (hz:z ∈ [x,y])=>h z (by simp [Op.operands,Call.operands];rw [← Array.mem_toList_iff,hx];exact hz)
         simp only [h1 x List.mem_cons_self]
       · rfl
   | value f =>
     have hf:=h f (by simp [Op.operands,Call.operands])
     simp only [hm,hf]
   | invoke recv name=>rfl
 all_goals first | rfl | (simp [Op.operands] at h;simp only [h])
theorem tm_op (o:Oper) {tm tm':Tm} (lk:Lk) (K:Eff→Option C) (h:∀ x ∈ o.op.operands.toList,Γ.val tm' x = Γ.val tm x):evOp Γ o tm' lk K = evOp Γ o tm lk K:=by
 unfold evOp
 rw [tm_grid o lk h,tm_op0 o lk K h,tm_gop o lk K h]
def Agree (lk lk':Lk) (ks:List Nat):Prop:=∀ k ∈ ks,lk' k = lk k
theorem Agree.left {lk lk':Lk} {a b:List Nat} (h:Agree lk lk' (a ++ b)):Agree lk lk' a:=fun k hk=>h k (List.mem_append_left _ hk)
theorem Agree.right {lk lk':Lk} {a b:List Nat} (h:Agree lk lk' (a ++ b)):Agree lk lk' b:=fun k hk=>h k (List.mem_append_right _ hk)
abbrev wkeys (wr:List (Nat×Nat×Obj)):List Nat:=wr.map (·.1)
theorem lk_load {lk lk':Lk} {T:TypeId} {v:V} {K:Eff→Option C} (h:Agree lk lk' v.keysT):evLoad Γ lk' T v K = evLoad Γ lk T v K:=by
 unfold evLoad
 split
 · rfl
 · rw [h _ List.mem_cons_self]
 · rfl
theorem lk_fieldAddr {lk lk':Lk} {T:TypeId} {v:V} {j:Nat} {K:Eff→Option C} (h:Agree lk lk' v.keysT):evFieldAddr Γ lk' T v j K = evFieldAddr Γ lk T v j K:=by
 unfold evFieldAddr
 split
 · split
   · split
     · rfl
     · split
       · rfl
       · rw [h _ List.mem_cons_self]
       · rfl
   · rfl
 · rfl
theorem lk_indexAddr {lk lk':Lk} {T:TypeId} {v i:V} {K:Eff→Option C} (h:Agree lk lk' v.keysT):evIndexAddr Γ lk' T v i K = evIndexAddr Γ lk T v i K:=by
 unfold evIndexAddr
 split
 · split
   · rfl
   · rw [h _ List.mem_cons_self]
   · rfl
   · rw [h _ List.mem_cons_self]
   · unfold evRowAddr;rw [h _ List.mem_cons_self]
   · rfl
 · rfl
theorem lk_convert {lk lk':Lk} {S T:TypeId} {v:V} {K:Eff→Option C} (h:Agree lk lk' v.keysT):evConvert Γ lk' S T v K = evConvert Γ lk S T v K:=by
 unfold evConvert
 split
 · rfl
 · rfl
 · rfl
 · rw [h _ List.mem_cons_self]
 · rfl
theorem lk_slice {lk lk':Lk} {T:TypeId} {v:V} {lo hi mx:Option V} {K:Eff→Option C} (h:Agree lk lk' v.keysT):evSlice Γ lk' T v lo hi mx K = evSlice Γ lk T v lo hi mx K:=by
 unfold evSlice
 split
 · rfl
 · rfl
 · rfl
 · rw [h _ List.mem_cons_self]
 · rfl
 · rfl
theorem lk_len {lk lk':Lk} {v:V} {K:Eff→Option C} (h:Agree lk lk' v.keysT):evLen lk' v K = evLen lk v K:=by
 unfold evLen
 split <;> first | rfl | rw [h _ List.mem_cons_self]
theorem lk_sliceOf {lk lk':Lk} {e:Ty} {v:V} (h:Agree lk lk' v.keysT):sliceOf lk' e v = sliceOf lk e v:=by
 unfold sliceOf
 split <;> first | rfl | rw [h _ List.mem_cons_self]
theorem lk_sure {lk lk':Lk} {v:V} (h:Agree lk lk' v.keysT):v.sure lk' = v.sure lk:=by
 unfold V.sure
 split <;> first | rfl | rw [h _ List.mem_cons_self]
theorem lk_snap {lk lk':Lk} {v:V} (h:Agree lk lk' v.keysT):v.snap lk' = v.snap lk:=by
 unfold V.snap
 split <;> first | rfl | rw [h _ List.mem_cons_self]
theorem lk_append {lk lk':Lk} {d:Nat} {T T':TypeId} {v x:V} {e:Eff} (h:Agree lk lk' (v.keysT ++ x.keysT)) (hw:Agree lk lk' (wkeys e.wr)) (he:evAppend Γ lk d T T' v x some = some e):evAppend Γ lk' d T T' v x some = some e:=by
 have h1:∀ e,sliceOf lk' e x = sliceOf lk e x:=fun e=>lk_sliceOf h.right
 cases v
 case sl u k s =>
   have:lk' k = lk k:=h.left k (by simp [V.keysT,V.keysG,V.keysL,V.keysA])
   simp only [evAppend,h1,this] at he ⊢
   exact he
 case nils =>
   have hn:nextS lk' d = nextS lk d:=by
     have h0:=he
     simp only [evAppend] at h0
     split at h0
     · split at h0
       · split at h0
         · split at h0
           · simp only [Option.some.injEq] at h0
             subst h0
             have:lk' d = lk d:=hw d List.mem_cons_self
             simp [nextS,this]
           · simp at h0
         · simp at h0
       · simp at h0
     · simp at h0
   simp only [evAppend,h1,hn] at he ⊢
   exact he
 all_goals simp only [evAppend,h1] at he ⊢;exact he
theorem keys_coll (v:V):v.coll = v ∨ v.coll.keysT = []:=by
 cases v <;> try exact .inl rfl
 case agg fs =>
   simp only [V.coll]
   split
   · exact .inr rfl
   · exact .inl rfl
theorem snap_coll {lk lk':Lk} {v:V} (h:Agree lk lk' v.keysT):v.coll.snap lk' = v.coll.snap lk:=by
 rcases keys_coll v with hc | hc
 · rw [hc];exact lk_snap h
 · exact lk_snap (by rw [hc];intro k hk;simp at hk)
theorem snap_nilArg {lk lk':Lk} {T:TypeId} {v:V} (h:Agree lk lk' v.keysT):(nilArg Γ T v).snap lk' = (nilArg Γ T v).snap lk:=by
 unfold nilArg
 split
 · rename_i ti _
   cases Γ.own (900000 + T) with
   | true=>exact snap_coll h
   | false =>
   simp only [cond_false]
   cases v
   case nils =>
     simp only [nilK,nilF]
     split <;> rfl
   case agg fs =>
     simp only [nilK,V.coll]
     split <;> rfl
   all_goals exact snap_coll h
 · exact snap_coll h
theorem snap_nilArgs {lk lk':Lk}:∀ (Ts:List TypeId) (vs:List V),Agree lk lk' (vs.flatMap V.keysT)→(nilArgs Γ Ts vs).map (V.snap lk') = (nilArgs Γ Ts vs).map (V.snap lk)
 | [],vs,h=>by
   simp only [nilArgs]
   exact List.map_congr_left fun v hv=>lk_snap fun k hk=>h k (List.mem_flatMap.2 ⟨v,hv,hk⟩)
 | _ :: _,[],h=>rfl
 | T :: Ts,v :: vs,h=>by
   simp only [List.flatMap_cons] at h
   simp only [nilArgs,List.map_cons,snap_nilArg h.left,snap_nilArgs Ts vs h.right]
theorem lk_call {lk lk':Lk} {f:V} {Ts:List TypeId} {vs:List V} {K:Eff→Option C} (h:Agree lk lk' (vs.flatMap V.keysT)):evCall Γ lk' f (nilArgs Γ Ts vs) K = evCall Γ lk f (nilArgs Γ Ts vs) K:=by
 simp only [evCall,snap_nilArgs Ts vs h]
theorem reachK_sub {lk:Lk}:∀ (n:Nat) (todo acc ks:List Nat),reachK lk n todo acc = some ks→(∀ k ∈ acc,k ∈ ks)
 | _,[],acc,ks,h=>by
   cases ‹Nat› <;> (simp only [reachK,Option.some.injEq] at h;subst h;exact fun k hk=>hk)
 | 0,_ :: _,acc,ks,h=>by simp [reachK] at h
 | n + 1,k :: todo,acc,ks,h=>by
   simp only [reachK] at h
   cases hc:acc.contains k with
   | true=>rw [hc] at h;exact reachK_sub n todo acc ks h
   | false =>
     rw [hc] at h
     simp only [cond_false] at h
     split at h
     · exact fun x hx=>reachK_sub n _ _ ks h x (List.mem_append_left _ hx)
     · simp at h
theorem lk_reach {lk lk':Lk}:∀ (n:Nat) (todo acc ks:List Nat),reachK lk n todo acc = some ks→Agree lk lk' ks→reachK lk' n todo acc = some ks
 | _,[],acc,ks,h,_=>by cases ‹Nat› <;> exact h
 | 0,_ :: _,acc,ks,h,_=>by simp [reachK] at h
 | n + 1,k :: todo,acc,ks,h,ha=>by
   simp only [reachK] at h ⊢
   cases hc:acc.contains k with
   | true=>rw [hc] at h;exact lk_reach n todo acc ks h ha
   | false =>
     rw [hc] at h
     simp only [cond_false] at h ⊢
     split at h
     · rename_i q hq
       have:lk' k = some q:=(ha k (reachK_sub n _ _ ks h k (List.mem_append_right _ (by simp)))).trans hq
       rw [this];exact lk_reach n _ _ ks h ha
     · simp at h
theorem lk_objsOf {lk lk':Lk}:∀ (ks:List Nat),Agree lk lk' ks→objsOf lk' ks = objsOf lk ks
 | [],_=>rfl
 | k :: r,h=>by simp only [objsOf,h k (by simp),lk_objsOf r fun x hx=>h x (by simp [hx])]
theorem lk_toG {lk lk':Lk} {ks:List Nat} (h:Agree lk lk' ks):toG ks lk' = toG ks lk:=by
 funext v
 have key:∀ k i,idxK k ks 1 = some i→lk' k = lk k:=fun k i hi=>h k (List.mem_of_getElem? (idxK_get ks k 1 i hi).2)
 cases v <;> try rfl
 all_goals simp only [toG]
 case ref k s p=>cases hi:idxK k ks 1 with
   | none=>rfl
   | some i=>rw [key k i hi]
 case sl e k s=>cases hi:idxK k ks 1 with
   | none=>rfl
   | some i=>rw [key k i hi]
 case mp k s=>cases hi:idxK k ks 1 with
   | none=>rfl
   | some i=>rw [key k i hi]
 case row e k s p=>cases hi:idxK k ks 1 with
   | none=>rfl
   | some i=>rw [key k i hi]
theorem outs_keys {ks0:List Nat} {lk:Lk} {d m:Nat}:∀ (ks:List Nat) (outs:List (Nat×Obj)) (wr:List (Nat×Nat×Obj)),backOuts ks0 lk d m ks outs = some wr→wkeys wr = ks
 | [],outs,wr,h=>by
   cases outs with
   | nil=>simp only [backOuts,Option.some.injEq] at h;subst h;rfl
   | cons _ _=>simp [backOuts] at h
 | k0 :: r,[],wr,h=>by simp [backOuts] at h
 | k0 :: r,q :: outs,wr,h=>by
   simp only [backOuts] at h
   split at h
   · rename_i u wr' hu hw
     cases hf:(q.2.mapV (fromG ks0 lk d m)).fitOk with
     | false=>rw [hf] at h;simp at h
     | true =>
       rw [hf] at h
       simp only [cond_true,Option.some.injEq] at h
       subst h
       have:=outs_keys r outs wr' hw
       simp only [wkeys,List.map_cons] at this ⊢
       rw [this]
   · simp at h
theorem exs_keys {ks:List Nat} {lk:Lk} {d m:Nat}:∀ (exs:List Obj) (j:Nat) (wr:List (Nat×Nat×Obj)),backExs ks lk d m j exs = some wr→∀ i,i < exs.length→xKey d (j + i) ∈ wkeys wr
 | [],j,wr,h,i,hi=>by simp at hi
 | o0 :: r,j,wr,h,i,hi=>by
   simp only [backExs] at h
   split at h
   · rename_i wr' hw
     cases hf:((o0.mapV (fromG ks lk d m)).fitOk && !ks.contains (xKey d j)) with
     | false=>rw [hf] at h;simp at h
     | true =>
       rw [hf] at h
       simp only [cond_true,Option.some.injEq] at h
       subst h
       cases i with
       | zero=>simp [wkeys]
       | succ i =>
         have:=exs_keys r (j + 1) wr' hw i (by simp only [List.length_cons] at hi;omega)
         simp only [wkeys,List.map_cons,List.mem_cons]
         rw [show j + (i + 1) = j + 1 + i by omega]
         exact .inr this
   · simp at h
theorem lk_keyBackN (e g:Nat) {lk lk':Lk} {ks:List Nat} {d m:Nat} (h:Agree lk lk' ks) (hx:∀ i,i < m→lk' (xKey d i) = lk (xKey d i)) (k:Nat):keyBackN e g ks lk' d m k = keyBackN e g ks lk d m k:=by
 unfold keyBackN
 cases Nat.ble e k
 · cases Nat.blt g k
   · simp only [cond_false]
   · simp only [cond_false,cond_true]
     cases hk:ks[k - g - 1]? with
     | none=>simp only
     | some k'=>simp only [h k' (List.mem_of_getElem? hk)]
 · simp only [cond_true]
   cases hb:Nat.blt (k - e) m with
   | false=>simp only [cond_false]
   | true =>
     have:k - e < m:=by simpa using hb
     simp only [cond_true,nextS,hx _ this]
theorem lk_keyBack {lk lk':Lk} {ks:List Nat} {d m:Nat} (h:Agree lk lk' ks) (hx:∀ i,i < m→lk' (xKey d i) = lk (xKey d i)) (k:Nat):keyBack ks lk' d m k = keyBack ks lk d m k:=lk_keyBackN eB gB h hx k
theorem lk_fromG {lk lk':Lk} {ks:List Nat} {d m:Nat} (h:Agree lk lk' ks) (hx:∀ i,i < m→lk' (xKey d i) = lk (xKey d i)):fromG ks lk' d m = fromG ks lk d m:=by
 funext v
 cases v <;> simp only [fromG,lk_keyBack h hx]
theorem lk_outs {lk lk':Lk} {ks0:List Nat} {d m:Nat} (hf:fromG ks0 lk' d m = fromG ks0 lk d m):∀ (ks:List Nat) (outs:List (Nat×Obj)),Agree lk lk' ks→backOuts ks0 lk' d m ks outs = backOuts ks0 lk d m ks outs
 | [],[],_=>rfl
 | [],_ :: _,_=>rfl
 | k :: r,[],_=>rfl
 | k :: r,q :: l,h=>by simp only [backOuts,hf,h k (by simp),lk_outs hf r l fun x hx=>h x (by simp [hx])]
theorem lk_exs {lk lk':Lk} {ks:List Nat} {d m:Nat} (hf:fromG ks lk' d m = fromG ks lk d m):∀ (exs:List Obj) (j:Nat),(∀ i,i < exs.length→lk' (xKey d (j + i)) = lk (xKey d (j + i)))→backExs ks lk' d m j exs = backExs ks lk d m j exs
 | [],j,_=>rfl
 | o :: r,j,h=>by
   have h0:=h 0 (by simp)
   simp only [Nat.add_zero] at h0
   have ih:=lk_exs hf r (j + 1) (fun i hi=>by rw [show j + 1 + i = j + (i + 1) by omega];exact h (i + 1) (by simp only [List.length_cons];omega))
   simp only [backExs,hf,ih,nextS,h0]
theorem lk_callX {lk lk':Lk} {d:Nat} {f:V} {vs:List V} {e:Eff} (he:evCallX Γ lk d f vs some = some e) (hw:Agree lk lk' (wkeys e.wr)) (hx:∀ f vs os {C:Type} (k:V→List (Nat×Obj)→List Obj→Option C),Γ.callX f vs os k = (Γ.callX f vs os (fun a b c=>some (a,b,c))).bind fun q=>k q.1 q.2.1 q.2.2) :
   evCallX Γ lk' d f vs some = some e:=by
 unfold evCallX at he ⊢
 split at he
 · rename_i g caps
   split at he
   · rename_i ks hks
     split at he
     · rename_i os hos
       cases hc:(noTups (vs.map (V.toClo Γ) ++ caps) && fitAll (os.map (Obj.mapV (toG ks lk))) && noGh os) with
       | false=>rw [hc] at he;simp at he
       | true =>
         have he0:=he
         rw [hc] at he
         simp only [cond_true] at he
         rw [hx] at he
         cases hcall:Γ.callX g ((vs.map (V.toClo Γ) ++ caps).map (V.mapG (toG ks lk))) (.gone :: os.map (Obj.mapV (toG ks lk))) (fun a b c=>some (a,b,c)) with
         | none=>rw [hcall] at he;simp at he
         | some q =>
           rw [hcall] at he
           obtain ⟨rv,outs,exs⟩:=q
           simp only [Option.bind_some] at he
           cases hback:backX ks lk d rv outs exs with
           | none=>rw [hback] at he;simp at he
           | some e' =>
             rw [hback] at he
             simp only [Option.some.injEq] at he
             subst he
             have hb:=hback
             unfold backX at hb
             split at hb
             · rename_i g0 outs
               split at hb
               · rename_i wa wb ha hb'
                 simp only [Option.some.injEq] at hb
                 subst hb
                 simp only [wkeys,List.map_append] at hw
                 have hks2:Agree lk lk' ks:=by
                   have:=hw.left
                   rw [show wa.map (·.1) = ks from outs_keys ks outs wa ha] at this
                   exact this
                 have hxs:∀ i,i < exs.length→lk' (xKey d i) = lk (xKey d i):=fun i hi=>hw.right _ (by have:=exs_keys exs 0 wb hb' i hi;simpa [wkeys] using this)
                 have hfG:=lk_fromG (d:=d) (m:=exs.length) hks2 hxs
                 have hb2:backX ks lk' d rv (g0 :: outs) exs = backX ks lk d rv (g0 :: outs) exs:=by
                   unfold backX
                   simp only [lk_outs hfG ks outs hks2,lk_exs hfG exs 0 (fun i hi=>by rw [Nat.zero_add];exact hxs i hi),hfG]
                 rw [lk_reach _ _ _ _ hks hks2]
                 simp only [lk_objsOf ks hks2,hos,lk_toG hks2,hc,cond_true]
                 rw [hx,hcall]
                 simp only [Option.bind_some,hb2,hback]
               · simp at hb
             · simp at hb
     · simp at he
   · simp at he
 · split at he
   · rename_i s t run x hlk
     cases hp:puresOk vs with
     | false=>rw [hp] at he;simp at he
     | true =>
       rw [hp] at he
       simp only [cond_true] at he
       rw [Cbs.call_at] at he
       split at he
       · rename_i q hrun
         obtain ⟨x',y⟩:=q
         simp only at he
         cases hs:y.scalar with
         | false=>rw [hs] at he;simp at he
         | true =>
           rw [hs] at he
           simp only [cond_true,Option.some.injEq] at he
           subst he
           have:lk' gB = lk gB:=hw gB (by simp [wkeys])
           rw [this,hlk]
           simp [hp,Cbs.call_at,hrun,hs]
       · simp at he
   · simp at he
 · simp at he
theorem lk_thawF {lk lk':Lk} {k j:Nat} {v:V} {t:Option Ty} (h:Agree lk lk' (wkeys (thawF lk k j v t).2)):thawF lk' k j v t = thawF lk k j v t:=by
 unfold thawF at h ⊢
 split
 · rename_i e
   have:lk' (subKey k j) = lk (subKey k j):=h _ (by simp [wkeys])
   simp [nextS,this]
 · rfl
theorem lk_thawL {lk lk':Lk} {k:Nat}:∀ (vs:List V) (ts:List (Option Ty)) (j:Nat),Agree lk lk' (wkeys (thawL lk k j vs ts).2)→thawL lk' k j vs ts = thawL lk k j vs ts
 | v :: vs,t :: ts,j,h=>by
   simp only [thawL,wkeys,List.map_append] at h
   simp only [thawL,lk_thawF h.left,lk_thawL vs ts (j + 1) h.right]
 | [],_,_,_=>by simp [thawL]
 | _ :: _,[],_,_=>by simp [thawL]
theorem lk_thawK {lk lk':Lk} {k:Nat} {sh:K} {v:V} (h:Agree lk lk' (wkeys (thawK lk k sh v).2)):thawK lk' k sh v = thawK lk k sh v:=by
 unfold thawK at h ⊢
 split
 · simp only at h ⊢;rw [lk_thawL _ _ _ h]
 · split
   · simp only at h ⊢;exact lk_thawF h
   · rfl
theorem lk_thawS {lk lk':Lk} {k:Nat} {p:List Nat} {sh:K} {v:V} (h:Agree lk lk' (wkeys (thawS lk k p sh v).2)):thawS lk' k p sh v = thawS lk k p sh v:=by
 cases p with
 | nil=>exact lk_thawK h
 | cons j r=>cases r with
   | nil=>exact lk_thawF h
   | cons _ _=>exact lk_thawK h
theorem lk_storeBox {lk lk':Lk} {T:TypeId} {k s:Nat} {p:List Nat} {sh:K} {c x:V} {e:Eff} (hw:Agree lk lk' (wkeys e.wr)) (he:evStoreBox Γ lk T k s p sh c x some = some e):evStoreBox Γ lk' T k s p sh c x some = some e:=by
 unfold evStoreBox at he ⊢
 split at he
 · rename_i o k' hat
   have:thawS lk' k p k' x.coll = thawS lk k p k' x.coll:=lk_thawS (by
     (repeat' split at he) <;> simp at he
     subst he
     simp only [wkeys,List.map_append] at hw
     exact hw.left)
   rw [this];exact he
 · simp at he
theorem lk_store {lk lk':Lk} {T:TypeId} {v x:V} {e:Eff} (h:Agree lk lk' v.keysT) (hw:Agree lk lk' (wkeys e.wr)) (he:evStore Γ lk T v x some = some e):evStore Γ lk' T v x some = some e:=by
 cases v <;> try exact he
 case ref k s p =>
   have:lk' k = lk k:=h k (by simp [V.keysT,V.keysG,V.keysL,V.keysA])
   simp only [evStore,this] at he ⊢
   split at he
   · split at he
     · rename_i hs;rw [if_pos hs];exact lk_storeBox hw he
     · simp at he
   · exact he
   · simp at he
theorem lk_box {lk lk':Lk} {d:Nat} {sh:K} {v:V} {e:Eff} (hw:Agree lk lk' (wkeys e.wr)) (he:evBox lk d sh v some = some e):evBox lk' d sh v some = some e:=by
 have h0:=he
 unfold evBox at h0
 simp only at h0
 split at h0
 · simp only [Option.some.injEq] at h0
   subst h0
   simp only [wkeys,List.map_append] at hw
   have h1:=lk_thawK hw.left
   have h2:lk' d = lk d:=hw.right d (by simp)
   have h3:nextS lk' d = nextS lk d:=by simp [nextS,h2]
   unfold evBox at he ⊢
   rw [h1,h3];exact he
 · simp at h0
theorem lk_buildSlice {lk lk':Lk} {d:Nat} {T:TypeId} {n:Nat} {parts:List (Nat×V)} {e:Eff} (hw:Agree lk lk' (wkeys e.wr)) (he:evBuildSlice Γ lk d T n parts some = some e):evBuildSlice Γ lk' d T n parts some = some e:=by
 cases hown:Γ.own d with
 | false=>simp only [evBuildSlice,hown,cond_false] at he ⊢;exact he
 | true =>
   have hn:nextS lk' d = nextS lk d:=by
     have h0:=he
     simp only [evBuildSlice,hown,cond_true] at h0
     split at h0
     · split at h0
       · split at h0
         · simp only [Option.some.injEq] at h0
           subst h0
           have:lk' d = lk d:=hw d List.mem_cons_self
           simp [nextS,this]
         · simp at h0
       · simp at h0
     · simp at h0
   simp only [evBuildSlice,hown,cond_true,hn] at he ⊢
   exact he
theorem lk_makeSlice {lk lk':Lk} {d:Nat} {T:TypeId} {n c:V} {e:Eff} (hw:Agree lk lk' (wkeys e.wr)) (he:evMakeSlice Γ lk d T n c some = some e):evMakeSlice Γ lk' d T n c some = some e:=by
 have hn:nextS lk' d = nextS lk d:=by
   have h0:=he
   unfold evMakeSlice at h0
   split at h0
   · split at h0
     · split at h0
       · simp only [Option.some.injEq] at h0
         subst h0
         have:lk' d = lk d:=hw d List.mem_cons_self
         simp [nextS,this]
       · simp at h0
     · simp at h0
   · simp at h0
 simp only [evMakeSlice,hn] at he ⊢
 exact he
theorem lk_lookup {lk lk':Lk} {T:TypeId} {m i:V} {ok:Bool} {K:Eff→Option C} (h:Agree lk lk' m.keysT):evLookup Γ lk' T m i ok K = evLookup Γ lk T m i ok K:=by
 unfold evLookup
 split
 · rfl
 · rw [h _ List.mem_cons_self]
 · rfl
theorem lk_mapUpdate {lk lk':Lk} {T:TypeId} {m i x:V} {K:Eff→Option C} (h:Agree lk lk' m.keysT):evMapUpdate Γ lk' T m i x K = evMapUpdate Γ lk T m i x K:=by
 unfold evMapUpdate
 split
 · rw [h _ List.mem_cons_self]
 · rfl
theorem lk_makeMap {lk lk':Lk} {d:Nat} {T:TypeId} {e:Eff} (hw:Agree lk lk' (wkeys e.wr)) (he:evMakeMap Γ lk d T some = some e):evMakeMap Γ lk' d T some = some e:=by
 unfold evMakeMap at he ⊢
 split at he
 · simp only [Option.some.injEq] at he
   subst he
   have:lk' d = lk d:=hw d List.mem_cons_self
   simp [nextS,this]
 · simp at he
theorem lk_rangeMap {lk lk':Lk} {d:Nat} {T:TypeId} {m:V} {e:Eff} (hw:Agree lk lk' (wkeys e.wr)) (he:evRangeMap Γ lk d T m some = some e):evRangeMap Γ lk' d T m some = some e:=by
 unfold evRangeMap at he ⊢
 split at he
 · split at he
   · rename_i hT
     rw [if_pos hT]
     simp only [Option.some.injEq] at he
     subst he
     have:lk' d = lk d:=hw d List.mem_cons_self
     simp [nextS,this]
   · cases he
 · cases he
theorem lk_entry {lk lk':Lk} {v:V} {K:Eff→Option C} (h:Agree lk lk' v.keysT):evEntry lk' v K = evEntry lk v K:=by
 unfold evEntry
 split
 · rw [h _ List.mem_cons_self]
 · rfl
theorem lk_op0 (hX:∀ f vs os {C:Type} (k:V→List (Nat×Obj)→List Obj→Option C),Γ.callX f vs os k = (Γ.callX f vs os (fun a b c=>some (a,b,c))).bind fun q=>k q.1 q.2.1 q.2.2) {o:Oper} {tm:Tm} {lk lk':Lk} {e:Eff} (he:evOp0 Γ o tm lk some = some e) (h:Agree lk lk' ((o.op.operands.toList.flatMap fun x=>(Γ.val tm x).keysT) ++ wkeys e.wr)):evOp0 Γ o tm lk' some = some e:=by
 have hk:∀ x ∈ o.op.operands.toList,Agree lk lk' (Γ.val tm x).keysT:=fun x hx k hk=>h k (List.mem_append_left _ (List.mem_flatMap.2 ⟨x,hx,hk⟩))
 have hw:Agree lk lk' (wkeys e.wr):=h.right
 clear h
 unfold evOp0 at he ⊢
 cases ho:o.op <;> rw [ho] at hk he <;> simp only at he ⊢ <;> try exact he
 case assign x =>
   split at he
   · rename_i hv
     split at he
     · rename_i d hT hd
       cases hown0:Γ.own (910000 + d) with
       | true=>rw [hown0] at he;exact he
       | false =>
       rw [hown0] at he
       simp only [cond_false] at he ⊢
       cases hown:Γ.own (500000 + d) with
       | true=>rw [hown] at he;exact he
       | false =>
         rw [hown] at he
         simp only [cond_false,Option.some.injEq] at he ⊢
         subst he
         have:lk' d = lk d:=hw d (by simp [wkeys])
         simp [nextS,this]
     · exact he
   · exact he
 case alloc T =>
   split at he
   · exact lk_box hw he
   · exact he
 case box T x =>
   split at he
   · split at he
     · rename_i hv;rw [if_pos hv];exact lk_box hw he
     · simp at he
   · exact he
 case buildSlice T n ps =>
   split at he
   · exact lk_buildSlice hw he
   · exact he
 case load T x=>rw [lk_load (hk x (by simp [Op.operands]))];exact he
 case store T x y=>exact lk_store (hk x (by simp [Op.operands])) hw he
 case nilCheck x=>rw [lk_sure (hk x (by simp [Op.operands]))];exact he
 case convert S T x=>rw [lk_convert (hk x (by simp [Op.operands]))];exact he
 case makeSlice T n c =>
   split at he
   · exact lk_makeSlice hw he
   · exact he
 case makeMap T rs =>
   split at he
   · exact lk_makeMap hw he
   · exact he
 case lookup T x i ok=>rw [lk_lookup (hk x (by simp [Op.operands]))];exact he
 case mapUpdate T m i x=>rw [lk_mapUpdate (hk m (by simp [Op.operands]))];exact he
 case insert T m i x=>rw [lk_mapUpdate (hk m (by simp [Op.operands]))];exact he
 case range T x =>
   split at he
   · exact lk_rangeMap hw he
   · exact he
 case entry x=>rw [lk_entry (hk x (by simp [Op.operands]))];exact he
 case slice T x lo hi mx=>rw [lk_slice (hk x (by simp [Op.operands]))];exact he
 case fieldAddr T x j=>rw [lk_fieldAddr (hk x (by simp [Op.operands]))];exact he
 case indexAddr T x i=>rw [lk_indexAddr (hk x (by simp [Op.operands]))];exact he
 case call c =>
   obtain ⟨callee,⟨args⟩,⟨Ts⟩⟩:=c
   simp only at he ⊢
   have hargs:∀ x ∈ args,Agree lk lk' (Γ.val tm x).keysT:=fun x hx=>hk x (by simp [Op.operands,Call.operands];cases callee <;> simp [hx])
   split at he
   · split at he
     · rename_i x T Ts'
       rw [lk_len (hargs x (by simp))];exact he
     · exact he
   · split at he
     · rename_i x y T T' d hd
       exact lk_append (fun k hk=>by
         rcases List.mem_append.1 hk with hk | hk
         · exact hargs x (by simp) k hk
         · exact hargs y (by simp) k hk) hw he
     · exact he
   · exact he
   · exact he
   · rename_i f
     cases hxa:Γ.xat (dstOf o) with
     | true=>rw [hxa] at he;exact lk_callX he hw hX
     | false =>
     rw [hxa] at he
     simp only [cond_false] at he ⊢
     rw [lk_call fun k hk=>by
       obtain ⟨v,hv,hk⟩:=List.mem_flatMap.1 hk
       obtain ⟨x,hx,rfl⟩:=List.mem_map.1 hv
       exact hargs x (by simpa using hx) k hk]
     exact he
   · exact he
theorem lk_next {lk lk':Lk} {d:Nat} (h:lk' d = lk d):nextS lk' d = nextS lk d:=by simp [nextS,h]
theorem lk_asRow {lk lk':Lk} {d:Nat} {e:Ty} {v:V} (h:Agree lk lk' v.keysT):asRow lk' d e v = asRow lk d e v:=by
 unfold asRow
 split
 · rfl
 · rw [h _ List.mem_cons_self]
 · rfl
theorem lk_gnil {lk lk':Lk} {d:Nat} {T:TypeId} {v:V} {e:Eff} (hw:Agree lk lk' (wkeys e.wr)) (he:evGNil Γ lk d T v some = some e):evGNil Γ lk' d T v some = some e:=by
 unfold evGNil at he ⊢
 split at he
 · simp only [Option.some.injEq] at he
   subst he
   rw [lk_next (hw d (by simp [wkeys]))]
 · cases he
theorem lk_gbuild {lk lk':Lk} {d:Nat} {T:TypeId} {n:Nat} {parts:List (Nat×V)} {e:Eff} (h:Agree lk lk' (parts.flatMap fun q=>q.2.keysT)) (hw:Agree lk lk' (wkeys e.wr)) (he:evGBuild Γ lk d T n parts some = some e):evGBuild Γ lk' d T n parts some = some e:=by
 unfold evGBuild at he ⊢
 split at he
 · rename_i E et v hT
   rw [lk_asRow (v:=v) (by simpa using h)]
   cases hb:(elemZ Γ E (.lst et) && Nat.beq n 1) with
   | false=>rw [hb] at he;cases he
   | true =>
     rw [hb] at he
     simp only [cond_true] at he ⊢
     split at he
     · simp only [Option.some.injEq] at he
       subst he
       rw [lk_next (hw d (by simp [wkeys]))]
     · cases he
 · cases he
theorem lk_gmake {lk lk':Lk} {d:Nat} {T:TypeId} {n c:V} {e:Eff} (hw:Agree lk lk' (wkeys e.wr)) (he:evGMake Γ lk d T n c some = some e):evGMake Γ lk' d T n c some = some e:=by
 have hn:nextS lk' d = nextS lk d:=by
   have h0:=he
   unfold evGMake at h0
   split at h0
   · split at h0
     · split at h0
       · simp only [Option.some.injEq] at h0
         subst h0
         exact lk_next (hw d (by simp [wkeys]))
       · cases h0
     · cases h0
   · cases h0
 simp only [evGMake,hn] at he ⊢
 exact he
theorem lk_gstore {lk lk':Lk} {T:TypeId} {v x:V} {K:Eff→Option C} (h:Agree lk lk' v.keysT) (hx:Agree lk lk' x.keysT):evGStore Γ lk' T v x K = evGStore Γ lk T v x K:=by
 unfold evGStore
 split
 · rename_i k s p j
   have:lk' k = lk k:=h k (by simp [V.keysT,V.keysG,V.keysL,V.keysA])
   rw [this]
   split
   · split
     · split
       · split
         · split
           · unfold evGStoreOut
             split
             · rfl
             · rw [lk_asRow hx]
           · rfl
         · rfl
       · rfl
     · rfl
   · rfl
 · rfl
theorem lk_gslice {lk lk':Lk} {T:TypeId} {v:V} {lo hi mx:Option V} {K:Eff→Option C} (h:Agree lk lk' v.keysT):evGSlice Γ lk' T v lo hi mx K = evGSlice Γ lk T v lo hi mx K:=by
 unfold evGSlice
 split
 · rw [h _ List.mem_cons_self]
 · rfl
theorem lk_gappend {lk lk':Lk} {d:Nat} {T T':TypeId} {v x:V} {K:Eff→Option C} (h:Agree lk lk' v.keysT) (hx:Agree lk lk' x.keysT):evGAppend Γ lk' d T T' v x K = evGAppend Γ lk d T T' v x K:=by
 unfold evGAppend
 split
 · rw [h _ List.mem_cons_self,hx _ List.mem_cons_self]
 · rfl
theorem lk_gwhole {lk lk':Lk} {T:TypeId} {v:V} {lo hi mx:Option V} {K:Eff→Option C} (h:Agree lk lk' v.keysT):evGWhole Γ lk' T v lo hi mx K = evGWhole Γ lk T v lo hi mx K:=by
 unfold evGWhole
 split
 · rw [h _ List.mem_cons_self]
 · rfl
theorem lk_gcopy {lk lk':Lk} {T T':TypeId} {v x:V} {K:Eff→Option C} (h:Agree lk lk' v.keysT) (hx:Agree lk lk' x.keysT):evGCopy Γ lk' T T' v x K = evGCopy Γ lk T T' v x K:=by
 have h1:∀ e,sliceOf lk' e x = sliceOf lk e x:=fun e=>lk_sliceOf hx
 unfold evGCopy
 split
 · rw [h _ List.mem_cons_self]
   simp only [h1]
 · rfl
theorem lk_snapC {lk lk':Lk}:∀ (vs:List V) (K:List V→Option C),Agree lk lk' (vs.flatMap V.keysT)→snapC lk' vs K = snapC lk vs K
 | [],K,h=>rfl
 | v :: r,K,h=>by
   simp only [List.flatMap_cons] at h
   have hv:=h.left
   unfold snapC
   split
   · rename_i e k s i
     have:lk' k = lk k:=hv k (by simp [V.keysT,V.keysG,V.keysL,V.keysA])
     rw [this]
     split
     · split
       · congr 1;funext xs;exact lk_snapC r _ h.right
       · rfl
     · rfl
   · rw [lk_snap hv,lk_snapC r _ h.right]
theorem keys_nilArg (T:TypeId) (v:V):(nilArg Γ T v).keysT ⊆ v.keysT:=by
 have hc:∀ v:V,v.coll.keysT ⊆ v.keysT:=by
   intro v k hk
   rcases keys_coll v with h | h
   · rwa [h] at hk
   · rw [h] at hk;simp at hk
 have hnF:∀ (v:V) t,(nilF v t).keysL ⊆ v.keysL:=by
   intro v t k hk
   unfold nilF at hk
   split at hk
   · simp [V.keysL,V.keysA] at hk
   · exact hk
 have hnL:∀ (vs:List V) ts,(nilL vs ts).flatMap V.keysL ⊆ vs.flatMap V.keysL:=by
   intro vs
   induction vs with
   | nil=>intro ts k hk;cases ts <;> exact hk
   | cons v vs ih =>
     intro ts k hk
     cases ts with
     | nil=>exact hk
     | cons t ts =>
       simp only [nilL,List.flatMap_cons,List.mem_append] at hk ⊢
       exact hk.imp (fun h=>hnF v t h) (fun h=>ih ts h)
 unfold nilArg
 split
 · rename_i ti _
   cases Γ.own (900000 + T) with
   | true=>exact hc v
   | false =>
   simp only [cond_false]
   refine (hc _).trans ?_
   cases v
   case nils =>
     simp only [nilK,nilF]
     intro k hk
     split at hk <;> simp [V.keysT,V.keysG,V.keysL,V.keysA] at hk
   case agg fs=>exact hnL fs _
   all_goals exact fun k hk=>hk
 · exact hc v
theorem keys_nilArgs:∀ (Ts:List TypeId) (vs:List V),(nilArgs Γ Ts vs).flatMap V.keysT ⊆ vs.flatMap V.keysT
 | [],vs=>fun k hk=>by simpa [nilArgs] using hk
 | _ :: _,[]=>fun k hk=>by simp [nilArgs] at hk
 | T :: Ts,v :: vs=>fun k hk=>by
   simp only [nilArgs,List.flatMap_cons,List.mem_append] at hk ⊢
   exact hk.imp (fun h=>keys_nilArg T v h) (fun h=>keys_nilArgs Ts vs h)
theorem lk_gcall {lk lk':Lk} {f:V} {Ts:List TypeId} {vs:List V} {K:Eff→Option C} (h:Agree lk lk' (vs.flatMap V.keysT)):evGCall Γ lk' f (nilArgs Γ Ts vs) K = evGCall Γ lk f (nilArgs Γ Ts vs) K:=by
 unfold evGCall
 split
 · rw [lk_snapC _ _ fun k hk=>h k (keys_nilArgs Ts vs hk)]
 · rfl
theorem lk_grid {lk lk':Lk} {o:Oper} {tm:Tm} (hk:∀ x ∈ o.op.operands.toList,Agree lk lk' (Γ.val tm x).keysT):gridOp Γ o tm lk' = gridOp Γ o tm lk:=by
 unfold gridOp
 cases ho:o.op <;> rw [ho] at hk <;> simp only <;> try rfl
 case store T x y =>
   have:=hk x (by simp [Op.operands])
   split
   · rename_i k s p hv
     rw [hv] at this
     rw [this k (by simp [V.keysT,V.keysG,V.keysL,V.keysA])]
   · rfl
theorem lk_gzeros {lk lk':Lk} {d:Nat} {T T':TypeId} {x:V} {e:Eff} (hw:Agree lk lk' (wkeys e.wr)) (he:evGZeros Γ lk d T T' x some = some e):evGZeros Γ lk' d T T' x some = some e:=by
 unfold evGZeros at he ⊢
 split at he
 · split at he
   · split at he
     · rename_i h1 h2
       rw [if_pos h1,if_pos h2]
       simp only [Option.some.injEq] at he ⊢
       subst he
       have:lk' d = lk d:=hw d (by simp [wkeys])
       simp [nextS,this]
     · cases he
   · cases he
 · cases he
theorem lk_rappend {lk lk':Lk} {T T':TypeId} {v x:V} {K:Eff→Option C} (h:Agree lk lk' v.keysT) (hx:Agree lk lk' x.keysT):evRAppend Γ lk' T T' v x K = evRAppend Γ lk T T' v x K:=by
 have h1:∀ e,sliceOf lk' e x = sliceOf lk e x:=fun e=>lk_sliceOf hx
 unfold evRAppend
 split
 · rw [h _ List.mem_cons_self]
   simp only [h1]
 · rfl
theorem lk_glook {lk lk':Lk} {T:TypeId} {m i:V} {ok:Bool} {K:Eff→Option C} (h:Agree lk lk' m.keysT):evGLook Γ lk' T m i ok K = evGLook Γ lk T m i ok K:=by
 unfold evGLook
 split
 · rw [h _ List.mem_cons_self]
 · rfl
theorem lk_gput {lk lk':Lk} {T:TypeId} {m i x:V} {K:Eff→Option C} (h:Agree lk lk' m.keysT):evGPut Γ lk' T m i x K = evGPut Γ lk T m i x K:=by
 unfold evGPut
 split
 · rw [h _ List.mem_cons_self]
 · rfl
theorem lk_gmap {lk lk':Lk} {d:Nat} {T:TypeId} {e:Eff} (hw:Agree lk lk' (wkeys e.wr)) (he:evGMap Γ lk d T some = some e):evGMap Γ lk' d T some = some e:=by
 have hn:nextS lk' d = nextS lk d:=by
   have h0:=he
   unfold evGMap at h0
   split at h0
   · simp only [Option.some.injEq] at h0
     subst h0
     exact lk_next (hw d (by simp [wkeys]))
   · cases h0
 simp only [evGMap,hn] at he ⊢
 exact he
theorem lk_gop {o:Oper} {tm:Tm} {lk lk':Lk} {e:Eff} (he:evGOp Γ o tm lk some = some e) (hk:∀ x ∈ o.op.operands.toList,Agree lk lk' (Γ.val tm x).keysT) (hw:Agree lk lk' (wkeys e.wr)):evGOp Γ o tm lk' some = some e:=by
 unfold evGOp at he ⊢
 cases ho:o.op <;> rw [ho] at hk he <;> simp only at he ⊢ <;> try exact he
 case assign x =>
   split at he
   · exact lk_gnil hw he
   · cases he
 case buildSlice T n ps =>
   split at he
   · refine lk_gbuild (fun k hk2=>?_) hw he
     obtain ⟨q,hq,hk2⟩:=List.mem_flatMap.1 hk2
     obtain ⟨q0,hq0,rfl⟩:=List.mem_map.1 hq
     exact hk q0.2 (by simp [Op.operands];exact ⟨q0.1,by simpa using hq0⟩) k hk2
   · cases he
 case makeSlice T n c =>
   split at he
   · exact lk_gmake hw he
   · cases he
 case store T x y=>rw [lk_gstore (hk x (by simp [Op.operands])) (hk y (by simp [Op.operands]))];exact he
 case makeMap T rr =>
   split at he
   · exact lk_gmap hw he
   · cases he
 case lookup T x i ok=>rw [lk_glook (hk x (by simp [Op.operands]))];exact he
 case mapUpdate T m i x=>rw [lk_gput (hk m (by simp [Op.operands]))];exact he
 case slice T x lo hi mx=>rw [lk_gslice (hk x (by simp [Op.operands])),lk_gwhole (hk x (by simp [Op.operands]))];exact he
 case call c =>
   obtain ⟨callee,⟨args⟩,⟨Ts⟩⟩:=c
   simp only at he ⊢
   have hargs:∀ x ∈ args,Agree lk lk' (Γ.val tm x).keysT:=fun x hx=>hk x (by simp [Op.operands,Call.operands];cases callee <;> simp [hx])
   split at he
   · split at he
     · rename_i x y T T'
       rw [lk_gcopy (hargs x (by simp)) (hargs y (by simp))];exact he
     · cases he
   · exact he
   · split at he
     · rename_i x y T T' d hd
       cases hn:(Γ.val tm x).isNils with
       | true=>rw [hn] at he;exact lk_gzeros hw he
       | false=>rw [hn] at he;simp only [cond_false] at he ⊢;rw [lk_gappend (hargs x (by simp)) (hargs y (by simp)),lk_rappend (hargs x (by simp)) (hargs y (by simp))];exact he
     · cases he
   · rw [lk_gcall fun k hk=>by
       obtain ⟨v,hv,hk⟩:=List.mem_flatMap.1 hk
       obtain ⟨x,hx,rfl⟩:=List.mem_map.1 hv
       exact hargs x (by simpa using hx) k hk]
     exact he
   · cases he
theorem lk_lazy {o:Oper} (h:lazyOp o.op = true) {tm:Tm} {lk lk':Lk} {e:Eff} (hw:Agree lk lk' (wkeys e.wr)) (he:evOp Γ o tm lk some = some e):evOp Γ o tm lk' some = some e:=by
 have hg:gridOp Γ o tm lk' = gridOp Γ o tm lk:=by
   unfold gridOp
   cases ho:o.op <;> rw [ho] at h <;> simp only [lazyOp,Bool.false_eq_true] at h <;> rfl
 unfold evOp at he ⊢
 rw [hg]
 cases hgo:gridOp Γ o tm lk with
 | true =>
   rw [hgo] at he
   simp only [cond_true] at he ⊢
   unfold evGOp at he ⊢
   cases ho:o.op <;> rw [ho] at h <;> simp only [lazyOp,Bool.false_eq_true] at h <;> rw [ho] at he <;> simp only at he ⊢ <;> try exact he
   split at he
   · exact lk_gnil hw he
   · cases he
 | false =>
   rw [hgo] at he
   simp only [cond_false] at he ⊢
   unfold evOp0 at he ⊢
   cases ho:o.op <;> rw [ho] at h <;> simp only [lazyOp,Bool.false_eq_true] at h <;> rw [ho] at he <;> simp only at he ⊢ <;> try exact he
   split at he
   · split at he
     · rename_i d hT hd
       cases hown0:Γ.own (910000 + d) with
       | true=>rw [hown0] at he;exact he
       | false =>
       rw [hown0] at he
       simp only [cond_false] at he ⊢
       cases hown:Γ.own (500000 + d) with
       | true=>rw [hown] at he;exact he
       | false =>
         rw [hown] at he
         simp only [cond_false,Option.some.injEq] at he ⊢
         subst he
         have:lk' d = lk d:=hw d (by simp [wkeys])
         simp [nextS,this]
     · exact he
   · exact he
theorem lk_op (hX:∀ f vs os {C:Type} (k:V→List (Nat×Obj)→List Obj→Option C),Γ.callX f vs os k = (Γ.callX f vs os (fun a b c=>some (a,b,c))).bind fun q=>k q.1 q.2.1 q.2.2) {o:Oper} {tm:Tm} {lk lk':Lk} {e:Eff} (he:evOp Γ o tm lk some = some e) (h:Agree lk lk' (opKeys Γ o tm ++ wkeys e.wr)):evOp Γ o tm lk' some = some e:=by
 unfold opKeys at h
 cases hl:lazyOp o.op with
 | true=>exact lk_lazy hl h.right he
 | false =>
   rw [hl] at h
   simp only [cond_false] at h
   have hk:∀ x ∈ o.op.operands.toList,Agree lk lk' (Γ.val tm x).keysT:=fun x hx k hk=>h k (List.mem_append_left _ (List.mem_flatMap.2 ⟨x,hx,hk⟩))
   unfold evOp at he ⊢
   rw [lk_grid hk]
   cases hgo:gridOp Γ o tm lk with
   | true=>rw [hgo] at he;exact lk_gop he hk h.right
   | false=>rw [hgo] at he;exact lk_op0 hX he h
end Go.Pv
