/- The purifying layer, part 22: regions that draw their order: whatever order is drawn, the text's order tells what comes out. -/
import Derived.Test.YtlebcefahlienaaPvU
set_option linter.unusedVariables false
set_option linter.unusedSimpArgs false
namespace Go.Pv
variable {P:Program} {Γ:Cfg} {C:Type}
theorem befores_take:∀ (l:List Oper) (acc:List Nat),(befores l acc).take acc.length = acc
 | [],acc=>by simp [befores]
 | o :: r,acc=>by
   have:=befores_take r (acc ++ [bef1 acc o])
   simp only [befores]
   have h2:(befores r (acc ++ [bef1 acc o])).take acc.length = ((befores r (acc ++ [bef1 acc o])).take (acc ++ [bef1 acc o]).length).take acc.length:=by
     rw [List.take_take];congr 1;simp
   rw [h2,this];simp
theorem befores_at:∀ (l:List Oper) (acc:List Nat) (m:Nat) (o:Oper),l[m]? = some o→(befores l acc).getD (acc.length + m) 0 = bef1 ((befores l acc).take (acc.length + m)) o
 | [],acc,m,o,h=>by simp at h
 | o' :: r,acc,0,o,h=>by
   simp only [List.getElem?_cons_zero,Option.some.injEq] at h
   subst h
   simp only [Nat.add_zero,befores_take]
   simp only [befores]
   have h1:=befores_take r (acc ++ [bef1 acc o'])
   have:(befores r (acc ++ [bef1 acc o']))[acc.length]? = some (bef1 acc o'):=by
     have h2:((befores r (acc ++ [bef1 acc o'])).take (acc ++ [bef1 acc o']).length)[acc.length]? = some (bef1 acc o'):=by rw [h1];simp
     rw [List.getElem?_take] at h2
     simpa using h2
   rw [List.getD_eq_getElem?_getD,this];rfl
 | o' :: r,acc,m + 1,o,h=>by
   simp only [befores]
   have:=befores_at r (acc ++ [bef1 acc o']) m o (by simpa using h)
   rw [List.length_append,List.length_singleton] at this
   rw [show acc.length + (m + 1) = acc.length + 1 + m by omega]
   exact this
theorem bef1_bit {acc:List Nat} {o:Oper} {i:Nat} (h:(bef1 acc o).testBit i = true):∃ e ∈ o.after,Region.binds .any e = true∧(e.on = i ∨ (acc.getD e.on 0).testBit i = true):=by
 have key:∀ (l:List Edge) (s:Nat),(l.foldl (fun s e=>if Region.binds .any e then s ||| 2 ^ e.on ||| acc.getD e.on 0 else s) s).testBit i = true →
     s.testBit i = true ∨ ∃ e ∈ l,Region.binds .any e = true∧(e.on = i ∨ (acc.getD e.on 0).testBit i = true):=by
   intro l
   induction l with
   | nil=>intro s hs;exact .inl hs
   | cons e l ih =>
     intro s hs
     rw [List.foldl_cons] at hs
     rcases ih _ hs with h | ⟨e',he',hb,hc⟩
     · split at h
       · rename_i hb
         rw [Nat.testBit_or,Nat.testBit_or,Bool.or_eq_true,Bool.or_eq_true,Nat.testBit_two_pow,decide_eq_true_eq] at h
         rcases h with (h | h) | h
         · exact .inl h
         · exact .inr ⟨e,by simp,hb,.inl h⟩
         · exact .inr ⟨e,by simp,hb,.inr h⟩
       · exact .inl h
     · exact .inr ⟨e',by simp [he'],hb,hc⟩
 rcases key o.after.toList 0 h with h | ⟨e,he,hb,hc⟩
 · simp at h
 · exact ⟨e,by simpa using he,hb,hc⟩
theorem before_bit {ops:Array Oper} {j:Nat} {o:Oper} (ho:ops[j]? = some o) {i:Nat} (h:((befores ops.toList []).getD j 0).testBit i = true) :
   ∃ e ∈ o.after,Region.binds .any e = true∧(e.on = i ∨ ((befores ops.toList []).getD e.on 0).testBit i = true):=by
 have h1:=befores_at ops.toList [] j o (by simpa using ho)
 simp only [List.length_nil,Nat.zero_add] at h1
 rw [h1] at h
 obtain ⟨e,he,hb,hc⟩:=bef1_bit h
 refine ⟨e,he,hb,hc.imp id fun hc=>?_⟩
 rw [List.getD_eq_getElem?_getD,List.getElem?_take] at hc
 split at hc
 · rw [List.getD_eq_getElem?_getD];exact hc
 · simp at hc
theorem edges_lt:∀ (l:List Oper) (i:Nat),edgesOk i l = true→∀ m o,l[m]? = some o→∀ e ∈ o.after,Region.binds .any e = true→e.on < i + m
 | [],_,_,m,o,h,_,_,_=>by simp at h
 | o' :: r,i,h,m,o,ho,e,he,hb=>by
   simp only [edgesOk,Bool.and_eq_true,List.all_eq_true,Bool.or_eq_true,Bool.not_eq_true',decide_eq_true_eq] at h
   cases m with
   | zero =>
     simp only [List.getElem?_cons_zero,Option.some.injEq] at ho
     subst ho
     rcases h.1 e (by simpa using he) with h1 | h1
     · rw [hb] at h1;cases h1
     · simpa using h1
   | succ m =>
     have:=edges_lt r (i + 1) h.2 m o (by simpa using ho) e he hb
     omega
theorem clash_bit {bf:List Nat}:∀ (fs:List Foot) (i:Nat),feetOk bf i fs = true→∀ p q f g,p < q→fs[p]? = some f→fs[q]? = some g→f.clash g = true→(bf.getD (i + q) 0).testBit (i + p) = true
 | [],_,_,p,q,f,g,_,h,_,_=>by simp at h
 | f' :: r,i,h,p,q,f,g,hpq,hf,hg,hc=>by
   simp only [feetOk,Bool.and_eq_true] at h
   cases q with
   | zero=>omega
   | succ q =>
     cases p with
     | zero =>
       simp only [List.getElem?_cons_zero,Option.some.injEq] at hf
       subst hf
       have:=clash_row r (i + 1) h.1 q g (by simpa using hg) hc
       rw [show i + (q + 1) = i + 1 + q by omega];simpa using this
     | succ p =>
       have:=clash_bit r (i + 1) h.2 p q f g (by omega) (by simpa using hf) (by simpa using hg) hc
       rw [show i + (q + 1) = i + 1 + q by omega,show i + (p + 1) = i + 1 + p by omega];exact this
where
 clash_row {bf:List Nat} {i:Nat} {f:Foot}:∀ (fs:List Foot) (j:Nat),clashesOk bf i f j fs = true→∀ q g,fs[q]? = some g→f.clash g = true→(bf.getD (j + q) 0).testBit i = true
   | [],_,_,q,g,h,_=>by simp at h
   | g' :: r,j,h,0,g,hg,hc=>by
     simp only [List.getElem?_cons_zero,Option.some.injEq] at hg
     subst hg
     simp only [clashesOk,Bool.and_eq_true,Bool.or_eq_true,Bool.not_eq_true'] at h
     rcases h.1 with h1 | h1
     · rw [hc] at h1;cases h1
     · exact h1
   | g' :: r,j,h,q + 1,g,hg,hc=>by
     simp only [clashesOk,Bool.and_eq_true] at h
     have:=clash_row r (j + 1) h.2 q g (by simpa using hg) hc
     rw [show j + (q + 1) = j + 1 + q by omega];exact this
theorem feetOk_mk {bf:List Nat}:∀ (fs:List Foot) (i:Nat),(∀ p q f g,p < q→fs[p]? = some f→fs[q]? = some g→f.clash g = true→(bf.getD (i + q) 0).testBit (i + p) = true)→feetOk bf i fs = true
 | [],_,_=>rfl
 | f :: r,i,h=>by
   simp only [feetOk,Bool.and_eq_true]
   refine ⟨row r (i + 1) fun q g hg hc=>?_,feetOk_mk r (i + 1) fun p q f' g hpq hf hg hc=>?_⟩
   · have:=h 0 (q + 1) f g (by omega) rfl (by simpa using hg) hc
     rw [show i + 1 + q = i + (q + 1) by omega];simpa using this
   · have:=h (p + 1) (q + 1) f' g (by omega) (by simpa using hf) (by simpa using hg) hc
     rw [show i + 1 + q = i + (q + 1) by omega,show i + 1 + p = i + (p + 1) by omega];exact this
where
 row {bf:List Nat} {i:Nat} {f:Foot}:∀ (fs:List Foot) (j:Nat),(∀ q g,fs[q]? = some g→f.clash g = true→(bf.getD (j + q) 0).testBit i = true)→clashesOk bf i f j fs = true
   | [],_,_=>rfl
   | g :: r,j,h=>by
     simp only [clashesOk,Bool.and_eq_true,Bool.or_eq_true,Bool.not_eq_true']
     refine ⟨?_,row r (j + 1) fun q g' hg hc=>?_⟩
     · cases hc:f.clash g with
       | false=>exact .inl rfl
       | true=>exact .inr (by simpa using h 0 g rfl hc)
     · have:=h (q + 1) g' (by simpa using hg) hc
       rw [show j + 1 + q = j + (q + 1) by omega];exact this
theorem writers_mem:∀ (fs:List Foot) (i p:Nat) (f:Foot),fs[p]? = some f→f.wkeys ≠ []→(i + p,f.wkeys) ∈ writersOf i fs
 | [],_,p,f,h,_=>by simp at h
 | g :: r,i,0,f,h,hw=>by
   simp only [List.getElem?_cons_zero,Option.some.injEq] at h
   subst h
   unfold writersOf
   cases hk:g.wkeys with
   | nil=>exact absurd hk hw
   | cons a l=>simp
 | g :: r,i,p + 1,f,h,hw=>by
   have:=writers_mem r (i + 1) p f (by simpa using h) hw
   unfold writersOf
   rw [show i + 1 + p = i + (p + 1) by omega] at this
   cases g.wkeys.isEmpty
   · exact List.mem_cons_of_mem _ this
   · exact this
theorem keyRow_at {bf:List Nat} {i:Nat} {w:List Nat}:∀ (fs:List Foot) (j q:Nat) (g:Foot),keyRow bf i w j fs = true→fs[q]? = some g→meets w g.keys = true→i ≠ j + q →
   (bif Nat.blt i (j + q) then (bf.getD (j + q) 0).testBit i else (bf.getD i 0).testBit (j + q)) = true
 | [],_,q,g,_,h,_,_=>by simp at h
 | f :: r,j,0,g,hk,h,hm,hne=>by
   simp only [List.getElem?_cons_zero,Option.some.injEq] at h
   subst h
   simp only [keyRow,Bool.and_eq_true,Bool.or_eq_true,Bool.not_eq_true'] at hk
   rcases hk.1 with (h1 | h1) | h1
   · rw [hm] at h1;cases h1
   · exact absurd (Nat.eq_of_beq_eq_true h1) hne
   · exact h1
 | f :: r,j,q + 1,g,hk,h,hm,hne=>by
   simp only [keyRow,Bool.and_eq_true] at hk
   have:=keyRow_at r (j + 1) q g hk.2 (by simpa using h) hm (by omega)
   rw [show j + 1 + q = j + (q + 1) by omega] at this
   exact this
theorem feet_slots {ops:Array Oper} {nt:Nat}:∀ (tr:List Act1) (S:S2) (p:Nat) (f:Foot),(feet Γ ops nt tr S)[p]? = some f→∃ t,tr[p]? = some t∧f.dst = t.1.dst∧f.tmps = opTmps ops t.1
 | [],_,p,f,h=>by simp [feet] at h
 | t :: r,S,0,f,h=>by
   simp only [feet,List.getElem?_cons_zero,Option.some.injEq] at h
   subst h
   refine ⟨t,rfl,?_,?_⟩ <;> (unfold foot1;cases t.2 <;> rfl)
 | t :: r,S,p + 1,f,h=>by
   simp only [feet,List.getElem?_cons_succ] at h
   obtain ⟨u,h1,h2⟩:=feet_slots r _ p f h
   exact ⟨u,by simpa using h1,h2⟩
theorem footsOk_feet {ops:Array Oper} {nt:Nat} {tr:List Act1} {S:S2} (hm:tr.map (·.1) = ops.toList) (hf:footsOk ops (feet Γ ops nt tr S) = true):feetOk (befores ops.toList []) 0 (feet Γ ops nt tr S) = true:=by
 simp only [footsOk,Bool.and_eq_true] at hf
 obtain ⟨⟨_,h1⟩,h2⟩:=hf
 refine feetOk_mk _ 0 fun p q f g hpq hp hq hc=>?_
 obtain ⟨t,ht,hd1,ht1⟩:=feet_slots tr S p f hp
 obtain ⟨u,hu,hd2,ht2⟩:=feet_slots tr S q g hq
 have ho1:(ops.toList.map (skipFoot ops))[p]? = some (skipFoot ops t.1):=by rw [← hm];simp [ht]
 have ho2:(ops.toList.map (skipFoot ops))[q]? = some (skipFoot ops u.1):=by rw [← hm];simp [hu]
 simp only [Nat.zero_add]
 simp only [keysOk,List.all_eq_true] at h2
 have hne:∀ {x y:List Nat},meets x y = true→x ≠ []:=by
   intro x y h e
   subst e
   simp [meets] at h
 simp only [Foot.clash,Bool.or_eq_true] at hc
 rcases hc with (hc | hc) | hc
 · have:(skipFoot ops t.1).clash (skipFoot ops u.1) = true:=by
     simp only [Foot.clash,skipFoot,Bool.or_eq_true]
     rw [← hd1,← hd2,← ht1,← ht2]
     exact .inl (.inl hc)
   have:=clash_bit _ 0 h1 p q _ _ hpq ho1 ho2 this
   simpa using this
 · have hw:=writers_mem (feet Γ ops nt tr S) 0 p f hp (hne hc)
   have:=keyRow_at _ 0 q g (h2 _ hw) hq hc (by simp only;omega)
   simp only [Nat.zero_add] at this
   have hb:Nat.blt p q = true:=by simp;omega
   rw [hb] at this
   exact this
 · have hw:=writers_mem (feet Γ ops nt tr S) 0 q g hq (hne hc)
   have:=keyRow_at _ 0 p f (h2 _ hw) hp hc (by simp only;omega)
   simp only [Nat.zero_add] at this
   have hb:Nat.blt q p = false:=by
     cases h:Nat.blt q p with
     | false=>rfl
     | true=>simp at h;omega
   rw [hb] at this
   exact this
theorem tr_at {ops:Array Oper} {nt:Nat}:∀ (tr:List Act1) (S:S2),Tr Γ ops nt tr S→∀ p t,tr[p]? = some t→Good Γ ops (runS nt (tr.take p) S) t
 | [],_,_,p,t,h=>by simp at h
 | u :: r,S,h,0,t,hp=>by
   simp only [List.getElem?_cons_zero,Option.some.injEq] at hp
   subst hp;exact h.1
 | u :: r,S,h,p + 1,t,hp=>by
   simp only [List.take_succ_cons,runS]
   exact tr_at r _ h.2 p t (by simpa using hp)
theorem feet_at {ops:Array Oper} {nt:Nat}:∀ (tr:List Act1) (S:S2) p t,tr[p]? = some t→(feet Γ ops nt tr S)[p]? = some (foot1 Γ ops (runS nt (tr.take p) S) t)
 | [],_,p,t,h=>by simp at h
 | u :: r,S,0,t,hp=>by
   simp only [List.getElem?_cons_zero,Option.some.injEq] at hp
   subst hp;rfl
 | u :: r,S,p + 1,t,hp=>by
   simp only [feet,List.getElem?_cons_succ,List.take_succ_cons,runS]
   exact feet_at r _ p t (by simpa using hp)
theorem sel_lt {nt:Nat}:∀ (tr:List Act1) (i p:Nat) (S:S2),sel nt (fun j=>decide (j < i + p)) tr i S = runS nt (tr.take p) S
 | [],_,_,_=>by simp [sel,runS]
 | t :: r,i,0,S=>by
   simp only [sel,Nat.add_zero,Nat.lt_irrefl,decide_false,cond_false,List.take_zero,runS]
   have h2:sel nt (fun j=>decide (j < i)) r (i + 1) S = sel nt (fun _=>false) r (i + 1) S:=by
     refine Prod.ext (funext fun x=>sel_tm r (i + 1) S S rfl fun j t' hj hne=>?_) (funext fun k=>sel_lk r (i + 1) S S rfl fun j t' hj hne=>?_)
     · exact absurd (decide_eq_false (by omega)) hne
     · exact absurd (decide_eq_false (by omega)) hne
   rw [h2,sel_none']
 | t :: r,i,p + 1,S=>by
   simp only [sel,List.take_succ_cons,runS]
   rw [show decide (i < i + (p + 1)) = true from decide_eq_true (by omega)]
   simp only [cond_true]
   rw [← sel_lt r (i + 1) p]
   rw [show i + 1 + p = i + (p + 1) by omega]
theorem foot_dst {ops:Array Oper} {S:S2} {t:Act1}:(foot1 Γ ops S t).dst = t.1.dst:=by unfold foot1;split <;> rfl
theorem foot_tmps {ops:Array Oper} {S:S2} {t:Act1}:(foot1 Γ ops S t).tmps = opTmps ops t.1:=by unfold foot1;split <;> rfl
theorem foot_wkeys {ops:Array Oper} {S:S2} {t:Act1} {k:Nat}:k ∈ (foot1 Γ ops S t).wkeys ↔ t.wk k:=by
 unfold foot1 Act1.wk Act1.eff
 cases t.2 <;> simp [footOf,skipFoot,wkeys]
theorem foot_wkeys_keys {ops:Array Oper} {S:S2} {t:Act1} {k:Nat} (h:t.wk k):k ∈ (foot1 Γ ops S t).keys:=by
 revert h
 unfold foot1 Act1.wk Act1.eff
 cases t.2 <;> simp [footOf,skipFoot,wkeys]
 intro s o h;exact .inr ⟨s,o,h⟩
theorem meets_of {a b:List Nat} {x:Nat} (h1:x ∈ a) (h2:x ∈ b):meets a b = true:=by
 simp only [meets,List.any_eq_true]
 exact ⟨x,h1,by simpa using h2⟩
theorem good_near (hX:∀ f vs os {C:Type} (k:V→List (Nat×Obj)→List Obj→Option C),Γ.callX f vs os k = (Γ.callX f vs os (fun a b c=>some (a,b,c))).bind fun q=>k q.1 q.2.1 q.2.2) {ops:Array Oper} {S S':S2} {t:Act1} (h:Good Γ ops S t) (h1:∀ x ∈ opTmps ops t.1,S'.1 x = S.1 x) (h2:∀ k ∈ (foot1 Γ ops S t).keys,S'.2 k = S.2 k):Good Γ ops S' t:=by
 obtain ⟨ha,hb⟩:=h
 refine ⟨?_,fun e he=>?_⟩
 · split at ha
   · rename_i hg;exact ha
   · rename_i j want hg
     obtain ⟨g,hgt,hc⟩:=ha
     have hmem:g ∈ opTmps ops t.1:=by
       unfold opTmps
       rw [hg]
       refine List.mem_append_right _ ?_
       unfold guardTmp at hgt
       simp [hgt]
     refine ⟨g,hgt,?_⟩
     rw [h1 g hmem];exact hc
 · have h0:=hb e he
   have hv:∀ x ∈ t.1.op.operands.toList,Γ.val S'.1 x = Γ.val S.1 x:=by
     intro x hx
     cases x with
     | tmp y=>exact h1 y (List.mem_append_left _ (List.mem_filterMap.2 ⟨.tmp y,hx,rfl⟩))
     | _=>rfl
   have h3:=lk_op hX (lk':=S'.2) h0 (fun k hk=>h2 k (by
     unfold foot1
     rw [he]
     simpa [footOf,wkeys] using hk))
   rw [tm_op t.1 S'.2 some hv]
   exact h3
def Closed (ops:Array Oper) (D:Nat→Bool):Prop:=∀ j,D j = true→∀ i,((befores ops.toList []).getD j 0).testBit i = true→D i = true
theorem good_any (hX:∀ f vs os {C:Type} (k:V→List (Nat×Obj)→List Obj→Option C),Γ.callX f vs os k = (Γ.callX f vs os (fun a b c=>some (a,b,c))).bind fun q=>k q.1 q.2.1 q.2.2) {ops:Array Oper} {nt:Nat} {tr:List Act1} {S:S2} (hm:tr.map (·.1) = ops.toList) (ht:Tr Γ ops nt tr S) (hf:footsOk ops (feet Γ ops nt tr S) = true) {D:Nat→Bool} (hc:Closed ops D)
   {p:Nat} {t:Act1} (hp:tr[p]? = some t) (hD:D p = false) (hready:∀ i,((befores ops.toList []).getD p 0).testBit i = true→D i = true) :
   Good Γ ops (sel nt D tr 0 S) t∧sel nt (fun j=>D j || j == p) tr 0 S = (sel nt D tr 0 S).step nt t:=by
 have hfo:feetOk (befores ops.toList []) 0 (feet Γ ops nt tr S) = true:=footsOk_feet hm hf
 have hfp:=feet_at (Γ:=Γ) (ops:=ops) (nt:=nt) tr S p t hp
 have hS:sel nt (fun j=>decide (j < p)) tr 0 S = runS nt (tr.take p) S:=by have:=sel_lt (nt:=nt) tr 0 p S;simpa using this
 -- what lies before and clashes is done;what lies behind and clashes is not
 have before:∀ j u,j < p→tr[j]? = some u→(foot1 Γ ops (runS nt (tr.take j) S) u).clash (foot1 Γ ops (runS nt (tr.take p) S) t) = true→D j = true:=by
   intro j u hj hu hcl
   have:=clash_bit _ 0 hfo j p _ _ hj (feet_at tr S j u hu) hfp hcl
   simp only [Nat.zero_add] at this
   exact hready j this
 have behind:∀ j u,p < j→tr[j]? = some u→D j = true→(foot1 Γ ops (runS nt (tr.take p) S) t).clash (foot1 Γ ops (runS nt (tr.take j) S) u) = false:=by
   intro j u hj hu hDj
   by_cases hcl:(foot1 Γ ops (runS nt (tr.take p) S) t).clash (foot1 Γ ops (runS nt (tr.take j) S) u) = true
   · have:=clash_bit _ 0 hfo p j _ _ hj hfp (feet_at tr S j u hu) hcl
     simp only [Nat.zero_add] at this
     have:=hc j hDj p this
     rw [hD] at this;cases this
   · simpa using hcl
 refine ⟨?_,?_⟩
 · refine good_near hX (tr_at tr S ht p t hp) (fun x hx=>?_) (fun k hk=>?_)
   · rw [← hS]
     refine sel_tm tr 0 S S rfl fun j u hu hne hw=>?_
     simp only [Nat.zero_add] at hne
     rcases Nat.lt_or_ge j p with hj | hj
     · have hDj:D j = false:=by
         cases h:D j
         · rfl
         · exact absurd (by simp [h,hj]) hne
       have:=before j u hj hu (by
         unfold Foot.clash
         rw [foot_dst,foot_tmps,hw.1]
         simp [hx])
       rw [hDj] at this;cases this
     · have hDj:D j = true:=by
         cases h:D j
         · exact absurd (by simp [h,Nat.not_lt.2 hj]) hne
         · rfl
       have hj2:p < j:=by
         rcases Nat.lt_or_eq_of_le hj with h | h
         · exact h
         · subst h;rw [hD] at hDj;cases hDj
       have:=behind j u hj2 hu hDj
       unfold Foot.clash at this
       rw [foot_dst (t:=u),foot_tmps (t:=t),hw.1] at this
       simp [hx] at this
   · rw [← hS]
     refine sel_lk tr 0 S S rfl fun j u hu hne hw=>?_
     simp only [Nat.zero_add] at hne
     rcases Nat.lt_or_ge j p with hj | hj
     · have hDj:D j = false:=by
         cases h:D j
         · rfl
         · exact absurd (by simp [h,hj]) hne
       have:=before j u hj hu (by
         unfold Foot.clash
         rw [meets_of (a:=(foot1 Γ ops (runS nt (tr.take j) S) u).wkeys) (foot_wkeys.2 hw) hk]
         simp)
       rw [hDj] at this;cases this
     · have hDj:D j = true:=by
         cases h:D j
         · exact absurd (by simp [h,Nat.not_lt.2 hj]) hne
         · rfl
       have hj2:p < j:=by
         rcases Nat.lt_or_eq_of_le hj with h | h
         · exact h
         · subst h;rw [hD] at hDj;cases hDj
       have:=behind j u hj2 hu hDj
       unfold Foot.clash at this
       rw [meets_of (a:=(foot1 Γ ops (runS nt (tr.take j) S) u).wkeys) (foot_wkeys.2 hw) hk] at this
       simp at this
 · refine sel_insert hp hD fun j u hj hu hDj=>?_
   have:=behind j u hj hu hDj
   unfold Foot.clash at this
   simp only [Bool.or_eq_false_iff] at this
   obtain ⟨⟨⟨c1,c2⟩,c3⟩,c4⟩:=this
   refine ⟨fun x hx hux=>?_,fun k hk huk=>?_⟩
   · rw [foot_dst,foot_dst,hx.1,hux.1] at c1
     simp at c1
   · rw [meets_of (foot_wkeys.2 hk) (foot_wkeys_keys huk)] at c3
     cases c3
theorem getD_both {listed:Array Bool} {j:Nat} (h:j < listed.size):listed.getD j true = listed.getD j false:=by
 simp [Array.getD_eq_getD_getElem?,h]
theorem ready_ex {ops:Array Oper} (he:edgesOk 0 ops.toList = true) {listed:Array Bool} (hsz:listed.size = ops.size) (hr:Region.ready .any ops listed = []):∀ j,j < ops.size→listed.getD j false = true:=by
 intro j
 induction j using Nat.strongRecOn with
 | _ j ih =>
   intro hj
   by_cases hl:listed.getD j false = true
   · exact hl
   · have hm:j ∈ Region.ready .any ops listed:=by
       rw [mem_ready]
       refine ⟨by rw [getD_both (by omega)];simpa using hl,ops[j],by simp [hj],fun e hemem hb=>?_⟩
       have hlt:=edges_lt ops.toList 0 he j ops[j] (by simp [hj]) e hemem hb
       simp only [Nat.zero_add] at hlt
       exact ih e.on hlt (by omega)
     rw [hr] at hm;cases hm
def unl (n:Nat) (listed:Array Bool):Nat:=((List.range n).filter fun j=>!listed.getD j false).length
theorem filter_less {α:Type} {p q:α→Bool} (hpq:∀ x,q x = true→p x = true) {e:α} (hp:p e = true) (hq:q e = false):∀ (l:List α),e ∈ l→(l.filter q).length < (l.filter p).length
 | [],h=>by simp at h
 | x :: l,h=>by
   have hle:∀ l:List α,(l.filter q).length ≤ (l.filter p).length:=by
     intro l
     induction l with
     | nil=>simp
     | cons y l ih =>
       simp only [List.filter_cons]
       cases hqy:q y
       · cases hpy:p y <;> simp <;> omega
       · rw [hpq y hqy];simp;omega
   rcases List.mem_cons.1 h with rfl | h
   · simp only [List.filter_cons,hp,hq,if_true,Bool.false_eq_true,if_false,List.length_cons]
     have:=hle l
     omega
   · have ih:=filter_less hpq hp hq l h
     simp only [List.filter_cons]
     cases hqy:q x
     · cases hpy:p x <;> simp <;> omega
     · rw [hpq x hqy];simp;omega
theorem unl_set {n:Nat} {listed:Array Bool} {i:Nat} (hi:i < n) (hsz:listed.size = n) (hl:listed.getD i false = false):unl n (listed.setIfInBounds i true) < unl n listed:=by
 refine filter_less (e:=i) (fun x hx=>?_) (by simp [hl]) ?_ _ (List.mem_range.2 hi)
 · by_cases hxi:i = x
   · subst hxi;rw [hl];rfl
   · rw [getD_set_ne false hxi] at hx;exact hx
 · simp [Array.getD_eq_getD_getElem?,hsz,hi]
theorem any_ops {cx:Cx} (hΓ:CfgOk P Γ) (hP:cx.P = P) (hg:cx.G = Γ.glob) {F:Fence} (hF:Wide F) {n:Nat} {ops:Array Oper} {Q:Exit→Act→World→Prop} {tr:List Act1} {S:S2}
   (hm:tr.map (·.1) = ops.toList) (ht:Tr Γ ops cx.nt tr S) (hf:footsOk ops (feet Γ ops cx.nt tr S) = true) (hQ:∀ a' w',RelS cx (runS cx.nt tr S) a' w'→Q .normal a' w') :
   ∀ (fuel:Nat) (listed:Array Bool) (a:Act) (w:World),listed.size = ops.size→Closed ops (fun j=>listed.getD j false)→unl ops.size listed ≤ fuel →
     RelS cx (sel cx.nt (fun j=>listed.getD j false) tr 0 S) a w→wpAnyIn F n P .any ops Q fuel listed a w:=by
 have hlen:tr.length = ops.size:=by have:=congrArg List.length hm;simpa using this
 have hedges:edgesOk 0 ops.toList = true:=by simp only [footsOk,Bool.and_eq_true] at hf;exact hf.1.1
 have full:∀ (listed:Array Bool) (a:Act) (w:World),(∀ j,j < ops.size→listed.getD j false = true)→RelS cx (sel cx.nt (fun j=>listed.getD j false) tr 0 S) a w→Q .normal a w:=by
   intro listed a w hall r
   refine hQ a w ?_
   rw [sel_all tr 0 S fun j _ hj=>hall j (by omega)] at r
   exact r
 intro fuel
 induction fuel with
 | zero =>
   intro listed a w hsz hcl hu r
   have hall:∀ j,j < ops.size→listed.getD j false = true:=by
     intro j hj
     have:(List.range ops.size).filter (fun j=>!listed.getD j false) = []:=List.length_eq_zero_iff.1 (by unfold unl at hu;omega)
     have:=List.filter_eq_nil_iff.1 this j (List.mem_range.2 hj)
     simpa using this
   refine ⟨?_,full listed a w hall r⟩
   cases hr:Region.ready .any ops listed with
   | nil=>rfl
   | cons j l =>
     have hj:j ∈ Region.ready .any ops listed:=by rw [hr];simp
     rw [mem_ready] at hj
     obtain ⟨h1,o,ho,_⟩:=hj
     have hjn:j < ops.size:=(Array.getElem?_eq_some_iff.1 ho).1
     rw [getD_both (by omega),hall j hjn] at h1
     cases h1
 | succ fuel ih =>
   intro listed a w hsz hcl hu r
   refine ⟨fun hr=>full listed a w (ready_ex hedges hsz hr) r,fun i hi=>?_⟩
   rw [mem_ready] at hi
   obtain ⟨h1,o,ho,hedge⟩:=hi
   have hin:i < ops.size:=(Array.getElem?_eq_some_iff.1 ho).1
   have hDi:listed.getD i false = false:=by rw [getD_both (by omega)] at h1;exact h1
   obtain ⟨t,hti⟩:∃ t,tr[i]? = some t:=⟨tr[i],by simp [hlen,hin]⟩
   have hto:t.1 = o:=by
     have h2:(tr.map (·.1))[i]? = some t.1:=by simp [hti]
     rw [hm] at h2
     simp only [Array.getElem?_toList] at h2
     rw [ho] at h2
     exact (Option.some.inj h2).symm
   have hready:∀ k,((befores ops.toList []).getD i 0).testBit k = true→listed.getD k false = true:=by
     intro k hk
     obtain ⟨e,he,hb,hc⟩:=before_bit ho hk
     have hl:=hedge e he hb
     rcases hc with rfl | hc
     · exact hl
     · exact hcl e.on hl k hc
   obtain ⟨hgood,hins⟩:=good_any hΓ.natX hm ht hf hcl hti hDi hready
   refine step_one hΓ hP hg hF (by rw [hto];exact ho) r hgood fun a' w' r'=>?_
   have hset:(fun j=>(listed.setIfInBounds i true).getD j false) = fun j=>listed.getD j false || j == i:=by
     funext j
     by_cases hji:i = j
     · subst hji;simp [Array.getD_eq_getD_getElem?,hsz,hin]
     · rw [getD_set_ne false hji]
       have:(j == i) = false:=by simpa using fun h=>hji h.symm
       rw [this];simp
   refine ih _ a' w' (by simpa using hsz) ?_ ?_ ?_
   · rw [hset]
     intro j hj k hk
     simp only [Bool.or_eq_true,beq_iff_eq] at hj ⊢
     rcases hj with hj | hj
     · exact .inl (hcl j hj k hk)
     · subst hj;exact .inl (hready k hk)
   · have:=unl_set hin hsz hDi;omega
   · rw [hset,hins];exact r'
theorem region_any {cx:Cx} (hΓ:CfgOk P Γ) (hP:cx.P = P) (hg:cx.G = Γ.glob) {F:Fence} (hF:Wide F) {n id:Nat} {ops:Array Oper} {Q:Exit→Act→World→Prop} {tr:List Act1} {S:S2} {a:Act} {w:World}
   (hm:tr.map (·.1) = ops.toList) (ht:Tr Γ ops cx.nt tr S) (hf:footsOk ops (feet Γ ops cx.nt tr S) = true) (r:RelS cx S a w) (hQ:∀ a' w',RelS cx (runS cx.nt tr S) a' w'→Q .normal a' w') :
   (Code.region id ops true).wpIn F n P Q a w:=by
 refine wpIn_region_any hΓ.mixed (any_ops hΓ hP hg hF hm ht hf hQ ops.size _ a _ (by simp) ?_ ?_ ?_)
 · intro j hj
   simp [Array.getD_eq_getD_getElem?,Array.getElem?_replicate] at hj
   split at hj <;> simp at hj
 · unfold unl
   exact Nat.le_trans (List.length_filter_le _ _) (by simp)
 · have:(fun j=>(Array.replicate ops.size false).getD j false) = fun _=>false:=by
     funext j
     simp [Array.getD_eq_getD_getElem?,Array.getElem?_replicate]
     split <;> rfl
   rw [this,sel_none']
   obtain ⟨Fz,pos,U,r⟩:=r
   exact ⟨Fz,pos,U,r.call ⟨rfl,rfl,rfl,Nat.le_refl _,fun _ _=>rfl,fun _ _=>Iff.rfl,r.step.lt⟩⟩
theorem region_rep {cx:Cx} (hΓ:CfgOk P Γ) (hP:cx.P = P) (hg:cx.G = Γ.glob) {F:Fence} (hF:Wide F) {n id:Nat} {ops:Array Oper} {draw:Bool} {K':St→Option C} {r0:C} {st:St} {a:Act} {w:World} (hnt:st.tmps.length = cx.nt)
   (h:evOps Γ ops draw ops.toList st [] K' = some r0) (r:RelS cx st.s2 a w) {Q:Exit→Act→World→Prop} (hQ:∀ st' a' w',st'.tmps.length = cx.nt→RelS cx st'.s2 a' w'→K' st' = some r0→Q .normal a' w') :
   (Code.region id ops draw).wpIn F n P Q a w:=by
 obtain ⟨tr,h1,h2,⟨st',h3,h4,h5⟩,h6⟩:=ops_trace hΓ ops.toList st [] K' h
 rw [hnt] at h2 h3 h4 h6
 have hfin:∀ a' w',RelS cx (runS cx.nt tr st.s2) a' w'→Q .normal a' w':=fun a' w' r'=>hQ st' a' w' h3 (by rw [h4];exact r') h5
 cases draw with
 | false=>exact region_text hΓ hP hg hF h1 h2 r hfin
 | true=>exact region_any hΓ hP hg hF h1 h2 (by simpa using h6 rfl) r hfin
end Go.Pv
