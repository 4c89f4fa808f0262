/- The purifying layer, part 21: regions that draw their order. -/
import Derived.Test.YtlebcefahlienaaPvT
set_option linter.unusedVariables false
set_option linter.unusedSimpArgs false
namespace Go.Pv
variable {P:Program} {Γ:Cfg} {C:Type}
def sel (nt:Nat) (D:Nat→Bool):List Act1→Nat→S2→S2
 | [],_,S=>S
 | t :: r,i,S=>sel nt D r (i + 1) (bif D i then S.step nt t else S)
def Act1.wt (nt:Nat) (t:Act1) (x:Tmp):Prop:=t.1.dst = some x∧x < nt
def Act1.wk (t:Act1) (k:Nat):Prop:=k ∈ wkeys t.eff.wr
theorem updLk_out:∀ (wr:List (Nat×Nat×Obj)) (lk:Lk) (k:Nat),k ∉ wkeys wr→updLk wr lk k = lk k
 | [],_,_,_=>rfl
 | (k',s,o) :: r,lk,k,h=>by
   simp only [wkeys,List.map_cons,List.mem_cons,not_or] at h
   rw [updLk,updLk_out r _ k h.2,updLk1,if_neg h.1]
theorem updLk_in:∀ (wr:List (Nat×Nat×Obj)) (lk lk':Lk) (k:Nat),(k ∈ wkeys wr ∨ lk k = lk' k)→updLk wr lk k = updLk wr lk' k
 | [], _, _, _, h => by rcases h with h | h;· simp [wkeys] at h
                        · exact h
 | (k',s,o) :: r,lk,lk',k,h=>by
   simp only [updLk]
   apply updLk_in r
   by_cases hk:k = k'
   · right;simp [updLk1,hk]
   · rcases h with h | h
     · simp only [wkeys,List.map_cons,List.mem_cons] at h
       exact .inl (h.resolve_left hk)
     · right;simp [updLk1,hk,h]
theorem step_tm_out {nt:Nat} {S:S2} {t:Act1} {x:Tmp} (h:¬ t.wt nt x):(S.step nt t).1 x = S.1 x:=by
 exact if_neg h
theorem step_tm_in {nt:Nat} {S S':S2} {t:Act1} {x:Tmp} (h:t.wt nt x ∨ S.1 x = S'.1 x):(S.step nt t).1 x = (S'.step nt t).1 x:=by
 simp only [S2.step,S2.put,updTm]
 by_cases hw:t.1.dst = some x∧x < nt
 · rw [if_pos hw,if_pos hw]
 · rw [if_neg hw,if_neg hw];exact h.resolve_left hw
theorem step_lk_out {nt:Nat} {S:S2} {t:Act1} {k:Nat} (h:¬ t.wk k):(S.step nt t).2 k = S.2 k:=updLk_out _ _ _ h
theorem step_lk_in {nt:Nat} {S S':S2} {t:Act1} {k:Nat} (h:t.wk k ∨ S.2 k = S'.2 k):(S.step nt t).2 k = (S'.step nt t).2 k:=updLk_in _ _ _ _ h
theorem sel_tm {nt:Nat} {D D':Nat→Bool} {x:Tmp}:∀ (tr:List Act1) (i:Nat) (S S':S2),S.1 x = S'.1 x→(∀ j t,tr[j]? = some t→D (i + j) ≠ D' (i + j)→¬ t.wt nt x)→(sel nt D tr i S).1 x = (sel nt D' tr i S').1 x
 | [],_,_,_,h,_=>h
 | t :: r,i,S,S',h,hd=>by
   simp only [sel]
   apply sel_tm r
   · have h0:=hd 0 t rfl
     simp only [Nat.add_zero] at h0
     cases hD:D i <;> cases hD':D' i <;> simp only [cond_true,cond_false]
     · exact h
     · rw [step_tm_out (h0 (by simp [hD,hD']))];exact h
     · rw [step_tm_out (h0 (by simp [hD,hD']))];exact h
     · exact step_tm_in (.inr h)
   · intro j t' hj hne
     exact hd (j + 1) t' (by simpa using hj) (by simpa [Nat.add_assoc,Nat.add_comm 1 j] using hne)
theorem sel_lk {nt:Nat} {D D':Nat→Bool} {k:Nat}:∀ (tr:List Act1) (i:Nat) (S S':S2),S.2 k = S'.2 k→(∀ j t,tr[j]? = some t→D (i + j) ≠ D' (i + j)→¬ t.wk k)→(sel nt D tr i S).2 k = (sel nt D' tr i S').2 k
 | [],_,_,_,h,_=>h
 | t :: r,i,S,S',h,hd=>by
   simp only [sel]
   apply sel_lk r
   · have h0:=hd 0 t rfl
     simp only [Nat.add_zero] at h0
     cases hD:D i <;> cases hD':D' i <;> simp only [cond_true,cond_false]
     · exact h
     · rw [step_lk_out (h0 (by simp [hD,hD']))];exact h
     · rw [step_lk_out (h0 (by simp [hD,hD']))];exact h
     · exact step_lk_in (.inr h)
   · intro j t' hj hne
     exact hd (j + 1) t' (by simpa using hj) (by simpa [Nat.add_assoc,Nat.add_comm 1 j] using hne)
theorem sel_last_tm {nt:Nat} {D:Nat→Bool} {x:Tmp} {t:Act1} (hx:t.wt nt x):∀ (tr:List Act1) (i p:Nat) (S S':S2),tr[p]? = some t→D (i + p) = true→(∀ j u,p < j→tr[j]? = some u→D (i + j) = true→¬ u.wt nt x) →
   (sel nt D tr i S).1 x = (S'.step nt t).1 x
 | [],_,p,_,_,h,_,_=>by simp at h
 | u :: r,i,0,S,S',h,hD,hn=>by
   simp only [List.getElem?_cons_zero,Option.some.injEq] at h
   subst h
   simp only [sel,show D i = true from hD,cond_true]
   have:=sel_tm (nt:=nt) (D:=D) (D':=fun _=>false) (x:=x) r (i + 1) (S.step nt u) (S'.step nt u) (step_tm_in (.inl hx)) (fun j t' hj hne=>by
     have hDj:D (i + 1 + j) = true:=by simpa using hne
     exact hn (j + 1) t' (by omega) (by simpa using hj) (by rw [show i + (j + 1) = i + 1 + j by omega];exact hDj))
   rw [this]
   exact congrFun (congrArg Prod.fst (sel_none r (i + 1) _)) x
 | u :: r,i,p + 1,S,S',h,hD,hn=>by
   simp only [sel]
   exact sel_last_tm hx r (i + 1) p _ S' (by simpa using h) (by rw [show i + 1 + p = i + (p + 1) by omega];exact hD)
     (fun j u' hj hu hDj=>hn (j + 1) u' (by omega) (by simpa using hu) (by rw [show i + (j + 1) = i + 1 + j by omega];exact hDj))
where
 sel_none:∀ (tr:List Act1) (i:Nat) (S:S2),sel nt (fun _=>false) tr i S = S
   | [],_,_=>rfl
   | _ :: r,i,S=>by simp only [sel,cond_false];exact sel_none r (i + 1) S
theorem sel_none' {nt:Nat}:∀ (tr:List Act1) (i:Nat) (S:S2),sel nt (fun _=>false) tr i S = S
 | [],_,_=>rfl
 | _ :: r,i,S=>by simp only [sel,cond_false];exact sel_none' r (i + 1) S
theorem sel_last_lk {nt:Nat} {D:Nat→Bool} {k:Nat} {t:Act1} (hx:t.wk k):∀ (tr:List Act1) (i p:Nat) (S S':S2),tr[p]? = some t→D (i + p) = true→(∀ j u,p < j→tr[j]? = some u→D (i + j) = true→¬ u.wk k) →
   (sel nt D tr i S).2 k = (S'.step nt t).2 k
 | [],_,p,_,_,h,_,_=>by simp at h
 | u :: r,i,0,S,S',h,hD,hn=>by
   simp only [List.getElem?_cons_zero,Option.some.injEq] at h
   subst h
   simp only [sel,show D i = true from hD,cond_true]
   have:=sel_lk (nt:=nt) (D:=D) (D':=fun _=>false) (k:=k) r (i + 1) (S.step nt u) (S'.step nt u) (step_lk_in (.inl hx)) (fun j t' hj hne=>by
     have hDj:D (i + 1 + j) = true:=by simpa using hne
     exact hn (j + 1) t' (by omega) (by simpa using hj) (by rw [show i + (j + 1) = i + 1 + j by omega];exact hDj))
   rw [this]
   exact congrFun (congrArg Prod.snd (sel_none' r (i + 1) _)) k
 | u :: r,i,p + 1,S,S',h,hD,hn=>by
   simp only [sel]
   exact sel_last_lk hx r (i + 1) p _ S' (by simpa using h) (by rw [show i + 1 + p = i + (p + 1) by omega];exact hD)
     (fun j u' hj hu hDj=>hn (j + 1) u' (by omega) (by simpa using hu) (by rw [show i + (j + 1) = i + 1 + j by omega];exact hDj))
theorem sel_insert {nt:Nat} {D:Nat→Bool} {tr:List Act1} {S:S2} {p:Nat} {t:Act1} (hp:tr[p]? = some t) (hD:D p = false)
   (hx:∀ j u,p < j→tr[j]? = some u→D j = true→(∀ x,t.wt nt x→¬ u.wt nt x)∧∀ k,t.wk k→¬ u.wk k) :
   sel nt (fun j=>D j || j == p) tr 0 S = (sel nt D tr 0 S).step nt t:=by
 have h1:∀ x,(sel nt (fun j=>D j || j == p) tr 0 S).1 x = ((sel nt D tr 0 S).step nt t).1 x:=by
   intro x
   by_cases hw:t.wt nt x
   · refine sel_last_tm hw tr 0 p S _ hp (by simp) fun j u hj hu hDj=>?_
     have:D j = true:=by
       simp only [Nat.zero_add,Bool.or_eq_true,beq_iff_eq] at hDj
       exact hDj.resolve_right (by omega)
     exact (hx j u hj hu this).1 x hw
   · rw [step_tm_out hw]
     refine sel_tm tr 0 S S rfl fun j u hu hne=>?_
     have:j = p:=by
       simp only [Nat.zero_add] at hne
       by_cases h:j = p
       · exact h
       · simp [h] at hne
     subst this
     rw [hp] at hu
     cases hu
     exact hw
 have h2:∀ k,(sel nt (fun j=>D j || j == p) tr 0 S).2 k = ((sel nt D tr 0 S).step nt t).2 k:=by
   intro k
   by_cases hw:t.wk k
   · refine sel_last_lk hw tr 0 p S _ hp (by simp) fun j u hj hu hDj=>?_
     have:D j = true:=by
       simp only [Nat.zero_add,Bool.or_eq_true,beq_iff_eq] at hDj
       exact hDj.resolve_right (by omega)
     exact (hx j u hj hu this).2 k hw
   · rw [step_lk_out hw]
     refine sel_lk tr 0 S S rfl fun j u hu hne=>?_
     have:j = p:=by
       simp only [Nat.zero_add] at hne
       by_cases h:j = p
       · exact h
       · simp [h] at hne
     subst this
     rw [hp] at hu
     cases hu
     exact hw
 exact Prod.ext (funext h1) (funext h2)
theorem sel_all {nt:Nat} {D:Nat→Bool}:∀ (tr:List Act1) (i:Nat) (S:S2),(∀ j,i ≤ j→j < i + tr.length→D j = true)→sel nt D tr i S = runS nt tr S
 | [],_,_,_=>rfl
 | t :: r,i,S,h=>by
   simp only [sel,runS]
   rw [h i (Nat.le_refl _) (by simp)]
   exact sel_all r (i + 1) _ fun j h1 h2=>h j (by omega) (by simp only [List.length_cons];omega)
end Go.Pv
