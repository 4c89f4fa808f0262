/- The purifying layer, part 16: one operation of any kind; what the rest does with its effect. -/
import Derived.Test.YtlebcefahlienaaPvPm
set_option linter.unusedVariables false
set_option linter.unusedSimpArgs false
namespace Go.Pv
variable {P:Program} {Γ:Cfg} {cx:Cx} {tm:Tm} {lk:Lk} {a:Act} {w:World} {Fz:Nat→Prop} {pos:Nat→Value} {U:Nat→Prop}
theorem sure_rep (r:RelIn cx tm lk a w Fz pos U) {v:V} {u:Value} (hs:v.sure lk = true) (h:RepT (cx.e Fz w lk pos) v u):∃ b,u = .pointer (some b) ∨ ∃ f fi c,u = .func (.func f) fi c:=by
 unfold V.sure at hs
 split at hs
 · rename_i k s p
   obtain ⟨_,s',ob,hlk,hle,hval⟩:=h
   have hlk:lk k = some (s',ob):=hlk
   rw [hlk] at hs
   simp only [Bool.and_eq_true,decide_eq_true_eq] at hs
   have hval:=hval hs.1
   have hsing:=hs.2
   obtain ⟨d,ad,_,_,hv⟩:∃ d ad,ob.off p = some d∧vaddr (pos k) = some ad∧u = .pointer (some ⟨ad.block,ad.off + d,none⟩):=by
     cases ob <;> first | exact hval | (simp [Obj.single] at hsing;done)
   exact ⟨_,.inl hv⟩
 · obtain ⟨b,off,c,T,fz,cells,hv,_⟩:=h
   exact ⟨_,.inl hv⟩
 · obtain ⟨us,hv,_⟩:=h
   exact ⟨⟨0,0,none⟩,.inr ⟨_,_,_,hv⟩⟩
 · obtain ⟨f,fi,caps,hv,_⟩:=h
   exact ⟨⟨0,0,none⟩,.inr ⟨_,_,_,hv⟩⟩
 · simp at hs
theorem cap_rep {A:E} {v:V} {u:Value} (hs:v.isCap = true) (h:RepT A v u):RepA A v u:=by
 cases v <;> simp only [V.isCap,Bool.false_eq_true] at hs <;> exact h
theorem capsOk_mem:∀ (l:List V),capsOk l = true→∀ v ∈ l,v.isCap = true
 | [],_,v,h=>by simp at h
 | x :: l,hc,v,h=>by
   simp only [capsOk,Bool.and_eq_true] at hc
   rcases List.mem_cons.1 h with rfl | h
   · exact hc.1
   · exact capsOk_mem l hc.2 v h
theorem lenOk_iff {T:TypeId} {v:V} (h:lenOk Γ T v = true) :
   (∃ E k b,Γ.ty T = some ⟨.slice E,k,b⟩∧((∃ t xs,v = .dat (.lst t) xs) ∨ v = .nils ∨ (∃ t k s,v = .sl t k s) ∨ ∃ t k s p,v = .row t k s p)) ∨ (∃ k b,Γ.ty T = some ⟨.str,k,b⟩∧∃ s,v = .dat .str s) ∨
     (∃ K V k b,Γ.ty T = some ⟨.map K V,k,b⟩∧((∃ kt vt es,v = .dat (.map kt vt) es) ∨ ∃ k s,v = .mp k s)):=by
 unfold lenOk at h
 split at h
 · rename_i hT;exact .inl ⟨_,_,_,hT,.inl ⟨_,_,rfl⟩⟩
 · rename_i hT;exact .inl ⟨_,_,_,hT,.inr (.inl rfl)⟩
 · rename_i hT;exact .inl ⟨_,_,_,hT,.inr (.inr (.inl ⟨_,_,_,rfl⟩))⟩
 · rename_i hT;exact .inl ⟨_,_,_,hT,.inr (.inr (.inr ⟨_,_,_,_,rfl⟩))⟩
 · rename_i hT;exact .inr (.inl ⟨_,_,hT,_,rfl⟩)
 · rename_i hT;exact .inr (.inr ⟨_,_,_,_,hT,.inl ⟨_,_,_,rfl⟩⟩)
 · rename_i hT;exact .inr (.inr ⟨_,_,_,_,hT,.inr ⟨_,_,rfl⟩⟩)
 · simp at h
theorem ok_op0 {o:Oper} (hΓ:CfgOk P Γ) (hP:cx.P = P) (r:RelIn cx tm lk a w Fz pos U) (hg:cx.G = Γ.glob) {e:Eff} (he:evOp0 Γ o tm lk some = some e):Ok P cx tm lk o a w e:=by
 unfold evOp0 at he
 split at he
 · rename_i x ho
   simp only [Option.some.injEq] at he
   subst he
   exact ok_move (.inl ho) r hg
 · rename_i x ho
   split at he
   · rename_i hx
     split at he
     · rename_i et by_ d hT hd
       cases hown0:Γ.own (910000 + d) with
       | true =>
         rw [hown0] at he
         simp only [cond_true,Option.some.injEq] at he
         subst he
         have h1:=val_rep r hg x
         rw [hx] at h1
         have h1:a.eval x = .slice none 0 0:=h1
         refine Ok.value r rfl (u:=.slice none 0 0) ?_ rfl
         unfold execOp
         simp [ho,h1]
       | false =>
       rw [hown0] at he
       simp only [cond_false] at he
       cases hown:Γ.own (500000 + d) with
       | true =>
         rw [hown] at he
         simp only [cond_true,Option.some.injEq] at he
         subst he
         have h1:=val_rep r hg x
         rw [hx] at h1
         have h1:a.eval x = .slice none 0 0:=h1
         refine Ok.value r rfl (u:=.slice none 0 0) ?_ (nil_lst _ _ _)
         unfold execOp
         simp [ho,h1]
       | false =>
         rw [hown] at he
         simp only [cond_false,Option.some.injEq] at he
         subst he
         exact ok_assign_nils ho hd r hg hx _
     · simp at he
   · simp only [Option.some.injEq] at he
     subst he
     exact ok_move (.inr ho) r hg
 · rename_i c x y ho
   split at he
   · rename_i t hc
     exact ok_pick ho r hg hc he
   · simp at he
 · rename_i T ho
   split at he
   · rename_i ti d hT hd
     exact ok_alloc ho hd hΓ hT r he
   · simp at he
 · rename_i T x ho
   split at he
   · rename_i ti d hT hd
     split at he
     · rename_i hj
       exact ok_box ho hd hΓ hT r hg hj he
     · simp at he
   · simp at he
 · rename_i T parts ho
   exact ok_build ho hΓ r hg he
 · rename_i T n parts ho
   split at he
   · rename_i d hd
     exact ok_buildSlice ho hd hΓ r hg he
   · simp at he
 · rename_i T x ho
   exact Done.load ho hΓ hP r hg he
 · rename_i T x y ho
   exact ok_store ho hΓ r hg he
 · rename_i x ho
   cases hs:(Γ.val tm x).sure lk with
   | false=>rw [hs] at he;simp at he
   | true =>
     rw [hs] at he
     simp only [cond_true,Option.some.injEq] at he
     subst he
     exact ok_nilCheck ho r hg (sure_rep r hs (val_rep r hg x))
 · rename_i op T x y T' ho
   exact ok_bin ho hΓ r hg he
 · rename_i op T x ho
   exact ok_un ho r hg he
 · rename_i s t x ho
   exact ok_convert ho hΓ r hg he
 · rename_i g first caps ho
   split at he
   · rename_i f hfirst
     cases hc:capsOk (caps.toList.map (Γ.val tm)) with
     | false=>rw [hc] at he;simp at he
     | true =>
       rw [hc] at he
       simp only [cond_true,Option.some.injEq] at he
       subst he
       have:first = #[]:=by apply Array.ext';simpa using hfirst
       subst this
       exact ok_makeFunc ho r hg fun x hx u hu=>cap_rep (capsOk_mem _ hc _ (List.mem_map_of_mem hx)) hu
   · rename_i f x xs hfirst
     split at he
     · rename_i ta tb hty
       cases hc:argsOk ((x :: xs).map (Γ.val tm) ++ caps.toList.map (Γ.val tm)) with
       | false=>rw [hc] at he;simp at he
       | true =>
         rw [hc] at he
         simp only [cond_true,Option.some.injEq] at he
         subst he
         rw [← hfirst] at hc ⊢
         exact ok_bind ho hΓ hP r hg hty hc
     · simp at he
   · simp at he
 · rename_i T n c ho
   split at he
   · rename_i d hd
     exact ok_makeSlice ho hd hΓ r hg he
   · simp at he
 · rename_i T x lo hi mx ho
   exact ok_slice ho hΓ r hg he
 · rename_i T x j ho
   exact ok_fieldAddr ho hΓ r hg he
 · rename_i T x j ho
   exact ok_field ho hΓ r hg he
 · rename_i T x i ho
   exact ok_indexAddr ho hΓ r hg he
 · rename_i T x i ho
   exact ok_index ho hΓ r hg he
 · rename_i T rs ho
   split at he
   · rename_i d hd
     exact ok_makeMap ho hd r he
   · simp at he
 · rename_i T x i ok ho
   exact ok_lookup hΓ ho r hg he
 · rename_i T m i x ho
   exact ok_mapUpdate hΓ (.inl ho) r hg he
 · rename_i T m i x ho
   exact ok_mapUpdate hΓ (.inr ho) r hg he
 · rename_i T x ho
   split at he
   · rename_i d hd
     exact ok_rangeMap ho hd hΓ r hg he
   · simp at he
 · rename_i x ho
   exact ok_entry ho r hg he
 · rename_i x i ho
   split at he
   · rename_i vs hv
     split at he
     · rename_i v hi
       simp only [Option.some.injEq] at he
       subst he
       exact ok_extract ho r hg hv hi
     · simp at he
   · simp at he
 · rename_i c ho
   obtain ⟨callee,⟨args⟩,⟨Ts⟩⟩:=c
   simp only at he
   split at he
   · split at he
     · rename_i x T Ts'
       cases hl:lenOk Γ T (Γ.val tm x) with
       | false=>rw [hl] at he;simp at he
       | true =>
         rw [hl] at he
         simp only [cond_true] at he
         exact ok_len (Ts:=⟨T :: Ts'⟩) ho rfl hΓ r hg (lenOk_iff hl) he
     · simp at he
   · split at he
     · rename_i x y T T' d hd
       exact ok_append ho hd hΓ r hg he
     · simp at he
   · exact ok_minmax (mx:=true) ho r hg he
   · exact ok_minmax (mx:=false) ho r hg he
   · rename_i f
     cases hx:Γ.xat (dstOf o) with
     | true=>rw [hx] at he;exact ok_callX ho hΓ hP r hg he
     | false=>rw [hx] at he;exact ok_call ho hΓ hP r hg he
   · simp at he
 · simp at he
theorem ok_op {o:Oper} (hΓ:CfgOk P Γ) (hP:cx.P = P) (r:RelIn cx tm lk a w Fz pos U) (hg:cx.G = Γ.glob) {e:Eff} (he:evOp Γ o tm lk some = some e):Ok P cx tm lk o a w e:=by
 unfold evOp at he
 cases hgo:gridOp Γ o tm lk with
 | true=>rw [hgo] at he;exact ok_gop hgo hΓ hP r hg he
 | false=>rw [hgo] at he;exact ok_op0 hΓ hP r hg he
section
variable {C:Type}
end
end Go.Pv
