/- The purifying layer, part 14: bools and strings, calls, and one operation of any kind. -/
import Derived.Test.YtlebcefahlienaaPvMa
set_option linter.unusedVariables false
set_option linter.unusedSimpArgs false
namespace Go.Pv
variable {P:Program} {Γ:Cfg} {cx:Cx} {tm:Tm} {lk:Lk} {a:Act} {w:World} {Fz:Nat→Prop} {pos:Nat→Value} {U:Nat→Prop}
theorem run_eqGuard {op:BinOp} {T:TypeId} {x y:Operand} {u v:Value} (h:∀ cs,u ≠ .agg cs) (h2:u ≠ .nilIface) (w:World):(eqGuard op T x y u v).run P w = .ok () w:=by
 cases u <;> first | exact absurd rfl h2 | exact absurd rfl (h _) | (unfold eqGuard;split <;> rfl)
theorem run_equalIn_nil (d:Nat) {T E:TypeId} (hu:P.underlying T = some (.slice E)) (ad:Addr) (l c:Nat):(Op.equalIn (d + 1) T (.slice (some ad) l c) (.slice none 0 0)).run P w = .ok false w:=by
 unfold Op.equalIn
 rw [Sem.run_bind,run_underlying hu]
 rfl
theorem run_equalIn_nil2 (d:Nat) {T E:TypeId} (hu:P.underlying T = some (.slice E)):(Op.equalIn (d + 1) T (.slice none 0 0) (.slice none 0 0)).run P w = .ok true w:=by
 unfold Op.equalIn
 rw [Sem.run_bind,run_underlying hu]
 rfl
theorem run_eql_slice (T:TypeId) (a a':Option Addr) (l c l' c':Nat):(binOp .eql T (.slice a l c) (.slice a' l' c')).run P w = ((Op.equalIn 10000 T (.slice a l c) (.slice a' l' c')).run P w).andThen fun b w'=>.ok (.bool b) w':=by
 simp only [binOp]
 simp only [Op.equal,Op.maxDepth,Sem.run_bind,Sem.run_pure]
theorem run_neq_slice (T:TypeId) (a a':Option Addr) (l c l' c':Nat):(binOp .neq T (.slice a l c) (.slice a' l' c')).run P w = ((Op.equalIn 10000 T (.slice a l c) (.slice a' l' c')).run P w).andThen fun b w'=>.ok (.bool (!b)) w':=by
 simp only [binOp]
 simp only [Op.equal,Op.maxDepth,Sem.run_bind,Sem.run_pure]
theorem pack_agg {t:Ty} (h:t.isAgg = true) {x:t.T} {u:Value} (hr:RepD Fz w t x u):∃ cs,u = .agg cs:=by
 obtain ⟨cs,_,rfl⟩:=hr
 exact ⟨cs.toArray,by simp [pack,h]⟩
theorem ok_eqS {o:Oper} {op:BinOp} {T T':TypeId} {x y:Operand} (ho:o.op = .binOp op T x y T') (hΓ:CfgOk P Γ) (r:RelIn cx tm lk a w Fz pos U) (hg:cx.G = Γ.glob) {e:Eff}
   (he:evEqS Γ op T (Γ.val tm x) (Γ.val tm y) some = some e):Ok P cx tm lk o a w e:=by
 have h1:=coll_rep (val_rep r hg x)
 have h2:=coll_rep (val_rep r hg y)
 unfold evEqS at he
 split at he
 · rename_i d0 t by_ hT
   cases hk:Γ.keys T with
   | false=>rw [hk] at he;simp at he
   | true =>
     rw [hk] at he
     cases hag:t.isAgg with
     | false=>rw [hag] at he;simp at he
     | true =>
       rw [hag] at he
       simp only [Bool.and_self,cond_true] at he
       split at he
       · rename_i m n hx hy
         rw [as_some hx] at h1
         rw [as_some hy] at h2
         obtain ⟨t',ht',hkt⟩:=hΓ.keys T _ hk hT
         simp only [K.d.injEq] at ht'
         subst ht'
         simp only [keyTop,Bool.and_eq_true,Bool.not_eq_true',decide_eq_true_eq] at hkt
         have heq:=(key_eq (P:=P) (w:=w) (Fz:=Fz) t 9999 (by omega)).1 T m n _ _ hkt.1.1 h1 h2
         obtain ⟨xs,hxs⟩:=pack_agg hag h1
         obtain ⟨ys,hys⟩:=pack_agg hag h2
         rw [hxs,hys] at heq
         have hgd:=run_eqGuard_agg (P:=P) w op T x y xs ys hkt.1.2
         split at he
         · simp only [Option.some.injEq] at he
           refine Ok.value r he.symm (u:=.bool (t.beq m n)) ?_ (mkBool _ _)
           unfold execOp
           simp only [ho]
           simp [hxs,hys,hgd,run_eql_struct,heq,Result.andThen]
         · simp only [Option.some.injEq] at he
           refine Ok.value r he.symm (u:=.bool !(t.beq m n)) ?_ (mkBool _ _)
           unfold execOp
           simp only [ho]
           simp [hxs,hys,hgd,run_neq_struct,heq,Result.andThen]
         · simp at he
       · simp at he
 · simp at he
theorem ok_bin {o:Oper} {op:BinOp} {T T':TypeId} {x y:Operand} (ho:o.op = .binOp op T x y T') (hΓ:CfgOk P Γ) (r:RelIn cx tm lk a w Fz pos U) (hg:cx.G = Γ.glob) {e:Eff}
   (he:evBin Γ op T (Γ.val tm x) (Γ.val tm y) some = some e):Ok P cx tm lk o a w e:=by
 have h1:=val_rep r hg x
 have h2:=val_rep r hg y
 unfold evBin at he
 split at he
 · rename_i k m k' n hx hy
   cases hs:isShift op with
   | true =>
     rw [hs] at he
     simp only [cond_true] at he
     rw [hx] at h1;rw [hy] at h2
     have h1:=repInt h1
     have h2:=repInt h2
     have hgd:=run_eqGuard (P:=P) (op:=op) (T:=T) (x:=x) (y:=y) (u:=a.eval x) (v:=a.eval y) (by rw [h1];intro cs h;cases h) (by rw [h1];intro h;cases h) w
     unfold evShift at he
     split at he
     · split at he
       · simp at he
       · rename_i hn
         simp only [Option.some.injEq] at he
         refine Ok.value r he.symm ?_ (mkInt _ _ _)
         unfold execOp
         simp only [ho]
         simp [hgd]
         simp [h1,h2,binOp,Op.shift,hn]
     · split at he
       · simp at he
       · rename_i hn
         simp only [Option.some.injEq] at he
         refine Ok.value r he.symm ?_ (mkInt _ _ _)
         unfold execOp
         simp only [ho]
         simp [hgd]
         simp [h1,h2,binOp,Op.shift,hn]
     · simp at he
   | false =>
     rw [hs] at he
     simp only [cond_false] at he
     split at he
     · rename_i hk;subst hk
       exact ok_bin_int ho r hg hx hy he
     · simp at he
 · rename_i m n hx hy
   cases hb:boolOf Γ T with
   | false=>rw [hb] at he;simp at he
   | true =>
     rw [hb] at he
     simp only [cond_true] at he
     rw [hx] at h1;rw [hy] at h2
     have h1:=repBool h1
     have h2:=repBool h2
     have hu:P.underlying T = some .bool:=by
       unfold boolOf at hb
       split at hb
       · rename_i sh by_ hT;exact (hΓ.ty T _ hT).desc.1
       · simp at hb
     have hgd:=run_eqGuard (P:=P) (op:=op) (T:=T) (x:=x) (y:=y) (u:=a.eval x) (v:=a.eval y) (by rw [h1];intro cs h;cases h) (by rw [h1];intro h;cases h) w
     unfold evBool at he
     split at he
     · simp only [Option.some.injEq] at he
       refine Ok.value r he.symm (u:=.bool (m == n)) ?_ (mkBool _ _)
       unfold execOp
       simp only [ho]
       simp [hgd]
       simp [h1,h2,binOp,run_equal_bool w T m n hu]
     · simp only [Option.some.injEq] at he
       refine Ok.value r he.symm (u:=.bool !(m == n)) ?_ (mkBool _ _)
       unfold execOp
       simp only [ho]
       simp [hgd]
       simp [h1,h2,binOp,run_equal_bool w T m n hu]
     · simp at he
 · rename_i m n hx hy
   rw [hx] at h1;rw [hy] at h2
   replace h1:=repStr h1
   replace h2:=repStr h2
   have hgd:=run_eqGuard (P:=P) (op:=op) (T:=T) (x:=x) (y:=y) (u:=a.eval x) (v:=a.eval y) (by rw [h1];intro cs h;cases h) (by rw [h1];intro h;cases h) w
   unfold evStr at he
   clear hx hy
   revert m n
   intro (m:List UInt8) (n:List UInt8) he h1 h2
   split at he
   · simp only [Option.some.injEq] at he
     refine Ok.value r he.symm (u:=.bool (m == n)) ?_ (mkBool _ _)
     unfold execOp
     simp only [ho]
     simp [hgd]
     simp [h1,h2,binOp,Op.stringOp,toList_mk]
   · simp only [Option.some.injEq] at he
     refine Ok.value r he.symm (u:=.bool !(m == n)) ?_ (mkBool _ _)
     unfold execOp
     simp only [ho]
     simp [hgd]
     simp [h1,h2,binOp,Op.stringOp,toList_mk]
   · split at he
     · rename_i hl
       simp only [Option.some.injEq] at he
       refine Ok.value r he.symm (u:=.string ⟨(m ++ n).toArray⟩) ?_ (mkStr _ _)
       unfold execOp
       simp only [ho]
       simp [hgd]
       have hsz:∀ x:List UInt8,(⟨x.toArray⟩:ByteArray).size = x.length:=fun x=>by show x.toArray.size = _;simp
       have hmx:IntKind.i64.max = 9223372036854775807:=by decide
       have hle:¬ (((m.length + n.length:Nat):Int) > IntKind.i64.max):=by rw [hmx];omega
       simp only [h1,h2,binOp,Op.stringOp,hsz]
       rw [if_neg hle]
       have:(⟨m.toArray⟩:ByteArray) ++ ⟨n.toArray⟩ = ⟨(m ++ n).toArray⟩:=by
         have h:((⟨m.toArray⟩:ByteArray) ++ ⟨n.toArray⟩).data = (m ++ n).toArray:=by rw [ByteArray.data_append];simp
         cases hq:(⟨m.toArray⟩:ByteArray) ++ ⟨n.toArray⟩ with
         | mk d=>rw [hq] at h;simp only at h;rw [h]
       rw [this];rfl
     · simp at he
   · simp at he
 · rename_i et xs hx hy
   rw [hx] at h1;rw [hy] at h2
   have h2:a.eval y = .slice none 0 0:=h2
   obtain ⟨cs,⟨ad,len,cap,cells,rfl,hlen,hcap,hall,hlies⟩,hval⟩:=h1
   have hval:a.eval x = .slice ad len cap:=hval
   unfold evNil at he
   split at he
   · rename_i E sh by_ hT
     split at he
     · rename_i hpos
       rcases hlies with ⟨_,h0⟩ | ⟨b,off,c,T',fz,rfl,_⟩
       · exfalso;omega
       · have hu:P.underlying T = some (.slice E):=(hΓ.ty T _ hT).desc.1
         have hgd:=run_eqGuard (P:=P) (op:=op) (T:=T) (x:=x) (y:=y) (u:=a.eval x) (v:=a.eval y) (by rw [hval];intro cs h;cases h) (by rw [hval];intro h;cases h) w
         split at he
         · simp only [Option.some.injEq] at he
           refine Ok.value r he.symm (u:=.bool false) ?_ (mkBool _ _)
           unfold execOp
           simp only [ho]
           simp [hgd]
           simp [hval,h2,run_eql_slice,run_neq_slice,run_equalIn_nil 9999 hu,Result.andThen]
         · simp only [Option.some.injEq] at he
           refine Ok.value r he.symm (u:=.bool true) ?_ (mkBool _ _)
           unfold execOp
           simp only [ho]
           simp [hgd]
           simp [hval,h2,run_eql_slice,run_neq_slice,run_equalIn_nil 9999 hu,Result.andThen]
         · simp at he
     · simp at he
   · simp at he
 · rename_i hx hy
   rw [hx] at h1;rw [hy] at h2
   have h1:a.eval x = .slice none 0 0:=h1
   have h2:a.eval y = .slice none 0 0:=h2
   unfold evNils at he
   split at he
   · rename_i E sh by_ hT
     have hu:P.underlying T = some (.slice E):=(hΓ.ty T _ hT).desc.1
     have hgd:=run_eqGuard (P:=P) (op:=op) (T:=T) (x:=x) (y:=y) (u:=a.eval x) (v:=a.eval y) (by rw [h1];intro cs h;cases h) (by rw [h1];intro h;cases h) w
     split at he
     · simp only [Option.some.injEq] at he
       refine Ok.value r he.symm (u:=.bool true) ?_ (mkBool _ _)
       unfold execOp
       simp only [ho]
       simp [hgd]
       simp [h1,h2,run_eql_slice,run_neq_slice,run_equalIn_nil2 9999 hu,Result.andThen]
     · simp only [Option.some.injEq] at he
       refine Ok.value r he.symm (u:=.bool false) ?_ (mkBool _ _)
       unfold execOp
       simp only [ho]
       simp [hgd]
       simp [h1,h2,run_eql_slice,run_neq_slice,run_equalIn_nil2 9999 hu,Result.andThen]
     · simp at he
   · simp at he
 · exact ok_eqS ho hΓ r hg he
end Go.Pv
