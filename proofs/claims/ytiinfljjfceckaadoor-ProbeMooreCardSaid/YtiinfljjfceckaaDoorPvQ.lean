/- The purifying layer, part 17: an operation's effect, and what comes after. -/
import Derived.Test.YtiinfljjfceckaaDoorPvP
set_option linter.unusedVariables false
set_option linter.unusedSimpArgs false
namespace Go.Pv
variable {P:Program} {Γ:Cfg} {C:Type}
theorem nat_loadRow (T:TypeId) (e:Ty) (k s:Nat) (ids:List Nat) (rows:List (Option (List e.T))) (p:List Nat) (K:Eff→Option C):q9J Γ T e k s ids rows p K = (q9J Γ T e k s ids rows p some).bind K:=by
 unfold q9J
 split
 · split
   · generalize idAt _ _ _ = q;cases q <;> rfl
   · rfl
 · split
   · generalize rowOf _ _ = q
     cases q with
     | none=>rfl
     | some xs=>simp only [Option.bind_some];split <;> rfl
   · rfl
 · rfl
theorem z2Y (lk:Lk) (T:TypeId) (v:V) (K:Eff→Option C):q4Q Γ lk T v K = (q4Q Γ lk T v some).bind K:=by
 unfold q4Q;(repeat' split) <;> first | exact nat_loadRow .. | simp_all
theorem nat_store (lk:Lk) (T:TypeId) (v x:V) (K:Eff→Option C):q8C Γ lk T v x K = (q8C Γ lk T v x some).bind K:=by
 unfold q8C q5O;(repeat' split) <;> simp_all
theorem nat_fieldAddr (lk:Lk) (T:TypeId) (v:V) (j:Nat) (K:Eff→Option C):q1X Γ lk T v j K = (q1X Γ lk T v j some).bind K:=by
 unfold q1X;(repeat' split) <;> simp_all
theorem nat_rowAddr (lk:Lk) (T:TypeId) (e:Ty) (k s p:Nat) (n:Int) (K:Eff→Option C):q6F Γ lk T e k s p n K = (q6F Γ lk T e k s p n some).bind K:=by
 unfold q6F
 split
 · split
   · split
     · (repeat' split) <;> simp_all
     · split
       · rename_i rows _ _ _ _ _ _ i _ _
         generalize rowOf _ _ = q
         cases q with
         | none=>rfl
         | some xs=>simp only [Option.bind_some];split <;> rfl
       · rfl
   · rfl
 · rfl
theorem nat_indexAddr (lk:Lk) (T:TypeId) (v i:V) (K:Eff→Option C):q1Q Γ lk T v i K = (q1Q Γ lk T v i some).bind K:=by
 unfold q1Q;(repeat' split) <;> first | exact nat_rowAddr .. | simp_all
theorem nat_index (T:TypeId) (v i:V) (K:Eff→Option C):z7A Γ T v i K = (z7A Γ T v i some).bind K:=by
 unfold z7A;(repeat' split) <;> simp_all
theorem nat_field (T:TypeId) (v:V) (j:Nat) (K:Eff→Option C):z5U Γ T v j K = (z5U Γ T v j some).bind K:=by
 unfold z5U;(repeat' split) <;> simp_all
theorem nat_int (op:BinOp) (k:IntKind) (x y:Int) (K:Eff→Option C):evInt op k x y K = (evInt op k x y some).bind K:=by
 unfold evInt;(repeat' split) <;> simp_all
theorem nat_shift (op:BinOp) (k:IntKind) (x y:Int) (K:Eff→Option C):j0W op k x y K = (j0W op k x y some).bind K:=by
 unfold j0W;(repeat' split) <;> simp_all
theorem nat_bool (op:BinOp) (x y:Bool) (K:Eff→Option C):evBool op x y K = (evBool op x y some).bind K:=by
 unfold evBool;(repeat' split) <;> simp_all
theorem nat_str (op:BinOp) (x y:List UInt8) (K:Eff→Option C):evStr op x y K = (evStr op x y some).bind K:=by
 unfold evStr;(repeat' split) <;> simp_all
theorem nat_eqS (op:BinOp) (T:TypeId) (v u:V) (K:Eff→Option C):evEqS Γ op T v u K = (evEqS Γ op T v u some).bind K:=by
 unfold evEqS
 split
 · rename_i d t b hT
   cases (Γ.keys T && t.isAgg)
   · rfl
   · simp only [cond_true];(repeat' split) <;> simp_all
 · rfl
theorem nat_makeMap (lk:Lk) (d:Nat) (T:TypeId) (K:Eff→Option C):q3G Γ lk d T K = (q3G Γ lk d T some).bind K:=by
 unfold q3G;(repeat' split) <;> simp_all
theorem nat_lookK (k v:Ty) (es:List (k.T×v.T)) (i:V) (ok:Bool) (K:Eff→Option C):lookK k v es i ok K = (lookK k v es i ok some).bind K:=by
 unfold lookK
 split
 · cases ok <;> rfl
 · rfl
theorem nat_lookup (lk:Lk) (T:TypeId) (m i:V) (ok:Bool) (K:Eff→Option C):q5B Γ lk T m i ok K = (q5B Γ lk T m i ok some).bind K:=by
 unfold q5B
 (repeat' split) <;> first | exact nat_lookK .. | rfl
theorem z3U (lk:Lk) (T:TypeId) (m i x:V) (K:Eff→Option C):q1J Γ lk T m i x K = (q1J Γ lk T m i x some).bind K:=by
 unfold q1J;(repeat' split) <;> simp_all
theorem nat_nil (op:BinOp) (T:TypeId) (n:Nat) (K:Eff→Option C):evNil Γ op T n K = (evNil Γ op T n some).bind K:=by
 unfold evNil;(repeat' split) <;> simp_all
theorem nat_nils (op:BinOp) (T:TypeId) (K:Eff→Option C):evNils Γ op T K = (evNils Γ op T some).bind K:=by
 unfold evNils;(repeat' split) <;> simp_all
theorem nat_bin (op:BinOp) (T:TypeId) (v u:V) (K:Eff→Option C):evBin Γ op T v u K = (evBin Γ op T v u some).bind K:=by
 unfold evBin
 split
 · cases isShift op
   · simp only [cond_false];split
     · exact nat_int ..
     · rfl
   · exact nat_shift ..
 · cases boolOf Γ T
   · rfl
   · exact nat_bool ..
 · exact nat_str ..
 · exact nat_nil ..
 · exact nat_nils ..
 · exact nat_eqS ..
theorem nat_un (op:UnOp) (v:V) (K:Eff→Option C):evUn op v K = (evUn op v some).bind K:=by
 unfold evUn;(repeat' split) <;> simp_all
theorem nat_convert (lk:Lk) (src dst:TypeId) (v:V) (K:Eff→Option C):q3M Γ lk src dst v K = (q3M Γ lk src dst v some).bind K:=by
 unfold q3M;(repeat' split) <;> simp_all
theorem nat_box (lk:Lk) (d:Nat) (sh:K) (v:V) (K:Eff→Option C):z6K lk d sh v K = (z6K lk d sh v some).bind K:=by
 unfold z6K;(repeat' split) <;> simp_all
theorem nat_build (T:TypeId) (parts:List (Nat×V)) (K:Eff→Option C):z5K Γ T parts K = (z5K Γ T parts some).bind K:=by
 unfold z5K;(repeat' split) <;> simp_all
theorem nat_buildSlice (lk:Lk) (d:Nat) (T:TypeId) (n:Nat) (parts:List (Nat×V)) (K:Eff→Option C):q1A Γ lk d T n parts K = (q1A Γ lk d T n parts some).bind K:=by
 unfold q1A
 split
 · split
   · split
     · cases Γ.own d <;> rfl
     · rfl
   · rfl
 · rfl
theorem nat_makeSlice (lk:Lk) (d:Nat) (T:TypeId) (n c:V) (K:Eff→Option C):q1I Γ lk d T n c K = (q1I Γ lk d T n c some).bind K:=by
 unfold q1I;(repeat' split) <;> simp_all
theorem nat_slice (lk:Lk) (T:TypeId) (v:V) (lo hi mx:Option V) (K:Eff→Option C):q8A Γ lk T v lo hi mx K = (q8A Γ lk T v lo hi mx some).bind K:=by
 unfold q8A;(repeat' split) <;> simp_all
theorem nat_append (lk:Lk) (d:Nat) (T T':TypeId) (v x:V) (K:Eff→Option C):q2P Γ lk d T T' v x K = (q2P Γ lk d T T' v x some).bind K:=by
 unfold q2P;(repeat' split) <;> simp_all
theorem nat_len (lk:Lk) (v:V) (K:Eff→Option C):z2B lk v K = (z2B lk v some).bind K:=by
 unfold z2B
 (repeat' split) <;> first | rfl | (generalize rowOf _ _ = q;cases q <;> rfl)
theorem nat_minmax (mx:Bool) (vs:List V) (K:Eff→Option C):q7O mx vs K = (q7O mx vs some).bind K:=by
 unfold q7O;(repeat' split) <;> simp_all
theorem nat_call (hn:∀ f args {C:Type} (k:V→Option C),Γ.call f args k = (Γ.call f args some).bind k) (lk:Lk) (f:V) (args:List V) (K:Eff→Option C):z4U Γ lk f args K = (z4U Γ lk f args some).bind K:=by
 unfold z4U
 split
 · rename_i g caps
   split
   · split
     · rw [hn g _ (fun r=>K { val:=r }),hn g _ (fun r=>(some { val:=r }:Option Eff))]
       cases Γ.call g (args.map (V.q2T Γ) ++ caps) some <;> rfl
     · split
       · rw [hn g _ (fun r=>if r.scalar = true then K { val:=r } else none),hn g _ (fun r=>(if r.scalar = true then some { val:=r } else none:Option Eff))]
         cases Γ.call g ((args.map (V.snap lk)).map (V.q2T Γ) ++ caps) some with
         | none=>rfl
         | some r=>simp only [Option.bind_some];split <;> rfl
       · rfl
   · rfl
 · rename_i a b g
   split
   · rename_i x hx
     cases g x <;> rfl
   · rfl
 · rfl
theorem nat_callX (hx:∀ f vs os {C:Type} (k:V→List (Nat×Obj)→List Obj→Option C),Γ.callX f vs os k = (Γ.callX f vs os (fun a b c=>some (a,b,c))).bind fun q=>k q.1 q.2.1 q.2.2) (lk:Lk) (d:Nat) (f:V) (args:List V) (K:Eff→Option C) :
   q3W Γ lk d f args K = (q3W Γ lk d f args some).bind K:=by
 unfold q3W
 split
 · split
   · split
     · rename_i _ ks _ _ os _
       cases (q6M _ && fitAll _ && noGh _)
       · rfl
       · simp only [cond_true]
         refine (hx _ _ _ _).trans (Eq.symm ((congrArg (fun z=>Option.bind z K) (hx _ _ _ _)).trans ?_))
         cases Γ.callX _ _ _ (fun a b c=>some (a,b,c)) with
         | none=>rfl
         | some q =>
           simp only [Option.bind_some]
           cases backX ks lk d q.1 q.2.1 q.2.2 <;> rfl
     · rfl
   · rfl
 · split
   · cases q1V args
     · rfl
     simp only [cond_true]
     rw [Cbs.j0B,Cbs.j0B]
     split
     · rename_i q _
       cases q.2.scalar <;> rfl
     · rfl
   · rfl
 · rfl
theorem nat_rangeMap (lk:Lk) (d:Nat) (T:TypeId) (m:V) (K:Eff→Option C):q2I Γ lk d T m K = (q2I Γ lk d T m some).bind K:=by
 unfold q2I;(repeat' split) <;> simp_all
theorem nat_entry (lk:Lk) (v:V) (K:Eff→Option C):q7Q lk v K = (q7Q lk v some).bind K:=by
 unfold q7Q;(repeat' split) <;> simp_all
theorem nat_op0 (hx:∀ f vs os {C:Type} (k:V→List (Nat×Obj)→List Obj→Option C),Γ.callX f vs os k = (Γ.callX f vs os (fun a b c=>some (a,b,c))).bind fun q=>k q.1 q.2.1 q.2.2)
   (hn:∀ f args {C:Type} (k:V→Option C),Γ.call f args k = (Γ.call f args some).bind k) (o:Oper) (tm:Tm) (lk:Lk) (K:Eff→Option C):z2T Γ o tm lk K = (z2T Γ o tm lk some).bind K:=by
 unfold z2T
 split
 · rfl
 · split
   · split
     · rename_i d _ _
       cases Γ.own (910000 + d) <;> cases Γ.own (500000 + d) <;> rfl
     · rfl
   · rfl
 · split
   · rename_i t _;cases t <;> rfl
   · rfl
 · split
   · exact nat_box ..
   · rfl
 · split
   · split
     · exact nat_box ..
     · rfl
   · rfl
 · exact nat_build ..
 · split
   · exact nat_buildSlice ..
   · rfl
 · exact z2Y ..
 · exact nat_store ..
 · rename_i x _
   cases (Γ.val tm x).sure lk <;> rfl
 · exact nat_bin ..
 · exact nat_un ..
 · exact nat_convert ..
 · rename_i g first caps _
   split
   · cases capsOk (caps.toList.map (Γ.val tm)) <;> rfl
   · split
     · generalize q2N _ = b
       cases b <;> rfl
     · rfl
   · rfl
 · split
   · exact nat_makeSlice ..
   · rfl
 · exact nat_slice ..
 · exact nat_fieldAddr ..
 · exact nat_field ..
 · exact nat_indexAddr ..
 · exact nat_index ..
 · split
   · exact nat_makeMap ..
   · rfl
 · exact nat_lookup ..
 · exact z3U ..
 · exact z3U ..
 · split
   · exact nat_rangeMap ..
   · rfl
 · exact nat_entry ..
 · (repeat' split) <;> simp_all
 · rename_i c _
   split
   · split
     · rename_i x T _ _ _
       cases lenOk Γ T (Γ.val tm x)
       · rfl
       · exact nat_len ..
     · rfl
   · split
     · exact nat_append ..
     · rfl
   · exact nat_minmax ..
   · exact nat_minmax ..
   · cases Γ.xat (dstOf o)
     · exact nat_call hn ..
     · exact nat_callX hx ..
   · rfl
 · rfl
theorem nat_gnil (lk:Lk) (d:Nat) (T:TypeId) (v:V) (K:Eff→Option C):z4X Γ lk d T v K = (z4X Γ lk d T v some).bind K:=by
 unfold z4X;(repeat' split) <;> simp_all
theorem nat_gbuild (lk:Lk) (d:Nat) (T:TypeId) (n:Nat) (parts:List (Nat×V)) (K:Eff→Option C):q4U Γ lk d T n parts K = (q4U Γ lk d T n parts some).bind K:=by
 unfold q4U
 split
 · generalize (elemZ _ _ _ && _) = b
   cases b
   · rfl
   · simp only [cond_true];split <;> rfl
 · rfl
theorem nat_gmake (lk:Lk) (d:Nat) (T:TypeId) (n c:V) (K:Eff→Option C):q6S Γ lk d T n c K = (q6S Γ lk d T n c some).bind K:=by
 unfold q6S;(repeat' split) <;> simp_all
theorem nat_gstoreOut (lk:Lk) (k s:Nat) (e:Ty) (ids:List Nat) (rows:List (Option (List e.T))) (j:Nat) (x:V) (K:Eff→Option C):q2V lk k s e ids rows j x K = (q2V lk k s e ids rows j x some).bind K:=by
 unfold q2V
 split
 · split
   · generalize rowOf _ _ = q
     cases q with
     | none=>rfl
     | some xs=>simp only [Option.bind_some];split <;> rfl
   · rfl
 · (repeat' split) <;> rfl
theorem nat_gstoreIn (k s:Nat) (e:Ty) (ids:List Nat) (rows:List (Option (List e.T))) (i j:Nat) (x:V) (K:Eff→Option C):q5N k s e ids rows i j x K = (q5N k s e ids rows i j x some).bind K:=by
 unfold q5N
 split
 · split
   · generalize rowOf _ _ = q
     cases q with
     | none=>rfl
     | some xs=>simp only [Option.bind_some];split <;> rfl
   · rfl
 · rfl
theorem nat_gstore (lk:Lk) (T:TypeId) (v x:V) (K:Eff→Option C):q5D Γ lk T v x K = (q5D Γ lk T v x some).bind K:=by
 unfold q5D
 split
 · split
   · split
     · split
       · split
         · exact nat_gstoreOut ..
         · rfl
       · split
         · exact nat_gstoreIn ..
         · rfl
     · rfl
   · rfl
 · rfl
theorem nat_gslice (lk:Lk) (T:TypeId) (v:V) (lo hi mx:Option V) (K:Eff→Option C):q4Y Γ lk T v lo hi mx K = (q4Y Γ lk T v lo hi mx some).bind K:=by
 unfold q4Y;(repeat' split) <;> simp_all
theorem nat_gappend (lk:Lk) (d:Nat) (T T':TypeId) (v x:V) (K:Eff→Option C):q3K Γ lk d T T' v x K = (q3K Γ lk d T T' v x some).bind K:=by
 unfold q3K
 split
 · split
   · simp only [cond_eq_ite];(repeat' split) <;> rfl
   · rfl
 · rfl
theorem q7B (lk:Lk):∀ {C:Type} (vs:List V) (K:List V→Option C),z8D lk vs K = (z8D lk vs some).bind K
 | _,[],K=>rfl
 | _,v :: r,K=>by
   unfold z8D
   split
   · split
     · split
       · generalize rowOf _ _ = q
         cases q with
         | none=>rfl
         | some xs =>
           simp only [Option.bind_some]
           refine (q7B lk r _).trans ((congrArg (fun z=>Option.bind z K) (q7B lk r _)).trans ?_).symm
           rw [Option.bind_assoc]
           rfl
       · rfl
     · rfl
   · refine (q7B lk r _).trans ((congrArg (fun z=>Option.bind z K) (q7B lk r _)).trans ?_).symm
     rw [Option.bind_assoc]
     rfl
theorem nat_gcall (hn:∀ f args {C:Type} (k:V→Option C),Γ.call f args k = (Γ.call f args some).bind k) (lk:Lk) (f:V) (args:List V) (K:Eff→Option C):q7K Γ lk f args K = (q7K Γ lk f args some).bind K:=by
 unfold q7K
 split
 · rename_i g caps
   split
   · rw [q7B,q7B lk args (fun vs=>ite _ _ none)]
     cases z8D lk args some with
     | none=>rfl
     | some vs =>
       simp only [Option.bind_some]
       split
       · rw [hn g _ (fun r=>if r.scalar = true then K { val:=r } else none),hn g _ (fun r=>(if r.scalar = true then some { val:=r } else none:Option Eff))]
         cases Γ.call g (vs.map (V.q2T Γ) ++ caps) some with
         | none=>rfl
         | some r=>simp only [Option.bind_some];split <;> rfl
       · rfl
   · rfl
 · rfl
theorem nat_gwhole (lk:Lk) (T:TypeId) (v:V) (lo hi mx:Option V) (K:Eff→Option C):q5A Γ lk T v lo hi mx K = (q5A Γ lk T v lo hi mx some).bind K:=by
 unfold q5A;(repeat' split) <;> simp_all
theorem nat_gcopy (lk:Lk) (T T':TypeId) (v x:V) (K:Eff→Option C):q7Y Γ lk T T' v x K = (q7Y Γ lk T T' v x some).bind K:=by
 unfold q7Y
 split
 · split
   · simp only [cond_eq_ite];(repeat' split) <;> rfl
   · rfl
 · rfl
theorem nat_gcap (T:TypeId) (v:V) (K:Eff→Option C):evGCap Γ T v K = (evGCap Γ T v some).bind K:=by
 unfold evGCap;(repeat' split) <;> simp_all
theorem nat_gsliceN (T:TypeId) (lo hi mx:Option V) (K:Eff→Option C):q6Z Γ T lo hi mx K = (q6Z Γ T lo hi mx some).bind K:=by
 unfold q6Z;(repeat' split) <;> simp_all
theorem nat_gzeros (lk:Lk) (d:Nat) (T T':TypeId) (x:V) (K:Eff→Option C):q5F Γ lk d T T' x K = (q5F Γ lk d T T' x some).bind K:=by
 unfold q5F;(repeat' split) <;> simp_all
theorem nat_gop (hn:∀ f args {C:Type} (k:V→Option C),Γ.call f args k = (Γ.call f args some).bind k) (o:Oper) (tm:Tm) (lk:Lk) (K:Eff→Option C):z6A Γ o tm lk K = (z6A Γ o tm lk some).bind K:=by
 unfold z6A
 split
 · split
   · exact nat_gnil ..
   · rfl
 · split
   · exact nat_gbuild ..
   · rfl
 · split
   · exact nat_gmake ..
   · rfl
 · exact nat_gstore ..
 · rename_i x _ _ _ _
   cases (Γ.val tm x).isRow
   · cases (Γ.val tm x).q8U
     · exact nat_gwhole ..
     · exact nat_gsliceN ..
   · exact nat_gslice ..
 · split
   · split
     · exact nat_gcopy ..
     · rfl
   · split
     · exact nat_gcap ..
     · rfl
   · split
     · rename_i x _ _ _ d _ _ _
       cases (Γ.val tm x).q8U
       · exact nat_gappend (d:=d) ..
       · exact nat_gzeros ..
     · rfl
   · exact nat_gcall hn ..
   · rfl
 · rfl
theorem nat_op (hx:∀ f vs os {C:Type} (k:V→List (Nat×Obj)→List Obj→Option C),Γ.callX f vs os k = (Γ.callX f vs os (fun a b c=>some (a,b,c))).bind fun q=>k q.1 q.2.1 q.2.2)
   (hn:∀ f args {C:Type} (k:V→Option C),Γ.call f args k = (Γ.call f args some).bind k) (o:Oper) (tm:Tm) (lk:Lk) (K:Eff→Option C):evOp Γ o tm lk K = (evOp Γ o tm lk some).bind K:=by
 unfold evOp
 cases q4R Γ o tm lk
 · exact nat_op0 hx hn ..
 · exact nat_gop hn ..
theorem op_some (hx:∀ f vs os {C:Type} (k:V→List (Nat×Obj)→List Obj→Option C),Γ.callX f vs os k = (Γ.callX f vs os (fun a b c=>some (a,b,c))).bind fun q=>k q.1 q.2.1 q.2.2)
   (hn:∀ f args {C:Type} (k:V→Option C),Γ.call f args k = (Γ.call f args some).bind k) {o:Oper} {tm:Tm} {lk:Lk} {K:Eff→Option C} {r:C} (h:evOp Γ o tm lk K = some r):∃ e,evOp Γ o tm lk some = some e∧K e = some r:=by
 rw [nat_op hx hn] at h
 cases he:evOp Γ o tm lk some with
 | none=>rw [he] at h;simp at h
 | some e=>rw [he] at h;exact ⟨e,rfl,h⟩
end Go.Pv
