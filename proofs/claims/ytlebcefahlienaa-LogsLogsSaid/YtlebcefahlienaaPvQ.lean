/- The purifying layer, part 17: an operation's effect, and what comes after. -/
import Derived.Test.YtlebcefahlienaaPvP
set_option linter.unusedVariables false
set_option linter.unusedSimpArgs false
namespace Go.Pv
variable {P:Program} {Γ:Cfg} {C:Type}
theorem nat_loadRow (T:TypeId) (e:Ty) (k s:Nat) (ids:Sp) (rows:List (Option (List e.T))) (p:List Nat) (K:Eff→Option C):evLoadRow Γ T e k s ids rows p K = (evLoadRow Γ T e k s ids rows p some).bind K:=by
 unfold evLoadRow
 split
 · cases ids with
   | keys kk es=>rfl
   | ids ids =>
     simp only
     split
     · generalize idAt _ _ _ = q;cases q <;> rfl
     · rfl
 · split
   · generalize rowOf _ _ = q
     cases q with
     | none=>rfl
     | some xs=>simp only [Option.bind_some];split <;> rfl
   · rfl
 · rfl
theorem nat_load (lk:Lk) (T:TypeId) (v:V) (K:Eff→Option C):evLoad Γ lk T v K = (evLoad Γ lk T v some).bind K:=by
 unfold evLoad;(repeat' split) <;> first | exact nat_loadRow .. | simp_all
theorem nat_store (lk:Lk) (T:TypeId) (v x:V) (K:Eff→Option C):evStore Γ lk T v x K = (evStore Γ lk T v x some).bind K:=by
 unfold evStore evStoreBox;(repeat' split) <;> simp_all
theorem nat_fieldAddr (lk:Lk) (T:TypeId) (v:V) (j:Nat) (K:Eff→Option C):evFieldAddr Γ lk T v j K = (evFieldAddr Γ lk T v j some).bind K:=by
 unfold evFieldAddr;(repeat' split) <;> simp_all
theorem nat_rowAddr (lk:Lk) (T:TypeId) (e:Ty) (k s p:Nat) (n:Int) (K:Eff→Option C):evRowAddr Γ lk T e k s p n K = (evRowAddr Γ lk T e k s p n some).bind K:=by
 unfold evRowAddr
 split
 · split
   · split
     · (repeat' split) <;> simp_all
     · split
       · rename_i rows _ _ _ _ _ _ i _ _
         generalize rowOf _ _ = q
         cases q with
         | none=>rfl
         | some xs=>simp only [Option.bind_some];split <;> rfl
       · rfl
   · rfl
 · rfl
theorem nat_indexAddr (lk:Lk) (T:TypeId) (v i:V) (K:Eff→Option C):evIndexAddr Γ lk T v i K = (evIndexAddr Γ lk T v i some).bind K:=by
 unfold evIndexAddr;(repeat' split) <;> first | exact nat_rowAddr .. | simp_all
theorem nat_index (T:TypeId) (v i:V) (K:Eff→Option C):evIndex Γ T v i K = (evIndex Γ T v i some).bind K:=by
 unfold evIndex;(repeat' split) <;> simp_all
theorem nat_field (T:TypeId) (v:V) (j:Nat) (K:Eff→Option C):evField Γ T v j K = (evField Γ T v j some).bind K:=by
 unfold evField;(repeat' split) <;> simp_all
theorem nat_int (op:BinOp) (k:IntKind) (x y:Int) (K:Eff→Option C):evInt op k x y K = (evInt op k x y some).bind K:=by
 unfold evInt;(repeat' split) <;> simp_all
theorem nat_shift (op:BinOp) (k:IntKind) (x y:Int) (K:Eff→Option C):evShift op k x y K = (evShift op k x y some).bind K:=by
 unfold evShift;(repeat' split) <;> simp_all
theorem nat_bool (op:BinOp) (x y:Bool) (K:Eff→Option C):evBool op x y K = (evBool op x y some).bind K:=by
 unfold evBool;(repeat' split) <;> simp_all
theorem nat_str (op:BinOp) (x y:List UInt8) (K:Eff→Option C):evStr op x y K = (evStr op x y some).bind K:=by
 unfold evStr;(repeat' split) <;> simp_all
theorem nat_eqS (op:BinOp) (T:TypeId) (v u:V) (K:Eff→Option C):evEqS Γ op T v u K = (evEqS Γ op T v u some).bind K:=by
 unfold evEqS
 split
 · rename_i d t b hT
   cases (Γ.keys T && t.isAgg)
   · rfl
   · simp only [cond_true];(repeat' split) <;> simp_all
 · rfl
theorem nat_makeMap (lk:Lk) (d:Nat) (T:TypeId) (K:Eff→Option C):evMakeMap Γ lk d T K = (evMakeMap Γ lk d T some).bind K:=by
 unfold evMakeMap;(repeat' split) <;> simp_all
theorem nat_lookK (k v:Ty) (es:List (k.T×v.T)) (i:V) (ok:Bool) (K:Eff→Option C):lookK k v es i ok K = (lookK k v es i ok some).bind K:=by
 unfold lookK
 split
 · cases ok <;> rfl
 · rfl
theorem nat_lookup (lk:Lk) (T:TypeId) (m i:V) (ok:Bool) (K:Eff→Option C):evLookup Γ lk T m i ok K = (evLookup Γ lk T m i ok some).bind K:=by
 unfold evLookup
 (repeat' split) <;> first | exact nat_lookK .. | rfl
theorem nat_mapUpdate (lk:Lk) (T:TypeId) (m i x:V) (K:Eff→Option C):evMapUpdate Γ lk T m i x K = (evMapUpdate Γ lk T m i x some).bind K:=by
 unfold evMapUpdate;(repeat' split) <;> simp_all
theorem nat_nil (op:BinOp) (T:TypeId) (n:Nat) (K:Eff→Option C):evNil Γ op T n K = (evNil Γ op T n some).bind K:=by
 unfold evNil;(repeat' split) <;> simp_all
theorem nat_nils (op:BinOp) (T:TypeId) (K:Eff→Option C):evNils Γ op T K = (evNils Γ op T some).bind K:=by
 unfold evNils;(repeat' split) <;> simp_all
theorem nat_bin (op:BinOp) (T:TypeId) (v u:V) (K:Eff→Option C):evBin Γ op T v u K = (evBin Γ op T v u some).bind K:=by
 unfold evBin
 split
 · cases isShift op
   · simp only [cond_false];split
     · exact nat_int ..
     · rfl
   · exact nat_shift ..
 · cases boolOf Γ T
   · rfl
   · exact nat_bool ..
 · exact nat_str ..
 · exact nat_nil ..
 · exact nat_nils ..
 · exact nat_eqS ..
theorem nat_un (op:UnOp) (v:V) (K:Eff→Option C):evUn op v K = (evUn op v some).bind K:=by
 unfold evUn;(repeat' split) <;> simp_all
theorem nat_convert (lk:Lk) (src dst:TypeId) (v:V) (K:Eff→Option C):evConvert Γ lk src dst v K = (evConvert Γ lk src dst v some).bind K:=by
 unfold evConvert;(repeat' split) <;> simp_all
theorem nat_box (lk:Lk) (d:Nat) (sh:K) (v:V) (K:Eff→Option C):evBox lk d sh v K = (evBox lk d sh v some).bind K:=by
 unfold evBox;(repeat' split) <;> simp_all
theorem nat_build (T:TypeId) (parts:List (Nat×V)) (K:Eff→Option C):evBuild Γ T parts K = (evBuild Γ T parts some).bind K:=by
 unfold evBuild;(repeat' split) <;> simp_all
theorem nat_buildSlice (lk:Lk) (d:Nat) (T:TypeId) (n:Nat) (parts:List (Nat×V)) (K:Eff→Option C):evBuildSlice Γ lk d T n parts K = (evBuildSlice Γ lk d T n parts some).bind K:=by
 unfold evBuildSlice
 split
 · split
   · split
     · cases Γ.own d <;> rfl
     · rfl
   · rfl
 · rfl
theorem nat_makeSlice (lk:Lk) (d:Nat) (T:TypeId) (n c:V) (K:Eff→Option C):evMakeSlice Γ lk d T n c K = (evMakeSlice Γ lk d T n c some).bind K:=by
 unfold evMakeSlice;(repeat' split) <;> simp_all
theorem nat_slice (lk:Lk) (T:TypeId) (v:V) (lo hi mx:Option V) (K:Eff→Option C):evSlice Γ lk T v lo hi mx K = (evSlice Γ lk T v lo hi mx some).bind K:=by
 unfold evSlice;(repeat' split) <;> simp_all
theorem nat_append (lk:Lk) (d:Nat) (T T':TypeId) (v x:V) (K:Eff→Option C):evAppend Γ lk d T T' v x K = (evAppend Γ lk d T T' v x some).bind K:=by
 unfold evAppend;(repeat' split) <;> simp_all
theorem nat_len (lk:Lk) (v:V) (K:Eff→Option C):evLen lk v K = (evLen lk v some).bind K:=by
 unfold evLen
 (repeat' split) <;> first | rfl | (generalize rowOf _ _ = q;cases q <;> rfl)
theorem nat_minmax (mx:Bool) (vs:List V) (K:Eff→Option C):evMinMax mx vs K = (evMinMax mx vs some).bind K:=by
 unfold evMinMax;(repeat' split) <;> simp_all
theorem nat_call (hn:∀ f args {C:Type} (k:V→Option C),Γ.call f args k = (Γ.call f args some).bind k) (lk:Lk) (f:V) (args:List V) (K:Eff→Option C):evCall Γ lk f args K = (evCall Γ lk f args some).bind K:=by
 unfold evCall
 split
 · rename_i g caps
   split
   · split
     · rw [hn g _ (fun r=>K { val:=r }),hn g _ (fun r=>(some { val:=r }:Option Eff))]
       cases Γ.call g (args.map (V.toClo Γ) ++ caps) some <;> rfl
     · split
       · rw [hn g _ (fun r=>if r.scalar = true then K { val:=r } else none),hn g _ (fun r=>(if r.scalar = true then some { val:=r } else none:Option Eff))]
         cases Γ.call g ((args.map (V.snap lk)).map (V.toClo Γ) ++ caps) some with
         | none=>rfl
         | some r=>simp only [Option.bind_some];split <;> rfl
       · rfl
   · rfl
 · rename_i a b g
   split
   · rename_i x hx
     cases g x <;> rfl
   · rfl
 · rfl
theorem nat_callX (hx:∀ f vs os {C:Type} (k:V→List (Nat×Obj)→List Obj→Option C),Γ.callX f vs os k = (Γ.callX f vs os (fun a b c=>some (a,b,c))).bind fun q=>k q.1 q.2.1 q.2.2) (lk:Lk) (d:Nat) (f:V) (args:List V) (K:Eff→Option C) :
   evCallX Γ lk d f args K = (evCallX Γ lk d f args some).bind K:=by
 unfold evCallX
 split
 · split
   · split
     · rename_i _ ks _ _ os _
       cases (noTups _ && fitAll _ && noGh _)
       · rfl
       · simp only [cond_true]
         refine (hx _ _ _ _).trans (Eq.symm ((congrArg (fun z=>Option.bind z K) (hx _ _ _ _)).trans ?_))
         cases Γ.callX _ _ _ (fun a b c=>some (a,b,c)) with
         | none=>rfl
         | some q =>
           simp only [Option.bind_some]
           cases backX ks lk d q.1 q.2.1 q.2.2 <;> rfl
     · rfl
   · rfl
 · split
   · cases puresOk args
     · rfl
     simp only [cond_true]
     rw [Cbs.call_at,Cbs.call_at]
     split
     · rename_i q _
       cases q.2.scalar <;> rfl
     · rfl
   · rfl
 · rfl
theorem nat_rangeMap (lk:Lk) (d:Nat) (T:TypeId) (m:V) (K:Eff→Option C):evRangeMap Γ lk d T m K = (evRangeMap Γ lk d T m some).bind K:=by
 unfold evRangeMap;(repeat' split) <;> simp_all
theorem nat_entry (lk:Lk) (v:V) (K:Eff→Option C):evEntry lk v K = (evEntry lk v some).bind K:=by
 unfold evEntry;(repeat' split) <;> simp_all
theorem nat_op0 (hx:∀ f vs os {C:Type} (k:V→List (Nat×Obj)→List Obj→Option C),Γ.callX f vs os k = (Γ.callX f vs os (fun a b c=>some (a,b,c))).bind fun q=>k q.1 q.2.1 q.2.2)
   (hn:∀ f args {C:Type} (k:V→Option C),Γ.call f args k = (Γ.call f args some).bind k) (o:Oper) (tm:Tm) (lk:Lk) (K:Eff→Option C):evOp0 Γ o tm lk K = (evOp0 Γ o tm lk some).bind K:=by
 unfold evOp0
 split
 · rfl
 · split
   · split
     · rename_i d _ _
       cases Γ.own (910000 + d) <;> cases Γ.own (500000 + d) <;> rfl
     · rfl
   · rfl
 · split
   · rename_i t _;cases t <;> rfl
   · rfl
 · split
   · exact nat_box ..
   · rfl
 · split
   · split
     · exact nat_box ..
     · rfl
   · rfl
 · exact nat_build ..
 · split
   · exact nat_buildSlice ..
   · rfl
 · exact nat_load ..
 · exact nat_store ..
 · rename_i x _
   cases (Γ.val tm x).sure lk <;> rfl
 · exact nat_bin ..
 · exact nat_un ..
 · exact nat_convert ..
 · rename_i g first caps _
   split
   · cases capsOk (caps.toList.map (Γ.val tm)) <;> rfl
   · split
     · generalize argsOk _ = b
       cases b <;> rfl
     · rfl
   · rfl
 · split
   · exact nat_makeSlice ..
   · rfl
 · exact nat_slice ..
 · exact nat_fieldAddr ..
 · exact nat_field ..
 · exact nat_indexAddr ..
 · exact nat_index ..
 · split
   · exact nat_makeMap ..
   · rfl
 · exact nat_lookup ..
 · exact nat_mapUpdate ..
 · exact nat_mapUpdate ..
 · split
   · exact nat_rangeMap ..
   · rfl
 · exact nat_entry ..
 · (repeat' split) <;> simp_all
 · rename_i c _
   split
   · split
     · rename_i x T _ _ _
       cases lenOk Γ T (Γ.val tm x)
       · rfl
       · exact nat_len ..
     · rfl
   · split
     · exact nat_append ..
     · rfl
   · exact nat_minmax ..
   · exact nat_minmax ..
   · cases Γ.xat (dstOf o)
     · exact nat_call hn ..
     · exact nat_callX hx ..
   · rfl
 · rfl
theorem nat_gnil (lk:Lk) (d:Nat) (T:TypeId) (v:V) (K:Eff→Option C):evGNil Γ lk d T v K = (evGNil Γ lk d T v some).bind K:=by
 unfold evGNil;(repeat' split) <;> simp_all
theorem nat_gbuild (lk:Lk) (d:Nat) (T:TypeId) (n:Nat) (parts:List (Nat×V)) (K:Eff→Option C):evGBuild Γ lk d T n parts K = (evGBuild Γ lk d T n parts some).bind K:=by
 unfold evGBuild
 split
 · generalize (elemZ _ _ _ && _) = b
   cases b
   · rfl
   · simp only [cond_true];split <;> rfl
 · rfl
theorem nat_gmake (lk:Lk) (d:Nat) (T:TypeId) (n c:V) (K:Eff→Option C):evGMake Γ lk d T n c K = (evGMake Γ lk d T n c some).bind K:=by
 unfold evGMake;(repeat' split) <;> simp_all
theorem nat_gstoreOut (lk:Lk) (k s:Nat) (e:Ty) (ids:List Nat) (rows:List (Option (List e.T))) (j:Nat) (x:V) (K:Eff→Option C):evGStoreOut lk k s e ids rows j x K = (evGStoreOut lk k s e ids rows j x some).bind K:=by
 unfold evGStoreOut
 split
 · split
   · generalize rowOf _ _ = q
     cases q with
     | none=>rfl
     | some xs=>simp only [Option.bind_some];split <;> rfl
   · rfl
 · (repeat' split) <;> rfl
theorem nat_gstoreIn (k s:Nat) (e:Ty) (ids:Sp) (rows:List (Option (List e.T))) (i j:Nat) (x:V) (K:Eff→Option C):evGStoreIn k s e ids rows i j x K = (evGStoreIn k s e ids rows i j x some).bind K:=by
 unfold evGStoreIn
 split
 · split
   · generalize rowOf _ _ = q
     cases q with
     | none=>rfl
     | some xs=>simp only [Option.bind_some];split <;> rfl
   · rfl
 · rfl
theorem nat_gstore (lk:Lk) (T:TypeId) (v x:V) (K:Eff→Option C):evGStore Γ lk T v x K = (evGStore Γ lk T v x some).bind K:=by
 unfold evGStore
 split
 · split
   · split
     · split
       · split
         · split
           · exact nat_gstoreOut ..
           · rfl
         · rfl
       · split
         · exact nat_gstoreIn ..
         · rfl
     · rfl
   · rfl
 · rfl
theorem nat_gslice (lk:Lk) (T:TypeId) (v:V) (lo hi mx:Option V) (K:Eff→Option C):evGSlice Γ lk T v lo hi mx K = (evGSlice Γ lk T v lo hi mx some).bind K:=by
 unfold evGSlice;(repeat' split) <;> simp_all
theorem nat_gappend (lk:Lk) (d:Nat) (T T':TypeId) (v x:V) (K:Eff→Option C):evGAppend Γ lk d T T' v x K = (evGAppend Γ lk d T T' v x some).bind K:=by
 unfold evGAppend
 split
 · split
   · simp only [cond_eq_ite];(repeat' split) <;> rfl
   · rfl
 · rfl
theorem nat_snapC (lk:Lk):∀ {C:Type} (vs:List V) (K:List V→Option C),snapC lk vs K = (snapC lk vs some).bind K
 | _,[],K=>rfl
 | _,v :: r,K=>by
   unfold snapC
   split
   · split
     · split
       · generalize rowOf _ _ = q
         cases q with
         | none=>rfl
         | some xs =>
           simp only [Option.bind_some]
           refine (nat_snapC lk r _).trans ((congrArg (fun z=>Option.bind z K) (nat_snapC lk r _)).trans ?_).symm
           rw [Option.bind_assoc]
           rfl
       · rfl
     · rfl
   · refine (nat_snapC lk r _).trans ((congrArg (fun z=>Option.bind z K) (nat_snapC lk r _)).trans ?_).symm
     rw [Option.bind_assoc]
     rfl
theorem nat_gcall (hn:∀ f args {C:Type} (k:V→Option C),Γ.call f args k = (Γ.call f args some).bind k) (lk:Lk) (f:V) (args:List V) (K:Eff→Option C):evGCall Γ lk f args K = (evGCall Γ lk f args some).bind K:=by
 unfold evGCall
 split
 · rename_i g caps
   split
   · rw [nat_snapC,nat_snapC lk args (fun vs=>ite _ _ none)]
     cases snapC lk args some with
     | none=>rfl
     | some vs =>
       simp only [Option.bind_some]
       split
       · rw [hn g _ (fun r=>if r.scalar = true then K { val:=r } else none),hn g _ (fun r=>(if r.scalar = true then some { val:=r } else none:Option Eff))]
         cases Γ.call g (vs.map (V.toClo Γ) ++ caps) some with
         | none=>rfl
         | some r=>simp only [Option.bind_some];split <;> rfl
       · rfl
   · rfl
 · rfl
theorem nat_gwhole (lk:Lk) (T:TypeId) (v:V) (lo hi mx:Option V) (K:Eff→Option C):evGWhole Γ lk T v lo hi mx K = (evGWhole Γ lk T v lo hi mx some).bind K:=by
 unfold evGWhole;(repeat' split) <;> simp_all
theorem nat_gcopy (lk:Lk) (T T':TypeId) (v x:V) (K:Eff→Option C):evGCopy Γ lk T T' v x K = (evGCopy Γ lk T T' v x some).bind K:=by
 unfold evGCopy
 split
 · split
   · simp only [cond_eq_ite];(repeat' split) <;> rfl
   · rfl
 · rfl
theorem nat_gcap (T:TypeId) (v:V) (K:Eff→Option C):evGCap Γ T v K = (evGCap Γ T v some).bind K:=by
 unfold evGCap;(repeat' split) <;> simp_all
theorem nat_gsliceN (T:TypeId) (lo hi mx:Option V) (K:Eff→Option C):evGSliceN Γ T lo hi mx K = (evGSliceN Γ T lo hi mx some).bind K:=by
 unfold evGSliceN;(repeat' split) <;> simp_all
theorem nat_gzeros (lk:Lk) (d:Nat) (T T':TypeId) (x:V) (K:Eff→Option C):evGZeros Γ lk d T T' x K = (evGZeros Γ lk d T T' x some).bind K:=by
 unfold evGZeros;(repeat' split) <;> simp_all
theorem nat_rappend (lk:Lk) (T T':TypeId) (v x:V) (K:Eff→Option C):evRAppend Γ lk T T' v x K = (evRAppend Γ lk T T' v x some).bind K:=by
 unfold evRAppend;simp only [cond_eq_ite];(repeat' split) <;> first | rfl | (generalize rowOf _ _ = q;cases q with | none=>rfl | some xs=>(simp only [Option.bind_some];split <;> rfl))
theorem nat_gmap (lk:Lk) (d:Nat) (T:TypeId) (K:Eff→Option C):evGMap Γ lk d T K = (evGMap Γ lk d T some).bind K:=by
 unfold evGMap;split <;> rfl
theorem nat_glook (lk:Lk) (T:TypeId) (m i:V) (ok:Bool) (K:Eff→Option C):evGLook Γ lk T m i ok K = (evGLook Γ lk T m i ok some).bind K:=by
 unfold evGLook;simp only [cond_eq_ite];(repeat' split) <;> rfl
theorem nat_gput (lk:Lk) (T:TypeId) (m i x:V) (K:Eff→Option C):evGPut Γ lk T m i x K = (evGPut Γ lk T m i x some).bind K:=by
 unfold evGPut;simp only [cond_eq_ite];(repeat' split) <;> first | rfl | (generalize rowOf _ _ = q;cases q <;> rfl)
theorem nat_gop (hn:∀ f args {C:Type} (k:V→Option C),Γ.call f args k = (Γ.call f args some).bind k) (o:Oper) (tm:Tm) (lk:Lk) (K:Eff→Option C):evGOp Γ o tm lk K = (evGOp Γ o tm lk some).bind K:=by
 unfold evGOp
 split
 · split
   · exact nat_gnil ..
   · rfl
 · split
   · exact nat_gbuild ..
   · rfl
 · split
   · exact nat_gmake ..
   · rfl
 · exact nat_gstore ..
 · rename_i x _ _ _ _
   cases (Γ.val tm x).isRow
   · cases (Γ.val tm x).isNils
     · exact nat_gwhole ..
     · exact nat_gsliceN ..
   · exact nat_gslice ..
 · split
   · exact nat_gmap ..
   · rfl
 · exact nat_glook ..
 · exact nat_gput ..
 · split
   · split
     · exact nat_gcopy ..
     · rfl
   · split
     · exact nat_gcap ..
     · rfl
   · split
     · rename_i x _ _ _ d _ _ _
       cases (Γ.val tm x).isNils
       · cases (Γ.val tm x).isPart
         · exact nat_gappend (d:=d) ..
         · exact nat_rappend ..
       · exact nat_gzeros ..
     · rfl
   · exact nat_gcall hn ..
   · rfl
 · rfl
theorem nat_op (hx:∀ f vs os {C:Type} (k:V→List (Nat×Obj)→List Obj→Option C),Γ.callX f vs os k = (Γ.callX f vs os (fun a b c=>some (a,b,c))).bind fun q=>k q.1 q.2.1 q.2.2)
   (hn:∀ f args {C:Type} (k:V→Option C),Γ.call f args k = (Γ.call f args some).bind k) (o:Oper) (tm:Tm) (lk:Lk) (K:Eff→Option C):evOp Γ o tm lk K = (evOp Γ o tm lk some).bind K:=by
 unfold evOp
 cases gridOp Γ o tm lk
 · exact nat_op0 hx hn ..
 · exact nat_gop hn ..
theorem op_some (hx:∀ f vs os {C:Type} (k:V→List (Nat×Obj)→List Obj→Option C),Γ.callX f vs os k = (Γ.callX f vs os (fun a b c=>some (a,b,c))).bind fun q=>k q.1 q.2.1 q.2.2)
   (hn:∀ f args {C:Type} (k:V→Option C),Γ.call f args k = (Γ.call f args some).bind k) {o:Oper} {tm:Tm} {lk:Lk} {K:Eff→Option C} {r:C} (h:evOp Γ o tm lk K = some r):∃ e,evOp Γ o tm lk some = some e∧K e = some r:=by
 rw [nat_op hx hn] at h
 cases he:evOp Γ o tm lk some with
 | none=>rw [he] at h;simp at h
 | some e=>rw [he] at h;exact ⟨e,rfl,h⟩
end Go.Pv
