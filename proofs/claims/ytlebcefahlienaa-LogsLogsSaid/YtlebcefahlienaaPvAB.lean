/- The purifying layer, part 28: a law's entry: what its arguments read as; its end: they read as they did. -/
import Derived.Test.YtlebcefahlienaaPvAA
import Derived.OpenShut
import Derived.Carry
import Derived.RowKit
import Derived.ChangeSame
set_option linter.unusedVariables false
set_option linter.unusedSimpArgs false
namespace Go.Pv
open Go.ChangeShapes Go.WideShapes Go.RowKit
def Bnd:(t:Ty)→t.T→Prop
 | .int k,x=>(Lit.int k x).wf = true
 | .bool,_=>True
 | .str,s=>(s:List UInt8).length ≤ maxLen
 | .lst e,xs=>(xs:List e.T).length ≤ maxLen∧∀ x ∈ (xs:List e.T),Bnd e x
 | .unit,_=>True
 | .pair a b,x=>Bnd a x.1∧Bnd b x.2
 | .arr n e,xs=>(xs:List e.T).length = n∧∀ x ∈ (xs:List e.T),Bnd e x
 | .map _ _,_=>True
def ofB (P:Program):Ty→Sum TypeId (Nat×List Field)→Bool
 | .int k,.inl T=>match P.underlying T with | some (.int k')=>decide (k = k') | _=>false
 | .bool,.inl T=>match P.underlying T with | some .bool=>true | _=>false
 | .str,.inl T=>match P.underlying T with | some .string=>true | _=>false
 | .lst e,.inl T=>match P.underlying T with | some (.slice E)=>sizeB P E e.size && decide (0 < e.size) && ofB P e (.inl E) | _=>false
 | .unit,.inl T=>match P.underlying T with | some (.struct fs)=>decide (P.cellsOf T = 0) && fs.toList.isEmpty | _=>false
 | .unit,.inr (_,fs)=>fs.isEmpty
 | .pair a b,.inl T=>match P.underlying T with
   | some (.struct fs)=>decide (P.cellsOf T = a.size + b.size) && (match fs.toList with
     | f :: r=>decide (f.offset = 0) && sizeB P f.type a.size && ofB P a (.inl f.type) && ofB P b (.inr (0 + a.size,r))
     | []=>false)
   | _=>false
 | .pair a b,.inr (o,f :: r)=>decide (f.offset = o) && sizeB P f.type a.size && ofB P a (.inl f.type) && ofB P b (.inr (o + a.size,r))
 | .arr n e,.inl T=>match P.underlying T with
   | some (.array m E)=>decide (m = n) && sizeB P E e.size && decide (P.cellsOf T = n * e.size) && ofB P e (.inl E)
   | _=>false
 | _,_=>false
theorem sizeB_cells {P:Program} {T:TypeId} {n:Nat} (h:sizeB P T n = true):P.cellsOf T = n:=by
 unfold sizeB at h
 split at h
 · rename_i i hi
   simp only [decide_eq_true_eq] at h
   rw [Program.cellsOf,hi];simpa using h
 · simp at h
theorem all2_chunks {α:Type} {R:α→List Value→Prop} {B:α→Prop} {m:Nat} (L:List Value):∀ n,(∀ i,i < n→∃ x,R x ((L.drop (i * m)).take m)∧B x)→∃ xs:List α,xs.length = n∧All2 R xs (L.take (n * m))∧∀ x ∈ xs,B x
 | 0,_=>⟨[],rfl,by simp;rfl,by simp⟩
 | n + 1,h=>by
   obtain ⟨xs,h1,h2,h3⟩:=all2_chunks L n (fun i hi=>h i (by omega))
   obtain ⟨x,h4,h5⟩:=h n (by omega)
   refine ⟨xs ++ [x],by simp [h1],?_,fun y hy=>?_⟩
   · have:L.take ((n + 1) * m) = L.take (n * m) ++ (L.drop (n * m)).take m:=by
       rw [Nat.add_mul,Nat.one_mul,List.take_add]
     rw [this]
     exact All2.append _ _ _ _ h2 ⟨_,[],by simp,h4,rfl⟩
   · rcases List.mem_append.1 hy with hy | hy
     · exact h3 y hy
     · simp only [List.mem_singleton] at hy;subst hy;exact h5
theorem mapM_get {α β:Type} {f:α→Option β}:∀ (l:List α) (r:List β),l.mapM f = some r→r.length = l.length∧∀ (i:Nat) (x:α),l[i]? = some x→∃ y,f x = some y∧r[i]? = some y
 | [],r,h=>by simp at h;subst h;simp
 | a :: l,r,h=>by
   rw [List.mapM_cons] at h
   simp only [bind,Option.bind_eq_some_iff,pure,Option.some.injEq] at h
   obtain ⟨y,hy,ys,hys,rfl⟩:=h
   obtain ⟨h1,h2⟩:=mapM_get l ys hys
   refine ⟨by simp [h1],fun i x hx=>?_⟩
   cases i with
   | zero=>simp at hx;subst hx;exact ⟨y,hy,rfl⟩
   | succ i=>simp at hx;obtain ⟨z,h3,h4⟩:=h2 i x hx;exact ⟨z,h3,by simpa using h4⟩
theorem cells_at {w:World} {base:Nat} {a:Addr} {n:Nat} {l:List Value} (hn:0 < n) (h:w.cells? base a n = some l) :
   ∃ c T fz,w.heap[a.block]? = some (.cells c T fz)∧a.spot = none∧l = (c.toList.drop a.off).take n:=by
 unfold World.cells? at h
 split at h
 · obtain ⟨h1,h2⟩:=mapM_get _ _ h
   simp only [List.length_range] at h1
   obtain ⟨y,hy,hl0⟩:=h2 0 0 (by simp [hn])
   simp only [Addr.add,if_true] at hy
   unfold World.cell? at hy
   split at hy
   · rename_i c T fz hb
     split at hy
     · simp at hy
     · rename_i hs
       have hs:a.spot = none:=by cases hq:a.spot with | none=>rfl | some _=>simp [hq] at hs
       refine ⟨c,T,fz,hb,hs,?_⟩
       apply List.ext_getElem?
       intro i
       by_cases hi:i < n
       · obtain ⟨z,hz,hli⟩:=h2 i i (by simp [hi])
         rw [hli]
         have hz':c[a.off + i]? = some z:=by
           unfold World.cell? at hz
           by_cases h0:i = 0
           · subst h0
             simp only [Addr.add,if_true,hb,hs] at hz
             simpa using hz
           · simp only [Addr.add,if_neg h0,hb] at hz
             simpa using hz
         rw [List.getElem?_take_of_lt hi,List.getElem?_drop]
         simpa using hz'.symm
       · rw [List.getElem?_eq_none (by omega),List.getElem?_eq_none (by simp;omega)]
   · simp at hy
 · simp at h
variable {H:Type} {enc:TypeId×Value→H} {P:Program} {w:World} {spare:Nat→Bool} {held:Bool} {base:Nat}
abbrev Old (w:World):Nat→Prop:=fun b=>b < w.heap.size
theorem trod_rep:∀ (t:Ty),
   (∀ (T:TypeId) (fuel:Nat) (cs:List Value) (y:DataW H×List MemPlace),ofB P t (.inl T) = true→DataW.trod enc P w base spare held fuel T cs = some y→∃ x,RepC (Old w) w t x cs∧Bnd t x) ∧
   (∀ (o:Nat) (fs:List Field) (fuel:Nat) (cs:List Value),ofB P t (.inr (o,fs)) = true→(∀ (i:Nat) f,fs[i]? = some f→∃ y,DataW.trod enc P w base spare held fuel f.type ((cs.drop f.offset).take (P.cellsOf f.type)) = some y) →
     cs.length = o + t.size→∃ x,RepC (Old w) w t x (cs.drop o)∧Bnd t x)
 | .int k=>by
   refine ⟨fun T fuel cs y hk h=>?_,fun o fs fuel cs hk=>by simp [ofB] at hk⟩
   simp only [ofB] at hk
   split at hk
   · rename_i k' hu
     simp only [decide_eq_true_eq] at hk
     subst hk
     obtain ⟨n,rfl,_,hw⟩:=DataW.trod_int hu h
     exact ⟨n,rfl,hw⟩
   · simp at hk
 | .bool=>by
   refine ⟨fun T fuel cs y hk h=>?_,fun o fs fuel cs hk=>by simp [ofB] at hk⟩
   simp only [ofB] at hk
   split at hk
   · rename_i hu
     obtain ⟨b,rfl,_⟩:=DataW.trod_bool hu h
     exact ⟨b,rfl,trivial⟩
   · simp at hk
 | .str=>by
   refine ⟨fun T fuel cs y hk h=>?_,fun o fs fuel cs hk=>by simp [ofB] at hk⟩
   simp only [ofB] at hk
   split at hk
   · rename_i hu
     obtain ⟨s,rfl,_,hs⟩:=DataW.trod_string hu h
     refine ⟨s.data.toList,?_,?_⟩
     · show [Value.string s] = [Value.string ⟨s.data.toList.toArray⟩]
       rw [Array.toArray_toList]
     · show s.data.toList.length ≤ maxLen
       have:s.size = s.data.toList.length:=by rw [Array.length_toList];rfl
       omega
   · simp at hk
 | .map k v=>⟨fun T fuel cs y hk=>by simp [ofB] at hk,fun o fs fuel cs hk=>by simp [ofB] at hk⟩
 | .unit=>by
   refine ⟨fun T fuel cs y hk h=>?_,fun o fs fuel cs hk hf hl=>?_⟩
   · simp only [ofB] at hk
     split at hk
     · rename_i fs hu
       simp only [Bool.and_eq_true,decide_eq_true_eq] at hk
       obtain ⟨xs,n,_,_,hl,_⟩:=DataW.trod_struct hu h
       exact ⟨(),List.length_eq_zero_iff.1 (by rw [hl,hk.1]),trivial⟩
     · simp at hk
   · exact ⟨(),by rw [List.drop_eq_nil_of_le (by simp only [Ty.size] at hl;omega)];rfl,trivial⟩
 | .pair a b=>by
   have h2:∀ (o:Nat) (fs:List Field) (fuel:Nat) (cs:List Value),ofB P (.pair a b) (.inr (o,fs)) = true→(∀ (i:Nat) f,fs[i]? = some f→∃ y,DataW.trod enc P w base spare held fuel f.type ((cs.drop f.offset).take (P.cellsOf f.type)) = some y) →
       cs.length = o + (Ty.pair a b).size→∃ x,RepC (Old w) w (.pair a b) x (cs.drop o)∧Bnd (.pair a b) x:=by
     intro o fs fuel cs hk hf hl
     cases fs with
     | nil=>simp [ofB] at hk
     | cons f r =>
       simp only [ofB,Bool.and_eq_true,decide_eq_true_eq] at hk
       obtain ⟨⟨⟨ho,hsz⟩,hka⟩,hkb⟩:=hk
       simp only [Ty.size] at hl
       obtain ⟨y,hy⟩:=hf 0 f rfl
       rw [ho,sizeB_cells hsz] at hy
       obtain ⟨x1,hx1,hb1⟩:=(trod_rep a).1 f.type fuel _ y hka hy
       obtain ⟨x2,hx2,hb2⟩:=(trod_rep b).2 (o + a.size) r fuel cs hkb (fun i g hg=>hf (i + 1) g (by simpa using hg)) (by omega)
       refine ⟨(x1,x2),⟨_,_,?_,hx1,hx2⟩,hb1,hb2⟩
       rw [← List.drop_drop,List.take_append_drop]
   refine ⟨fun T fuel cs y hk h=>?_,h2⟩
   simp only [ofB] at hk
   split at hk
   · rename_i fs hu
     simp only [Bool.and_eq_true,decide_eq_true_eq] at hk
     obtain ⟨hc,hk⟩:=hk
     obtain ⟨xs,n,_,_,hl,hxl,hf⟩:=DataW.trod_struct hu h
     have hk2:ofB P (.pair a b) (.inr (0,fs.toList)) = true:=by
       cases hfs:fs.toList with
       | nil=>rw [hfs] at hk;simp at hk
       | cons f r=>rw [hfs] at hk;simp only [ofB];exact hk
     obtain ⟨x,hx,hb⟩:=h2 0 fs.toList n cs hk2 (fun i f hi=>by
       have hi':fs[i]? = some f:=by simpa using hi
       have:=hf i f hi'
       have hlt:i < xs.length:=by rw [hxl];exact (Array.getElem?_eq_some_iff.1 hi').1
       exact ⟨xs[i],by rw [this];simp [hlt]⟩) (by rw [hl,hc];simp [Ty.size])
     exact ⟨x,by simpa using hx,hb⟩
   · simp at hk
 | .arr n e=>by
   refine ⟨fun T fuel cs y hk h=>?_,fun o fs fuel cs hk=>by simp [ofB] at hk⟩
   simp only [ofB] at hk
   split at hk
   · rename_i m E hu
     simp only [Bool.and_eq_true,decide_eq_true_eq] at hk
     obtain ⟨⟨⟨rfl,hsz⟩,hc⟩,hke⟩:=hk
     obtain ⟨xs,k,_,_,hl,hxl,hf⟩:=DataW.trod_array hu h
     have hE:=sizeB_cells hsz
     obtain ⟨zs,hz1,hz2,hz3⟩:=all2_chunks (R:=RepC (Old w) w e) (B:=Bnd e) (m:=e.size) cs m (fun i hi=>by
       have:=hf i hi
       rw [hE] at this
       have hlt:i < xs.length:=by omega
       obtain ⟨x,hx,hb⟩:=(trod_rep e).1 E k _ xs[i] hke (by rw [this];simp [hlt])
       exact ⟨x,hx,hb⟩)
     refine ⟨zs,⟨hz1,?_⟩,hz1,hz3⟩
     rw [List.take_of_length_le (Nat.le_of_eq (by rw [hl,hc]))] at hz2
     exact hz2
   · simp at hk
 | .lst e=>by
   refine ⟨fun T fuel cs y hk h=>?_,fun o fs fuel cs hk=>by simp [ofB] at hk⟩
   simp only [ofB] at hk
   split at hk
   · rename_i E hu
     simp only [Bool.and_eq_true,decide_eq_true_eq] at hk
     obtain ⟨⟨hsz,hpos⟩,hke⟩:=hk
     have hE:=sizeB_cells hsz
     rcases DataW.trod_slice hu h with ⟨rfl,_⟩ | ⟨a,len,cap,elems,rest,k,_,rfl,_,hba,hlc,hcm,hel,hget,_⟩
     · exact ⟨[],⟨none,0,0,[],rfl,rfl,Nat.le_refl _,rfl,.inl ⟨rfl,rfl⟩⟩,Nat.zero_le _,by simp⟩
     · rw [hE] at hget
       cases len with
       | zero=>exact ⟨[],⟨some a,0,cap,[],rfl,rfl,hlc,rfl,.inl ⟨rfl,rfl⟩⟩,Nat.zero_le _,by simp⟩
       | succ len =>
         have one:∀ i,i < len + 1→∃ l,w.cells? base (a.add (i * e.size)) e.size = some l∧∃ x,RepC (Old w) w e x l∧Bnd e x:=by
           intro i hi
           have h1:=hget i hi
           have hlt:i < elems.length:=by omega
           rw [List.getElem?_eq_getElem hlt,Option.bind_eq_some_iff] at h1
           obtain ⟨l,h2,h3⟩:=h1
           exact ⟨l,h2,(trod_rep e).1 E k l _ hke h3⟩
         obtain ⟨l0,h0,_⟩:=one 0 (by omega)
         simp only [Nat.zero_mul,Addr.add,if_true] at h0
         obtain ⟨c,T',fz,hb,hs,_⟩:=cells_at hpos h0
         obtain ⟨blk,off,spot⟩:=a
         simp only at hs hb
         subst hs
         obtain ⟨zs,hz1,hz2,hz3⟩:=all2_chunks (R:=RepC (Old w) w e) (B:=Bnd e) (m:=e.size) (c.toList.drop off) (len + 1) (fun i hi=>by
           obtain ⟨l,h1,x,hx,hbx⟩:=one i hi
           obtain ⟨c2,T2,fz2,hb2,_,hl2⟩:=cells_at hpos h1
           have hblk:(Addr.add ⟨blk,off,none⟩ (i * e.size)).block = blk:=by unfold Addr.add;split <;> rfl
           have hoff:(Addr.add ⟨blk,off,none⟩ (i * e.size)).off = off + i * e.size:=by unfold Addr.add;split <;> simp_all
           rw [hblk,hb] at hb2
           simp only [Option.some.injEq,Obj.cells.injEq] at hb2
           obtain ⟨rfl,_,_⟩:=hb2
           rw [hoff] at hl2
           refine ⟨x,?_,hbx⟩
           rw [List.drop_drop,← hl2];exact hx)
         have hlt:blk < w.heap.size:=(Array.getElem?_eq_some_iff.1 hb).1
         exact ⟨zs,⟨some ⟨blk,off,none⟩,len + 1,cap,_,rfl,hz1,hlc,hz2,.inr ⟨blk,off,c,T',fz,rfl,hlt,hb,List.take_prefix _ _⟩⟩,by
           show (zs:List e.T).length ≤ maxLen
           omega,hz3⟩
   · simp at hk
theorem larg_rep {r:Reach} {b0:Nat} {t:Ty} {T:TypeId} {v:Value} {d:DataW H} {ps:List MemPlace} (hk:ofB P t (.inl T) = true) (hval:Value.okWide P w r b0 T v) (hd:DataW.Trod enc P w base spare held T v d ps) :
   ∃ x,RepD (Old w) w t x v∧Bnd t x:=by
 obtain ⟨fuel,hf⟩:=hd
 obtain ⟨x,hx,hb⟩:=(trod_rep t).1 T fuel _ _ hk hf
 refine ⟨x,⟨_,hx,?_⟩,hb⟩
 cases t <;> simp only [ofB] at hk
 case map=>simp at hk
 case unit =>
   split at hk
   · rename_i fs hu
     simp only [Value.okWide,hu] at hval
     obtain ⟨cs,rfl,_⟩:=hval
     simp [pack,Ty.isAgg,Value.cells]
   · simp at hk
 case pair a b =>
   split at hk
   · rename_i fs hu
     simp only [Value.okWide,hu] at hval
     obtain ⟨cs,rfl,_⟩:=hval
     simp [pack,Ty.isAgg,Value.cells]
   · simp at hk
 case arr n e =>
   split at hk
   · rename_i fs hu
     simp only [Value.okWide,hu] at hval
     obtain ⟨cs,rfl,_⟩:=hval
     simp [pack,Ty.isAgg,Value.cells]
   · simp at hk
 all_goals
   split at hk
   · rename_i hu
     simp only [Value.okWide,hu] at hval
     cases v <;> first | rfl | (simp [Cell.okWide,Cell.ok,hu] at hval;done)
   · simp at hk
def argsB (P:Program):List TypeId→List Ty→Bool
 | [],[]=>true
 | T :: Ts,t :: ts=>ofB P t (.inl T) && argsB P Ts ts
 | _,_=>false
def BndL:(ts:List Ty)→ProdT (ts.map .d)→Prop
 | [],_=>True
 | t :: ts,x=>Bnd t x.1∧BndL ts x.2
theorem largs_rep {r:Reach} {b0:Nat} {G:Nat→Option V}:∀ (Ts:List TypeId) (ts:List Ty) (vs:List Value) (ds:List (DataW H)) (ps:List MemPlace),argsB P Ts ts = true →
   (∀ (j:Nat) T v,Ts[j]? = some T→vs[j]? = some v→Value.okWide P w r b0 T v)→DataW.TrodAll enc P w base spare held Ts vs ds ps →
   ∃ a:ProdT (ts.map .d),Pt (RepG (E0 P G (Old w) w)) (putAll (ts.map .d) a) vs∧BndL ts a∧ds.length = Ts.length
 | [],[],[],[],_,_,_,_=>⟨(),rfl,trivial,rfl⟩
 | T :: Ts,t :: ts,v :: vs,d :: ds,ps,hk,hval,⟨p,q,h1,h2,_⟩=>by
   simp only [argsB,Bool.and_eq_true] at hk
   obtain ⟨x,hx,hb⟩:=larg_rep hk.1 (hval 0 T v rfl rfl) h1
   obtain ⟨a,ha,hbl,hlen⟩:=largs_rep Ts ts vs ds q hk.2 (fun j T v hT hv=>hval (j + 1) T v (by simpa using hT) (by simpa using hv)) h2
   exact ⟨(x,a),⟨v,vs,rfl,hx,ha⟩,⟨hb,hbl⟩,by simp [hlen]⟩
 | [],[],_ :: _,_,_,_,_,h=>h.elim
 | [],[],[],_ :: _,_,_,_,h=>h.elim
 | _ :: _,_ :: _,[],_,_,_,_,h=>h.elim
 | _ :: _,_ :: _,_ :: _,[],_,_,_,h=>h.elim
 | [],_ :: _,_,_,_,hk,_,_=>by simp [argsB] at hk
 | _ :: _,[],_,_,_,hk,_,_=>by simp [argsB] at hk
theorem trodAll_stays (hl:laidOutB P = true) {W W':World} {sp':Nat→Bool}:∀ (Ts:List TypeId) (vs:List Value) (ds:List (DataW H)) (ps:List MemPlace),(∀ t ∈ Ts,P.readableRec t = true∧t < P.types.size) →
   DataW.TrodAll enc P W 0 (fun _=>true) true Ts vs ds ps→(∀ p ∈ ps,W.sameAt W' p)→(∀ p ∈ ps,sp' p.block = true)→DataW.TrodAll enc P W' 0 sp' true Ts vs ds ps
 | [],[],[],_,_,h,_,_=>h
 | T :: Ts,v :: vs,d :: ds,ps,ht,⟨p,q,h1,h2,h3⟩,hs,hb=>by
   subst h3
   refine ⟨p,q,WideElems.Trod_stays hl (ht T (by simp)).1 (ht T (by simp)).2 h1 (fun x hx=>hs x (List.mem_append_left _ hx)) (fun x hx=>hb x (List.mem_append_left _ hx)),?_,rfl⟩
   exact trodAll_stays hl Ts vs ds q (fun t h=>ht t (by simp [h])) h2 (fun x hx=>hs x (List.mem_append_right _ hx)) (fun x hx=>hb x (List.mem_append_right _ hx))
 | [],_ :: _,_,_,_,h,_,_=>h.elim
 | [],[],_ :: _,_,_,h,_,_=>h.elim
 | _ :: _,[],_,_,_,h,_,_=>h.elim
 | _ :: _,_ :: _,[],_,_,h,_,_=>h.elim
theorem law_post {fn:Func} {s:ChangeSpec} {apart fresh handsOn again:Bool} {W W':World} {Fz':Nat→Prop} {args:Array Value} {ds gs:List (DataW H)} {before:List MemPlace} {bt:TypeId}
   (hW:DataW.Whole enc P fn.params.toList s.vars apart W args.toList ds gs before) (hv:s.vars = []) (hl:laidOutB P = true) (hr:∀ t ∈ fn.params.toList,P.readableRec t = true∧t < P.types.size)
   (hres:fn.resultTypes = #[bt]) (hbt:P.underlying bt = some .bool) (hs:s.fn H ds = { results:=[.lit (.bool true)],args:=ds }) (hst:Step (Old W) W Fz' W') :
   s.post enc P fn apart fresh handsOn again W args (.bool true) W':=by
 have hW0:=hW
 obtain ⟨p,q,hA,hV,rfl,hz,hn⟩:=hW
 rw [hv] at hV
 cases gs with
 | cons g gs=>exact hV.elim
 | nil =>
   have hq:q = []:=hV
   subst hq
   simp only [List.append_nil] at hW0 hz hn ⊢
   have hlt:∀ x ∈ p,x.block < W.heap.size:=fun x hx=>by simpa using hW0.lt x hx
   have hbl:Below W.heap.size W W':=⟨hst.os,hst.tape,hst.output,hst.size,hst.block⟩
   have hsame:∀ x ∈ p,W.sameAt W' x:=fun x hx=>hbl.same (hlt x hx)
   have hargs:∀ sp:Nat→Bool,(∀ x ∈ p,sp x.block = true)→DataW.TrodAll enc P W' 0 sp true fn.params.toList args.toList ds p:=fun sp hsp=>trodAll_stays hl _ _ _ _ hr hA hsame hsp
   have hrl:(Value.bool true).resultList fn.resultTypes.size = [.bool true]:=by rw [hres];rfl
   have hresT:∀ (b:Nat) (sp:Nat→Bool) (hd:Bool),DataW.TrodAll enc P W' b sp hd fn.resultTypes.toList ((Value.bool true).resultList fn.resultTypes.size) (s.fn H (ds ++ [])).results []:=by
     intro b sp hd
     rw [hrl,List.append_nil,hs,hres]
     exact ⟨[],[],shut_bool hbt true,rfl,rfl⟩
   have hargs2:∀ sp:Nat→Bool,(∀ x ∈ p,sp x.block = true)→DataW.TrodAll enc P W' 0 sp true fn.params.toList args.toList (s.fn H (ds ++ [])).args p:=by
     intro sp hsp
     rw [List.append_nil,hs]
     exact hargs sp hsp
   have hvars:∀ sp:Nat→Bool,DataW.TrodVars enc P W' sp s.vars (s.fn H (ds ++ [])).vars []:=by
     intro sp
     rw [List.append_nil,hs,hv]
     rfl
   have hok:∀ (j:Nat) (t:TypeId) (r:Value),fn.resultTypes[j]? = some t→((Value.bool true).resultList fn.resultTypes.size)[j]? = some r→Value.okWide P W' .any 0 t r:=by
     intro j t r hj hv
     rw [hrl] at hv
     rw [hres] at hj
     cases j with
     | zero=>simp at hj hv;subst hj;subst hv;exact okWide_bool_mk hbt _
     | succ j=>simp at hj
   have hk:W.keptBut W' (fun _=>False):=by
     refine ⟨hst.os,hst.output,fun i hi=>?_⟩
     rw [hst.block i hi]
     split
     · rename_i c t fr c' t' fr' h1 h2
       rw [h1] at h2
       simp only [Option.some.injEq,Go.Obj.cells.injEq] at h2
       obtain ⟨rfl,rfl,rfl⟩:=h2
       exact ⟨rfl,rfl,rfl,fun _ _=>rfl⟩
     · rename_i es cl es' cl' h1 h2
       rw [h1] at h2
       simp only [Option.some.injEq,Go.Obj.map.injEq] at h2
       exact .inr ⟨h2.1.symm,h2.2.symm⟩
     · rfl
   have hold:∀ x ∈ p,(fun b=>decide (b < W.heap.size)) x.block = true:=fun x hx=>by simpa using hlt x hx
   refine ⟨ds,[],p,[],p,[],hW0,hresT _ _ _,hargs2 _ hold,hvars _,World.keptBut_mono (fun x hx=>hx.elim) hk,fun _=>?_⟩
   refine ⟨hok,_,_,([] ++ p) ++ [],⟨[] ++ p,[],trodAll_append (hargs2 _ (fun _ _=>rfl)) (hresT _ _ _),hvars _,rfl,?_,?_⟩,?_⟩
   · intro b off hp
     have hp:MemPlace.cell b off ∈ p:=by simpa using hp
     have hb:b < W.heap.size:=hlt _ hp
     have:W'.frozen? ⟨b,off,none⟩ = W.frozen? ⟨b,off,none⟩:=by
       simp only [World.frozen?,hst.block b hb]
     rw [this]
     exact hz b off hp
   · intro ha
     have:=hn ha
     simpa using this
   · intro x hx _
     simpa using hx
theorem AS.get_put_self (s:AS) (x:s.T):s.get (s.put x) = some x:=by
 cases s <;> simp [AS.get,AS.put,V.as]
theorem getAll_self:∀ (l:List AS) (a:ProdT l),getAll l (putAll l a) = some a
 | [],_=>rfl
 | s :: r,a=>by simp only [putAll,getAll,AS.get_put_self,getAll_self r a.2]
theorem call_top {Γ:Cfg} {f:FuncId} {l:List AS} {T:Ty} {g:ProdT l→Option T.T} {a:ProdT l} {y:T.T} (h:g a = some y):(Γ.add f (Spec.one l T g)).call f (putAll l a) some = some (.dat T y):=by
 have:Nat.beq f f = true:=Nat.beq_refl f
 simp only [Cfg.add,this,cond_true,Spec.one,getAll_self,h,Option.bind_some]
 rfl
theorem law_contract {Γ:Cfg} {f:FuncId} {fn:Func} {tys:List Ty} {g:ProdT (tys.map .d)→Option Bool} (hΓ:CfgOk P (Γ.add f (Spec.one (tys.map .d) .bool g))) (hplain:∀ a,BndL tys a→g a = some true)
   {s:ChangeSpec} {apart fresh handsOn again:Bool} {W:World} {b0:Nat} {args:Array Value} {ds gs:List (DataW H)} {before:List MemPlace} {bt:TypeId}
   (hargs:argsB P fn.params.toList tys = true) (hval:∀ (j:Nat) t v,fn.params[j]? = some t→args[j]? = some v→Value.okWide P W .any b0 t v)
   (hW:DataW.Whole enc P fn.params.toList s.vars apart W args.toList ds gs before) (hglob:GlobC Γ.glob (Old W) W) (hv:s.vars = []) (hl:laidOutB P = true) (hr:∀ t ∈ fn.params.toList,P.readableRec t = true∧t < P.types.size)
   (hres:fn.resultTypes = #[bt]) (hbt:P.underlying bt = some .bool) (hs:∀ ds:List (DataW H),ds.length = fn.params.toList.length→s.fn H ds = { results:=[.lit (.bool true)],args:=ds }) :
   Calls P f args W fun e W'=>∃ v,e = .returned v∧s.post enc P fn apart fresh handsOn again W args v W':=by
 have hW2:=hW
 obtain ⟨p,q,hA,_⟩:=hW
 obtain ⟨a,ha,hb,hlen⟩:=largs_rep (G:=Γ.glob) (r:=.any) (b0:=b0) fn.params.toList tys args.toList ds p hargs (fun j T v hT hv=>hval j T v (by simpa using hT) (by simpa using hv)) hA
 have hok:=hΓ.ok f (putAll (tys.map .d) a) (.dat .bool true) (call_top (hplain a hb))
 have:=hok (Old W) W args.toList ⟨fun _ h=>h,hglob⟩ ha
 unfold CallsT at this
 rw [Array.toArray_toList] at this
 refine Calls.mono this fun e W' hq=>?_
 obtain ⟨v,Fz',he,hst,hrep⟩:=hq
 have hv2:v = .bool true:=repBool hrep
 subst hv2
 exact ⟨_,he,law_post hW2 hv hl hr hres hbt (hs ds hlen) hst⟩
end Go.Pv
