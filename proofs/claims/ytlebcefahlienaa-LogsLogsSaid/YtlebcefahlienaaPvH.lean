/- The purifying layer, part 8: what is asked of the program's tables; operations that only compute or read. -/
import Derived.Test.YtlebcefahlienaaPvG
set_option linter.unusedVariables false
set_option linter.unusedSimpArgs false
namespace Go.Pv
def Ty.zcells:Ty→List Value
 | .int k=>[.int k 0]
 | .bool=>[.bool false]
 | .str=>[.string ⟨#[]⟩]
 | .lst _=>[.slice none 0 0]
 | .unit=>[]
 | .pair a b=>a.zcells ++ b.zcells
 | .arr n e=>(List.replicate n e.zcells).flatten
 | .map _ _=>[.map none]
theorem zero_rep {Fz:Nat→Prop} {w:World}:∀ t:Ty,RepC Fz w t t.zero t.zcells
 | .int _=>rfl
 | .bool=>rfl
 | .str=>rfl
 | .lst e=>⟨none,0,0,[],rfl,rfl,Nat.le_refl _,rfl,.inl ⟨rfl,rfl⟩⟩
 | .unit=>rfl
 | .pair a b=>⟨a.zcells,b.zcells,rfl,zero_rep a,zero_rep b⟩
 | .arr n e=>⟨by simp [Ty.zero],All2.replicate (zero_rep e) n⟩
 | .map _ _=>⟨none,rfl,.inl ⟨rfl,rfl⟩⟩
def zOk:Option Ty→List Value→Prop
 | some t,cs=>cs = t.zcells
 | none,cs=>∃ u,cs = [u]∧u.oneCell' = true
def ZeroOk:K→List Value→Prop
 | .d t,cs=>cs = t.zcells
 | .leaf,cs=>∃ u,cs = [u]∧u.oneCell' = true
 | .st ks,cs=>All2 zOk ks cs
structure FieldOk (P:Program) (f:Field) (o:Nat) (ft:Option Ty):Prop where
 off:f.offset = o
 info:∃ i,P.info? f.type = some i∧i.size = fsize ft
 row:∃ d,P.underlying f.type = some d∧d.isRow = (match ft with | some t=>t.isAgg | none=>false)
def Elem (P:Program) (e:TypeId) (et:Ty):Prop:=(∃ i,P.info? e = some i∧i.size = et.size)∧∃ d,P.underlying e = some d∧d.isRow = et.isAgg
def DescOk (P:Program) (T:TypeId) (ti:TI):Prop :=
 match ti.d with
 | .int k=>P.underlying T = some (.int k)∧ti.k = .d (.int k)
 | .bool=>P.underlying T = some .bool∧ti.k = .d .bool
 | .str=>P.underlying T = some .string∧ti.k = .d .str
 | .slice e=>P.underlying T = some (.slice e)∧(ti.k = .leaf ∨ ∃ et,ti.k = .d (.lst et)∧Elem P e et)
 | .struct fs=>∃ fields,P.underlying T = some (.struct fields)∧ti.k.isAgg = true∧fields.size = ti.k.fields.length∧(∀ t,ti.k = .d t→t.isChain = true) ∧
     ∀ j o ft,ffield ti.k.fields j = some (o,ft)→∃ f,fields[j]? = some f∧FieldOk P f o ft
 | .arr n e=>P.underlying T = some (.array n e)∧∃ et,ti.k = .d (.arr n et)∧Elem P e et
 | .map k v=>P.underlying T = some (.map k v)∧ti.k = .leaf
 | .other=>(∃ d,P.underlying T = some d∧d.isRow = false)∧ti.k = .leaf
def Ty.nest:Ty→Nat
 | .pair a b=>max (a.nest + 1) b.nest
 | .arr _ e=>e.nest + 1
 | _=>0
def sizeB (P:Program) (T:TypeId) (n:Nat):Bool:=match P.info? T with | some i=>decide (i.size = n) | none=>false
def keyB (P:Program):Ty→Sum TypeId (Nat×List Field)→Bool
 | .int k,.inl T=>match P.underlying T with | some (.int k')=>decide (k = k') | _=>false
 | .bool,.inl T=>match P.underlying T with | some .bool=>true | _=>false
 | .str,.inl T=>match P.underlying T with | some .string=>true | _=>false
 | .unit,.inl T=>match P.underlying T with | some (.struct fs)=>!P.stoodInHeld T && fs.toList.isEmpty | _=>false
 | .unit,.inr (_,fs)=>fs.isEmpty
 | .pair a b,.inl T=>match P.underlying T with
   | some (.struct fs)=>!P.stoodInHeld T && (match fs.toList with
     | f :: r => f.name != "_" && decide (f.offset = 0) && sizeB P f.type a.size && keyB P a (.inl f.type) && keyB P b (.inr (0 + a.size, r))
     | []=>false)
   | _=>false
 | .pair a b, .inr (o, f :: r) => f.name != "_" && decide (f.offset = o) && sizeB P f.type a.size && keyB P a (.inl f.type) && keyB P b (.inr (o + a.size, r))
 | .arr n e,.inl T=>match P.underlying T with
   | some (.array m E)=>decide (m = n) && sizeB P E e.size && keyB P e (.inl E)
   | _=>false
 | _,_=>false
def keyTop (P:Program) (T:TypeId) (t:Ty):Bool:=keyB P t (.inl T) && !(P.eqGuardType P.depth T) && decide (t.nest < 9000)
structure TIok (P:Program) (T:TypeId) (ti:TI):Prop where
 info:∃ i,P.info? T = some i∧i.size = ti.k.size∧i.bytes = ti.bytes∧∃ z,i.zero = some z∧ZeroOk ti.k z.cells.toList∧(ti.k.isAgg = true→z = .agg z.cells)∧(ti.k.isAgg = false→∀ cs,z ≠ .agg cs)
 desc:DescOk P T ti
def FnOk (P:Program) (G:Nat→Option V) (f:FuncId) (args:List V) (r:V):Prop :=
 ∀ Fz w vs,Inv G Fz w→Pt (RepG (E0 P G Fz w)) args vs→CallsT P f vs.toArray Fz w fun Fz' w' v=>RepT (E0 P G Fz' w') r v
def FnOkX (P:Program) (G:Nat→Option V) (f:FuncId) (args:List V) (os:List Obj) (rv:V) (outs:List (Nat×Obj)) (exs:List Obj):Prop :=
 ∀ (cx:Cx) (pos:Nat→Value) (U:Nat→Prop) (us:List Value),cx.P = P→cx.G = G→Held cx (lkG os) cx.w0 cx.Fz0 pos U→Pt (RepG (cx.e cx.Fz0 cx.w0 (lkG os) pos)) args us →
   Calls P f us.toArray cx.w0 fun e w'=>∃ v Fz' pos' U',e = .returned v∧Held cx (lkX outs exs) w' Fz' pos' U'∧RepT (cx.e Fz' w' (lkX outs exs) pos') rv v∧outs.length = os.length∧os.length < 100000 ∧
     ∀ i s o o',outs[i]? = some (s,o')→os[i]? = some o→s = 0→Ext o (pos (gB + i)) o' (pos' (gB + i))
structure CfgOk (P:Program) (Γ:Cfg):Prop where
 mixed:P.follows .mixedOrders = true
 ty:∀ T ti,Γ.ty T = some ti→TIok P T ti
 nat:∀ f args {C:Type} (k:V→Option C),Γ.call f args k = (Γ.call f args some).bind k
 ok:∀ f args r,Γ.call f args some = some r→FnOk P Γ.glob f args r
 body:∀ f args r,Γ.call f args some = some r→HasBody P f
 fnTy:∀ f q,Γ.fnTy f = some q→HasBody P f
 keys:∀ T ti,Γ.keys T = true→Γ.ty T = some ti→∃ t,ti.k = .d t∧keyTop P T t = true
 natX:∀ f vs os {C:Type} (k:V→List (Nat×Obj)→List Obj→Option C),Γ.callX f vs os k = (Γ.callX f vs os (fun a b c=>some (a,b,c))).bind fun q=>k q.1 q.2.1 q.2.2
 okX:∀ f vs os q,Γ.callX f vs os (fun a b c=>some (a,b,c)) = some q→FnOkX P Γ.glob f vs os q.1 q.2.1 q.2.2
 bodyX:∀ f vs os q,Γ.callX f vs os (fun a b c=>some (a,b,c)) = some q→HasBody P f
def Done (P:Program) (o:Oper) (a:Act) (w:World) (next:Act→World→Prop):Prop :=
 (∃ v w',(execOp a.eval o).run P w = .ok (.value v) w'∧next (a.put o.dst v) w') ∨
 (∃ w',(execOp a.eval o).run P w = .ok .skip w'∧next (a.put o.dst undef) w') ∨
 (∃ f args w',(execOp a.eval o).run P w = .ok (.enter f args) w'∧Calls P f args w' fun e w''=>∃ v,e = .returned v∧next (a.put o.dst v) w'') ∨
 (∃ l fn tmps assign body,(execOp a.eval o).run P w = .ok (.round l fn tmps assign body) w∧RoundIn Fence.wide 0 P l fn tmps assign body w fun e w''=>∃ v,e = .returned v∧next (a.put o.dst v) w'')
variable {P:Program} {Γ:Cfg} {cx:Cx} {tm:Tm} {lk:Lk} {a:Act} {w:World} {Fz:Nat→Prop} {pos:Nat→Value} {U:Nat→Prop}
theorem isAgg_run (hΓ:CfgOk P Γ) {T:TypeId} {ti:TI} (h:Γ.ty T = some ti):∃ d,P.underlying T = some d∧d.isRow = ti.k.isAgg:=by
 have hd:=(hΓ.ty T ti h).desc
 unfold DescOk at hd
 split at hd
 · exact ⟨_,hd.1,by rw [hd.2];rfl⟩
 · exact ⟨_,hd.1,by rw [hd.2];rfl⟩
 · exact ⟨_,hd.1,by rw [hd.2];rfl⟩
 · refine ⟨_,hd.1,?_⟩
   rcases hd.2 with h | ⟨et,h,_⟩ <;> rw [h] <;> rfl
 · obtain ⟨fields,h1,h2,_⟩:=hd
   exact ⟨_,h1,by rw [h2]⟩
 · obtain ⟨h1,et,h2,_⟩:=hd
   exact ⟨_,h1,by rw [h2];rfl⟩
 · exact ⟨_,hd.1,by rw [hd.2];rfl⟩
 · obtain ⟨⟨d,h1,h2⟩,h3⟩:=hd
   exact ⟨d,h1,by rw [h2,h3];rfl⟩
theorem constV_rep (A:E) (v:Value):RepT A (constV v) v:=by
 unfold constV
 split
 · exact ⟨_,rfl,rfl⟩
 · exact ⟨_,rfl,rfl⟩
 · rename_i s
   exact ⟨[.string s],by simp [RepC],rfl⟩
 · rfl
 · rfl
 · trivial
theorem val_rep (r:RelIn cx tm lk a w Fz pos U) (hg:cx.G = Γ.glob) (x:Operand):RepT (cx.e Fz w lk pos) (Γ.val tm x) (a.eval x):=by
 cases x with
 | tmp t=>exact r.tmps t
 | const v=>exact constV_rep _ v
 | global g =>
   simp only [Cfg.val,Act.eval]
   split
   · rename_i t y h
     have hgl:=r.inv.glob g t y (by rw [hg];exact h)
     obtain ⟨hf,c,T,fz,cells,h1,h2,h3⟩:=hgl
     exact ⟨g,0,c,T,fz,cells,rfl,hf,h1,h2,by simpa using h3⟩
   · trivial
 | func f=>exact ⟨[],rfl,rfl⟩
theorem Done.value {o:Oper} {v:V} {u:Value} (r:RelIn cx tm lk a w Fz pos U) (hrun:(execOp a.eval o).run P w = .ok (.value u) w) (h:RepT (cx.e Fz w lk pos) v u) :
   Done P o a w fun a' w'=>∃ Fz' pos' U',RelIn cx (updTm tm cx.nt o.dst v) (updLk [] lk) a' w' Fz' pos' U' :=
 .inl ⟨u,w,hrun,Fz,pos,U,r.value o.dst h⟩
theorem run_load_val (hΓ:CfgOk P Γ) {T:TypeId} {ti:TI} (hT:Γ.ty T = some ti) {A:E} {u:V} {k:K} (hf:u.fits k = true) (hk1:ti.k.size = k.size) (hk2:ti.k.isAgg = k.isAgg) (hj:u.isJunk = false)
   {b o:Nat} {c:Array Value} {T':TypeId} {fz:Nat×Nat} {w:World} (hb:w.heap[b]? = some (.cells c T' fz)) {cells:List Value} (hu:RepB A u cells) (hp:cells <+: c.toList.drop o) :
   ∃ v,(Instr.loadAt T (.pointer (some ⟨b,o,none⟩))).run P w = .ok v w∧RepT A u v:=by
 obtain ⟨hs,hone,hagg,hleaf⟩:=repB_value hf hu
 have hrange:w.rangeAt b o cells:=by
   intro j v hv
   obtain ⟨t,ht⟩:=hp
   have:(c.toList.drop o)[j]? = some v:=by rw [← ht,List.getElem?_append_left (List.getElem?_eq_some_iff.1 hv).1];exact hv
   rw [List.getElem?_drop] at this
   simp [World.cell?,hb,← this]
 obtain ⟨i,hi,hisz,_⟩:=(hΓ.ty T ti hT).info
 obtain ⟨d,hd,hrow⟩:=isAgg_run hΓ hT
 cases hka:k.isAgg with
 | true =>
   refine ⟨.agg cells.toArray,?_,hagg hka⟩
   exact run_loadAt_mid w b o T cells d hrange hd (by rw [hrow,hk2,hka]) (by rw [hi];simp [hisz,hk1,hs])
 | false =>
   obtain ⟨v,rfl,hv⟩:=hleaf hka
   refine ⟨v,?_,hv hj⟩
   have hcell:w.cell? ⟨b,o,none⟩ = some v:=by simpa using hrange 0 v rfl
   have hag:(isAgg T).run P w = .ok false w:=by
     unfold isAgg
     rw [Sem.run_bind,run_underlying hd w]
     have:d.isRow = false:=by rw [hrow,hk2,hka]
     cases d <;> simp_all [TypeDesc.isRow]
   simp [Instr.loadAt,Instr.sureAddr,loadVar,hag,hcell]
theorem okSize_iff {T:TypeId} {k:K} (h:okSize Γ T k = true):∃ ti,Γ.ty T = some ti∧ti.k.size = k.size∧ti.k.isAgg = k.isAgg:=by
 unfold okSize at h
 split at h
 · rename_i ti hti
   simp only [Bool.and_eq_true,decide_eq_true_eq,beq_iff_eq] at h
   exact ⟨ti,hti,h.1,h.2⟩
 · simp at h
theorem fitsZ_iff {k:K} {u:V} (h:V.fitsZ k u = true):∃ k',u.fits k' = true∧k.size = k'.size∧k.isAgg = k'.isAgg:=by
 cases u
 case dat t x =>
   simp only [V.fitsZ,Bool.and_eq_true,decide_eq_true_eq,beq_iff_eq] at h
   exact ⟨.d t,by simp [V.fits,V.fitsF],h.1,h.2⟩
 all_goals exact ⟨k,h,rfl,rfl⟩
theorem load_rep {T:TypeId} {x:Operand} (hΓ:CfgOk P Γ) (hP:cx.P = P) (r:RelIn cx tm lk a w Fz pos U) (hg:cx.G = Γ.glob) {e:Eff}
   (h:evLoad Γ lk T (Γ.val tm x) some = some e):∃ ad u,a.eval x = .pointer (some ad)∧(Instr.loadAt T (.pointer (some ad))).run P w = .ok u w∧e = { val:=e.val }∧RepT (cx.e Fz w lk pos) e.val u:=by
 have hv:=val_rep r hg x
 unfold evLoad at h
 generalize Γ.val tm x = vx at h hv
 cases vx <;> simp only at h <;> try (simp at h;done)
 case eptr u =>
   cases hT:Γ.ty T with
   | none=>rw [hT] at h;simp at h
   | some ti =>
     rw [hT] at h
     simp only at h
     split at h
     · rename_i hfit
       simp only [Option.some.injEq] at h
       subst h
       obtain ⟨b,off,c,T',fz,cells,hval,hb1,hb2,hrep,hpre⟩:=hv
       have hB:RepB (cx.e Fz w lk pos) u cells:=by
         cases u <;> simp only [RepP] at hrep <;> simp only [RepB,RepF]
         · exact hrep
         all_goals
           obtain ⟨y,rfl,hy⟩:=hrep
           simp only [RepA0] at hy
         · exact ⟨y,rfl,by obtain ⟨f,fi,caps,rfl,_⟩:=hy;rfl,hy⟩
         · subst hy;exact ⟨_,rfl,rfl,rfl⟩
       have hj:u.isJunk = false:=by cases u <;> first | rfl | (simp only [RepP,RepA0] at hrep;obtain ⟨_,_,hh⟩:=hrep;exact hh.elim)
       obtain ⟨k,hf,hk1,hk2⟩:=fitsZ_iff hfit
       obtain ⟨v,hv1,hv2⟩:=run_load_val hΓ hT hf hk1 hk2 hj hb2 hB hpre
       exact ⟨_,v,hval,hv1,rfl,hv2⟩
     · simp at h
 case ref k s p =>
   obtain ⟨_,s',ob,hlk,hle,hval⟩:=hv
   have hlk':lk k = some (s',ob):=hlk
   rw [hlk'] at h
   cases ob with
   | box sh c =>
     simp only at h
     split at h
     · rename_i hs
       obtain ⟨d,ad,hoff,had,hval⟩:=hval hs
       cases hat:K.at p sh with
       | none=>simp [Obj.off,hat] at hoff
       | some q =>
         obtain ⟨o1,k'⟩:=q
         cases hget:c.get p with
         | none=>rw [K.tyAt_of _ _ _ _ hat,hget] at h;simp at h
         | some u =>
           rw [K.tyAt_of _ _ _ _ hat,hget] at h
           simp only at h
           split at h
           · rename_i hok
             simp only [Option.some.injEq] at h
             subst h
             simp only [Bool.and_eq_true,Bool.not_eq_true'] at hok
             obtain ⟨ti,hT,hk1,hk2⟩:=okSize_iff hok.1
             obtain ⟨hfit,b,cells,T',hpos,hb,hB⟩:=r.objs k s' _ hlk'
             obtain ⟨g1,g2,g3⟩:=vget_rep hfit hat hget hB
             have hofd:d = o1:=by simp only [Obj.off,hat,Option.map_some,Option.some.injEq] at hoff;exact hoff.symm
             subst hofd
             have had':vaddr (pos k) = some ad:=had
             rw [hpos] at had'
             simp only [vaddr,Option.some.injEq] at had'
             subst had'
             obtain ⟨v,hv1,hv2⟩:=run_load_val (o:=d) hΓ hT g3 hk1 hk2 hok.2 hb g1 (List.take_prefix _ _)
             exact ⟨_,v,hval,by simpa using hv1,rfl,hv2⟩
           · simp at h
     · simp at h
   | vec e' xs =>
     simp only at h
     split at h
     · rename_i hs
       obtain ⟨d,ad,hoff,had,hval⟩:=hval hs
       cases p with
       | nil=>simp at h
       | cons i p =>
         simp only at h
         cases hat:Ty.at p e' with
         | none=>simp [Obj.off,hat] at hoff
         | some q =>
           obtain ⟨o1,t⟩:=q
           cases hget:Ty.get p e' (xs.getD i e'.zero) with
           | none=>rw [Ty.tyAt_of _ _ _ _ hat,hget] at h;simp at h
           | some q2 =>
             rw [Ty.tyAt_of _ _ _ _ hat,hget] at h
             simp only at h
             split at h
             · rename_i hok
               split at h
               · rename_i hi
                 simp only [Option.some.injEq] at h
                 subst h
                 simp only [Bool.and_eq_true,decide_eq_true_eq] at hok
                 obtain ⟨ti,hT,hk1,hk2⟩:=okSize_iff hok.1
                 have hR:=r.objs k s' _ hlk'
                 simp only [RepO] at hR
                 rcases hR with ⟨_,hxs⟩ | ⟨b,off,cap,cells,T',hpos,hb,hc1,hc2,hc3,cs,hall,hpre⟩
                 · subst hxs;simp at hi
                 · obtain ⟨k1,k2⟩:=getD_rep hall hi
                   obtain ⟨m1,m2,m3⟩:=get_rep p e' _ q2 o1 t hget hat _ k1
                   have hofd:d = i * e'.size + o1:=by simp only [Obj.off,hat,Option.map_some,Option.some.injEq] at hoff;exact hoff.symm
                   subst hofd
                   have had':vaddr (pos k) = some ad:=had
                   rw [hpos] at had'
                   simp only [vaddr,Option.some.injEq] at had'
                   subst had'
                   have hl:((cs.drop (i * e'.size)).take e'.size).length = e'.size:=by simp;omega
                   rw [hl] at m3
                   rw [List.drop_take,List.drop_drop,List.take_take,Nat.min_eq_left (by omega)] at m2
                   have hseg:((cs.drop (i * e'.size + o1)).take q2.1.size) <+: cells.toList.drop (off + (i * e'.size + o1)):=by
                     obtain ⟨tl,ht⟩:=hpre
                     rw [show cells.toList.drop (off + (i * e'.size + o1)) = (cells.toList.drop off).drop (i * e'.size + o1) from by rw [List.drop_drop],← ht,List.drop_append_of_le_length (by omega)]
                     exact (List.take_prefix _ _).trans (List.prefix_append _ _)
                   obtain ⟨v,hv1,hv2⟩:=run_load_val (A:=cx.e Fz w lk pos) (u:=.dat q2.1 q2.2) (k:=.d t) (o:=off + (i * e'.size + o1)) hΓ hT (by simp [V.fits,V.fitsF,hok.2]) hk1 hk2 rfl hb m2 hseg
                   exact ⟨_,v,hval,hv1,rfl,hv2⟩
               · simp at h
             · simp at h
     · simp at h
   | grid e' ids rows =>
     simp only at h
     split at h
     · rename_i hs
       subst hs
       have hat:=hval rfl
       have hpos':(cx.e Fz w lk pos).pos k = pos k:=rfl
       rw [hpos'] at hat
       obtain ⟨hs,hpos,G⟩:=r.objs k s _ hlk'
       rw [hpos] at hat
       unfold evLoadRow at h
       split at h
       · rename_i j
         cases ids with | keys kk es=>simp at h | ids ids =>
         simp only at h
         split at h
         · rename_i hok
           obtain ⟨ti,hT,hk1,hk2⟩:=okSize_iff hok
           cases hid:idAt ids rows j with
           | none=>rw [hid] at h;simp at h
           | some i =>
             rw [hid] at h
             simp only [Option.bind_some,Option.some.injEq] at h
             subst h
             obtain ⟨_,hat⟩:=hat 0 j rfl
             obtain ⟨h0,ad,g1,g2,g3⟩:=hat trivial
             unfold idAt at hid
             split at hid
             · rename_i i' hi'
               split at hid
               · rename_i xs hrow
                 simp only [Option.some.injEq] at hid
                 subst hid
                 have hri:rows[i']? = some (some xs):=by
                   unfold rowOf at hrow
                   split at hrow
                   · rename_i ys hy;rw [hy];simpa using hrow
                   · cases hrow
                 have hil:i' < rows.length:=(List.getElem?_eq_some_iff.1 hri).1
                 obtain ⟨hh,hhe⟩:∃ hh,hs[i' + 1]? = some hh:=⟨hs[i' + 1]'(by have:=G.size;omega),by simp [G.size,hil]⟩
                 rcases G.out h0 g1 with ⟨_,hids⟩ | ⟨b,off,cap,cells,T',hx,hbk,_,_,_,_,hcell⟩
                 · subst hids;simp at hi'
                 · rw [hx] at g2
                   simp only [vaddr,Option.some.injEq] at g2
                   subst g2
                   have hc:=hcell j i' xs hh hi' hri hhe
                   have hone:hh.oneCell' = true:=by
                     rcases G.row i' xs hh hri hhe with ⟨rfl,_⟩ | ⟨_,_,_,_,_,rfl,_⟩ <;> rfl
                   have hB:RepB (cx.e Fz w lk pos) (.row e' k s (i' + 1)) [hh]:=⟨hh,rfl,hone,hone,s,_,hlk,Nat.le_refl _,fun _=>⟨rfl,by rw [hpos',hpos];show (hs[i' + 1]?).isSome = true;rw [hhe];rfl,fun _=>by rw [hpos',hpos];exact hhe⟩⟩
                   have hpre:[hh] <+: cells.toList.drop (off + j):=by
                     have:cells.toList[off + j]? = some hh:=by simpa using hc
                     rw [List.drop_eq_getElem_cons (List.getElem?_eq_some_iff.1 this).1,(List.getElem?_eq_some_iff.1 this).2]
                     exact ⟨_,rfl⟩
                   obtain ⟨v,hv1,hv2⟩:=run_load_val (A:=cx.e Fz w lk pos) (u:=.row e' k s (i' + 1)) (k:=.d (.lst e')) hΓ hT (by simp [V.fits,V.fitsF]) hk1 hk2 rfl hbk hB hpre
                   exact ⟨_,v,g3,by simpa using hv1,rfl,hv2⟩
               · cases hid
             · cases hid
         · simp at h
       · rename_i i j
         split at h
         · rename_i hok
           obtain ⟨ti,hT,hk1,hk2⟩:=okSize_iff hok
           cases hrow:rowOf rows i with
           | none=>rw [hrow] at h;simp at h
           | some xs =>
             rw [hrow] at h
             simp only [Option.bind_some] at h
             split at h
             · rename_i hj
               simp only [Option.some.injEq] at h
               subst h
               have hri:rows[i]? = some (some xs):=by
                 unfold rowOf at hrow
                 split at hrow
                 · rename_i ys hy;rw [hy];simpa using hrow
                 · cases hrow
               obtain ⟨_,hat⟩:=hat (i + 1) j rfl
               obtain ⟨h0,ad,g1,g2,g3⟩:=hat ⟨xs,hri⟩
               rcases G.row i xs h0 hri g1 with ⟨_,hxs⟩ | ⟨b,off,cap,cells,T',hx,hbk,hc1,hc2,hc3,cs,hall,hpre⟩
               · subst hxs;simp at hj
               · rw [hx] at g2
                 simp only [vaddr,Option.some.injEq] at g2
                 subst g2
                 obtain ⟨k1,k2⟩:=getD_rep hall hj
                 have hseg:((cs.drop (j * e'.size)).take e'.size) <+: cells.toList.drop (off + j * e'.size):=by
                   obtain ⟨tl,ht⟩:=hpre
                   rw [show cells.toList.drop (off + j * e'.size) = (cells.toList.drop off).drop (j * e'.size) from by rw [List.drop_drop],← ht,List.drop_append_of_le_length (by omega)]
                   exact (List.take_prefix _ _).trans (List.prefix_append _ _)
                 obtain ⟨v,hv1,hv2⟩:=run_load_val (A:=cx.e Fz w lk pos) (u:=.dat e' (xs.getD j e'.zero)) (k:=.d e') hΓ hT (by simp [V.fits,V.fitsF]) hk1 hk2 rfl hbk k1 hseg
                 exact ⟨_,v,g3,by simpa using hv1,rfl,hv2⟩
             · simp at h
         · simp at h
       · simp at h
     · simp at h
   | _=>simp at h
theorem Done.load {o:Oper} {T:TypeId} {x:Operand} (ho:o.op = .load T x) (hΓ:CfgOk P Γ) (hP:cx.P = P) (r:RelIn cx tm lk a w Fz pos U) (hg:cx.G = Γ.glob) {e:Eff}
   (h:evLoad Γ lk T (Γ.val tm x) some = some e):Done P o a w fun a' w'=>∃ Fz' pos' U',RelIn cx (updTm tm cx.nt o.dst e.val) (updLk e.wr lk) a' w' Fz' pos' U':=by
 obtain ⟨ad,u,h1,h2,h3,h4⟩:=load_rep hΓ hP r hg h
 rw [h3]
 refine Done.value r (u:=u) ?_ h4
 unfold execOp
 simp [ho,h1,h2]
end Go.Pv
