/- The purifying layer, part 9: operations that give a value and leave memory alone. -/
import Derived.Test.YtlebcefahlienaaPvH
set_option linter.unusedVariables false
set_option linter.unusedSimpArgs false
namespace Go.Pv
variable {P:Program} {Γ:Cfg} {cx:Cx} {tm:Tm} {lk:Lk} {a:Act} {w:World} {Fz:Nat→Prop} {pos:Nat→Value} {U:Nat→Prop}
abbrev Ok (P:Program) (cx:Cx) (tm:Tm) (lk:Lk) (o:Oper) (a:Act) (w:World) (e:Eff):Prop :=
 Done P o a w fun a' w'=>∃ Fz' pos' U',RelIn cx (updTm tm cx.nt o.dst e.val) (updLk e.wr lk) a' w' Fz' pos' U'
theorem Ok.value {o:Oper} {e:Eff} {v:V} {u:Value} (r:RelIn cx tm lk a w Fz pos U) (he:e = { val:=v }) (hrun:(execOp a.eval o).run P w = .ok (.value u) w) (h:RepT (cx.e Fz w lk pos) v u):Ok P cx tm lk o a w e:=by
 subst he;exact Done.value r hrun h
theorem repInt {A:E} {k:IntKind} {x:Int} {u:Value} (h:RepT A (.dat (.int k) x) u):u = .int k x:=by
 obtain ⟨cs,hc,hu⟩:=h
 have:cs = [.int k x]:=hc
 subst this;exact hu
theorem repBool {A:E} {x:Bool} {u:Value} (h:RepT A (.dat .bool x) u):u = .bool x:=by
 obtain ⟨cs,hc,hu⟩:=h
 have:cs = [.bool x]:=hc
 subst this;exact hu
theorem repStr {A:E} {x:List UInt8} {u:Value} (h:RepT A (.dat .str x) u):u = .string ⟨x.toArray⟩:=by
 obtain ⟨cs,hc,hu⟩:=h
 have:cs = [.string ⟨x.toArray⟩]:=hc
 subst this;exact hu
theorem mkInt (A:E) (k:IntKind) (x:Int):RepT A (.dat (.int k) x) (.int k x):=⟨[.int k x],rfl,rfl⟩
theorem mkBool (A:E) (x:Bool):RepT A (.dat .bool x) (.bool x):=⟨[.bool x],rfl,rfl⟩
theorem mkStr (A:E) (x:List UInt8):RepT A (.dat .str x) (.string ⟨x.toArray⟩):=⟨[.string ⟨x.toArray⟩],rfl,rfl⟩
theorem repEptr {A:E} {t:Ty} {x:t.T} {u:Value} (h:RepT A (.eptr (.dat t x)) u):∃ b off c T fz cells,u = .pointer (some ⟨b,off,none⟩)∧A.Fz b∧A.w.heap[b]? = some (.cells c T fz)∧RepC A.Fz A.w t x cells∧cells <+: c.toList.drop off:=h
theorem ok_move {o:Oper} {x:Operand} (ho:o.op = .move x ∨ o.op = .assign x) (r:RelIn cx tm lk a w Fz pos U) (hg:cx.G = Γ.glob):Ok P cx tm lk o a w { val:=Γ.val tm x }:=by
 refine Ok.value r rfl ?_ (val_rep r hg x)
 unfold execOp
 rcases ho with ho | ho <;> simp [ho]
theorem ok_pick {o:Oper} {c x y:Operand} (ho:o.op = .pick c x y) (r:RelIn cx tm lk a w Fz pos U) (hg:cx.G = Γ.glob) {t:Bool} (hc:Γ.val tm c = .dat .bool t) {e:Eff}
   (he:(bif t then some ({ val:=Γ.val tm x }:Eff) else some { val:=Γ.val tm y }) = some e):Ok P cx tm lk o a w e:=by
 have hv:=val_rep r hg c
 rw [hc] at hv
 have hv:=repBool hv
 cases t with
 | true =>
   simp only [cond_true,Option.some.injEq] at he
   refine Ok.value r he.symm (u:=a.eval x) ?_ (val_rep r hg x)
   unfold execOp;simp [ho,hv,asBool]
 | false =>
   simp only [cond_false,Option.some.injEq] at he
   refine Ok.value r he.symm (u:=a.eval y) ?_ (val_rep r hg y)
   unfold execOp;simp [ho,hv,asBool]
theorem ok_nilCheck {o:Oper} {x:Operand} (ho:o.op = .nilCheck x) (r:RelIn cx tm lk a w Fz pos U) (hg:cx.G = Γ.glob) (hv:∃ b,a.eval x = .pointer (some b) ∨ ∃ f fi c,a.eval x = .func (.func f) fi c) :
   Ok P cx tm lk o a w { val:=Γ.val tm x }:=by
 refine Ok.value r rfl (u:=a.eval x) ?_ (val_rep r hg x)
 unfold execOp
 obtain ⟨b,h | ⟨f,fi,c,h⟩⟩:=hv <;> simp [ho,h]
theorem ok_makeFunc {o:Oper} {f:FuncId} {caps:Array Operand} (ho:o.op = .makeFunc (.func f) #[] caps) (r:RelIn cx tm lk a w Fz pos U) (hg:cx.G = Γ.glob)
   (hc:∀ x ∈ caps.toList,∀ u,RepT (cx.e Fz w lk pos) (Γ.val tm x) u→RepA (cx.e Fz w lk pos) (Γ.val tm x) u):Ok P cx tm lk o a w { val:=.fn f (caps.toList.map (Γ.val tm)) }:=by
 refine Ok.value r rfl (u:=.func (.func f) #[] (caps.map a.eval)) ?_ ?_
 · unfold execOp;simp [ho,Instr.makeFunc]
 · refine ⟨caps.toList.map a.eval,by congr 1;apply Array.ext';simp,?_⟩
   have:∀ l:List Operand,(∀ x ∈ l,x ∈ caps.toList)→Pt (RepA (cx.e Fz w lk pos)) (l.map (Γ.val tm)) (l.map a.eval):=by
     intro l
     induction l with
     | nil=>intro _;rfl
     | cons x l ih=>intro hm;exact ⟨a.eval x,l.map a.eval,rfl,hc x (hm x (by simp)) _ (val_rep r hg x),ih fun y hy=>hm y (by simp [hy])⟩
   exact this _ fun _ h=>h
theorem ok_extract {o:Oper} {x:Operand} {i:Nat} (ho:o.op = .extract x i) (r:RelIn cx tm lk a w Fz pos U) (hg:cx.G = Γ.glob) {vs:List V} (hv:Γ.val tm x = .tup vs) {v:V} (hi:vs[i]? = some v):Ok P cx tm lk o a w { val:=v }:=by
 have hx:=val_rep r hg x
 rw [hv] at hx
 obtain ⟨us,hu,hp⟩:=hx
 obtain ⟨u,h1,h2⟩:=Pt.get _ _ hp i v hi
 refine Ok.value r rfl (u:=u) ?_ ?_
 · unfold execOp;simp [ho,hu,Instr.extract,h1]
 · cases v <;> first | exact h2 | (simp only [RepG,RepL,RepA] at h2)
theorem run_bin_int (op:BinOp) (T:TypeId) (k:IntKind) (x y:Int) (w:World) {e:Eff} {A:E} (he:evInt op k x y some = some e) :
   ∃ u v,e = { val:=v }∧(binOp op T (.int k x) (.int k y)).run P w = .ok u w∧RepT A v u:=by
 unfold evInt at he
 cases op
 case add =>
   simp only [Option.some.injEq] at he;subst he
   refine ⟨_,_,rfl,?_,mkInt A k _⟩
   simp [binOp,Op.intArith]
 case sub =>
   simp only [Option.some.injEq] at he;subst he
   refine ⟨_,_,rfl,?_,mkInt A k _⟩
   simp [binOp,Op.intArith]
 case mul =>
   simp only [Option.some.injEq] at he;subst he
   refine ⟨_,_,rfl,?_,mkInt A k _⟩
   simp [binOp,Op.intArith]
 case quo =>
   simp only at he
   split at he
   · simp at he
   · rename_i hne
     simp only [Option.some.injEq] at he;subst he
     refine ⟨_,_,rfl,?_,mkInt A k _⟩
     simp [binOp,Op.intDiv,hne]
 case rem =>
   simp only at he
   split at he
   · simp at he
   · rename_i hne
     simp only [Option.some.injEq] at he;subst he
     refine ⟨_,_,rfl,?_,mkInt A k _⟩
     simp [binOp,Op.intDiv,hne]
 case eql =>
   simp only [Option.some.injEq] at he;subst he
   refine ⟨_,_,rfl,?_,mkBool A _⟩
   simp [binOp,Op.intCmp,BEq.beq]
 case neq =>
   simp only [Option.some.injEq] at he;subst he
   refine ⟨_,_,rfl,?_,mkBool A _⟩
   simp [binOp,Op.intCmp,bne,BEq.beq]
 case lss =>
   simp only [Option.some.injEq] at he;subst he
   refine ⟨_,_,rfl,?_,mkBool A _⟩
   simp [binOp,Op.intCmp]
 case leq =>
   simp only [Option.some.injEq] at he;subst he
   refine ⟨_,_,rfl,?_,mkBool A _⟩
   simp [binOp,Op.intCmp]
 case gtr =>
   simp only [Option.some.injEq] at he;subst he
   refine ⟨_,_,rfl,?_,mkBool A _⟩
   simp [binOp,Op.intCmp]
 case geq =>
   simp only [Option.some.injEq] at he;subst he
   refine ⟨_,_,rfl,?_,mkBool A _⟩
   simp [binOp,Op.intCmp]
 case and =>
   simp only [Option.some.injEq] at he;subst he
   refine ⟨_,_,rfl,?_,mkInt A k _⟩
   simp [binOp,Op.intBits,iand,stick_eq]
 case or =>
   simp only [Option.some.injEq] at he;subst he
   refine ⟨_,_,rfl,?_,mkInt A k _⟩
   simp [binOp,Op.intBits,ior]
 case xor =>
   simp only [Option.some.injEq] at he;subst he
   refine ⟨_,_,rfl,?_,mkInt A k _⟩
   simp [binOp,Op.intBits,ixor]
 case andNot =>
   simp only [Option.some.injEq] at he;subst he
   refine ⟨_,_,rfl,?_,mkInt A k _⟩
   simp [binOp,Op.intBits,iandNot]
 all_goals simp at he
theorem ok_bin_int {o:Oper} {op:BinOp} {T T':TypeId} {x y:Operand} (ho:o.op = .binOp op T x y T') (r:RelIn cx tm lk a w Fz pos U) (hg:cx.G = Γ.glob) {k:IntKind} {m n:Int}
   (hx:Γ.val tm x = .dat (.int k) m) (hy:Γ.val tm y = .dat (.int k) n) {e:Eff} (he:evInt op k m n some = some e):Ok P cx tm lk o a w e:=by
 have h1:=val_rep r hg x
 have h2:=val_rep r hg y
 rw [hx] at h1;rw [hy] at h2
 have h1:=repInt h1
 have h2:=repInt h2
 obtain ⟨u,v,h3,h4,h5⟩:=run_bin_int (P:=P) (A:=cx.e Fz w lk pos) op T k m n w he
 refine Ok.value r h3 (u:=u) ?_ h5
 have hg:(eqGuard op T x y (.int k m) (.int k n)).run P w = .ok () w:=by unfold eqGuard;split <;> rfl
 unfold execOp
 simp [ho,h1,h2,hg,h4]
theorem ok_un {o:Oper} {op:UnOp} {T:TypeId} {x:Operand} (ho:o.op = .unOp op T x) (r:RelIn cx tm lk a w Fz pos U) (hg:cx.G = Γ.glob) {e:Eff} (he:evUn op (Γ.val tm x) some = some e):Ok P cx tm lk o a w e:=by
 have h1:=val_rep r hg x
 unfold evUn at he
 split at he
 · rename_i b hv
   simp only [Option.some.injEq] at he
   rw [hv] at h1
   have h1:=repBool h1
   refine Ok.value r he.symm (u:=.bool !b) ?_ (mkBool _ _)
   unfold execOp;simp [ho,h1,Op.unary]
 · rename_i k n hv
   simp only [Option.some.injEq] at he
   rw [hv] at h1
   have h1:=repInt h1
   refine Ok.value r he.symm (u:=.int k (k.wrap (ineg n))) ?_ (mkInt _ _ _)
   unfold execOp;simp [ho,h1,Op.unary,Op.intArith]
 · rename_i k n hv
   simp only [Option.some.injEq] at he
   rw [hv] at h1
   have h1:=repInt h1
   refine Ok.value r he.symm (u:=.int k (ixor k (if k.signed then -1 else k.max) n)) ?_ (mkInt _ _ _)
   unfold execOp;simp [ho,h1,Op.unary,Op.intBits,ixor]
 · simp at he
theorem add_addr (b off n:Nat):(⟨b,off,none⟩:Addr).add n = ⟨b,off + n,none⟩:=Addr.add_mid b off n
theorem struct_desc (hΓ:CfgOk P Γ) {T:TypeId} {fs:List TypeId} {sh:K} {by_:Nat} (hT:Γ.ty T = some ⟨.struct fs,sh,by_⟩) :
   ∃ fields,P.underlying T = some (.struct fields)∧sh.isAgg = true∧fields.size = sh.fields.length∧(∀ t,sh = .d t→t.isChain = true)∧∀ j o ft,ffield sh.fields j = some (o,ft)→∃ f,fields[j]? = some f∧FieldOk P f o ft :=
 (hΓ.ty T _ hT).desc
theorem run_fieldAt {T:TypeId} {fields:Array Field} {j:Nat} {f:Field} {o:Nat} {ft:Option Ty} (hu:P.underlying T = some (.struct fields)) (hf:fields[j]? = some f) (hok:FieldOk P f o ft) (hsz:fsize ft ≠ 0)
   (b off:Nat) (w:World):(Instr.fieldAt T (.pointer (some ⟨b,off,none⟩)) j).run P w = .ok (.pointer (some ⟨b,off + o,none⟩)) w:=by
 obtain ⟨i,hi,his⟩:=hok.info
 have hs:(sizeOf f.type).run P w = .ok (fsize ft) w:=by simp [sizeOf,typeInfo,hi,his]
 simp [Instr.fieldAt,run_underlying hu,hf,Instr.sureAddr,fieldPlace,hs,hsz,add_addr,hok.off]
theorem K_at_field {sh:K} {j o:Nat} {kj:K} (h:K.at [j] sh = some (o,kj)) (ha:sh.isAgg = true) (hc:∀ t,sh = .d t→t.isChain = true):∃ ft,ffield sh.fields j = some (o,ft)∧kj = kOf ft:=by
 cases sh with
 | leaf=>simp [K.isAgg] at ha
 | d t =>
   have hch:=hc t rfl
   cases t with
   | pair x y =>
     simp only [K.at,Ty.at] at h
     cases hff:(Ty.pair x y).fieldAt j with
     | none=>rw [hff] at h;simp at h
     | some q =>
       obtain ⟨o1,t1⟩:=q
       rw [hff] at h
       simp only [Ty.at,Option.map_some,Option.some.injEq,Prod.mk.injEq,Nat.add_zero] at h
       obtain ⟨rfl,rfl⟩:=h
       exact ⟨some t1,fieldAt_ffield _ j o1 t1 hff,rfl⟩
   | _=>simp [Ty.isChain] at hch <;> simp [K.at,Ty.at] at h
 | st ks =>
   simp only [K.at] at h
   cases hff:ffield ks j with
   | none=>rw [hff] at h;simp at h
   | some q =>
     obtain ⟨o1,ft⟩:=q
     rw [hff] at h
     cases ft with
     | none =>
       simp only [if_true,Option.some.injEq,Prod.mk.injEq] at h
       obtain ⟨rfl,rfl⟩:=h
       exact ⟨none,hff,rfl⟩
     | some t1 =>
       simp only [Ty.at,Option.map_some,Option.some.injEq,Prod.mk.injEq,Nat.add_zero] at h
       obtain ⟨rfl,rfl⟩:=h
       exact ⟨some t1,hff,rfl⟩
theorem Ty_at_append:∀ (p q:List Nat) (t:Ty) (o1:Nat) (u:Ty),Ty.at p t = some (o1,u)→Ty.at (p ++ q) t = (Ty.at q u).map fun r=>(o1 + r.1,r.2)
 | [],q,t,o1,u,h=>by
   simp only [Ty.at,Option.some.injEq,Prod.mk.injEq] at h
   obtain ⟨rfl,rfl⟩:=h
   cases hq:Ty.at q t <;> simp [hq]
 | j :: p,q,.pair x y,o1,u,h=>by
   simp only [Ty.at] at h
   simp only [List.cons_append,Ty.at]
   cases hff:(Ty.pair x y).fieldAt j with
   | none=>rw [hff] at h;simp at h
   | some z =>
     rw [hff] at h
     simp only [Option.map_eq_some_iff] at h
     obtain ⟨⟨o2,u2⟩,g1,g2⟩:=h
     simp only [Prod.mk.injEq] at g2
     obtain ⟨rfl,rfl⟩:=g2
     simp only [Ty_at_append p q z.2 o2 u2 g1,Option.map_map]
     cases Ty.at q u2 <;> simp [Nat.add_assoc]
 | j :: p,q,.arr n e,o1,u,h=>by
   simp only [Ty.at] at h
   simp only [List.cons_append,Ty.at]
   by_cases hj:j < n
   · simp only [hj,if_true,Option.map_eq_some_iff] at h ⊢
     obtain ⟨⟨o2,u2⟩,g1,g2⟩:=h
     simp only [Prod.mk.injEq] at g2
     obtain ⟨rfl,rfl⟩:=g2
     simp only [Ty_at_append p q e o2 u2 g1,Option.map_map]
     cases Ty.at q u2 <;> simp [Nat.add_assoc]
   · simp [hj] at h
 | j :: p,q,.int _,o1,u,h=>by simp [Ty.at] at h
 | j :: p,q,.bool,o1,u,h=>by simp [Ty.at] at h
 | j :: p,q,.str,o1,u,h=>by simp [Ty.at] at h
 | j :: p,q,.unit,o1,u,h=>by simp [Ty.at] at h
 | j :: p,q,.lst _,o1,u,h=>by simp [Ty.at] at h
 | j :: p,q,.map _ _,o1,u,h=>by simp [Ty.at] at h
theorem K_at_append (p q:List Nat) (sh:K) (o1:Nat) (k:K) (h:K.at p sh = some (o1,k)):K.at (p ++ q) sh = (K.at q k).map fun r=>(o1 + r.1,r.2):=by
 cases sh with
 | d t =>
   simp only [K.at,Option.map_eq_some_iff] at h ⊢
   obtain ⟨⟨o2,u2⟩,g1,g2⟩:=h
   simp only [Prod.mk.injEq] at g2
   obtain ⟨rfl,rfl⟩:=g2
   simp only [Ty_at_append p q t o2 u2 g1,K.at,Option.map_map]
   cases Ty.at q u2 <;> simp
 | leaf=>cases p with
   | nil =>
     simp only [K.at,Option.some.injEq,Prod.mk.injEq] at h
     obtain ⟨rfl,rfl⟩:=h
     cases hq:K.at q .leaf <;> simp [hq]
   | cons j p=>simp [K.at] at h
 | st ks=>cases p with
   | nil =>
     simp only [K.at,Option.some.injEq,Prod.mk.injEq] at h
     obtain ⟨rfl,rfl⟩:=h
     cases hq:K.at q (.st ks) <;> simp [hq]
   | cons j p =>
     simp only [K.at] at h
     simp only [List.cons_append,K.at]
     cases hff:ffield ks j with
     | none=>rw [hff] at h;simp at h
     | some z =>
       obtain ⟨o2,ft⟩:=z
       rw [hff] at h
       cases ft with
       | none =>
         simp only at h
         split at h
         · rename_i hp
           subst hp
           simp only [Option.some.injEq,Prod.mk.injEq] at h
           obtain ⟨rfl,rfl⟩:=h
           cases q <;> simp [K.at]
         · simp at h
       | some t1 =>
         simp only [Option.map_eq_some_iff] at h
         obtain ⟨⟨o3,u3⟩,g1,g2⟩:=h
         simp only [Prod.mk.injEq] at g2
         obtain ⟨rfl,rfl⟩:=g2
         simp only [Ty_at_append p q t1 o3 u3 g1,K.at,Option.map_map]
         cases Ty.at q u3 <;> simp [Nat.add_assoc]
theorem ok_fieldAddr {o:Oper} {T:TypeId} {x:Operand} {j:Nat} (ho:o.op = .fieldAddr T x j) (hΓ:CfgOk P Γ) (r:RelIn cx tm lk a w Fz pos U) (hg:cx.G = Γ.glob) {e:Eff}
   (he:evFieldAddr Γ lk T (Γ.val tm x) j some = some e):Ok P cx tm lk o a w e:=by
 have hv:=val_rep r hg x
 have hrun:∀ u,(Instr.fieldAt T (a.eval x) j).run P w = .ok u w→(execOp a.eval o).run P w = .ok (.value u) w:=by
   intro u hu;unfold execOp;simp [ho,hu]
 unfold evFieldAddr at he
 cases hT:Γ.ty T with
 | none=>rw [hT] at he;simp at he
 | some ti =>
   obtain ⟨d,sh,by_⟩:=ti
   rw [hT] at he
   cases d <;> simp only at he <;> try (simp at he;done)
   rename_i fs
   obtain ⟨fields,hu,hagg,_,hchain,hfld⟩:=struct_desc hΓ hT
   cases hat:K.at [j] sh with
   | none=>rw [hat] at he;simp at he
   | some q =>
     obtain ⟨o1,kj⟩:=q
     rw [hat] at he
     simp only at he
     obtain ⟨ft,hff,rfl⟩:=K_at_field hat hagg hchain
     obtain ⟨f,hf,hok⟩:=hfld j o1 ft hff
     have hks:(kOf ft).size = fsize ft:=by cases ft <;> rfl
     split at he
     · simp at he
     · rename_i hsz
       rw [hks] at hsz
       generalize Γ.val tm x = vx at he hv
       cases vx <;> (try simp only at he) <;> try (simp at he;done)
       case eptr u =>
         cases u <;> simp only at he <;> try (simp at he;done)
         rename_i t y
         split at he
         · rename_i hsh
           cases hfg:t.fieldGet y j with
           | none=>rw [hfg] at he;simp at he
           | some q =>
             rw [hfg] at he
             simp only [Option.some.injEq] at he
             obtain ⟨b,off,c,T',fz,cells,hval,hb1,hb2,hrep,hpre⟩:=repEptr hv
             obtain ⟨o2,hfa⟩:=fieldGet_at t y j q hfg
             have ho2:o1 = o2:=by
               unfold offIs at hsh
               rw [hfa] at hsh
               exact (Nat.eq_of_beq_eq_true hsh).symm
             subst ho2
             obtain ⟨_,g2,g3⟩:=fieldGet_rep t y j q o1 q.1 hfg hfa cells hrep
             refine Ok.value r he.symm (u:=.pointer (some ⟨b,off + o1,none⟩)) (hrun _ (by rw [hval];exact run_fieldAt hu hf hok hsz b off w)) ?_
             refine ⟨b,off + o1,c,T',fz,_,rfl,hb1,hb2,g2,?_⟩
             obtain ⟨tl,ht⟩:=hpre
             rw [show c.toList.drop (off + o1) = (c.toList.drop off).drop o1 from by rw [List.drop_drop],← ht,List.drop_append_of_le_length (by omega)]
             exact (List.take_prefix _ _).trans (List.prefix_append _ _)
         · simp at he
       case ref k s p =>
         obtain ⟨_,s',ob,hlk,hle,hval⟩:=hv
         have hlk':lk k = some (s',ob):=hlk
         rw [hlk'] at he
         cases ob <;> simp only at he <;> try (simp at he;done)
         case box sh' c =>
           split at he
           · rename_i hs
             cases hat2:K.at p sh' with
             | none =>
               obtain ⟨_,_,hoff,_⟩:=hval hs
               simp [Obj.off,hat2] at hoff
             | some q =>
               obtain ⟨o2,k2⟩:=q
               rw [K.tyAt_of _ _ _ _ hat2] at he
               simp only at he
               split at he
               · rename_i hk2
                 subst hk2
                 simp only [Option.some.injEq] at he
                 obtain ⟨d,ad,hoff,had,hval⟩:=hval hs
                 have hd:d = o2:=by simp only [Obj.off,hat2,Option.map_some,Option.some.injEq] at hoff;exact hoff.symm
                 subst hd
                 refine Ok.value r he.symm (u:=.pointer (some ⟨ad.block,ad.off + d + o1,none⟩)) (hrun _ (by rw [hval];exact run_fieldAt hu hf hok hsz _ _ w)) ?_
                 refine ⟨rfl,s',_,hlk,hle,fun _=>⟨d + o1,ad,?_,had,by rw [Nat.add_assoc]⟩⟩
                 simp only [Obj.off,K_at_append p [j] sh' d k2 hat2,hat,Option.map_some]
               · simp at he
           · simp at he
         case vec e' xs =>
           split at he
           · rename_i hs
             cases p with
             | nil=>simp at he
             | cons i p =>
               try simp only at he
               cases hat2:Ty.at p e' with
               | none =>
                 obtain ⟨_,_,hoff,_⟩:=hval hs
                 simp [Obj.off,hat2] at hoff
               | some q =>
                 obtain ⟨o2,t2⟩:=q
                 rw [Ty.tyAt_of _ _ _ _ hat2] at he
                 try simp only at he
                 split at he
                 · rename_i hk2
                   subst hk2
                   simp only [Option.some.injEq] at he
                   obtain ⟨d,ad,hoff,had,hval⟩:=hval hs
                   have hd:d = i * e'.size + o2:=by simp only [Obj.off,hat2,Option.map_some,Option.some.injEq] at hoff;exact hoff.symm
                   subst hd
                   refine Ok.value r he.symm (u:=.pointer (some ⟨ad.block,ad.off + (i * e'.size + o2) + o1,none⟩)) (hrun _ (by rw [hval];exact run_fieldAt hu hf hok hsz _ _ w)) ?_
                   refine ⟨rfl,s',_,hlk,hle,fun _=>⟨i * e'.size + o2 + o1,ad,?_,had,by rw [Nat.add_assoc]⟩⟩
                   simp only [K.at,Option.map_eq_some_iff] at hat
                   obtain ⟨⟨o3,u3⟩,g1,g2⟩:=hat
                   simp only [Prod.mk.injEq] at g2
                   obtain ⟨rfl,_⟩:=g2
                   show ((Ty.at (p ++ [j]) e').map fun q=>i * e'.size + q.1) = _
                   simp only [Ty_at_append p [j] e' o2 t2 hat2,g1,Option.map_some,Nat.add_assoc]
                 · simp at he
           · simp at he
theorem sizeOf_run {E:TypeId} {e:Ty} (h:Elem P E e) (w:World):(sizeOf E).run P w = .ok e.size w:=by
 obtain ⟨⟨i,hi,his⟩,_⟩:=h
 simp [sizeOf,typeInfo,hi,his]
theorem slice_desc (hΓ:CfgOk P Γ) {T E:TypeId} {e:Ty} {by_:Nat} (hT:Γ.ty T = some ⟨.slice E,.d (.lst e),by_⟩):P.underlying T = some (.slice E)∧Elem P E e:=by
 have:=(hΓ.ty T _ hT).desc
 obtain ⟨h1,h2 | ⟨et,h2,h3⟩⟩:=this
 · cases h2
 · simp only [K.d.injEq,Ty.lst.injEq] at h2
   subst h2;exact ⟨h1,h3⟩
theorem arr_desc (hΓ:CfgOk P Γ) {T E:TypeId} {n m:Nat} {e:Ty} {by_:Nat} (hT:Γ.ty T = some ⟨.arr n E,.d (.arr m e),by_⟩):P.underlying T = some (.array n E)∧n = m∧Elem P E e:=by
 have:=(hΓ.ty T _ hT).desc
 obtain ⟨h1,et,h2,h3⟩:=this
 simp only [K.d.injEq,Ty.arr.injEq] at h2
 obtain ⟨rfl,rfl⟩:=h2
 exact ⟨h1,rfl,h3⟩
theorem rowOf_some {α:Type} {rows:List (Option α)} {i:Nat} {xs:α} (h:rowOf rows i = some xs):rows[i]? = some (some xs):=by
 unfold rowOf at h
 split at h
 · rename_i ys hy
   rw [hy];simpa using h
 · cases h
theorem ok_rowAddr {o:Oper} {T:TypeId} {x i:Operand} (ho:o.op = .indexAddr T x i) (hΓ:CfgOk P Γ) (r:RelIn cx tm lk a w Fz pos U) {e0:Ty} {k s p:Nat} {n:Int} {ik:IntKind} (hin:a.eval i = .int ik n)
   (hv:RepA (cx.e Fz w lk pos) (.row e0 k s p) (a.eval x)) {e:Eff} (he:evRowAddr Γ lk T e0 k s p n some = some e):Ok P cx tm lk o a w e:=by
 have hrun:∀ u,(Instr.indexAt T (a.eval x) (.int ik n)).run P w = .ok u w→(execOp a.eval o).run P w = .ok (.value u) w:=by
   intro u hu;unfold execOp;simp [ho,hin,hu]
 unfold evRowAddr at he
 split at he
 · rename_i s' e'' ids rows E e' by_ hlk hT
   split at he
   · rename_i hc
     obtain ⟨rfl,rfl⟩:=hc
     obtain ⟨_,s2,ob,hlk2,hle,hval⟩:=hv
     have hlk2:lk k = some (s2,ob):=hlk2
     rw [hlk] at hlk2
     simp only [Option.some.injEq,Prod.mk.injEq] at hlk2
     obtain ⟨rfl,rfl⟩:=hlk2
     obtain ⟨_,hsome,hpart⟩:=hval rfl
     have hR:=r.objs k s _ hlk
     obtain ⟨hs,hpos,G⟩:=hR
     have hpos':(cx.e Fz w lk pos).pos k = .tuple hs:=hpos
     rw [hpos'] at hpart hsome
     obtain ⟨hu,hel⟩:=slice_desc hΓ hT
     split at he
     · cases ids with | keys kk es=>simp at he | ids ids =>
       simp only at he
       split at he
       · rename_i heq
         subst heq
         split at he
         · rename_i hb
           simp only [Option.some.injEq] at he
           have h0:hs[0]? = some (a.eval x):=hpart trivial
           rcases G.out _ h0 with ⟨_,hids⟩ | ⟨b,off,cap,cells,T',hx,hbk,_⟩
           · subst hids;simp at hb;omega
           · refine Ok.value r he.symm (u:=.pointer (some ⟨b,off + n.toNat * (Ty.lst e0).size,none⟩)) (hrun _ ?_) ?_
             · rw [hx]
               simp [Instr.indexAt,run_underlying hu,asIntOf,hb,sizeOf_run hel,add_addr]
             · refine ⟨rfl,s,_,hlk,Nat.le_refl _,fun _=>?_⟩
               intro i j hij
               simp only [List.cons.injEq,and_true] at hij
               obtain ⟨rfl,rfl⟩:=hij
               rw [hpos']
               exact ⟨hsome,fun _=>⟨_,⟨b,off,none⟩,h0,by rw [hx];rfl,by simp [Ty.size]⟩⟩
         · simp at he
       · simp at he
     · rename_i i
       split at he
       · rename_i heq
         subst heq
         cases hrow:rowOf rows i with
         | none=>rw [hrow] at he;simp at he
         | some xs =>
           rw [hrow] at he
           simp only [Option.bind_some] at he
           have hri:=rowOf_some hrow
           split at he
           · rename_i hb
             simp only [Option.some.injEq] at he
             have h0:hs[i + 1]? = some (a.eval x):=hpart ⟨xs,hri⟩
             rcases G.row i xs _ hri h0 with ⟨_,hxs⟩ | ⟨b,off,cap,cells,T',hx,hbk,_⟩
             · subst hxs;simp at hb;omega
             · refine Ok.value r he.symm (u:=.pointer (some ⟨b,off + n.toNat * e'.size,none⟩)) (hrun _ ?_) ?_
               · rw [hx]
                 simp [Instr.indexAt,run_underlying hu,asIntOf,hb,sizeOf_run hel,add_addr]
               · refine ⟨rfl,s,_,hlk,Nat.le_refl _,fun _=>?_⟩
                 intro i2 j hij
                 simp only [List.cons.injEq,and_true] at hij
                 obtain ⟨rfl,rfl⟩:=hij
                 rw [hpos']
                 exact ⟨hsome,fun _=>⟨_,⟨b,off,none⟩,h0,by rw [hx];rfl,by simp⟩⟩
           · simp at he
       · simp at he
   · simp at he
 · simp at he
theorem ok_indexAddr {o:Oper} {T:TypeId} {x i:Operand} (ho:o.op = .indexAddr T x i) (hΓ:CfgOk P Γ) (r:RelIn cx tm lk a w Fz pos U) (hg:cx.G = Γ.glob) {e:Eff}
   (he:evIndexAddr Γ lk T (Γ.val tm x) (Γ.val tm i) some = some e):Ok P cx tm lk o a w e:=by
 have hv:=val_rep r hg x
 have hiv:=val_rep r hg i
 unfold evIndexAddr at he
 generalize Γ.val tm i = vi at he hiv
 cases vi <;> simp only at he <;> try (simp at he;done)
 rename_i ti n
 cases ti <;> simp only at he <;> try (simp at he;done)
 rename_i ik
 revert n
 intro (n:Int) he hiv
 have hin:a.eval i = .int ik n:=repInt hiv
 have hrun:∀ u,(Instr.indexAt T (a.eval x) (.int ik n)).run P w = .ok u w→(execOp a.eval o).run P w = .ok (.value u) w:=by
   intro u hu;unfold execOp;simp [ho,hin,hu]
 generalize Γ.val tm x = vx at he hv
 split at he
 · -- a slice that is data
   rename_i et xs E et' by_ hT
   split at he
   · rename_i heq
     subst heq
     split at he
     · rename_i hb
       simp only [Option.some.injEq] at he
       obtain ⟨hu,hel⟩:=slice_desc hΓ hT
       obtain ⟨cs,hc,hval⟩:=hv
       obtain ⟨ad,len,cap,cells,rfl,hlen,hcap,hall,hlies⟩:=hc
       have hvx:a.eval x = .slice ad len cap:=hval
       have hnn:n.toNat < (xs:List et.T).length:=by omega
       rcases hlies with ⟨_,hl0⟩ | ⟨b,off,c,T',fz,rfl,hfz,hbk,hpre⟩
       · exfalso;omega
       · obtain ⟨g1,g2⟩:=getD_rep hall hnn
         refine Ok.value r he.symm (u:=.pointer (some ⟨b,off + n.toNat * et.size,none⟩)) (hrun _ ?_) ?_
         · rw [hvx]
           have:0 ≤ n∧n < (len:Int):=by omega
           simp [Instr.indexAt,run_underlying hu,asIntOf,this,sizeOf_run hel,add_addr]
         · refine ⟨b,off + n.toNat * et.size,c,T',fz,_,rfl,hfz,hbk,g1,?_⟩
           obtain ⟨tl,ht⟩:=hpre
           rw [show c.toList.drop (off + n.toNat * et.size) = (c.toList.drop off).drop (n.toNat * et.size) from by rw [List.drop_drop],← ht,List.drop_append_of_le_length (by omega)]
           exact (List.take_prefix _ _).trans (List.prefix_append _ _)
     · simp at he
   · simp at he
 · -- a slice of one's own
   rename_i et k s E et' by_ hT
   obtain ⟨_,s',ob,hlk,hle,hval⟩:=hv
   have hlk':lk k = some (s',ob):=hlk
   rw [hlk'] at he
   cases ob <;> simp only at he <;> try (simp at he;done)
   rename_i et'' xs
   split at he
   · rename_i heq
     obtain ⟨hs,rfl,rfl⟩:=heq
     split at he
     · rename_i hb
       simp only [Option.some.injEq] at he
       obtain ⟨hu,hel⟩:=slice_desc hΓ hT
       obtain ⟨_,hval⟩:=hval hs
       have hR:=r.objs k s' _ hlk'
       simp only [RepO] at hR
       rcases hR with ⟨_,hxs⟩ | ⟨b,off,cap,cells,T',hpos,hbk,hc1,hc2,hc3,cs,hall,hpre⟩
       · subst hxs;simp at hb;omega
       · have hvx:a.eval x = .slice (some ⟨b,off,none⟩) xs.length cap:=by rw [hval];exact hpos
         refine Ok.value r he.symm (u:=.pointer (some ⟨b,off + n.toNat * et.size,none⟩)) (hrun _ ?_) ?_
         · rw [hvx]
           simp [Instr.indexAt,run_underlying hu,asIntOf,hb,sizeOf_run hel,add_addr]
         · have hp:(cx.e Fz w lk pos).pos k = .slice (some ⟨b,off,none⟩) xs.length cap:=hpos
           exact ⟨rfl,s',_,hlk,hle,fun _=>⟨n.toNat * et.size,⟨b,off,none⟩,by simp [Obj.off,Ty.at],by rw [hp];rfl,rfl⟩⟩
     · simp at he
   · simp at he
 · -- an array that is frozen
   rename_i m et xs m' E m'' et' by_ hT
   split at he
   · rename_i heq
     obtain ⟨rfl,rfl⟩:=heq
     split at he
     · rename_i hb
       simp only [Option.some.injEq] at he
       obtain ⟨hu,_,hel⟩:=arr_desc hΓ hT
       obtain ⟨b,off,c,T',fz,cells,hval,hfz,hbk,hrep,hpre⟩:=repEptr hv
       obtain ⟨hlen,hall⟩:=hrep
       have hnn:n.toNat < (xs:List et.T).length:=by omega
       obtain ⟨g1,g2⟩:=getD_rep hall hnn
       refine Ok.value r he.symm (u:=.pointer (some ⟨b,off + n.toNat * et.size,none⟩)) (hrun _ ?_) ?_
       · rw [hval]
         simp [Instr.indexAt,run_underlying hu,asIntOf,Instr.sureAddr,hb,sizeOf_run hel,add_addr]
       · refine ⟨b,off + n.toNat * et.size,c,T',fz,_,rfl,hfz,hbk,g1,?_⟩
         obtain ⟨tl,ht⟩:=hpre
         rw [show c.toList.drop (off + n.toNat * et.size) = (c.toList.drop off).drop (n.toNat * et.size) from by rw [List.drop_drop],← ht,List.drop_append_of_le_length (by omega)]
         exact (List.take_prefix _ _).trans (List.prefix_append _ _)
     · simp at he
   · simp at he
 · -- an array variable
   rename_i k s p m' E m et by_ hT
   obtain ⟨_,s',ob,hlk,hle,hval⟩:=hv
   have hlk':lk k = some (s',ob):=hlk
   rw [hlk'] at he
   cases ob <;> simp only at he <;> try (simp at he;done)
   case box sh' c =>
     split at he
     · rename_i hs
       cases hat:K.at p sh' with
       | none =>
         obtain ⟨_,_,hoff,_⟩:=hval hs
         simp [Obj.off,hat] at hoff
       | some q =>
         obtain ⟨o1,k2⟩:=q
         rw [K.tyAt_of _ _ _ _ hat] at he
         simp only at he
         split at he
         · rename_i heq
           obtain ⟨rfl,rfl⟩:=heq
           split at he
           · rename_i hb
             simp only [Option.some.injEq] at he
             obtain ⟨hu,_,hel⟩:=arr_desc hΓ hT
             obtain ⟨d,ad,hoff,had,hval⟩:=hval hs
             have hd:d = o1:=by simp only [Obj.off,hat,Option.map_some,Option.some.injEq] at hoff;exact hoff.symm
             subst hd
             refine Ok.value r he.symm (u:=.pointer (some ⟨ad.block,ad.off + d + n.toNat * et.size,none⟩)) (hrun _ ?_) ?_
             · rw [hval]
               simp [Instr.indexAt,run_underlying hu,asIntOf,Instr.sureAddr,hb,sizeOf_run hel,add_addr]
             · refine ⟨rfl,s',_,hlk,hle,fun _=>⟨d + n.toNat * et.size,ad,?_,had,by rw [Nat.add_assoc]⟩⟩
               have hlt:n.toNat < m:=by omega
               simp only [Obj.off]
               rw [K_at_append p [n.toNat] sh' d _ hat]
               simp only [K.at,Ty.at,hlt,if_true,Option.map_some,Nat.add_zero]
           · simp at he
         · simp at he
     · simp at he
   case vec e' xs =>
     split at he
     · rename_i hs
       cases p with
       | nil=>simp at he
       | cons j p =>
         try simp only at he
         cases hat:Ty.at p e' with
         | none =>
           obtain ⟨_,_,hoff,_⟩:=hval hs
           simp [Obj.off,hat] at hoff
         | some q =>
           obtain ⟨o1,t2⟩:=q
           rw [Ty.tyAt_of _ _ _ _ hat] at he
           try simp only at he
           split at he
           · rename_i heq
             obtain ⟨rfl,rfl⟩:=heq
             split at he
             · rename_i hb
               simp only [Option.some.injEq] at he
               obtain ⟨hu,_,hel⟩:=arr_desc hΓ hT
               obtain ⟨d,ad,hoff,had,hval⟩:=hval hs
               have hd:d = j * e'.size + o1:=by simp only [Obj.off,hat,Option.map_some,Option.some.injEq] at hoff;exact hoff.symm
               subst hd
               refine Ok.value r he.symm (u:=.pointer (some ⟨ad.block,ad.off + (j * e'.size + o1) + n.toNat * et.size,none⟩)) (hrun _ ?_) ?_
               · rw [hval]
                 simp [Instr.indexAt,run_underlying hu,asIntOf,Instr.sureAddr,hb,sizeOf_run hel,add_addr]
               · refine ⟨rfl,s',_,hlk,hle,fun _=>⟨j * e'.size + o1 + n.toNat * et.size,ad,?_,had,by rw [Nat.add_assoc]⟩⟩
                 have hlt:n.toNat < m:=by omega
                 show ((Ty.at (p ++ [n.toNat]) e').map fun q=>j * e'.size + q.1) = _
                 simp only [Ty_at_append p [n.toNat] e' o1 _ hat,Ty.at,hlt,if_true,Option.map_some,Nat.add_zero,Nat.add_assoc]
             · simp at he
           · simp at he
     · simp at he
 · exact ok_rowAddr ho hΓ r hin hv he
 · simp at he
end Go.Pv
