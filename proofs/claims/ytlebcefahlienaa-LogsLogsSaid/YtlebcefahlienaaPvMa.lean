/- The purifying layer, part 13a: keys of maps, and equality of structs and arrays. -/
import Derived.Test.YtlebcefahlienaaPvM
import Derived.Laws.StructEq
import Derived.ChangeKeysEq
set_option linter.unusedVariables false
set_option linter.unusedSimpArgs false
namespace Go.Pv
variable {P:Program} {w:World} {Fz:Nat→Prop}
theorem toList_mk (x:List UInt8):(⟨x.toArray⟩:ByteArray).toList = x:=by rw [ByteArray.toList_eq]
theorem sizeB_run {T:TypeId} {n:Nat} (h:sizeB P T n = true):(sizeOf T).run P w = .ok n w∧∃ i,P.info? T = some i∧i.size = n:=by
 unfold sizeB at h
 split at h
 · rename_i i hi
   simp only [decide_eq_true_eq] at h
   exact ⟨by rw [run_sizeOf w hi,Program.cellsOf,hi];simp [h],i,hi,h⟩
 · simp at h
theorem keyB_struct {t:Ty} {T:TypeId} (h:keyB P t (.inl T) = true) (hc:t.isAgg = true) (hn:∀ n e,t ≠ .arr n e) :
   ∃ fs,P.underlying T = some (.struct fs)∧P.stoodInHeld T = false∧keyB P t (.inr (0,fs.toList)) = true:=by
 cases t <;> simp only [Ty.isAgg,Bool.false_eq_true] at hc
 · simp only [keyB] at h
   split at h
   · rename_i fs hu
     simp only [Bool.and_eq_true,Bool.not_eq_true'] at h
     exact ⟨fs,hu,h.1,by simp only [keyB];exact h.2⟩
   · simp at h
 · rename_i a b
   simp only [keyB] at h
   split at h
   · rename_i fs hu
     simp only [Bool.and_eq_true,Bool.not_eq_true'] at h
     obtain ⟨h1,h2⟩:=h
     refine ⟨fs,hu,h1,?_⟩
     cases hf:fs.toList with
     | nil=>rw [hf] at h2;simp at h2
     | cons f r=>rw [hf] at h2;simp only [keyB];exact h2
   · simp at h
 · exact absurd rfl (hn _ _)
theorem key_row {t:Ty} {T:TypeId} (h:keyB P t (.inl T) = true):∃ d,P.underlying T = some d∧d.isRow = t.isAgg:=by
 cases t <;> simp only [keyB] at h <;> try (simp at h;done)
 all_goals
   split at h
   · rename_i hu;exact ⟨_,hu,rfl⟩
   · simp at h
theorem key_field {a b:Ty} {o:Nat} {f:Field} {r:List Field} (h:keyB P (.pair a b) (.inr (o,f :: r)) = true) :
   f.name ≠ "_" ∧ f.offset = o ∧ sizeB P f.type a.size = true ∧ keyB P a (.inl f.type) = true ∧ keyB P b (.inr (o + a.size, r)) = true := by
 simp only [keyB,Bool.and_eq_true,bne_iff_ne,ne_eq,decide_eq_true_eq] at h
 exact ⟨h.1.1.1.1,h.1.1.1.2,h.1.1.2,h.1.2,h.2⟩
theorem pair_split {a b:Ty} {o:Nat} {x:(Ty.pair a b).T} {xs:Array Value} (ho:o ≤ xs.size) (h:RepC Fz w (.pair a b) x (xs.toList.drop o)) :
   o + a.size ≤ xs.size∧RepC Fz w a x.1 ((xs.toList.drop o).take a.size)∧RepC Fz w b x.2 (xs.toList.drop (o + a.size)):=by
 obtain ⟨c1,c2,he,h1,h2⟩:=h
 have hs:=h1.size
 have hl:(xs.toList.drop o).length = c1.length + c2.length:=by rw [he];simp
 simp only [List.length_drop,Array.length_toList] at hl
 refine ⟨by omega,?_,?_⟩
 · rw [he,← hs,List.take_left];exact h1
 · rw [← List.drop_drop,he,← hs,List.drop_left];exact h2
theorem eqItems_run {e:Ty} {d:Nat} {T:TypeId} (hk:keyB P e (.inl T) = true) (hz:sizeB P T e.size = true) (xs ys:Array Value)
   (IH:∀ x y u v,RepD Fz w e x u→RepD Fz w e y v→(Op.equalIn d T u v).run P w = .ok (e.beq x y) w) :
   ∀ (m j:Nat) (xl yl:List e.T),xl.length = m→yl.length = m→j * e.size ≤ xs.size→j * e.size ≤ ys.size→All2 (RepC Fz w e) xl (xs.toList.drop (j * e.size))→All2 (RepC Fz w e) yl (ys.toList.drop (j * e.size)) →
     (Op.eqItems d T e.size xs ys (List.range' j m)).run P w = .ok (Ty.beq.go e.beq xl yl) w
 | 0,j,xl,yl,hx,hy,_,_,_,_=>by
   have:xl = []:=List.length_eq_zero_iff.1 hx
   subst this
   have:yl = []:=List.length_eq_zero_iff.1 hy
   subst this
   simp [Op.eqItems,Ty.beq.go]
 | m + 1,j,x :: xl,y :: yl,hx,hy,hjx,hjy,hax,hay=>by
   obtain ⟨d1,hd1,hrow⟩:=key_row hk
   have key:∀ (zs:Array Value) (z:e.T) (zl:List e.T),j * e.size ≤ zs.size→All2 (RepC Fz w e) (z :: zl) (zs.toList.drop (j * e.size)) →
       ∃ v,(part T zs (j * e.size)).run P w = .ok v w∧RepD Fz w e z v∧(j + 1) * e.size ≤ zs.size∧All2 (RepC Fz w e) zl (zs.toList.drop ((j + 1) * e.size)):=by
     intro zs z zl hj ⟨c1,c2,he,h1,h2⟩
     have hs:=h1.size
     have hl:(zs.toList.drop (j * e.size)).length = c1.length + c2.length:=by rw [he];simp
     simp only [List.length_drop,Array.length_toList] at hl
     have hj1:(j + 1) * e.size = j * e.size + e.size:=by rw [Nat.add_mul,Nat.one_mul]
     obtain ⟨v,hv1,hv2⟩:=pack_part (P:=P) (cs:=zs) (o:=j * e.size) (x:=z) hd1 hrow (sizeB_run hz).1 (by rw [he,← hs,List.take_left];exact h1) (by omega)
     refine ⟨v,hv1,hv2,by omega,?_⟩
     rw [hj1,← List.drop_drop,he,← hs,List.drop_left];exact h2
   obtain ⟨u,hu,hru,hjx',hax'⟩:=key xs x xl hjx hax
   obtain ⟨v,hv,hrv,hjy',hay'⟩:=key ys y yl hjy hay
   have h3:=IH x y u v hru hrv
   rw [List.range'_succ]
   simp only [Op.eqItems,Sem.run_bind,hu,hv,h3,Result.andThen_ok,Ty.beq.go]
   cases hb:e.beq x y with
   | false=>simp
   | true =>
     simp only [Bool.not_true,Bool.false_eq_true,if_false,Bool.true_and]
     exact eqItems_run hk hz xs ys IH m (j + 1) xl yl (by simpa using hx) (by simpa using hy) hjx' hjy' hax' hay'
 | m + 1,j,[],yl,hx,_,_,_,_,_=>by simp at hx
 | m + 1,j,_ :: _,[],_,hy,_,_,_,_=>by simp at hy
theorem key_eq:∀ (t:Ty) (d:Nat),t.nest ≤ d →
   (∀ T x y u v,keyB P t (.inl T) = true→RepD Fz w t x u→RepD Fz w t y v→(Op.equalIn (d + 1) T u v).run P w = .ok (t.beq x y) w) ∧
   (∀ o fs (x y:t.T) (xs ys:Array Value),keyB P t (.inr (o,fs)) = true→o ≤ xs.size→o ≤ ys.size→RepC Fz w t x (xs.toList.drop o)→RepC Fz w t y (ys.toList.drop o) →
     (Op.eqFields d xs ys fs).run P w = .ok (t.beq x y) w)
 | .int k,d,_=>by
   refine ⟨fun T x y u v hk hx hy=>?_,fun o fs x y xs ys hk=>by simp [keyB] at hk⟩
   simp only [keyB] at hk
   split at hk
   · rename_i k' hu
     obtain ⟨cs,h1,rfl⟩:=hx
     obtain ⟨ds,h2,rfl⟩:=hy
     rw [show cs = _ from h1,show ds = _ from h2]
     exact run_equalIn_int w d T k k' x y hu
   · simp at hk
 | .bool,d,_=>by
   refine ⟨fun T x y u v hk hx hy=>?_,fun o fs x y xs ys hk=>by simp [keyB] at hk⟩
   simp only [keyB] at hk
   split at hk
   · rename_i hu
     obtain ⟨cs,h1,rfl⟩:=hx
     obtain ⟨ds,h2,rfl⟩:=hy
     rw [show cs = _ from h1,show ds = _ from h2]
     exact run_equalIn_bool' w d T x y hu
   · simp at hk
 | .str,d,_=>by
   refine ⟨fun T x y u v hk hx hy=>?_,fun o fs x y xs ys hk=>by simp [keyB] at hk⟩
   simp only [keyB] at hk
   split at hk
   · rename_i hu
     obtain ⟨cs,h1,rfl⟩:=hx
     obtain ⟨ds,h2,rfl⟩:=hy
     rw [show cs = _ from h1,show ds = _ from h2]
     have:=run_equalIn_string (P:=P) w d T ⟨(x:List UInt8).toArray⟩ ⟨(y:List UInt8).toArray⟩ hu
     rw [toList_mk,toList_mk] at this
     exact this
   · simp at hk
 | .lst e,d,_=>⟨fun T x y u v hk=>by simp [keyB] at hk,fun o fs x y xs ys hk=>by simp [keyB] at hk⟩
 | .map k v,d,_=>⟨fun T x y u v hk=>by simp [keyB] at hk,fun o fs x y xs ys hk=>by simp [keyB] at hk⟩
 | .unit,d,_=>by
   have h2:∀ o fs (x y:Ty.unit.T) (xs ys:Array Value),keyB P .unit (.inr (o,fs)) = true→(Op.eqFields d xs ys fs).run P w = .ok true w:=by
     intro o fs x y xs ys hk
     simp only [keyB,List.isEmpty_iff] at hk
     subst hk
     simp [Op.eqFields]
   refine ⟨fun T x y u v hk hx hy=>?_,fun o fs x y xs ys hk _ _ _ _=>h2 o fs x y xs ys hk⟩
   obtain ⟨fs,hu,hs,hk2⟩:=keyB_struct hk rfl (by intro n e h;cases h)
   obtain ⟨cs,h3,rfl⟩:=hx
   obtain ⟨ds,h4,rfl⟩:=hy
   simp only [pack,Ty.isAgg,if_true]
   have hf:P.fieldsOf T = fs:=by simp [Program.fieldsOf,hu]
   rw [run_equalIn_agg w d T _ _ (by rw [hf];exact hu) hs,hf]
   exact h2 0 _ () () _ _ hk2
 | .pair a b,d,hd=>by
   simp only [Ty.nest,Nat.max_le] at hd
   obtain ⟨d,rfl⟩:∃ d',d = d' + 1:=⟨d - 1,by omega⟩
   have h2:∀ o fs (x y:(Ty.pair a b).T) (xs ys:Array Value),keyB P (.pair a b) (.inr (o,fs)) = true→o ≤ xs.size→o ≤ ys.size→RepC Fz w (.pair a b) x (xs.toList.drop o)→RepC Fz w (.pair a b) y (ys.toList.drop o) →
       (Op.eqFields (d + 1) xs ys fs).run P w = .ok ((Ty.pair a b).beq x y) w:=by
     intro o fs x y xs ys hk hox hoy hx hy
     cases fs with
     | nil=>simp [keyB] at hk
     | cons f r =>
       obtain ⟨hn,ho,hsz,hka,hkb⟩:=key_field hk
       obtain ⟨x1,x2,x3⟩:=pair_split hox hx
       obtain ⟨y1,y2,y3⟩:=pair_split hoy hy
       obtain ⟨d1,hd1,hrow⟩:=key_row hka
       obtain ⟨u,hu,hru⟩:=pack_part (P:=P) hd1 hrow (sizeB_run hsz).1 x2 x1
       obtain ⟨v,hv,hrv⟩:=pack_part (P:=P) hd1 hrow (sizeB_run hsz).1 y2 y1
       have e1:=(key_eq a d (by omega)).1 f.type x.1 y.1 u v hka hru hrv
       have e2:=(key_eq b (d + 1) (by omega)).2 (o + a.size) r x.2 y.2 xs ys hkb x1 y1 x3 y3
       rw [ho.symm] at hu hv
       simp only [Op.eqFields,hn,ne_eq,not_false_eq_true,if_true,Sem.run_bind,hu,hv,e1,Result.andThen_ok,Ty.beq]
       cases hb:a.beq x.1 y.1 with
       | false=>simp
       | true =>
         simp only [Bool.not_true,Bool.false_eq_true,if_false,Bool.true_and]
         exact e2
   refine ⟨fun T x y u v hk hx hy=>?_,h2⟩
   obtain ⟨fs,hu,hs,hk2⟩:=keyB_struct hk rfl (by intro n e h;cases h)
   obtain ⟨cs,h3,rfl⟩:=hx
   obtain ⟨ds,h4,rfl⟩:=hy
   simp only [pack,Ty.isAgg,if_true]
   have hf:P.fieldsOf T = fs:=by simp [Program.fieldsOf,hu]
   rw [run_equalIn_agg w (d + 1) T _ _ (by rw [hf];exact hu) hs,hf]
   exact h2 0 fs.toList x y cs.toArray ds.toArray hk2 (Nat.zero_le _) (Nat.zero_le _) (by simpa using h3) (by simpa using h4)
 | .arr n e,d,hd=>by
   refine ⟨fun T x y u v hk hx hy=>?_,fun o fs x y xs ys hk=>by simp [keyB] at hk⟩
   simp only [Ty.nest] at hd
   obtain ⟨d,rfl⟩:∃ d',d = d' + 1:=⟨d - 1,by omega⟩
   simp only [keyB] at hk
   split at hk
   · rename_i m E hu
     simp only [Bool.and_eq_true,decide_eq_true_eq] at hk
     obtain ⟨⟨rfl,hz⟩,hke⟩:=hk
     obtain ⟨i,hi,his⟩:=(sizeB_run (w:=w) hz).2
     obtain ⟨cs,h3,rfl⟩:=hx
     obtain ⟨ds,h4,rfl⟩:=hy
     simp only [pack,Ty.isAgg,if_true]
     rw [run_equalIn_array w (d + 1) _ _ hu hi]
     have hcell:P.cellsOf E = e.size:=by rw [Program.cellsOf,hi];simpa using his
     rw [hcell,List.range_eq_range']
     refine eqItems_run hke hz _ _ (fun x y u v hu hv=>(key_eq e d (by omega)).1 E x y u v hke hu hv) m 0 x y h3.1 h4.1 (by simp) (by simp) (by simpa using h3.2) (by simpa using h4.2)
   · simp at hk
theorem key_check (em:Bool):∀ (t:Ty) (d:Nat),t.nest ≤ d →
   (∀ T x u,keyB P t (.inl T) = true→RepD Fz w t x u→(Instr.checkKey em (d + 1) T u).run P w = .ok () w) ∧
   (∀ o fs (x:t.T) (xs:Array Value),keyB P t (.inr (o,fs)) = true→o ≤ xs.size→RepC Fz w t x (xs.toList.drop o) →
     (forIn (m:=Sem) fs PUnit.unit fun f (_:PUnit) =>
       if f.name ≠ "_" then (do
         let v ← part f.type xs f.offset
         Instr.checkKey em d f.type v
         pure (ForInStep.yield PUnit.unit)) else pure (ForInStep.yield PUnit.unit)).run P w = .ok PUnit.unit w)
 | .int k,d,_=>by
   refine ⟨fun T x u hk hx=>?_,fun o fs x xs hk=>by simp [keyB] at hk⟩
   simp only [keyB] at hk
   split at hk
   · rename_i k' hu
     obtain ⟨cs,h1,rfl⟩:=hx
     rw [show cs = _ from h1]
     simp [Instr.checkKey,run_underlying hu,pack,Ty.isAgg]
   · simp at hk
 | .bool,d,_=>by
   refine ⟨fun T x u hk hx=>?_,fun o fs x xs hk=>by simp [keyB] at hk⟩
   simp only [keyB] at hk
   split at hk
   · rename_i hu
     obtain ⟨cs,h1,rfl⟩:=hx
     rw [show cs = _ from h1]
     simp [Instr.checkKey,run_underlying hu,pack,Ty.isAgg]
   · simp at hk
 | .str,d,_=>by
   refine ⟨fun T x u hk hx=>?_,fun o fs x xs hk=>by simp [keyB] at hk⟩
   simp only [keyB] at hk
   split at hk
   · rename_i hu
     obtain ⟨cs,h1,rfl⟩:=hx
     rw [show cs = _ from h1]
     simp [Instr.checkKey,run_underlying hu,pack,Ty.isAgg]
   · simp at hk
 | .lst e,d,_=>⟨fun T x u hk=>by simp [keyB] at hk,fun o fs x xs hk=>by simp [keyB] at hk⟩
 | .map k v,d,_=>⟨fun T x u hk=>by simp [keyB] at hk,fun o fs x xs hk=>by simp [keyB] at hk⟩
 | .unit,d,_=>by
   refine ⟨fun T x u hk hx=>?_,fun o fs x xs hk _ _=>?_⟩
   · obtain ⟨fs,hu,hs,hk2⟩:=keyB_struct hk rfl (by intro n e h;cases h)
     obtain ⟨cs,h3,rfl⟩:=hx
     simp only [keyB,List.isEmpty_iff] at hk2
     have:fs = #[]:=Array.toList_eq_nil_iff.1 hk2
     subst this
     simp [pack,Ty.isAgg,Instr.checkKey,run_underlying hu]
   · simp only [keyB,List.isEmpty_iff] at hk
     subst hk
     simp
 | .pair a b,d,hd=>by
   simp only [Ty.nest,Nat.max_le] at hd
   obtain ⟨d,rfl⟩:∃ d',d = d' + 1:=⟨d - 1,by omega⟩
   have h2:∀ o fs (x:(Ty.pair a b).T) (xs:Array Value),keyB P (.pair a b) (.inr (o,fs)) = true→o ≤ xs.size→RepC Fz w (.pair a b) x (xs.toList.drop o) →
     (forIn (m:=Sem) fs PUnit.unit fun f (_:PUnit) =>
       if f.name ≠ "_" then (do
         let v ← part f.type xs f.offset
         Instr.checkKey em (d + 1) f.type v
         pure (ForInStep.yield PUnit.unit)) else pure (ForInStep.yield PUnit.unit)).run P w = .ok PUnit.unit w:=by
     intro o fs x xs hk hox hx
     cases fs with
     | nil=>simp [keyB] at hk
     | cons f r =>
       obtain ⟨hn,ho,hsz,hka,hkb⟩:=key_field hk
       obtain ⟨x1,x2,x3⟩:=pair_split hox hx
       obtain ⟨d1,hd1,hrow⟩:=key_row hka
       obtain ⟨u,hu,hru⟩:=pack_part (P:=P) hd1 hrow (sizeB_run hsz).1 x2 x1
       have e1:=(key_check em a d (by omega)).1 f.type x.1 u hka hru
       have e2:=(key_check em b (d + 1) (by omega)).2 (o + a.size) r x.2 xs hkb x1 x3
       rw [ho.symm] at hu
       simp only [List.forIn_cons,Sem.run_bind,hn,ne_eq,not_false_eq_true,if_true,hu,e1,Result.andThen_ok,Sem.run_pure]
       exact e2
   refine ⟨fun T x u hk hx=>?_,h2⟩
   obtain ⟨fs,hu,hs,hk2⟩:=keyB_struct hk rfl (by intro n e h;cases h)
   obtain ⟨cs,h3,rfl⟩:=hx
   simp only [pack,Ty.isAgg,if_true]
   rw [Instr.checkKey]
   simp only [Sem.run_bind,run_underlying hu,Result.andThen_ok]
   rw [← Array.forIn_toList]
   have h5:=h2 0 fs.toList x cs.toArray hk2 (Nat.zero_le _) (by simpa using h3)
   rw [h5]
   simp
 | .arr n e,d,hd=>by
   refine ⟨fun T x u hk hx=>?_,fun o fs x xs hk=>by simp [keyB] at hk⟩
   simp only [Ty.nest] at hd
   obtain ⟨d,rfl⟩:∃ d',d = d' + 1:=⟨d - 1,by omega⟩
   simp only [keyB] at hk
   split at hk
   · rename_i m E hu
     simp only [Bool.and_eq_true,decide_eq_true_eq] at hk
     obtain ⟨⟨rfl,hz⟩,hke⟩:=hk
     obtain ⟨i,hi,his⟩:=(sizeB_run (w:=w) hz).2
     obtain ⟨d1,hd1,hrow⟩:=key_row hke
     obtain ⟨cs,h3,rfl⟩:=hx
     simp only [pack,Ty.isAgg,if_true]
     rw [Instr.checkKey]
     simp only [Sem.run_bind,run_underlying hu,Result.andThen_ok]
     simp only [Std.Legacy.Range.forIn_eq_forIn_range',Std.Legacy.Range.size,Nat.sub_zero,Nat.add_one_sub_one,Nat.div_one]
     have hcell:P.cellsOf E = e.size:=by rw [Program.cellsOf,hi];simpa using his
     have gen:∀ (m j:Nat) (xl:List e.T),xl.length = m→j * e.size ≤ cs.toArray.size→All2 (RepC Fz w e) xl (cs.toArray.toList.drop (j * e.size)) →
         (forIn (m:=Sem) (List.range' j m) PUnit.unit fun i (_:PUnit)=>do
           Instr.checkKey em (d + 1) E (← part E cs.toArray (i * (← sizeOf E)))
           pure (ForInStep.yield PUnit.unit)).run P w = .ok PUnit.unit w:=by
       intro m
       induction m with
       | zero=>intro j xl _ _ _;simp
       | succ m ih =>
         intro j xl hxl hj hall
         cases xl with
         | nil=>simp at hxl
         | cons z zl =>
           obtain ⟨c1,c2,he,h1,h2⟩:=hall
           have hs:=h1.size
           have hl:(cs.toArray.toList.drop (j * e.size)).length = c1.length + c2.length:=by rw [he];simp
           simp only [List.length_drop,Array.length_toList,List.size_toArray] at hl hj
           have hj1:(j + 1) * e.size = j * e.size + e.size:=by rw [Nat.add_mul,Nat.one_mul]
           obtain ⟨v,hv1,hv2⟩:=pack_part (P:=P) (cs:=cs.toArray) (o:=j * e.size) (x:=z) hd1 hrow (sizeB_run hz).1 (by rw [he,← hs,List.take_left];exact h1) (by simp only [List.size_toArray];omega)
           have e1:=(key_check em e d (by omega)).1 E z v hke hv2
           rw [List.range'_succ]
           simp only [List.forIn_cons,Sem.run_bind,run_sizeOf w hi,hcell,Result.andThen_ok,hv1,e1,Sem.run_pure]
           exact ih (j + 1) zl (by simpa using hxl) (by simp only [List.size_toArray];omega) (by rw [hj1,← List.drop_drop,he,← hs,List.drop_left];exact h2)
     have h5:=gen m 0 x h3.1 (by simp) (by simpa using h3.2)
     rw [h5]
     simp
   · simp at hk
def simpleV:Value→Prop
 | .int _ _ | .bool _ | .string _=>True
 | _=>False
theorem key_simple:∀ (t:Ty) (q:Sum TypeId (Nat×List Field)) (x:t.T) (cs:List Value),keyB P t q = true→RepC Fz w t x cs→∀ u ∈ cs,simpleV u
 | .int _,_,_,_,_,h=>by rw [show _ = _ from h];simp [simpleV]
 | .bool,_,_,_,_,h=>by rw [show _ = _ from h];simp [simpleV]
 | .str,_,_,_,_,h=>by rw [show _ = _ from h];simp [simpleV]
 | .unit,_,_,_,_,h=>by rw [show _ = _ from h];simp
 | .lst e,q,_,_,hk,_=>by cases q <;> simp [keyB] at hk
 | .map k v,q,_,_,hk,_=>by cases q <;> simp [keyB] at hk
 | .pair a b,q,x,cs,hk,⟨c1,c2,he,h1,h2⟩=>by
   have:∃ T o r,keyB P a (.inl T) = true∧keyB P b (.inr (o,r)) = true:=by
     cases q with
     | inl T =>
       obtain ⟨fs,_,_,h⟩:=keyB_struct hk rfl (by intro n e h;cases h)
       cases hf:fs.toList with
       | nil=>rw [hf] at h;simp [keyB] at h
       | cons f r=>rw [hf] at h;obtain ⟨_,_,_,h1,h2⟩:=key_field h;exact ⟨_,_,_,h1,h2⟩
     | inr p =>
       obtain ⟨o,fs⟩:=p
       cases fs with
       | nil=>simp [keyB] at hk
       | cons f r=>obtain ⟨_,_,_,h1,h2⟩:=key_field hk;exact ⟨_,_,_,h1,h2⟩
   obtain ⟨T,o,r,k1,k2⟩:=this
   subst he
   intro u hu
   rcases List.mem_append.1 hu with hu | hu
   · exact key_simple a _ x.1 c1 k1 h1 u hu
   · exact key_simple b _ x.2 c2 k2 h2 u hu
 | .arr n e,q,x,cs,hk,⟨_,h2⟩=>by
   have:∃ T,keyB P e (.inl T) = true:=by
     cases q with
     | inl T =>
       simp only [keyB] at hk
       split at hk
       · simp only [Bool.and_eq_true] at hk;exact ⟨_,hk.2⟩
       · simp at hk
     | inr p=>simp [keyB] at hk
   obtain ⟨T,k1⟩:=this
   have:∀ (xs:List e.T) (cs:List Value),All2 (RepC Fz w e) xs cs→∀ u ∈ cs,simpleV u:=by
     intro xs
     induction xs with
     | nil=>intro cs hc;have:cs = []:=hc;subst this;simp
     | cons z zs ih =>
       intro cs ⟨c1,c2,he,g1,g2⟩ u hu
       subst he
       rcases List.mem_append.1 hu with hu | hu
       · exact key_simple e _ z c1 k1 g1 u hu
       · exact ih c2 g2 u hu
   exact this x cs h2
theorem sameBits_simple {u:Value} (h:simpleV u) (n:Nat):Instr.sameBits n u u = true:=by
 cases u <;> simp only [simpleV] at h
 · cases n <;> simp [Instr.sameBits]
 · cases n <;> simp [Instr.sameBits]
 · rename_i s
   have:(s == s) = true:=by rw [beq_toListBytes];simp
   cases n <;> simp [Instr.sameBits,this]
theorem zip_self:∀ (l:List Value) (f:Value×Value→Bool),(∀ u ∈ l,f (u,u) = true)→(l.zip l).all f = true
 | [],_,_=>rfl
 | x :: l,f,h=>by simp only [List.zip_cons_cons,List.all_cons,h x (by simp),Bool.true_and];exact zip_self l f fun u hu=>h u (by simp [hu])
theorem key_sameBits {t:Ty} {q:Sum TypeId (Nat×List Field)} {x:t.T} {u:Value} (hk:keyB P t q = true) (h:RepD Fz w t x u) (n:Nat):Instr.sameBits (n + 1) u u = true:=by
 obtain ⟨cs,hc,rfl⟩:=h
 have hs:=key_simple t q x cs hk hc
 unfold pack
 cases ha:t.isAgg with
 | true =>
   simp only [if_true,Instr.sameBits,beq_self_eq_true,Bool.true_and]
   exact zip_self _ _ fun u hu=>sameBits_simple (hs u (by simpa using hu)) n
 | false =>
   obtain ⟨u,hu,_⟩:=leaf_one hc ha
   subst hu
   simp only [Bool.false_eq_true,if_false,List.headD_cons]
   exact sameBits_simple (hs u (by simp)) _
theorem key_stays {t:Ty} {q:Sum TypeId (Nat×List Field)} {x:t.T} {u:Value} (hk:keyB P t q = true) (h:RepD Fz w t x u):(Instr.keyThatStays u u).run P w = .ok u w:=by
 unfold Instr.keyThatStays
 rw [key_sameBits hk h 9999]
 simp
theorem key_iff:∀ (t:Ty) (q:Sum TypeId (Nat×List Field)),keyB P t q = true→∀ x y:t.T,t.beq x y = true ↔ x = y
 | .int _,_,_,x,y=>by simp [Ty.beq]
 | .bool,_,_,x,y=>by simp [Ty.beq]
 | .str,_,_,x,y=>by simp [Ty.beq]
 | .unit,_,_,x,y=>by simp [Ty.beq]
 | .lst e,q,hk,_,_=>by cases q <;> simp [keyB] at hk
 | .map k v,q,hk,_,_=>by cases q <;> simp [keyB] at hk
 | .pair a b,q,hk,x,y=>by
   have:∃ T o r,keyB P a (.inl T) = true∧keyB P b (.inr (o,r)) = true:=by
     cases q with
     | inl T =>
       obtain ⟨fs,_,_,h⟩:=keyB_struct hk rfl (by intro n e h;cases h)
       cases hf:fs.toList with
       | nil=>rw [hf] at h;simp [keyB] at h
       | cons f r=>rw [hf] at h;obtain ⟨_,_,_,h1,h2⟩:=key_field h;exact ⟨_,_,_,h1,h2⟩
     | inr p =>
       obtain ⟨o,fs⟩:=p
       cases fs with
       | nil=>simp [keyB] at hk
       | cons f r=>obtain ⟨_,_,_,h1,h2⟩:=key_field hk;exact ⟨_,_,_,h1,h2⟩
   obtain ⟨T,o,r,k1,k2⟩:=this
   obtain ⟨x1,x2⟩:=x
   obtain ⟨y1,y2⟩:=y
   simp only [Ty.beq,Bool.and_eq_true,key_iff a _ k1,key_iff b _ k2,Prod.mk.injEq]
 | .arr n e,q,hk,x,y=>by
   have:∃ T,keyB P e (.inl T) = true:=by
     cases q with
     | inl T =>
       simp only [keyB] at hk
       split at hk
       · simp only [Bool.and_eq_true] at hk;exact ⟨_,hk.2⟩
       · simp at hk
     | inr p=>simp [keyB] at hk
   obtain ⟨T,k1⟩:=this
   have:∀ xs ys:List e.T,Ty.beq.go e.beq xs ys = true ↔ xs = ys:=by
     intro xs
     induction xs with
     | nil=>intro ys;cases ys <;> simp [Ty.beq.go]
     | cons z zs ih=>intro ys;cases ys with
       | nil=>simp [Ty.beq.go]
       | cons u us=>simp only [Ty.beq.go,Bool.and_eq_true,key_iff e _ k1,ih,List.cons.injEq]
   exact this x y
theorem key_det:∀ (t:Ty) (q:Sum TypeId (Nat×List Field)),keyB P t q = true→∀ (x:t.T) (cs ds:List Value),RepC Fz w t x cs→RepC Fz w t x ds→cs = ds
 | .int _,_,_,x,cs,ds,h,h'=>by rw [show _ = _ from h,show _ = _ from h']
 | .bool,_,_,x,cs,ds,h,h'=>by rw [show _ = _ from h,show _ = _ from h']
 | .str,_,_,x,cs,ds,h,h'=>by rw [show _ = _ from h,show _ = _ from h']
 | .unit,_,_,x,cs,ds,h,h'=>by rw [show _ = _ from h,show _ = _ from h']
 | .lst e,q,hk,_,_,_,_,_=>by cases q <;> simp [keyB] at hk
 | .map k v,q,hk,_,_,_,_,_=>by cases q <;> simp [keyB] at hk
 | .pair a b,q,hk,x,cs,ds,⟨c1,c2,he,h1,h2⟩,⟨c1',c2',he',h1',h2'⟩=>by
   have:∃ T o r,keyB P a (.inl T) = true∧keyB P b (.inr (o,r)) = true:=by
     cases q with
     | inl T =>
       obtain ⟨fs,_,_,h⟩:=keyB_struct hk rfl (by intro n e h;cases h)
       cases hf:fs.toList with
       | nil=>rw [hf] at h;simp [keyB] at h
       | cons f r=>rw [hf] at h;obtain ⟨_,_,_,h1,h2⟩:=key_field h;exact ⟨_,_,_,h1,h2⟩
     | inr p =>
       obtain ⟨o,fs⟩:=p
       cases fs with
       | nil=>simp [keyB] at hk
       | cons f r=>obtain ⟨_,_,_,h1,h2⟩:=key_field hk;exact ⟨_,_,_,h1,h2⟩
   obtain ⟨T,o,r,k1,k2⟩:=this
   rw [he,he',key_det a _ k1 x.1 c1 c1' h1 h1',key_det b _ k2 x.2 c2 c2' h2 h2']
 | .arr n e,q,hk,x,cs,ds,⟨_,h⟩,⟨_,h'⟩=>by
   have:∃ T,keyB P e (.inl T) = true:=by
     cases q with
     | inl T =>
       simp only [keyB] at hk
       split at hk
       · simp only [Bool.and_eq_true] at hk;exact ⟨_,hk.2⟩
       · simp at hk
     | inr p=>simp [keyB] at hk
   obtain ⟨T,k1⟩:=this
   have:∀ (xs:List e.T) (cs ds:List Value),All2 (RepC Fz w e) xs cs→All2 (RepC Fz w e) xs ds→cs = ds:=by
     intro xs
     induction xs with
     | nil=>intro cs ds h h';rw [show cs = [] from h,show ds = [] from h']
     | cons z zs ih =>
       intro cs ds ⟨c1,c2,he,g1,g2⟩ ⟨c1',c2',he',g1',g2'⟩
       rw [he,he',key_det e _ k1 z c1 c1' g1 g1',ih c2 c2' g2 g2']
   exact this x cs ds h h'
end Go.Pv
