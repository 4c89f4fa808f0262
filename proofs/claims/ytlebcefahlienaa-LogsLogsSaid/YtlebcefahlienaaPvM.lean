/- The purifying layer, part 13: slices of slices, conversions, least and greatest. -/
import Derived.Test.YtlebcefahlienaaPvL
import Derived.Laws.BytesString
set_option linter.unusedVariables false
set_option linter.unusedSimpArgs false
namespace Go.Pv
variable {P:Program} {Γ:Cfg} {cx:Cx} {tm:Tm} {lk:Lk} {a:Act} {w:World} {Fz:Nat→Prop} {pos:Nat→Value} {U:Nat→Prop}
def BoundIs (v:Option Value) (dflt n:Int):Prop:=(v = none∧n = dflt) ∨ ∃ k,v = some (.int k n)
theorem bound_rep (r:RelIn cx tm lk a w Fz pos U) (hg:cx.G = Γ.glob) (x:Option Operand) {dflt n:Int} (h:boundOf (x.map (Γ.val tm)) dflt = some n):BoundIs (x.map a.eval) dflt n:=by
 cases x with
 | none=>simp [boundOf] at h;exact .inl ⟨rfl,h.symm⟩
 | some x =>
   have hv:=val_rep r hg x
   simp only [Option.map_some,boundOf] at h
   split at h
   · rename_i heq;cases heq
   · rename_i k m heq
     simp only [Option.some.injEq] at h heq
     subst h
     rw [heq] at hv
     exact .inr ⟨k,by rw [Option.map_some,repInt hv]⟩
   · simp at h
theorem run_bounds {isSlice:Bool} {lo hi:Option Value} {len cap:Nat} {l h:Int} (hl:BoundIs lo 0 l) (hh:BoundIs hi len h) (h0:0 ≤ l) (h1:l ≤ h) (h2:h ≤ len) (hc:len ≤ cap) (w:World) :
   (Instr.sliceBounds isSlice len cap lo hi none).run P w = .ok (l.toNat,h.toNat,cap) w:=by
 have e1:0 ≤ h:=by omega
 have e2:h ≤ (cap:Int):=by omega
 have e3:l ≤ ((h.toNat:Nat):Int):=by omega
 rcases hl with ⟨rfl,rfl⟩ | ⟨k,rfl⟩ <;> rcases hh with ⟨rfl,rfl⟩ | ⟨k',rfl⟩ <;> simp [Instr.sliceBounds,Instr.sliceBound,asIntOf,e1,e2,e3,h0]
 all_goals (try omega)
 all_goals (rw [if_pos (by omega)];simp)
theorem run_slice_slice {T E:TypeId} {sz:Nat} (hu:P.underlying T = some (.slice E)) (hs:(sizeOf E).run P w = .ok sz w) {ad:Option Addr} {len cap:Nat} {lo hi:Option Value} {l h:Int} (hl:BoundIs lo 0 l) (hh:BoundIs hi len h)
   (h0:0 ≤ l) (h1:l ≤ h) (h2:h ≤ len) (hc:len ≤ cap) :
   (Instr.sliceAt T (.slice ad len cap) lo hi none).run P w = .ok (.slice (if cap = l.toNat then ad else ad.map (·.add (l.toNat * sz))) (h.toNat - l.toNat) (cap - l.toNat)) w:=by
 have hb:=run_bounds (P:=P) (isSlice:=true) hl hh h0 h1 h2 hc w
 simp [Instr.sliceAt,Instr.slice,run_underlying hu,hb,hs]
theorem run_slice3 {T E:TypeId} {sz:Nat} (hu:P.underlying T = some (.slice E)) (hs:(sizeOf E).run P w = .ok sz w) {ad:Option Addr} {len cap:Nat} {lo hi mx:Option Value} {l h m:Int} (hl:BoundIs lo 0 l) (hh:BoundIs hi (-1) h) (hm:BoundIs mx 0 m) (hmx:mx ≠ none)
   (h0:0 ≤ l) (h1:l ≤ h) (h2:h ≤ m) (h3:m ≤ len) (hc:len ≤ cap) :
   (Instr.sliceAt T (.slice ad len cap) lo hi mx).run P w = .ok (.slice (if m.toNat = l.toNat then ad else ad.map (·.add (l.toNat * sz))) (h.toNat - l.toNat) (m.toNat - l.toNat)) w:=by
 have hb:(Instr.sliceBounds true len cap lo hi mx).run P w = .ok (l.toNat,h.toNat,m.toNat) w:=by
   have e0:0 ≤ m:=by omega
   have e1:0 ≤ h:=by omega
   have e2:m ≤ (cap:Int):=by omega
   have e3:l ≤ ((h.toNat:Nat):Int):=by omega
   have e4:h ≤ ((m.toNat:Nat):Int):=by omega
   rcases hm with ⟨rfl,_⟩ | ⟨km,rfl⟩
   · exact absurd rfl hmx
   rcases hh with ⟨_,hh⟩ | ⟨kh,rfl⟩
   · omega
   rcases hl with ⟨rfl,rfl⟩ | ⟨kl,rfl⟩ <;> simp [Instr.sliceBounds,Instr.sliceBound,asIntOf,e0,e1,e2,e3,e4,h0]
   · intro hq;exfalso;omega
   · rw [if_pos (by omega),if_pos (by omega)]
 simp [Instr.sliceAt,Instr.slice,run_underlying hu,hb,hs]
theorem run_slice_str {T:TypeId} (hu:P.underlying T = some .string) {s:ByteArray} {lo hi:Option Value} {l h:Int} (hl:BoundIs lo 0 l) (hh:BoundIs hi s.size h) (h0:0 ≤ l) (h1:l ≤ h) (h2:h ≤ s.size) :
   (Instr.sliceAt T (.string s) lo hi none).run P w = .ok (.string (s.extract l.toNat h.toNat)) w:=by
 have hb:=run_bounds (P:=P) (isSlice:=false) hl hh h0 h1 h2 (Nat.le_refl _) w
 simp [Instr.sliceAt,Instr.slice,run_underlying hu,hb]
theorem run_slice_arr {T E:TypeId} {n sz:Nat} (hu:P.underlying T = some (.array n E)) (hs:(sizeOf E).run P w = .ok sz w) {ad:Addr} {lo hi:Option Value} {l h:Int} (hl:BoundIs lo 0 l) (hh:BoundIs hi n h)
   (h0:0 ≤ l) (h1:l ≤ h) (h2:h ≤ n) :
   (Instr.sliceAt T (.pointer (some ad)) lo hi none).run P w = .ok (.slice (some (if n = l.toNat then ad else ad.add (l.toNat * sz))) (h.toNat - l.toNat) (n - l.toNat)) w:=by
 have hb:=run_bounds (P:=P) (isSlice:=false) hl hh h0 h1 h2 (Nat.le_refl _) w
 simp [Instr.sliceAt,run_underlying hu,Instr.sureAddr,hb,hs]
theorem sub_cells {e:Ty} {xs:List e.T} {cells:List Value} (hall:All2 (RepC Fz w e) xs cells) (l h:Nat) (hlh:l ≤ h) (hh:h ≤ xs.length) :
   ∃ cs,All2 (RepC Fz w e) ((xs.take h).drop l) cs∧cs = (cells.take (h * e.size)).drop (l * e.size) :=
 ⟨_,All2.drop (fun x cs hx=>RepC.size e x cs hx) l _ _ (All2.take (fun x cs hx=>RepC.size e x cs hx) h _ _ hall),rfl⟩
theorem sub_prefix {cells row:List Value} {off m n:Nat} (hp:cells <+: row.drop off) (hm:m ≤ cells.length):(cells.take n).drop m <+: row.drop (off + m):=by
 obtain ⟨t,ht⟩:=hp
 rw [← List.drop_drop,← ht,List.drop_append_of_le_length hm]
 refine List.IsPrefix.trans ?_ (List.prefix_append _ _)
 rw [List.drop_take]
 exact List.take_prefix _ _
theorem ok_slice {o:Oper} {T:TypeId} {x:Operand} {lo hi mx:Option Operand} (ho:o.op = .slice T x lo hi mx) (hΓ:CfgOk P Γ) (r:RelIn cx tm lk a w Fz pos U) (hg:cx.G = Γ.glob) {e:Eff}
   (he:evSlice Γ lk T (Γ.val tm x) (lo.map (Γ.val tm)) (hi.map (Γ.val tm)) (mx.map (Γ.val tm)) some = some e):Ok P cx tm lk o a w e:=by
 have hx:=val_rep r hg x
 have hrun:∀ u,mx = none→(Instr.sliceAt T (a.eval x) (lo.map a.eval) (hi.map a.eval) none).run P w = .ok u w→(execOp a.eval o).run P w = .ok (.value u) w:=by
   intro u hm hu
   subst hm
   unfold execOp;simp [ho,hu]
 unfold evSlice at he
 generalize Γ.val tm x = vx at he hx
 split at he
 · -- data
   rename_i et xs E et' by_ hT hmx
   have hmn:mx = none:=by cases mx <;> simp at hmx;rfl
   split at he
   · rename_i heq
     subst heq
     split at he
     · rename_i l h hlo hhi
       split at he
       · rename_i hb
         obtain ⟨h0,h1,h2⟩:=hb
         simp only [Option.some.injEq] at he
         obtain ⟨hu,hel⟩:=slice_desc hΓ hT
         obtain ⟨cs,hc,hval⟩:=hx
         obtain ⟨ad,len,cap,cells,rfl,hlen,hcap,hall,hlies⟩:=hc
         have hlen:(xs:List et.T).length = len:=hlen
         subst hlen
         have hval:a.eval x = .slice ad (xs:List et.T).length cap:=hval
         have hr:=run_slice_slice (P:=P) hu (sizeOf_run hel w) (ad:=ad) (bound_rep r hg lo hlo) (bound_rep r hg hi hhi) h0 h1 h2 hcap
         rw [← hval] at hr
         refine Ok.value r he.symm (hrun _ hmn hr) ?_
         obtain ⟨cs,hcs,hcse⟩:=sub_cells hall l.toNat h.toNat (by omega) (by omega)
         have hclen:cells.length = (xs:List et.T).length * et.size:=All2.size (fun x cs hx=>RepC.size et x cs hx) _ _ hall
         have hlz:l.toNat * et.size ≤ cells.length:=by rw [hclen];exact Nat.mul_le_mul_right _ (by omega)
         refine ⟨_,⟨_,_,_,cs,rfl,?_,by omega,hcs,?_⟩,rfl⟩
         · simp;omega
         · rcases hlies with ⟨_,hl0⟩ | ⟨b,off,c,T',fz,rfl,hfz,hbk,hpre⟩
           · exact .inl ⟨rfl,by omega⟩
           · right
             by_cases hcl:cap = l.toNat
             · rw [if_pos hcl]
               refine ⟨b,off,c,T',fz,rfl,hfz,hbk,?_⟩
               have:cs = []:=by
                 have h3:h.toNat = l.toNat:=by omega
                 rw [hcse,h3];simp
               subst this;exact List.nil_prefix
             · rw [if_neg hcl]
               exact ⟨b,off + l.toNat * et.size,c,T',fz,by simp [add_addr],hfz,hbk,by rw [hcse];exact sub_prefix hpre hlz⟩
       · simp at he
     · simp at he
   · simp at he
 · -- a string
   rename_i s k by_ hT hmx
   have hmn:mx = none:=by cases mx <;> simp at hmx;rfl
   split at he
   · rename_i l h hlo hhi
     split at he
     · rename_i hb
       obtain ⟨h0,h1,h2⟩:=hb
       simp only [Option.some.injEq] at he
       have hu:=((hΓ.ty T _ hT).desc).1
       have hx:=repStr hx
       have hsz:(⟨(s:List UInt8).toArray⟩:ByteArray).size = (s:List UInt8).length:=by show ((s:List UInt8).toArray).size = _;simp
       have hhb:=bound_rep r hg hi hhi
       rw [← hsz] at hhb h2
       have hr:=run_slice_str (P:=P) (w:=w) hu (bound_rep r hg lo hlo) hhb h0 h1 h2
       rw [← hx] at hr
       refine Ok.value r he.symm (hrun _ hmn hr) ?_
       have hex:(⟨(s:List UInt8).toArray⟩:ByteArray).extract l.toNat h.toNat = ⟨(((s:List UInt8).take h.toNat).drop l.toNat).toArray⟩:=by
         have:((⟨(s:List UInt8).toArray⟩:ByteArray).extract l.toNat h.toNat).data = (((s:List UInt8).take h.toNat).drop l.toNat).toArray:=by
           rw [ByteArray.data_extract]
           apply Array.ext'
           simp [List.extract_eq_take_drop,List.drop_take]
         cases hq:(⟨(s:List UInt8).toArray⟩:ByteArray).extract l.toNat h.toNat with
         | mk d=>rw [hq] at this;simp only at this;rw [this]
       rw [hex];exact mkStr _ _
     · simp at he
   · simp at he
 · -- an array that is frozen
   rename_i m et xs m' E m'' et' by_ hT hmx
   have hmn:mx = none:=by cases mx <;> simp at hmx;rfl
   split at he
   · rename_i heq
     obtain ⟨rfl,rfl⟩:=heq
     split at he
     · rename_i l h hlo hhi
       split at he
       · rename_i hb
         obtain ⟨h0,h1,h2⟩:=hb
         simp only [Option.some.injEq] at he
         obtain ⟨hu,hmm,hel⟩:=arr_desc hΓ hT
         obtain ⟨b,off,c,T',fz,cells,hval,hfz,hbk,hrep,hpre⟩:=repEptr hx
         obtain ⟨hlen,hall⟩:=hrep
         have hr:=run_slice_arr (P:=P) hu (sizeOf_run hel w) (ad:=⟨b,off,none⟩) (bound_rep r hg lo hlo) (bound_rep r hg hi hhi) h0 h1 h2
         rw [← hval] at hr
         refine Ok.value r he.symm (hrun _ hmn hr) ?_
         obtain ⟨cs,hcs,hcse⟩:=sub_cells hall l.toNat h.toNat (by omega) (by omega)
         have hclen:cells.length = (xs:List et.T).length * et.size:=All2.size (fun x cs hx=>RepC.size et x cs hx) _ _ hall
         have hlz:l.toNat * et.size ≤ cells.length:=by rw [hclen];exact Nat.mul_le_mul_right _ (by omega)
         refine ⟨_,⟨_,_,_,cs,rfl,?_,by omega,hcs,?_⟩,rfl⟩
         · simp;omega
         · right
           by_cases hcl:m = l.toNat
           · rw [if_pos hcl]
             refine ⟨b,off,c,T',fz,rfl,hfz,hbk,?_⟩
             have:cs = []:=by
               have h3:h.toNat = l.toNat:=by omega
               rw [hcse,h3];simp
             subst this;exact List.nil_prefix
           · rw [if_neg hcl]
             exact ⟨b,off + l.toNat * et.size,c,T',fz,by simp [add_addr],hfz,hbk,by rw [hcse];exact sub_prefix hpre hlz⟩
       · simp at he
     · simp at he
   · simp at he
 · -- a slice of one's own
   rename_i et k s E et' by_ hT hmx
   have hmn:mx = none:=by cases mx <;> simp at hmx;rfl
   obtain ⟨_,s',ob,hlk,hle,hval⟩:=hx
   have hlk':lk k = some (s',ob):=hlk
   rw [hlk'] at he
   cases ob <;> (try simp only at he) <;> try (simp at he;done)
   rename_i et'' xs
   split at he
   · rename_i heq
     obtain ⟨rfl,rfl,rfl⟩:=heq
     split at he
     · rename_i l h hlo hhi
       split at he
       · rename_i hb
         obtain ⟨h0,h1,h2⟩:=hb
         simp only [Option.some.injEq] at he
         subst he
         obtain ⟨hu,hel⟩:=slice_desc hΓ hT
         have hv2:a.eval x = pos k:=(hval rfl).2
         have hns:∀ s0 o0,lk k = some (s0,o0)→s0 < s + 1:=by
           intro s0 o0 h;rw [hlk'] at h;simp only [Option.some.injEq,Prod.mk.injEq] at h;omega
         have hR:=r.objs k s _ hlk'
         simp only [RepO] at hR
         rcases hR with ⟨hp,hxs⟩ | ⟨b,off,cap,cells,TT,hp,hbk,hc1,hc2,hc3,cs,hall,hpre⟩
         · rw [hp] at hv2
           subst hxs
           have hr:=run_slice_slice (P:=P) hu (sizeOf_run hel w) (ad:=none) (cap:=0) (bound_rep r hg lo hlo) (bound_rep r hg hi hhi) h0 h1 h2 (Nat.le_refl _)
           have hv3:a.eval x = .slice none ([]:List et.T).length 0:=hv2
           rw [← hv3] at hr
           have hl0:l.toNat = 0:=by simp at h2;omega
           have hh0:h.toNat = 0:=by simp at h2;omega
           have r2:=r.nilvec k (s + 1) et hns
           refine .inl ⟨.slice none 0 0,w,hrun _ hmn (by rw [hr];simp [hl0,hh0]),Fz,updPos pos k (.slice none 0 0),U,?_⟩
           have:=r2.value o.dst (v:=.sl et k (s + 1)) (u:=.slice none 0 0) (sl_new cx Fz w lk pos k (s + 1) et [] _ rfl)
           simpa [updLk] using this
         · rw [hp] at hv2
           have hr:=run_slice_slice (P:=P) hu (sizeOf_run hel w) (ad:=some ⟨b,off,none⟩) (bound_rep r hg lo hlo) (bound_rep r hg hi hhi) h0 h1 h2 hc1
           rw [← hv2] at hr
           obtain ⟨cs',hcs,hcse⟩:=sub_cells hall l.toNat h.toNat (by omega) (by omega)
           have hclen:cs.length = xs.length * et.size:=All2.size (fun x cs hx=>RepC.size et x cs hx) _ _ hall
           have hlz:l.toNat * et.size ≤ cs.length:=by rw [hclen];exact Nat.mul_le_mul_right _ (by omega)
           have hll:((xs.take h.toNat).drop l.toNat).length = h.toNat - l.toNat:=by simp;omega
           -- the new header
           obtain ⟨off',hoff',hpre',hfit'⟩:∃ off',(if cap = l.toNat then some (⟨b,off,none⟩:Addr) else (some (⟨b,off,none⟩:Addr)).map (·.add (l.toNat * et.size))) = some ⟨b,off',none⟩∧cs' <+: cells.toList.drop off'∧off' + (cap - l.toNat) * et.size ≤ cells.size:=by
             by_cases hcl:cap = l.toNat
             · refine ⟨off,by rw [if_pos hcl],?_,by rw [hcl];simp;omega⟩
               have:cs' = []:=by
                 have h3:h.toNat = l.toNat:=by omega
                 rw [hcse,h3];simp
               subst this;exact List.nil_prefix
             · refine ⟨off + l.toNat * et.size,by rw [if_neg hcl];simp [add_addr],by rw [hcse];exact sub_prefix hpre hlz,?_⟩
               have:l.toNat * et.size + (cap - l.toNat) * et.size = cap * et.size:=by rw [← Nat.add_mul];congr 1;omega
               omega
           rw [hoff'] at hr
           have r2:=r.obj k (s + 1) (.vec et ((xs.take h.toNat).drop l.toNat)) (.slice (some ⟨b,off',none⟩) (h.toNat - l.toNat) (cap - l.toNat)) (w':=w)
             (fun s0 o0 h=>⟨Nat.le_of_lt (hns s0 o0 h),fun e=>by have:=hns s0 o0 h;omega⟩) rfl rfl rfl (Nat.le_refl _) (fun _ _ _=>rfl)
             (fun b' hb'=>.inl ⟨s,_,hlk',by rw [hp];exact hb'⟩)
             (fun hle=>.inr ⟨b,off',cap - l.toNat,cells,TT,by rw [hll],hbk,by omega,by omega,hfit',cs',All2.mono (fun x cs hx=>hx.mono hle.fut) _ _ hcs,hpre'⟩)
           refine .inl ⟨_,w,hrun _ hmn hr,Fz,updPos pos k (.slice (some ⟨b,off',none⟩) (h.toNat - l.toNat) (cap - l.toNat)),U,?_⟩
           have:=r2.value o.dst (v:=.sl et k (s + 1)) (u:=.slice (some ⟨b,off',none⟩) (h.toNat - l.toNat) (cap - l.toNat)) (sl_new cx Fz w lk pos k (s + 1) et _ _ rfl)
           simpa [updLk] using this
       · simp at he
     · simp at he
   · simp at he
 · -- data,with a third index
   rename_i et xs E et' by_ mv hT hmx
   obtain ⟨mo,rfl,hmo⟩:∃ mo,mx = some mo∧Γ.val tm mo = mv:=by
     cases mx with
     | none=>simp at hmx
     | some mo=>exact ⟨mo,rfl,by simpa using hmx⟩
   split at he
   · rename_i heq
     subst heq
     split at he
     · rename_i l h m hlo hhi hmm
       split at he
       · rename_i hb
         obtain ⟨h0,h1,h2,h3⟩:=hb
         simp only [Option.some.injEq] at he
         obtain ⟨hu,hel⟩:=slice_desc hΓ hT
         obtain ⟨cs,hc,hval⟩:=hx
         obtain ⟨ad,len,cap,cells,rfl,hlen,hcap,hall,hlies⟩:=hc
         have hlen:(xs:List et.T).length = len:=hlen
         subst hlen
         have hval:a.eval x = .slice ad (xs:List et.T).length cap:=hval
         have hbm:=bound_rep r hg (some mo) (dflt:=0) (n:=m) (by rw [Option.map_some,hmo];exact hmm)
         have hr:=run_slice3 (P:=P) hu (sizeOf_run hel w) (ad:=ad) (bound_rep r hg lo hlo) (bound_rep r hg hi hhi) hbm (by simp) h0 h1 h2 h3 hcap
         rw [← hval] at hr
         have hrun3:(execOp a.eval o).run P w = .ok (.value (.slice (if m.toNat = l.toNat then ad else ad.map (·.add (l.toNat * et.size))) (h.toNat - l.toNat) (m.toNat - l.toNat))) w:=by
           unfold execOp
           have hr':(Instr.sliceAt T (a.eval x) (lo.map a.eval) (hi.map a.eval) (some (a.eval mo))).run P w = _:=hr
           simp [ho,hr']
         refine Ok.value r he.symm hrun3 ?_
         obtain ⟨cs,hcs,hcse⟩:=sub_cells hall l.toNat h.toNat (by omega) (by omega)
         have hclen:cells.length = (xs:List et.T).length * et.size:=All2.size (fun x cs hx=>RepC.size et x cs hx) _ _ hall
         have hlz:l.toNat * et.size ≤ cells.length:=by rw [hclen];exact Nat.mul_le_mul_right _ (by omega)
         refine ⟨_,⟨_,_,_,cs,rfl,?_,by omega,hcs,?_⟩,rfl⟩
         · simp;omega
         · rcases hlies with ⟨_,hl0⟩ | ⟨b,off,c,T',fz,rfl,hfz,hbk,hpre⟩
           · exact .inl ⟨rfl,by omega⟩
           · right
             by_cases hcl:m.toNat = l.toNat
             · rw [if_pos hcl]
               refine ⟨b,off,c,T',fz,rfl,hfz,hbk,?_⟩
               have:cs = []:=by
                 have h3:h.toNat = l.toNat:=by omega
                 rw [hcse,h3];simp
               subst this;exact List.nil_prefix
             · rw [if_neg hcl]
               exact ⟨b,off + l.toNat * et.size,c,T',fz,by simp [add_addr],hfz,hbk,by rw [hcse];exact sub_prefix hpre hlz⟩
       · simp at he
     · simp at he
   · simp at he
 · simp at he
theorem ok_minmax {o:Oper} {mx:Bool} {args:Array Operand} {Ts:Array TypeId} (ho:o.op = .call ⟨.builtin (if mx then .max else .min),args,Ts⟩) (r:RelIn cx tm lk a w Fz pos U) (hg:cx.G = Γ.glob) {e:Eff}
   (he:evMinMax mx (args.toList.map (Γ.val tm)) some = some e):Ok P cx tm lk o a w e:=by
 obtain ⟨l⟩:=args
 simp only at he
 unfold evMinMax at he
 split at he
 · rename_i k x k' y heq
   obtain ⟨p,q,rfl⟩:∃ p q,l = [p,q]:=by
     cases l with
     | nil=>simp at heq
     | cons p l=>cases l with
       | nil=>simp at heq
       | cons q l=>cases l with
         | nil=>exact ⟨p,q,rfl⟩
         | cons _ _=>simp at heq
   simp only [List.map_cons,List.map_nil,List.cons.injEq,and_true] at heq
   split at he
   · rename_i hk
     subst hk
     simp only [Option.some.injEq] at he
     have hp:=val_rep r hg p
     have hq:=val_rep r hg q
     rw [heq.1] at hp;rw [heq.2] at hq
     have hp:=repInt hp
     have hq:=repInt hq
     refine Ok.value r he.symm (u:=.int k (if mx then imax x y else imin x y)) ?_ (mkInt _ _ _)
     unfold execOp
     cases mx with
     | true=>simp [ho,resolve,invoke,builtin,Builtin.max_,Builtin.max2,hp,hq,imax]
     | false=>simp [ho,resolve,invoke,builtin,Builtin.min_,Builtin.min2,hp,hq,imin]
   · simp at he
 · simp at he
theorem push_bytes:∀ (l:List Int) (acc:ByteArray),(l.foldl (fun s n=>s.push (UInt8.ofNat n.toNat)) acc).data = acc.data ++ (l.map fun n=>n.toNat.toUInt8).toArray
 | [],acc=>by simp
 | n :: l,acc=>by rw [List.foldl_cons,push_bytes l];apply Array.ext';simp [ByteArray.push]
theorem run_bytes (ns:List Int) {src dst e:TypeId} (hs:P.underlying src = some (.slice e)) (he:P.underlying e = some (.int .u8)) (hd:P.underlying dst = some .string) {b off len cap:Nat} (hl:ns.length = len)
   (hcell:∀ (j:Nat) n,ns[j]? = some n→w.cell? ⟨b,off + j,none⟩ = some (.int .u8 n)) :
   (convert src dst (.slice (some ⟨b,off,none⟩) len cap)).run P w = .ok (.string ⟨(ns.map fun n=>n.toNat.toUInt8).toArray⟩) w:=by
 have hload:(loadCells ⟨b,off,none⟩ len).run P w = .ok (ns.map (Value.int .u8)).toArray w:=by
   have:=run_loadCells_list (P:=P) w ⟨b,off,none⟩ (ns.map (Value.int .u8)) (fun j v hv=>by
     rw [Addr.add_mid]
     simp only [List.getElem?_map,Option.map_eq_some_iff] at hv
     obtain ⟨n,hn,rfl⟩:=hv
     exact hcell j n hn)
   simpa [hl] using this
 rw [run_convert_bytes_string w src dst e _ len cap hs he hd,run_bytesToString w _ len cap ns hload]
 have:=push_bytes ns ByteArray.empty
 cases hq:ns.foldl (fun s n=>s.push (UInt8.ofNat n.toNat)) ByteArray.empty with
 | mk d=>rw [hq] at this;simp only at this;rw [this];simp
theorem run_bytes_nil {src dst e:TypeId} (hs:P.underlying src = some (.slice e)) (he:P.underlying e = some (.int .u8)) (hd:P.underlying dst = some .string) {len cap:Nat} :
   (convert src dst (.slice none len cap)).run P w = .ok (.string ⟨#[]⟩) w:=by
 rw [run_convert_bytes_string w src dst e _ len cap hs he hd]
 simp [Conv.bytesToString];rfl
theorem all2_bytes {k:IntKind}:∀ (xs:List Int) (cs:List Value),All2 (RepC Fz w (.int k)) xs cs→cs = xs.map (Value.int k)
 | [],_,h=>h
 | x :: xs,cs,⟨c1,c2,he,h1,h2⟩=>by
   have h1:c1 = [.int k x]:=h1
   subst h1
   rw [he,all2_bytes xs c2 h2];rfl
theorem cell_of_prefix {b off:Nat} {c:Array Value} {T:TypeId} {fz:Nat×Nat} {cs:List Value} (hb:w.heap[b]? = some (.cells c T fz)) (hp:cs <+: c.toList.drop off) {j:Nat} {v:Value} (h:cs[j]? = some v) :
   w.cell? ⟨b,off + j,none⟩ = some v:=by
 obtain ⟨t,ht⟩:=hp
 have:(c.toList.drop off)[j]? = some v:=by rw [← ht,List.getElem?_append_left (List.getElem?_eq_some_iff.1 h).1];exact h
 rw [List.getElem?_drop] at this
 simp [World.cell?,hb,← this]
theorem bytes_desc (hΓ:CfgOk P Γ) {T E:TypeId} {by_:Nat} (hT:Γ.ty T = some ⟨.slice E,.d (.lst (.int .u8)),by_⟩) (hE:∃ ti,Γ.ty E = some ti∧ti.d = .int .u8) :
   P.underlying T = some (.slice E)∧P.underlying E = some (.int .u8):=by
 obtain ⟨ti,h1,h2⟩:=hE
 obtain ⟨hu,_⟩:=slice_desc hΓ hT
 have:=(hΓ.ty E ti h1).desc
 unfold DescOk at this
 rw [h2] at this
 exact ⟨hu,this.1⟩
theorem u8Of_iff {E:TypeId} (h:u8Of Γ E = true):∃ ti,Γ.ty E = some ti∧ti.d = .int .u8:=by
 unfold u8Of at h
 split at h
 · rename_i sh by_ hE;exact ⟨_,hE,rfl⟩
 · simp at h
theorem ok_convert {o:Oper} {src dst:TypeId} {x:Operand} (ho:o.op = .convert src dst x) (hΓ:CfgOk P Γ) (r:RelIn cx tm lk a w Fz pos U) (hg:cx.G = Γ.glob) {e:Eff}
   (he:evConvert Γ lk src dst (Γ.val tm x) some = some e):Ok P cx tm lk o a w e:=by
 have hx:=val_rep r hg x
 have hrun:∀ u,(convert src dst (a.eval x)).run P w = .ok u w→(execOp a.eval o).run P w = .ok (.value u) w:=by
   intro u hu
   unfold execOp;simp [ho,hu]
 unfold evConvert at he
 generalize Γ.val tm x = vx at he hx
 split at he
 · rename_i k1 sh1 by1 k2 sh2 by2 k3 y hs hd
   simp only [Option.some.injEq] at he
   have hx:=repInt hx
   have h1:=(hΓ.ty src _ hs).desc.1
   have h2:=(hΓ.ty dst _ hd).desc.1
   refine Ok.value r he.symm (hrun (.int k2 (k2.wrap y)) ?_) (mkInt _ _ _)
   rw [hx];simp [convert,run_underlying h1,run_underlying h2,Conv.intToInt]
 · rename_i sh1 by1 sh2 by2 y hs hd
   simp only [Option.some.injEq] at he
   have hx:=repStr hx
   have h1:=(hΓ.ty src _ hs).desc.1
   have h2:=(hΓ.ty dst _ hd).desc.1
   refine Ok.value r he.symm (hrun (.string ⟨(y:List UInt8).toArray⟩) ?_) (mkStr _ _)
   rw [hx];simp [convert,run_underlying h1,run_underlying h2]
 · rename_i E by1 sh2 by2 xs hs hd
   split at he
   · rename_i hE
     simp only [Option.some.injEq] at he
     obtain ⟨h1,h2⟩:=bytes_desc hΓ hs (u8Of_iff hE)
     have h3:=(hΓ.ty dst _ hd).desc.1
     obtain ⟨cs,hc,hval⟩:=hx
     obtain ⟨ad,len,cap,cells,rfl,hlen,hcap,hall,hlies⟩:=hc
     have hval:a.eval x = .slice ad len cap:=hval
     refine Ok.value r he.symm (hrun (.string ⟨((xs:List Int).map fun n=>n.toNat.toUInt8).toArray⟩) ?_) (mkStr _ _)
     rw [hval]
     rcases hlies with ⟨_,hl0⟩ | ⟨b,off,c,T',fz,rfl,hfz,hbk,hpre⟩
     · have:(xs:List Int) = []:=by
         have hlen:(xs:List Int).length = len:=hlen
         exact List.length_eq_zero_iff.1 (by omega)
       rw [this,hl0]
       cases ad with
       | none=>exact run_bytes_nil h1 h2 h3
       | some a =>
         rw [run_convert_bytes_string w src dst E _ 0 cap h1 h2 h3]
         have:=run_loadCells_list (P:=P) w a ([]:List Value) (fun j v hv=>by simp at hv)
         simp at this
         simp [Conv.bytesToString,this]
         rfl
     · have hce:=all2_bytes (xs:List Int) cells hall
       exact run_bytes (xs:List Int) h1 h2 h3 hlen fun j n hn=>cell_of_prefix hbk hpre (by rw [hce];simp [hn])
   · simp at he
 · rename_i E by1 sh2 by2 k s hs hd
   split at he
   · rename_i s' xs hlk
     split at he
     · rename_i heq
       obtain ⟨rfl,hE⟩:=heq
       simp only [Option.some.injEq] at he
       obtain ⟨h1,h2⟩:=bytes_desc hΓ hs (u8Of_iff hE)
       have h3:=(hΓ.ty dst _ hd).desc.1
       obtain ⟨_,s2,ob,hlk2,hle,hval⟩:=hx
       have hlk2:lk k = some (s2,ob):=hlk2
       rw [hlk] at hlk2
       simp only [Option.some.injEq,Prod.mk.injEq] at hlk2
       obtain ⟨rfl,rfl⟩:=hlk2
       have hv2:a.eval x = pos k:=(hval rfl).2
       have hR:=r.objs k s _ hlk
       simp only [RepO] at hR
       refine Ok.value r he.symm (hrun (.string ⟨((xs:List Int).map fun n=>n.toNat.toUInt8).toArray⟩) ?_) (mkStr _ _)
       rw [hv2]
       rcases hR with ⟨hp,hxs⟩ | ⟨b,off,cap,cells,TT,hp,hbk,hc1,hc2,hc3,cs,hall,hpre⟩
       · rw [hp,hxs];exact run_bytes_nil h1 h2 h3
       · have hce:=all2_bytes (xs:List Int) cs hall
         rw [hp]
         exact run_bytes (xs:List Int) h1 h2 h3 rfl fun j n hn=>cell_of_prefix hbk hpre (by rw [hce];simp [hn])
     · simp at he
   · simp at he
 · simp at he
end Go.Pv
