/- Plain texts, merged: QaL9, QaLa, QaR, QaR2, QaLb, QaLc, QaLd, QaLe, QaR3, QaAw, QaLf, QaW, QaWays, QaWeighs. -/
import Derived.Test.YtldhdlohhiphjaaMg1
import Derived.Test.YtldhdlohhiphjaaPvL06
/- Seat 06, plain: the weights that are kept, as the program finds them. -/
set_option linter.unusedVariables false
set_option linter.unusedSimpArgs false
namespace Go.Pv
theorem allRuns_of {X E:Type} {step:E→X→List E→List Nat→Option (X×List E×List Nat)} {es:List E} (st:List Nat→X→Prop) (xf:X)
   (hstep:∀ seen x i q,(∀ j ∈ seen,j < es.length)→seen.Nodup→st seen x→es[i]? = some q→i ∉ seen→∃ y,step q x es (seen ++ [i]) = some (y,es,seen ++ [i])∧st (seen ++ [i]) y)
   (hend:∀ seen x,(∀ j ∈ seen,j < es.length)→seen.Nodup→(∀ j,j < es.length→j ∈ seen)→st seen x→x = xf) :
   ∀ m seen x,es.length ≤ seen.length + m→(∀ j ∈ seen,j < es.length)→seen.Nodup→st seen x→AllRuns step m x es seen xf:=by
 have full:∀ seen:List Nat,allSeen es seen = true→∀ j,j < es.length→j ∈ seen:=fun seen h j hj=>by
   unfold allSeen at h
   have:=List.all_eq_true.1 h j (List.mem_range.2 hj)
   simpa using this
 intro m
 induction m with
 | zero =>
   intro seen x hm hb hn hs
   have hall:∀ j,j < es.length→j ∈ seen:=fun j hj=>by
     rcases Decidable.em (j ∈ seen) with h | h
     · exact h
     · exfalso
       have:=nodup_nat (L:=j :: seen) (M:=List.range es.length) (List.nodup_cons.2 ⟨h,hn⟩) (fun d hd=>by
         rw [List.mem_range]
         rcases List.mem_cons.1 hd with rfl | hd
         · exact hj
         · exact hb d hd)
       simp at this
       omega
   refine ⟨?_,(hend seen x hb hn hall hs).symm⟩
   unfold allSeen
   rw [List.all_eq_true]
   intro j hj
   simpa using hall j (List.mem_range.1 hj)
 | succ m ih =>
   intro seen x hm hb hn hs
   cases ha:allSeen es seen with
   | true=>exact .inl ⟨ha,(hend seen x hb hn (full seen ha) hs).symm⟩
   | false =>
     refine .inr ⟨ha,fun i q hq hi=>?_⟩
     have hi':i ∉ seen:=by simpa using hi
     have hil:i < es.length:=by
       rcases Nat.lt_or_ge i es.length with h | h
       · exact h
       · rw [List.getElem?_eq_none h] at hq;cases hq
     obtain ⟨y,h1,h2⟩:=hstep seen x i q hb hn hs hq hi'
     refine ⟨_,h1,ih (seen ++ [i]) y (by simp;omega) (fun j hj=>?_) ?_ h2⟩
     · rcases List.mem_append.1 hj with h | h
       · exact hb j h
       · obtain rfl:=List.mem_singleton.1 h;exact hil
     · rw [List.nodup_append]
       refine ⟨hn,by simp,fun a ha b hb2=>?_⟩
       obtain rfl:=List.mem_singleton.1 hb2
       exact fun e=>hi' (e ▸ ha)
theorem mrun_st {X E:Type} {step:E→X→List E→List Nat→Option (X×List E×List Nat)} {es:List E} (st:List Nat→X→Prop) (x xf:X) (h0:st [] x)
   (hstep:∀ seen x i q,(∀ j ∈ seen,j < es.length)→seen.Nodup→st seen x→es[i]? = some q→i ∉ seen→∃ y,step q x es (seen ++ [i]) = some (y,es,seen ++ [i])∧st (seen ++ [i]) y)
   (hend:∀ seen x,(∀ j ∈ seen,j < es.length)→seen.Nodup→(∀ j,j < es.length→j ∈ seen)→st seen x→x = xf):mrun step x es = some xf :=
 mrun_of (allRuns_of st xf hstep hend es.length [] x (by simp) (fun j h=>by cases h) List.nodup_nil h0)
section
variable {n m:Nat} {V0:List Vec} {t:Stg} {R:Nat→Vec} {f:Nat}
def dens (t:Stg) (R:Nat→Vec) (f j:Nat):Nat:=den (R j (t.P.getD j 0)) (R j f)
theorem dens_le (hn:n ≤ 5) (hV:∀ v ∈ V0,Rul n v) (hs:SI n n V0 t) (ha:AB V0 t) (hR:PR n t m R) (hP:t.P.length ≤ 4) (hf:f < n) (hfP:f ∉ t.P):∃ D:Nat,0 < D∧D ≤ 512∧∀ j,j < t.P.length→dens t R f j ∣ D:=by
 by_cases h3:t.P.length ≤ 3
 · obtain ⟨g,B,hg,hA,hB⟩:=ha.fin hV h3
   have hff:B f f ≠ 0:=fun h0=>A_ne hs hfP (by rw [hA,h0,Int.mul_zero])
   refine ⟨(B f f).natAbs,by omega,by have:=hB f f;omega,fun j hj=>?_⟩
   have h1:=row_two hn hs hR hf hfP hj
   rw [hA,hA] at h1
   refine den_dvd (hR.piv j hj).2.1 (a:=B f (t.P.getD j 0)) ?_
   refine (Int.mul_eq_zero.1 (?_:g * _ = 0)).resolve_left hg
   calc g * (R j (t.P.getD j 0) * B f (t.P.getD j 0) + R j f * B f f) = g * B f f * R j f + g * B f (t.P.getD j 0) * R j (t.P.getD j 0):=by grind
     _ = 0:=h1
 · refine ⟨1,by decide,by decide,fun j hj=>?_⟩
   have hin:∀ l,l < 5→l ≠ f→l ∈ t.P:=fun l hl hlf=>by
     rcases Decidable.em (l ∈ t.P) with h1 | h1
     · exact h1
     · exfalso
       have:=nodup_nat (L:=l :: f :: t.P) (M:=List.range 5) (by
         rw [List.nodup_cons,List.nodup_cons]
         exact ⟨by simp [h1,hlf],hfP,hs.nodup⟩) (fun d hd=>by
         rw [List.mem_range]
         rcases List.mem_cons.1 hd with rfl | hd
         · exact hl
         · rcases List.mem_cons.1 hd with rfl | hd
           · omega
           · have:=hs.lt d hd;omega)
       simp at this
       omega
   obtain ⟨a1,a2,a3,_⟩:=hR.piv j hj
   have hpm:=getD_mem hj 0
   have hpl:=hs.lt _ hpm
   have hsm:=hR.sum j (by have:=hR.len;omega)
   have e:sum5 (R j) = Go.Pv.dot (fun _=>1) (R j):=by unfold sum5 Go.Pv.dot;grind
   rw [e] at hsm
   have z5:∀ l,l ≠ f→l ≠ t.P.getD j 0→(if l < 5 then 1 else 0:Int) * R j l = 0:=fun l h1 h2=>by
     by_cases hl5:l < 5
     · have hl:=hin l hl5 h1
       obtain ⟨i,hi,rfl⟩:=List.getElem_of_mem hl
       have e:t.P.getD i 0 = t.P[i]:=by rw [List.getD_eq_getElem?_getD,List.getElem?_eq_getElem hi];rfl
       rw [← e,a3 i hi (fun hij=>h2 (by rw [← e,hij])),Int.mul_zero]
     · rw [if_neg hl5,Int.zero_mul]
   have:=dot_two (a:=fun l=>if l < 5 then 1 else 0) (b:=R j) (f:=f) (p:=t.P.getD j 0) (by omega) (by omega) (fun e=>hfP (by rw [e];exact hpm)) z5
   have e2:Go.Pv.dot (fun l=>if l < 5 then 1 else 0) (R j) = Go.Pv.dot (fun _=>1) (R j):=rfl
   rw [e2,hsm] at this
   rw [if_pos (show f < 5 by omega),if_pos (show t.P.getD j 0 < 5 by omega)] at this
   have e3:(R j f).natAbs = (R j (t.P.getD j 0)).natAbs:=by omega
   unfold dens den
   rw [e3,Nat.gcd_self,Nat.div_self (by omega)]
   exact Nat.dvd_refl _
end
def opx (a d:Int):Int:=Int.tdiv a (Nat.gcd a.natAbs d.natAbs:Nat) * d
theorem opx_abs {a d:Int} (ha:a ≠ 0):(opx a d).natAbs = Nat.lcm a.natAbs d.natAbs:=by
 unfold opx
 rw [Int.natAbs_mul,Int.natAbs_tdiv,Int.natAbs_natCast,Nat.lcm]
 exact Nat.div_mul_right_comm (Nat.gcd_dvd_left _ _) _
theorem opx_ne {a d:Int} (ha:a ≠ 0) (hd:d ≠ 0):opx a d ≠ 0:=fun h=>by
 have h1:=opx_abs (d:=d) ha
 rw [h] at h1
 have:=Nat.lcm_pos (show 0 < a.natAbs by omega) (show 0 < d.natAbs by omega)
 simp at h1
 omega
theorem opx_neg {a d:Int} (ha:a ≠ 0) (hd:d ≠ 0):(opx a d < 0) ↔ ¬ ((a < 0) ↔ (d < 0)):=by
 have hg:0 < Nat.gcd a.natAbs d.natAbs:=Nat.gcd_pos_of_pos_left _ (by omega)
 obtain ⟨q,hq⟩:((Nat.gcd a.natAbs d.natAbs:Nat):Int) ∣ a:=Int.ofNat_dvd_left.2 (Nat.gcd_dvd_left _ _)
 have et':∀ G:Int,G ≠ 0→a = G * q→Int.tdiv a G = q:=fun G h0 h=>by rw [h];exact Int.mul_tdiv_cancel_left q h0
 have et:Int.tdiv a (Nat.gcd a.natAbs d.natAbs:Nat) = q:=et' _ (by omega) hq
 have hgi:(0:Int) < ((Nat.gcd a.natAbs d.natAbs:Nat):Int):=by omega
 have hq0:q ≠ 0:=fun h=>by rw [h,Int.mul_zero] at hq;exact ha hq
 have hsg:a < 0 ↔ q < 0:=by
   constructor
   · intro h
     rcases Int.lt_or_lt_of_ne hq0 with h1 | h1
     · exact h1
     · have:=Int.mul_pos hgi h1;omega
   · intro h
     have:=Int.mul_neg_of_pos_of_neg hgi h
     omega
 unfold opx
 rw [et,hsg]
 rcases Int.lt_or_lt_of_ne hq0 with h1 | h1 <;> rcases Int.lt_or_lt_of_ne hd with h2 | h2
 · have:=Int.mul_pos_of_neg_of_neg h1 h2
   constructor
   · intro h;omega
   · intro h;exact absurd ⟨fun _=>h2,fun _=>h1⟩ h
 · have:=Int.mul_neg_of_neg_of_pos h1 h2
   exact ⟨fun _ h=>by have:=h.1 h1;omega,fun _=>this⟩
 · have:=Int.mul_neg_of_pos_of_neg h1 h2
   exact ⟨fun _ h=>by have:=h.2 h2;omega,fun _=>this⟩
 · have:=Int.mul_pos h1 h2
   constructor
   · intro h;omega
   · intro h;exact absurd ⟨fun h=>by omega,fun h=>by omega⟩ h
section
variable (t:Stg) (R:Nat→Vec) (f:Nat)
def sd (j:Nat):Int:=Int.tdiv (R j (t.P.getD j 0)) (Nat.gcd (R j (t.P.getD j 0)).natAbs (R j f).natAbs:Nat)
theorem sd_abs (j:Nat):(sd t R f j).natAbs = dens t R f j:=by
 unfold sd dens den
 rw [Int.natAbs_tdiv,Int.natAbs_natCast];rfl
def actN (j:Nat):Bool:=decide (R j f ≠ 0) && decide (sd t R f j < 0)
structure LS (seen:List Nat) (a:Int):Prop where
 ne:a ≠ 0
 dvd:∀ j ∈ seen,R j f ≠ 0→dens t R f j ∣ a.natAbs
 least:∀ m:Nat,(∀ j ∈ seen,R j f ≠ 0→dens t R f j ∣ m)→a.natAbs ∣ m
 neg:a < 0 ↔ (seen.filter (actN t R f)).length % 2 = 1
def lsN (a:Int) (j:Nat):Int:=if R j f = 0 then a else opx a (sd t R f j)
variable {t R f}
theorem LS.nil:LS t R f [] 1:=⟨by decide,fun j h=>(by cases h),fun m _=>Nat.one_dvd m,by simp⟩
theorem LS.snoc {seen:List Nat} {a:Int} (h:LS t R f seen a) {j:Nat} (hx:R j (t.P.getD j 0) ≠ 0):LS t R f (seen ++ [j]) (lsN t R f a j):=by
 have hdp:0 < dens t R f j:=by
   unfold dens den
   exact Nat.div_pos (Nat.gcd_le_left _ (by omega)) (Nat.gcd_pos_of_pos_left _ (by omega))
 have hsd:sd t R f j ≠ 0:=fun h0=>by
   have:=sd_abs t R f j
   rw [h0] at this
   simp at this
   omega
 unfold lsN
 by_cases hy:R j f = 0
 · rw [if_pos hy]
   refine ⟨h.ne,fun i hi hne=>?_,fun m hm=>h.least m fun i hi hne=>hm i (by simp [hi]) hne,?_⟩
   · rcases List.mem_append.1 hi with h1 | h1
     · exact h.dvd i h1 hne
     · obtain rfl:=List.mem_singleton.1 h1
       exact absurd hy hne
   · rw [List.filter_append,h.neg]
     have:actN t R f j = false:=by unfold actN;simp [hy]
     simp [this]
 · rw [if_neg hy]
   refine ⟨opx_ne h.ne hsd,fun i hi hne=>?_,fun m hm=>?_,?_⟩
   · rw [opx_abs h.ne]
     rcases List.mem_append.1 hi with h1 | h1
     · exact Nat.dvd_trans (h.dvd i h1 hne) (Nat.dvd_lcm_left _ _)
     · obtain rfl:=List.mem_singleton.1 h1
       rw [← sd_abs]
       exact Nat.dvd_lcm_right _ _
   · rw [opx_abs h.ne]
     refine Nat.lcm_dvd (h.least m fun i hi hne=>hm i (by simp [hi]) hne) ?_
     rw [sd_abs]
     exact hm j (by simp) hy
   · rw [opx_neg h.ne hsd,List.filter_append,h.neg]
     by_cases hs:sd t R f j < 0
     · have:actN t R f j = true:=by unfold actN;simp [hy,hs]
       simp only [List.filter_cons,this,if_true,List.filter_nil,List.length_append,List.length_singleton,hs,iff_true]
       omega
     · have:actN t R f j = false:=by unfold actN;simp [hs]
       simp only [List.filter_cons,this,Bool.false_eq_true,if_false,List.filter_nil,List.length_append,List.length_nil,hs,iff_false]
       omega
theorem LS.uniq {seen seen':List Nat} {a b:Int} (h:LS t R f seen a) (h':LS t R f seen' b) (hn:seen.Nodup) (hn':seen'.Nodup) (hm:∀ j,j ∈ seen ↔ j ∈ seen'):a = b:=by
 have e1:a.natAbs = b.natAbs:=Nat.dvd_antisymm (h.least _ fun j hj hne=>h'.dvd j ((hm j).1 hj) hne) (h'.least _ fun j hj hne=>h.dvd j ((hm j).2 hj) hne)
 have e2:(seen.filter (actN t R f)).length = (seen'.filter (actN t R f)).length:=by
   have a1:=nodup_nat (hn.sublist (List.filter_sublist (p:=actN t R f))) (M:=seen'.filter (actN t R f)) fun d hd=>by
     rw [List.mem_filter] at hd ⊢
     exact ⟨(hm d).1 hd.1,hd.2⟩
   have a2:=nodup_nat (hn'.sublist (List.filter_sublist (p:=actN t R f))) (M:=seen.filter (actN t R f)) fun d hd=>by
     rw [List.mem_filter] at hd ⊢
     exact ⟨(hm d).2 hd.1,hd.2⟩
   omega
 have n1:=h.neg
 have n2:=h'.neg
 rw [e2,← n2] at n1
 omega
theorem LS.le {seen:List Nat} {a:Int} (h:LS t R f seen a) {D:Nat} (hD0:0 < D) (hD:D ≤ 512) (hd:∀ j ∈ seen,dens t R f j ∣ D):-512 ≤ a∧a ≤ 512:=by
 have:=Nat.le_of_dvd hD0 (h.least D fun j hj _=>hd j hj)
 omega
variable (t R f)
def lsF:Nat→Int
 | 0=>1
 | j + 1=>lsN t R f (lsF j) j
variable {t R f}
theorem LS.all:∀ k,(∀ j,j < k→R j (t.P.getD j 0) ≠ 0)→LS t R f (List.range k) (lsF t R f k)
 | 0,_=>LS.nil
 | k + 1,h=>by
   rw [List.range_succ]
   exact (LS.all k fun j hj=>h j (by omega)).snoc (h k (by omega))
structure OS (n:Nat) (t:Stg) (R:Nat→Vec) (f:Nat) (A:Int) (seen:List Nat) (o:List Int):Prop where
 len:o.length = n
 own:∀ j ∈ seen,fv o (t.P.getD j 0) = Int.tdiv (-(R j f) * A) (R j (t.P.getD j 0))
 rest:∀ k,(∀ j ∈ seen,t.P.getD j 0 ≠ k)→fv o k = if k = f then A else 0
theorem OS.snoc {n:Nat} {A:Int} {seen:List Nat} {o:List Int} (h:OS n t R f A seen o) {j:Nat} (hj:t.P.getD j 0 < n) (hd:∀ i ∈ seen,t.P.getD i 0 ≠ t.P.getD j 0):OS n t R f A (seen ++ [j]) (o.set (t.P.getD j 0) (Int.tdiv (-(R j f) * A) (R j (t.P.getD j 0)))):=by
 refine ⟨by simp [h.len],fun i hi=>?_,fun k hk=>?_⟩
 · rw [fv_set _ (by rw [h.len];exact hj)]
   rcases List.mem_append.1 hi with h1 | h1
   · rw [if_neg (hd i h1)];exact h.own i h1
   · obtain rfl:=List.mem_singleton.1 h1
     rw [if_pos rfl]
 · rw [fv_set _ (by rw [h.len];exact hj),if_neg (fun e=>hk j (by simp) e.symm)]
   exact h.rest k fun i hi=>hk i (by simp [hi])
theorem list_fv {a b:List Int} (h:a.length = b.length) (he:∀ k,fv a k = fv b k):a = b:=by
 refine List.ext_getElem h fun k h1 h2=>?_
 have:=he k
 unfold fv at this
 rw [List.getD_eq_getElem?_getD,List.getElem?_eq_getElem h1,List.getD_eq_getElem?_getD,List.getElem?_eq_getElem h2] at this
 exact this
theorem OS.uniq {n:Nat} {A:Int} {seen seen':List Nat} {o o':List Int} (h:OS n t R f A seen o) (h':OS n t R f A seen' o') (hm:∀ j,j ∈ seen ↔ j ∈ seen'):o = o':=by
 refine list_fv (by rw [h.len,h'.len]) fun k=>?_
 by_cases hk:∃ j,j ∈ seen∧t.P.getD j 0 = k
 · obtain ⟨j,hj,rfl⟩:=hk
   rw [h.own j hj,h'.own j ((hm j).1 hj)]
 · rw [h.rest k fun j hj e=>hk ⟨j,hj,e⟩,h'.rest k fun j hj e=>hk ⟨j,(hm j).2 hj,e⟩]
variable (n:Nat) (t R f) (A:Int)
def osF:Nat→List Int
 | 0=>(List.replicate n 0).set f A
 | j + 1=>(osF j).set (t.P.getD j 0) (Int.tdiv (-(R j f) * A) (R j (t.P.getD j 0)))
variable {n t R f A}
theorem OS.nil (hf:f < n):OS n t R f A [] ((List.replicate n 0).set f A) :=
 ⟨by simp,fun j h=>(by cases h),fun k _=>by rw [fv_set _ (by simp;exact hf),fv_rep]⟩
theorem OS.all (hf:f < n) (hn:t.P.Nodup) (hlt:∀ p ∈ t.P,p < n):∀ k,k ≤ t.P.length→OS n t R f A (List.range k) (osF t R f n A k)
 | 0,_=>OS.nil hf
 | k + 1,h=>by
   rw [List.range_succ]
   exact (OS.all hf hn hlt k (by omega)).snoc (hlt _ (getD_mem (by omega) 0)) fun i hi e=>by
     have hik:=List.mem_range.1 hi
     have:=inj_getD (i:=i) (j:=k) hn (by omega) (by omega) e
     omega
end
end Go.Pv
namespace Go.Pv
theorem g92_two {a b:Int} (ha:a.natAbs < 2 ^ 62) (hb:b.natAbs < 2 ^ 62):g92 2000 [a,b] = some ((Nat.gcd a.natAbs b.natAbs:Nat):Int):=by
 rw [g92_eq (by simp) (fun x hx=>by
   rcases List.mem_cons.1 hx with rfl | hx
   · exact ha
   · obtain rfl:=List.mem_singleton.1 hx;exact hb)]
 unfold gcdL gcdL gcdL
 rw [Nat.gcd_zero_left]
structure RW (n:Nat) (t:Stg) (R:Nat→Vec) (W:List (List Int)):Prop where
 len:W.length = t.P.length
 row:∀ j,j < t.P.length→(W.getD j []).length = n
 fv:∀ j,j < t.P.length→fv (W.getD j []) = R j
 piv:∀ j,j < t.P.length→t.P.getD j 0 < n∧R j (t.P.getD j 0) ≠ 0∧∀ l,l < t.P.getD j 0→R j l = 0
 bd:∀ j,j < t.P.length→Bdd 2147483648 (R j)
 nodup:t.P.Nodup
 le:t.P.length ≤ 4
 lt:∀ p ∈ t.P,p < n
section
variable {n:Nat} {t:Stg} {R:Nat→Vec} {W:List (List Int)} {f:Nat}
theorem RW.get (h:RW n t R W) {j:Nat} (hj:j < t.P.length) (k:Nat):(W.getD j []).getD k 0 = R j k:=by
 rw [← h.fv j hj];rfl
theorem tdiv_le {a b:Int} (hb:b ≠ 0) {B:Int} (ha:-B ≤ a∧a ≤ B):-B ≤ Int.tdiv a b∧Int.tdiv a b ≤ B:=by
 have h1:(Int.tdiv a b).natAbs ≤ a.natAbs:=by
   rw [Int.natAbs_tdiv]
   exact Nat.div_le_self _ _
 omega
theorem stepA (h:RW n t R W) (hf:f < n) {j:Nat} (hj:j < t.P.length) {a:Int} (ha0:a ≠ 0) (ha:-512 ≤ a∧a ≤ 512) (ha2:-512 ≤ lsN t R f a j∧lsN t R f a j ≤ 512) (es:List (Int×Int)) (x:PP) (ids:List Nat) (rows:List (Option (List Int))) (n' f':Int) (es2:List (Int×Int)) (sn:List Nat) :
   g67M4182842S 2000 (((t.P.getD j 0:Nat):Int),(j:Int)) (((),W,es,(),(f:Int),a,n',f',()),(x,(ids,rows),())) es2 sn = some ((((),W,es,(),(f:Int),lsN t R f a j,n',f',()),(x,(ids,rows),())),es2,sn):=by
 unfold g67M4182842S g67M4182842B
 have hW:=h.len
 have hr:=h.row j hj
 obtain ⟨p1,p2,p3⟩:=h.piv j hj
 have e62:(2:Nat) ^ 62 = 4611686018427387904:=by decide
 have bx:=h.bd j hj (t.P.getD j 0)
 have bf:=h.bd j hj f
 dsimp only
 rw [if_pos (ix (by omega)),Int.toNat_natCast,if_pos (ix (by omega)),Int.toNat_natCast,h.get hj]
 by_cases hy:R j f = 0
 · rw [hy,ieq_self,Bool.not_true,cond_false]
   unfold lsN
   rw [if_pos hy]
 · have hg0:0 < Nat.gcd (R j (t.P.getD j 0)).natAbs (R j f).natAbs:=Nat.gcd_pos_of_pos_left _ (by omega)
   have hgi:((Nat.gcd (R j (t.P.getD j 0)).natAbs (R j f).natAbs:Nat):Int) ≠ 0:=by omega
   have hsb:=tdiv_le hgi bx
   have hsd:IntKind.wrap .i64 (Int.tdiv (R j (t.P.getD j 0)) ((Nat.gcd (R j (t.P.getD j 0)).natAbs (R j f).natAbs:Nat):Int)) = sd t R f j:=w64 (by omega) (by omega)
   have hsd2:sd t R f j = Int.tdiv (R j (t.P.getD j 0)) ((Nat.gcd (R j (t.P.getD j 0)).natAbs (R j f).natAbs:Nat):Int):=rfl
   have hg2:0 < Nat.gcd a.natAbs (sd t R f j).natAbs:=Nat.gcd_pos_of_pos_left _ (by omega)
   have hg2i:((Nat.gcd a.natAbs (sd t R f j).natAbs:Nat):Int) ≠ 0:=by omega
   have hab:=tdiv_le hg2i ha
   have hl:lsN t R f a j = opx a (sd t R f j):=by unfold lsN;rw [if_neg hy]
   rw [hl] at ha2
   rw [show ieq (R j f) 0 = false from decide_eq_false hy,Bool.not_false,cond_true]
   rw [if_pos (ix (by omega)),if_pos (ix (by omega)),if_pos (ix (by omega)),if_pos (ix (by omega)),if_pos (ix (by omega)),if_pos (ix (by omega))]
   rw [Int.toNat_natCast,h.get hj,g92_two (by omega) (by omega)]
   simp only [Option.bind_some]
   rw [if_neg hgi,hsd,g92_two (by omega) (by omega)]
   simp only [Option.bind_some]
   have e1:IntKind.wrap .i64 (Int.tdiv a ((Nat.gcd a.natAbs (sd t R f j).natAbs:Nat):Int)) = Int.tdiv a ((Nat.gcd a.natAbs (sd t R f j).natAbs:Nat):Int):=w64 (by omega) (by omega)
   have e2:IntKind.wrap .i64 (Int.tdiv a ((Nat.gcd a.natAbs (sd t R f j).natAbs:Nat):Int) * sd t R f j) = opx a (sd t R f j):=w64 (x:=opx a (sd t R f j)) (by omega) (by omega)
   rw [if_neg hg2i,e1,e2,hl]
theorem stepB (h:RW n t R W) (hf:f < n) {j:Nat} (hj:j < t.P.length) {A:Int} (hA:0 ≤ A∧A ≤ 512) {o:List Int} (ho:o.length = n) (hof:fv o f = A) (es:List (Int×Int)) (x:PP) (ids:List Nat) (rows:List (Option (List Int))) (n' f':Int) (es2:List (Int×Int)) (sn:List Nat) :
   g67M33462778S 2000 (((t.P.getD j 0:Nat):Int),(j:Int)) (((),W,es,(),(f:Int),(),n',f',()),(x,(ids,rows),o,())) es2 sn = some ((((),W,es,(),(f:Int),(),n',f',()),(x,(ids,rows),o.set (t.P.getD j 0) (Int.tdiv (-(R j f) * A) (R j (t.P.getD j 0))),())),es2,sn):=by
 unfold g67M33462778S g67M33462778B
 have hW:=h.len
 have hr:=h.row j hj
 obtain ⟨p1,p2,p3⟩:=h.piv j hj
 have bf:=h.bd j hj f
 have hof':o.getD f 0 = A:=hof
 dsimp only
 rw [if_pos (ix (by omega)),Int.toNat_natCast,if_pos (ix (by omega)),if_pos (ix (by omega)),if_pos (tnlt (by omega)),if_pos (ix (by omega)),if_pos (ix (by omega)),Int.toNat_natCast,h.get hj,if_neg p2,if_pos (ix (by omega)),if_pos (by omega),Int.toNat_natCast,h.get hj,hof']
 have m1:=mul_bd (a:=2147483648) (b:=512) (x:=-(R j f)) (y:=A) (by omega) (by omega) (by omega) (by omega)
 have d1:=tdiv_le (B:=2147483648 * 512) p2 m1
 have e0:ineg (R j f) = -(R j f):=Int.zero_sub _
 have e1:IntKind.wrap .i64 (-(R j f)) = -(R j f):=w64 (by omega) (by omega)
 have e2:IntKind.wrap .i64 (-(R j f) * A) = -(R j f) * A:=w64 (by omega) (by omega)
 have e3:IntKind.wrap .i64 (Int.tdiv (-(R j f) * A) (R j (t.P.getD j 0))) = Int.tdiv (-(R j f) * A) (R j (t.P.getD j 0)):=w64 (by omega) (by omega)
 rw [e0,e1,e2,e3]
def esF (t:Stg) (k:Nat):List (Int×Int):=(List.range k).map fun j=>(((t.P.getD j 0:Nat):Int),(j:Int))
theorem esF_get {k i:Nat} {q:Int×Int} (h:(esF t k)[i]? = some q):i < k∧q = (((t.P.getD i 0:Nat):Int),(i:Int)):=by
 unfold esF at h
 rw [List.getElem?_map] at h
 rcases Nat.lt_or_ge i k with h1 | h1
 · rw [List.getElem?_range h1] at h
   simp only [Option.map_some,Option.some.injEq] at h
   exact ⟨h1,h.symm⟩
 · rw [List.getElem?_eq_none (by simp;omega)] at h;cases h
theorem esF_len (k:Nat):(esF t k).length = k:=by simp [esF]
def fw (t:Stg) (R:Nat→Vec) (f:Nat):Int:=((lsF t R f t.P.length).natAbs:Int)
theorem runA (h:RW n t R W) (hf:f < n) {D:Nat} (hD0:0 < D) (hD:D ≤ 512) (hd:∀ j,j < t.P.length→dens t R f j ∣ D) (x:PP) (ids:List Nat) (rows:List (Option (List Int))) (n' f':Int) :
   mrun (g67M4182842S 2000) (((),W,esF t t.P.length,(),(f:Int),1,n',f',()),(x,(ids,rows),())) (esF t t.P.length) = some (((),W,esF t t.P.length,(),(f:Int),lsF t R f t.P.length,n',f',()),(x,(ids,rows),())):=by
 have hall:=LS.all (t:=t) (R:=R) (f:=f) t.P.length fun j hj=>(h.piv j hj).2.1
 refine mrun_st (fun seen X=>∃ a:Int,X = (((),W,esF t t.P.length,(),(f:Int),a,n',f',()),(x,(ids,rows),()))∧LS t R f seen a) _ _ ⟨1,rfl,.nil⟩ ?_ ?_
 · intro seen X i q hb hn ⟨a,hX,hL⟩ hq hi
   subst hX
   obtain ⟨hik,rfl⟩:=esF_get hq
   rw [esF_len] at hb
   have hs:=hL.snoc (j:=i) (h.piv i hik).2.1
   have hle:=hL.le hD0 hD fun j hj=>hd j (hb j hj)
   have hle2:=hs.le hD0 hD fun j hj=>by
     rcases List.mem_append.1 hj with h1 | h1
     · exact hd j (hb j h1)
     · obtain rfl:=List.mem_singleton.1 h1;exact hd j hik
   exact ⟨_,stepA h hf hik hL.ne hle hle2 _ x ids rows n' f' _ _,_,rfl,hs⟩
 · intro seen X hb hn hall2 ⟨a,hX,hL⟩
   subst hX
   rw [esF_len] at hb hall2
   have:=hL.uniq hall hn List.nodup_range fun j=>⟨fun hj=>List.mem_range.2 (hb j hj),fun hj=>hall2 j (List.mem_range.1 hj)⟩
   rw [this]
theorem runB (h:RW n t R W) (hf:f < n) (hfP:f ∉ t.P) {A:Int} (hA:0 ≤ A∧A ≤ 512) (x:PP) (ids:List Nat) (rows:List (Option (List Int))) (n' f':Int) :
   mrun (g67M33462778S 2000) (((),W,esF t t.P.length,(),(f:Int),(),n',f',()),(x,(ids,rows),(List.replicate n 0).set f A,())) (esF t t.P.length) = some (((),W,esF t t.P.length,(),(f:Int),(),n',f',()),(x,(ids,rows),osF t R f n A t.P.length,())):=by
 have hall:=OS.all (n:=n) (t:=t) (R:=R) (f:=f) (A:=A) hf h.nodup h.lt t.P.length (Nat.le_refl _)
 refine mrun_st (fun seen X=>∃ o:List Int,X = (((),W,esF t t.P.length,(),(f:Int),(),n',f',()),(x,(ids,rows),o,()))∧OS n t R f A seen o) _ _ ⟨_,rfl,.nil hf⟩ ?_ ?_
 · intro seen X i q hb hn ⟨o,hX,hO⟩ hq hi
   subst hX
   obtain ⟨hik,rfl⟩:=esF_get hq
   rw [esF_len] at hb
   have hof:fv o f = A:=by
     rw [hO.rest f fun j hj e=>hfP (by rw [← e];exact getD_mem (hb j hj) 0),if_pos rfl]
   refine ⟨_,stepB h hf hik hA hO.len hof _ x ids rows n' f' _ _,_,rfl,hO.snoc (h.piv i hik).1 fun j hj e=>hi ?_⟩
   have:=inj_getD (i:=j) (j:=i) h.nodup (hb j hj) hik e
   rw [← this];exact hj
 · intro seen X hb hn hall2 ⟨o,hX,hO⟩
   subst hX
   rw [esF_len] at hb hall2
   have:=hO.uniq hall fun j=>⟨fun hj=>List.mem_range.2 (hb j hj),fun hj=>hall2 j (List.mem_range.1 hj)⟩
   rw [this]
def wts (n:Nat) (t:Stg) (R:Nat→Vec) (f:Nat):List Int:=osF t R f n (fw t R f) t.P.length
theorem wts_ok (h:RW n t R W) (hf:f < n) (hfP:f ∉ t.P):(wts n t R f).length = n∧WT n t R f (fv (wts n t R f)):=by
 have hL:=LS.all (t:=t) (R:=R) (f:=f) t.P.length fun j hj=>(h.piv j hj).2.1
 have hO:=OS.all (n:=n) (t:=t) (R:=R) (f:=f) (A:=fw t R f) hf h.nodup h.lt t.P.length (Nat.le_refl _)
 have hff:fv (wts n t R f) f = fw t R f:=by
   unfold wts
   rw [hO.rest f fun j hj e=>hfP (by rw [← e];exact getD_mem (List.mem_range.1 hj) 0),if_pos rfl]
 refine ⟨hO.len,fun k hk hkf=>?_,?_,fun j hj=>?_,fun m hm=>?_⟩
 · unfold wts
   rw [hO.rest k fun j hj e=>hk (by rw [← e];exact getD_mem (List.mem_range.1 hj) 0),if_neg hkf]
 · rw [hff]
   have:=hL.ne
   unfold fw
   omega
 · rw [hff]
   unfold wts
   rw [hO.own j (List.mem_range.2 hj)]
   obtain ⟨p1,p2,p3⟩:=h.piv j hj
   have hdv:R j (t.P.getD j 0) ∣ -(R j f) * fw t R f:=by
     by_cases hy:R j f = 0
     · rw [hy];simp
     · have h1:=hL.dvd j (List.mem_range.2 hj) hy
       rw [← Int.natAbs_dvd_natAbs,Int.natAbs_mul,Int.natAbs_neg]
       unfold fw
       rw [Int.natAbs_natCast]
       unfold dens den at h1
       have hg:0 < Nat.gcd (R j (t.P.getD j 0)).natAbs (R j f).natAbs:=Nat.gcd_pos_of_pos_left _ (by omega)
       have e1:(R j (t.P.getD j 0)).natAbs = Nat.gcd (R j (t.P.getD j 0)).natAbs (R j f).natAbs * ((R j (t.P.getD j 0)).natAbs / Nat.gcd (R j (t.P.getD j 0)).natAbs (R j f).natAbs):=(Nat.mul_div_cancel' (Nat.gcd_dvd_left _ _)).symm
       rw [e1]
       exact Nat.mul_dvd_mul (Nat.gcd_dvd_right _ _) h1
   exact Int.tdiv_mul_cancel hdv
 · rw [hff]
   unfold fw
   rw [Int.natAbs_natCast]
   exact hL.least m fun j hj hne=>hm j (List.mem_range.1 hj) hne
end
end Go.Pv
namespace Go.Pv
theorem nodup_len:∀ {L M:List (List Int)},L.Nodup→(∀ d ∈ L,d ∈ M)→L.length ≤ M.length
 | [],M,_,_=>by simp
 | a :: L,M,h,hs=>by
   have h1:=List.nodup_cons.1 h
   have ha:a ∈ M:=hs a (by simp)
   have ih:=nodup_len (L:=L) (M:=M.erase a) h1.2 (fun d hd=>by
     have hne:d ≠ a:=fun e=>h1.1 (e ▸ hd)
     exact (List.mem_erase_of_ne hne).2 (hs d (by simp [hd])))
   have hl:=List.length_erase_of_mem ha
   have hp:=List.length_pos_of_mem ha
   simp only [List.length_cons]
   omega
def allC:Nat→Nat→List (List Int)
 | 0,0=>[[]]
 | 0,_ + 1=>[]
 | n + 1,s=>(List.range (s + 1)).flatMap fun k=>(allC n (s - k)).map fun l=>(k:Int) :: l
theorem mem_allC:∀ (n s:Nat) (l:List Int),l.length = n→(∀ t ∈ l,0 ≤ t)→l.sum = (s:Int)→l ∈ allC n s
 | 0,0,[],_,_,_=>by simp [allC]
 | 0,s + 1,[],_,_,h=>by simp at h;omega
 | n + 1,s,a :: l,hl,hp,hs=>by
   have ha:=hp a (by simp)
   have hn:=sum_nonneg l (fun t ht=>hp t (by simp [ht]))
   simp only [List.sum_cons] at hs
   simp only [allC,List.mem_flatMap,List.mem_range,List.mem_map]
   refine ⟨a.toNat,by omega,l,mem_allC n (s - a.toNat) l (by simpa using hl) (fun t ht=>hp t (by simp [ht])) (by omega),by rw [Int.toNat_of_nonneg ha]⟩
def lensB:Bool:=[1,2,3,4,5].all fun n=>[0,1,2,3,4,5,6,7,8,9].all fun s=>decide ((allC n s).length ≤ 715)
theorem lens_ok:lensB = true:=by decide +kernel
theorem allC_len (n s:Nat) (h1:1 ≤ n) (h2:n ≤ 5) (h3:s ≤ 9):(allC n s).length ≤ 715:=by
 have h:=lens_ok
 unfold lensB at h
 have a:=List.all_eq_true.1 h n (by simp;omega)
 have b:=List.all_eq_true.1 a s (by simp;omega)
 exact of_decide_eq_true b
def nbr (x:PP) (c:List Int):List (List Int):=(x.2.2.2.1.filter fun r=>canR r c).map fun r=>stepR r c
def addN (L:List (List Int)) (d:List Int):List (List Int):=if d ∈ L then L else L ++ [d]
def rnd (x:PP) (L:List (List Int)) (c:List Int):List (List Int):=(nbr x c).foldl addN L
def bfs (x:PP):Nat→Nat→List (List Int)→List (List Int)
 | 0,_,L=>L
 | F + 1,i,L=>if i < L.length then bfs x F (i + 1) (rnd x L (L.getD i [])) else L
inductive Reach (x:PP):List Int→List Int→Prop
 | refl (c):Reach x c c
 | step {c d e}:Reach x c d→e ∈ nbr x d→Reach x c e
theorem Reach.trans {x:PP} {c d e:List Int} (h1:Reach x c d) (h2:Reach x d e):Reach x c e:=by
 induction h2 with
 | refl=>exact h1
 | step _ hn ih=>exact ih.step hn
theorem nbr_crowd {x:PP} (hx:PT x) {c d:List Int} (hc:Crowd c x.1) (hd:d ∈ nbr x c):Crowd d x.1∧d.sum = c.sum:=by
 unfold nbr at hd
 obtain ⟨r,hr,rfl⟩:=List.mem_map.1 hd
 obtain ⟨hr,hcan⟩:=List.mem_filter.1 hr
 have hro:=hx.rules.2.1 r hr
 refine ⟨hc.stepR hx hro hcan,?_⟩
 obtain ⟨p,q,s,t,rfl,hp,hq,hs,ht⟩:=rule_nat hro
 have hl:=hc.len
 exact stepL_sum (p:=p) (q:=q) (s:=s) (t:=t) (by omega) (by omega) (by omega) (by omega)
theorem Reach.crowd {x:PP} (hx:PT x) {c d:List Int} (h:Reach x c d) (hc:Crowd c x.1):Crowd d x.1∧d.sum = c.sum:=by
 induction h with
 | refl=>exact ⟨hc,rfl⟩
 | step _ hn ih =>
   obtain ⟨h1,h2⟩:=nbr_crowd hx ih.1 hn
   exact ⟨h1,h2.trans ih.2⟩
theorem addN_mem {L:List (List Int)} {d e:List Int}:e ∈ addN L d ↔ e ∈ L ∨ e = d:=by
 unfold addN
 split
 · rename_i h
   constructor
   · exact .inl
   · rintro (h1 | rfl)
     · exact h1
     · exact h
 · simp
theorem addN_nodup {L:List (List Int)} (h:L.Nodup) (d:List Int):(addN L d).Nodup:=by
 unfold addN
 split
 · exact h
 · rename_i hd
   rw [List.nodup_append]
   refine ⟨h,by simp,fun a ha b hb=>?_⟩
   obtain rfl:=List.mem_singleton.1 hb
   exact fun e=>hd (e ▸ ha)
theorem addN_pre (L:List (List Int)) (d:List Int):∃ T,addN L d = L ++ T:=by
 unfold addN
 split
 · exact ⟨[],by simp⟩
 · exact ⟨[d],rfl⟩
theorem fold_mem {ds:List (List Int)}:∀ {L:List (List Int)} {e:List Int},e ∈ ds.foldl addN L ↔ e ∈ L ∨ e ∈ ds:=by
 induction ds with
 | nil=>intro L e;simp
 | cons d ds ih =>
   intro L e
   rw [List.foldl_cons,ih,addN_mem,List.mem_cons,or_assoc]
theorem fold_nodup {ds:List (List Int)}:∀ {L:List (List Int)},L.Nodup→(ds.foldl addN L).Nodup:=by
 induction ds with
 | nil=>intro L h;exact h
 | cons d ds ih=>intro L h;exact ih (addN_nodup h d)
theorem fold_pre {ds:List (List Int)}:∀ (L:List (List Int)),∃ T,ds.foldl addN L = L ++ T:=by
 induction ds with
 | nil=>intro L;exact ⟨[],by simp⟩
 | cons d ds ih =>
   intro L
   obtain ⟨T,h1⟩:=addN_pre L d
   obtain ⟨T2,h2⟩:=ih (addN L d)
   exact ⟨T ++ T2,by rw [List.foldl_cons,h2,h1,List.append_assoc]⟩
structure BInv (x:PP) (c:List Int) (i:Nat) (L:List (List Int)):Prop where
 head:L.getD 0 [] = c∧0 < L.length
 nodup:L.Nodup
 reach:∀ d ∈ L,Reach x c d
 closed:∀ j,j < i→∀ e ∈ nbr x (L.getD j []),e ∈ L
 le:i ≤ L.length
theorem getD_app (L T:List (List Int)) (i:Nat) (h:i < L.length):(L ++ T).getD i [] = L.getD i []:=by
 simp only [List.getD_eq_getElem?_getD,List.getElem?_append,h,if_true]
theorem BInv.next {x:PP} {c:List Int} {i:Nat} {L:List (List Int)} (h:BInv x c i L) (hi:i < L.length):BInv x c (i + 1) (rnd x L (L.getD i [])):=by
 obtain ⟨T,hT⟩:=fold_pre (ds:=nbr x (L.getD i [])) L
 have hm:=h.reach _ (getD_mem hi [])
 refine ⟨?_,fold_nodup h.nodup,fun d hd=>?_,fun j hj e he=>?_,?_⟩
 · unfold rnd
   rw [hT,getD_app _ _ _ h.head.2]
   exact ⟨h.head.1,by have:=h.head.2;simp;omega⟩
 · rcases fold_mem.1 hd with hd | hd
   · exact h.reach d hd
   · exact hm.step hd
 · unfold rnd at he ⊢
   refine fold_mem.2 ?_
   rw [hT,getD_app _ _ _ (by omega)] at he
   by_cases hji:j = i
   · subst hji;exact .inr he
   · exact .inl (h.closed j (by omega) e he)
 · unfold rnd
   rw [hT];simp;omega
theorem BInv.len {x:PP} (hx:PT x) {c:List Int} (hc:Crowd c x.1) {i:Nat} {L:List (List Int)} (h:BInv x c i L):L.length ≤ 715:=by
 have hn:=hx.n
 have hs:=hc.sum
 refine Nat.le_trans (nodup_len h.nodup (M:=allC x.1.toNat c.sum.toNat) fun d hd=>?_) (allC_len _ _ (by omega) (by omega) (by omega))
 obtain ⟨h1,h2⟩:=(h.reach d hd).crowd hx hc
 have:=h1.len
 exact mem_allC _ _ d (by omega) h1.pos (by rw [h2];omega)
theorem BInv.start (x:PP) (c:List Int):BInv x c 0 [c] :=
 ⟨⟨rfl,by simp⟩,by simp,fun d hd=>by obtain rfl:=List.mem_singleton.1 hd;exact .refl d,fun j hj=>by omega,by simp⟩
structure Found (x:PP) (c:List Int) (L:List (List Int)):Prop where
 head:L.getD 0 [] = c∧0 < L.length
 nodup:L.Nodup
 mem:∀ d,d ∈ L ↔ Reach x c d
 len:L.length ≤ 715
theorem BInv.found {x:PP} (hx:PT x) {c:List Int} (hc:Crowd c x.1) {L:List (List Int)} (h:BInv x c L.length L):Found x c L:=by
 refine ⟨h.head,h.nodup,fun d=>⟨h.reach d,fun hr=>?_⟩,h.len hx hc⟩
 induction hr with
 | refl=>rw [← h.head.1];exact getD_mem h.head.2 []
 | step _ hn ih =>
   obtain ⟨j,hj,rfl⟩:=List.getElem_of_mem ih
   refine h.closed j hj _ ?_
   rw [List.getD_eq_getElem?_getD,List.getElem?_eq_getElem hj]
   exact hn
theorem bfs_found {x:PP} (hx:PT x) {c:List Int} (hc:Crowd c x.1):∀ (F i:Nat) (L:List (List Int)),BInv x c i L→715 < F + i→Found x c (bfs x F i L)
 | 0,i,L,h,hF=>by have:=h.len hx hc;have:=h.le;omega
 | F + 1,i,L,h,hF=>by
   unfold bfs
   split
   · rename_i hi
     exact bfs_found hx hc F (i + 1) _ (h.next hi) (by omega)
   · rename_i hi
     have:i = L.length:=by have:=h.le;omega
     subst this
     exact h.found hx hc
end Go.Pv
namespace Go.Pv
section
variable {α β:Type} {eq:α→α→Bool} (heq:∀ a b,eq a b = true ↔ a = b)
include heq
theorem find_put [DecidableEq α] (k k':α) (v:β):∀ m:List (α×β),mapFind eq k' (mapPut eq k v m) = if k' = k then some v else mapFind eq k' m
 | []=>by
   simp only [mapPut,mapFind]
   by_cases h:k' = k
   · rw [if_pos ((heq _ _).2 h),if_pos h]
   · rw [if_neg (fun h2=>h ((heq _ _).1 h2)),if_neg h]
 | q :: r=>by
   simp only [mapPut]
   by_cases h1:eq k q.1 = true
   · rw [if_pos h1]
     have e1:=(heq _ _).1 h1
     simp only [mapFind]
     by_cases h:k' = k
     · rw [if_pos ((heq _ _).2 h),if_pos h]
     · have h2:¬ (eq k' q.1 = true):=fun h2=>h ((heq _ _).1 h2 |>.trans e1.symm)
       have h3:¬ (eq k' k = true):=fun h2=>h ((heq _ _).1 h2)
       rw [if_neg h3,if_neg h,if_neg h2]
   · rw [if_neg h1]
     simp only [mapFind]
     by_cases h2:eq k' q.1 = true
     · have e2:=(heq _ _).1 h2
       have h:k' ≠ k:=fun h=>h1 ((heq _ _).2 (h.symm.trans e2))
       rw [if_pos h2,if_neg h,if_pos h2]
     · rw [if_neg h2,find_put k k' v r,if_neg h2]
end
theorem go_eq:∀ a b:List Int,Ty.beq.go ieq a b = true ↔ a = b
 | [],[]=>by simp [Ty.beq.go]
 | [],_ :: _=>by simp [Ty.beq.go]
 | _ :: _,[]=>by simp [Ty.beq.go]
 | x :: a,y :: b=>by simp [Ty.beq.go,go_eq a b,ieq]
theorem arr_eq (a b:List Int):Ty.beq (.arr 5 (.int .i64)) a b = true ↔ a = b:=go_eq a b
theorem int_eq (a b:Int):Ty.beq (.int .i64) a b = true ↔ a = b:=by
 show ieq a b = true ↔ a = b
 simp [ieq]
theorem pad_inj {a b:List Int} (h:a.length = b.length) (he:pad a = pad b):a = b:=by
 have:=congrArg (List.take a.length) he
 rw [pad_take] at this
 rw [this,h,pad_take]
abbrev HowT:=List (List Int×(List Int×Int×Unit))
def HInv (n:Int) (how:HowT) (L:List (List Int)):Prop:=∀ e:List Int,(e.length:Int) = n→(mapFind (Ty.beq (.arr 5 (.int .i64))) (pad e) how).isSome = decide (e ∈ L)
abbrev t79:Ty:=.pair (.int .i64) (tyO [.box (.d (.pair (.int .i64) (.pair (.lst (.int .i64)) (.pair (.lst (.int .i64)) (.pair (.lst (.arr 4 (.int .i64))) .unit))))) (.a (.d (.pair (.int .i64) (.pair (.lst (.int .i64)) (.pair (.lst (.int .i64)) (.pair (.lst (.arr 4 (.int .i64))) .unit)))))),.box .leaf (.a (.mp 13 0)),.box (.d (.lst (.arr 5 (.int .i64)))) (.a (.sl (.arr 5 (.int .i64)) 18 0)),.box (.d (.int .i64)) (.a (.d (.int .i64))),.map (.arr 5 (.int .i64)) (.pair (.arr 5 (.int .i64)) (.pair (.int .i64) .unit)),.vec (.arr 5 (.int .i64))])
noncomputable abbrev run79 (N:Nat):Cbs t79:=⟨(g79R7826 N).told.run [(.ref 2 0 []),(.ref 6 0 []),(.ref 7 0 []),(.ref 8 0 [])],.unit,fun _ _=>none⟩
theorem nbr_drop (x:PP) (d:List Int) (k:Nat) (hk:k < x.2.2.2.1.length) (L:List (List Int)) :
   (((x.2.2.2.1.drop k).filter fun r=>canR r d).map fun r=>stepR r d).foldl addN L =
     (((x.2.2.2.1.drop (k + 1)).filter fun r=>canR r d).map fun r=>stepR r d).foldl addN (if canR (x.2.2.2.1.getD k (List.replicate 4 0)) d = true then addN L (stepR (x.2.2.2.1.getD k (List.replicate 4 0)) d) else L):=by
 have hd:x.2.2.2.1.drop k = x.2.2.2.1.getD k (List.replicate 4 0) :: x.2.2.2.1.drop (k + 1):=by
   rw [List.drop_eq_getElem_cons hk];simp [hk]
 rw [hd,List.filter_cons]
 split <;> rfl
def allL (x:PP) (c:List Int):List (List Int):=bfs x 2000 0 [c]
theorem allL_found {x:PP} (hx:PT x) {c:List Int} (hc:Crowd c x.1):Found x c (allL x c):=bfs_found hx hc 2000 0 [c] (.start x c) (by omega)
end Go.Pv
namespace Go.Pv
theorem first90 {r:List Int} {p:Nat} (hl:r.length ≤ 1000) (hp:p < r.length) (hne:r.getD p 0 ≠ 0) (hz:∀ l,l < p→r.getD l 0 = 0):g90 2000 r (fun (x5:(Int)×(Unit))=>Option.bind (g91 2000 x5.1) fun y6=>some y6) = some (p:Int):=by
 unfold g90
 rw [g90L26_eq]
 have:∀ (F i:Nat),p - i < F→i ≤ p→g90L26f 2000 F (fun e2=>some e2) (some (-1)) r (fun (x5:(Int)×(Unit))=>Option.bind (g91 2000 x5.1) fun y6=>some y6) (r.length:Int) (i:Int) = some (p:Int):=by
   intro F
   induction F with
   | zero=>intro i h;omega
   | succ F ih =>
     intro i h hi
     rw [g90L26f_succ]
     unfold g90L26B
     have e1:decide ((i:Int) < (r.length:Int)) = true:=by simp;omega
     rw [e1,cond_true,if_pos (ix (by omega)),Int.toNat_natCast]
     unfold g91
     simp only [Option.bind_some]
     by_cases hip:i = p
     · subst hip
       rw [show ieq (r.getD i 0) 0 = false from decide_eq_false hne,Bool.not_false,cond_true]
     · rw [hz i (by omega),ieq_self,Bool.not_true,cond_false,wn i (by omega)]
       exact ih (i + 1) (by omega) (by omega)
 have h0:=this 2000 0 (by omega) (by omega)
 simp only [Int.natCast_zero] at h0
 exact h0
theorem mapPut_new {β:Type} (k:Int) (v:β):∀ m:List (Int×β),(∀ q ∈ m,q.1 ≠ k)→mapPut (Ty.beq (.int .i64)) k v m = m ++ [(k,v)]
 | [],_=>rfl
 | q :: m,h=>by
   unfold mapPut
   rw [if_neg (fun e=>h q (by simp) ((int_eq k q.1).1 e).symm),mapPut_new k v m fun r hr=>h r (by simp [hr])]
   rfl
theorem mapFind_int {β:Type} (k:Int):∀ m:List (Int×β),(mapFind (Ty.beq (.int .i64)) k m).isSome = decide (∃ q ∈ m,q.1 = k)
 | []=>by simp [mapFind]
 | q :: m=>by
   unfold mapFind
   by_cases h:Ty.beq (.int .i64) k q.1 = true
   · rw [if_pos h]
     have:=(int_eq k q.1).1 h
     simp [this]
   · rw [if_neg h,mapFind_int k m]
     have h2:¬ q.1 = k:=fun e=>h ((int_eq k q.1).2 e.symm)
     simp [h2]
section
variable {n:Nat} {t:Stg} {R:Nat→Vec} {W:List (List Int)}
theorem firsts_loop {C:Type} (k0:List (List Int)→PP→List (Int×Int)→Option C) (h:RW n t R W) (hn:n ≤ 5) (x:PP) :
   ∀ (F i:Nat),t.P.length - i < F→i ≤ t.P.length→g67L506f 2000 F k0 W W (t.P.length:Int) (i:Int) x (esF t i) = k0 W x (esF t t.P.length)
 | 0,i,hF,_=>by omega
 | F + 1,i,hF,hi=>by
   rw [g67L506f_succ]
   unfold g67L506B
   have hW:=h.len
   have hle:=h.le
   by_cases hlt:i < t.P.length
   · have e1:decide ((i:Int) < (t.P.length:Int)) = true:=by simp;omega
     obtain ⟨p1,p2,p3⟩:=h.piv i hlt
     have hr:=h.row i hlt
     rw [e1,cond_true,if_pos (ix (by omega)),Int.toNat_natCast,first90 (p:=t.P.getD i 0) (by omega) (by omega) (by rw [h.get hlt];exact p2) (fun l hl=>by rw [h.get hlt];exact p3 l hl)]
     simp only [Option.bind_some]
     rw [wn i (by omega),mapPut_new _ _ _ fun q hq=>by
       unfold esF at hq
       obtain ⟨j,hj,rfl⟩:=List.mem_map.1 hq
       have hj:=List.mem_range.1 hj
       intro e
       have e2:t.P.getD j 0 = t.P.getD i 0:=by
         dsimp only at e
         omega
       have:=inj_getD (i:=j) (j:=i) h.nodup (by omega) hlt e2
       omega]
     have:esF t i ++ [(((t.P.getD i 0:Nat):Int),(i:Int))] = esF t (i + 1):=by unfold esF;rw [List.range_succ,List.map_append];rfl
     rw [this]
     exact firsts_loop k0 h hn x F (i + 1) (by omega) (by omega)
   · have e1:decide ((i:Int) < (t.P.length:Int)) = false:=by simp;omega
     have:i = t.P.length:=by omega
     rw [e1,cond_false,this]
theorem esF_find (f:Nat):(mapFind (Ty.beq (.int .i64)) (f:Int) (esF t t.P.length)).isSome = t.P.contains f:=by
 rw [mapFind_int]
 rw [Bool.eq_iff_iff]
 rw [decide_eq_true_iff,List.contains_iff_mem]
 constructor
 · rintro ⟨q,hq,he⟩
   unfold esF at hq
   obtain ⟨j,hj,rfl⟩:=List.mem_map.1 hq
   have:t.P.getD j 0 = f:=by dsimp only at he;omega
   rw [← this]
   exact getD_mem (List.mem_range.1 hj) 0
 · intro hf
   obtain ⟨j,hj,rfl⟩:=List.getElem_of_mem hf
   refine ⟨(((t.P.getD j 0:Nat):Int),(j:Int)),?_,?_⟩
   · unfold esF
     exact List.mem_map.2 ⟨j,List.mem_range.2 hj,rfl⟩
   · rw [List.getD_eq_getElem?_getD,List.getElem?_eq_getElem hj];rfl
theorem filt_len (p:Nat→Bool):∀ l:List Nat,(l.filter p).length + (l.filter fun f=>!p f).length = l.length
 | []=>rfl
 | a :: l=>by
   have:=filt_len p l
   cases h:p a <;> simp only [List.filter_cons,h,Bool.not_true,Bool.not_false,Bool.false_eq_true,if_true,if_false,List.length_cons] <;> omega
def frees (t:Stg) (c:Nat):List Nat:=(List.range c).filter fun f=>!t.P.contains f
theorem mem_frees {c f:Nat}:f ∈ frees t c ↔ f < c∧f ∉ t.P:=by
 unfold frees
 rw [List.mem_filter,List.mem_range]
 simp
theorem frees_len (hn:t.P.Nodup) (hlt:∀ p ∈ t.P,p < n):(frees t n).length + t.P.length = n:=by
 have h1:=filt_len (fun f=>!t.P.contains f) (List.range n)
 rw [List.length_range] at h1
 have h2:((List.range n).filter fun f=>!(!t.P.contains f)).length = t.P.length:=by
   have a1:=nodup_nat (List.nodup_range.sublist (List.filter_sublist (p:=fun f=>!(!t.P.contains f)) (l:=List.range n))) (M:=t.P) fun d hd=>by
     have:=(List.mem_filter.1 hd).2
     simpa using this
   have a2:=nodup_nat hn (M:=(List.range n).filter fun f=>!(!t.P.contains f)) fun d hd=>by
     rw [List.mem_filter,List.mem_range]
     exact ⟨hlt d hd,by simpa using hd⟩
   omega
 unfold frees
 omega
theorem basis_loop {C:Type} (k0:PP→List Nat→List (Option (List Int))→Option C) (h:RW n t R W) (hn:n ≤ 5) (hD:∀ f,f < n→f ∉ t.P→∃ D:Nat,0 < D∧D ≤ 512∧∀ j,j < t.P.length→dens t R f j ∣ D) (x:PP) (hx:x.1 = (n:Int)) :
   ∀ (F f:Nat) (ids:List Nat) (rows:List (Option (List Int))),n - f < F→f ≤ n→GR ids rows ((frees t f).map (wts n t R))→∃ ids' rows',GR ids' rows' ((frees t n).map (wts n t R))∧g67L2042f 2000 F k0 W (esF t t.P.length) (n:Int) (f:Int) x ids rows = k0 x ids' rows'
 | 0,f,ids,rows,hF,_,_=>by omega
 | F + 1,f,ids,rows,hF,hf,hG=>by
   rw [g67L2042f_succ]
   unfold g67L2042B
   by_cases hlt:f < n
   · have e1:decide ((f:Int) < (n:Int)) = true:=by simp;omega
     rw [e1,cond_true,esF_find]
     by_cases hfP:f ∈ t.P
     · rw [List.contains_iff_mem.2 hfP,cond_true,wn f (by omega)]
       refine basis_loop k0 h hn hD x hx F (f + 1) ids rows (by omega) (by omega) ?_
       have:frees t (f + 1) = frees t f:=by
         unfold frees
         rw [List.range_succ,List.filter_append]
         simp [hfP]
       rw [this];exact hG
     · have hc:t.P.contains f = false:=by
         cases hb:t.P.contains f with
         | false=>rfl
         | true=>exact absurd (List.contains_iff_mem.1 hb) hfP
       obtain ⟨D,hD0,hD1,hD2⟩:=hD f hlt hfP
       have hL:=LS.all (t:=t) (R:=R) (f:=f) t.P.length fun j hj=>(h.piv j hj).2.1
       have hle:=hL.le hD0 hD1 fun j hj=>hD2 j (List.mem_range.1 hj)
       have hfw:imax (lsF t R f t.P.length) (IntKind.wrap .i64 (ineg (lsF t R f t.P.length))) = fw t R f:=by
         unfold fw
         rw [show ineg (lsF t R f t.P.length) = -(lsF t R f t.P.length) from Int.zero_sub _,w64 (by omega) (by omega)]
         simp only [imax]
         split <;> omega
       have hfw2:0 ≤ fw t R f∧fw t R f ≤ 512:=by unfold fw;omega
       have hil:=hG.len
       have hfl:(frees t f).length ≤ f:=by
         unfold frees
         refine Nat.le_trans (List.length_filter_le _ _) ?_
         simp
       rw [List.length_map] at hil
       rw [hc,cond_false,runA h hlt hD0 hD1 hD2]
       simp only [Option.bind_some]
       rw [hx,if_pos (mkOk_n hn),Int.toNat_natCast,if_pos (ix (by rw [List.length_replicate];exact hlt)),if_pos (tnlt (by rw [List.length_replicate];exact hlt)),Int.toNat_natCast,hfw,runB h hlt hfP hfw2]
       simp only [Option.bind_some]
       rw [if_pos (by simp [maxCount];omega),wn f (by omega)]
       have hadd:=hG.snoc (wts n t R f)
       have:frees t (f + 1) = frees t f ++ [f]:=by
         unfold frees
         rw [List.range_succ,List.filter_append]
         simp [hfP]
       have e2:(frees t f).map (wts n t R) ++ [wts n t R f] = (frees t (f + 1)).map (wts n t R):=by rw [this,List.map_append];rfl
       rw [e2] at hadd
       exact basis_loop k0 h hn hD x hx F (f + 1) _ _ (by omega) (by omega) hadd
   · have e1:decide ((f:Int) < (n:Int)) = false:=by simp;omega
     have:f = n:=by omega
     subst this
     rw [e1,cond_false]
     exact ⟨ids,rows,hG,rfl⟩
end
structure Bas (x:PP) (t:Stg) (R:Nat→Vec) (m:Nat):Prop where
 elim:Elim 0 x.1.toNat ⟨idM,[],(chgs x).map fv⟩ t
 si:SI x.1.toNat x.1.toNat ((chgs x).map fv) t
 ab:AB ((chgs x).map fv) t
 pr:PR x.1.toNat t m R
 le:t.P.length ≤ 4
 ok:∀ f,f < x.1.toNat→f ∉ t.P→(wts x.1.toNat t R f).length = x.1.toNat∧WT x.1.toNat t R f (fv (wts x.1.toNat t R f))
 rul:∀ v ∈ (chgs x).map fv,Rul x.1.toNat v
theorem basis67 {x:PP} (hx:PT x):∃ t R m,Bas x t R m∧g67 2000 x = some ((frees t x.1.toNat).map (wts x.1.toNat t R)):=by
 obtain ⟨hn1,hn2⟩:=hx.n
 have hr15:=hx.rules.1
 have hn:x.1 = ((x.1.toNat:Nat):Int):=by omega
 have hlen:∀ r ∈ chgs x,r.length = x.1.toNat:=fun r hr=>by
   obtain ⟨q,_,rfl⟩:=List.mem_map.1 hr
   exact chg_len _ _
 have hV:∀ r ∈ chgs x,Rul x.1.toNat (fv r):=fun r hr=>by
   obtain ⟨q,hq,rfl⟩:=List.mem_map.1 hr
   exact rul_chg (by omega) (by rw [← hn];exact hx.rules.2.1 q hq)
 have hV':∀ v ∈ (chgs x).map fv,Rul x.1.toNat v:=fun v hv=>by
   obtain ⟨r,hr,rfl⟩:=List.mem_map.1 hv
   exact hV r hr
 unfold g67
 rw [g67L58_eq]
 obtain ⟨ids,rows,hG,he⟩:=rows67 (fun e1 e2 e3=>Option.bind (g89x 2000 e2 e3) fun r4=>g67L506 2000 (fun e8 e9 e10=>g67L2042 2000 (fun e15 e16 e17=>Option.bind (gridAll e17 e16) fun r18=>some r18) e8 e10 e9.1 0 e9 ([]:List Nat) ([]:List (Option (List (Int))))) r4.1.1 r4.1.1 ((List.length r4.1.1:Nat):Int) 0 e1 ([]:List ((Int)×(Int)))) hx 2000 0 [] [] (by omega) (by omega) ⟨rfl,fun i hi=>(by simp at hi),List.nodup_nil⟩
 simp only [Int.natCast_zero] at he
 have hcl:(chgs x).length ≤ 1000:=by unfold chgs;rw [List.length_map];omega
 obtain ⟨t,M',a1,a2,a3,a4,a5,a6,a7,a8⟩:=reduced89 (n:=x.1.toNat) (by omega) (by omega) hcl hG hlen hV
 have hPm:=a4.len
 have hget:∀ j,j < t.P.length→(M'.take t.P.length).getD j [] = M'.getD j []:=fun j hj=>by
   simp [List.getD_eq_getElem?_getD,List.getElem?_take,hj]
 have hbn:bnd t.P.length ≤ 2147483648:=by
   have:∀ j,j ≤ 4→bnd j ≤ 2147483648:=fun j hj=>by
     match j,hj with
     | 0,_=>decide
     | 1,_=>decide
     | 2,_=>decide
     | 3,_=>decide
     | 4,_=>decide
   exact this _ a5
 have hRW:RW x.1.toNat t (fun j=>fv (M'.getD j [])) (M'.take t.P.length):=by
   refine ⟨by rw [List.length_take];omega,fun j hj=>by rw [hget j hj];exact a7 j (by omega),fun j hj=>by rw [hget j hj],fun j hj=>?_,fun j hj k=>?_,a2.nodup,a5,a2.lt⟩
   · obtain ⟨b1,b2,b3,b4⟩:=a4.piv j hj
     exact ⟨a2.lt _ (getD_mem hj 0),b2,b4⟩
   · have:=a4.bd j (by omega) k
     omega
 refine ⟨t,fun j=>fv (M'.getD j []),(chgs x).length,⟨a1,a2,a3,a4,a5,fun f hf hfP=>wts_ok hRW hf hfP,hV'⟩,?_⟩
 refine he.trans ?_
 rw [a8]
 simp only [Option.bind_some]
 have hWl:(M'.take t.P.length).length = t.P.length:=hRW.len
 rw [hWl,g67L506_eq]
 have f1:=firsts_loop (fun e8 e9 e10=>g67L2042 2000 (fun e15 e16 e17=>Option.bind (gridAll e17 e16) fun r18=>some r18) e8 e10 e9.1 0 e9 ([]:List Nat) ([]:List (Option (List (Int))))) hRW (by omega) x 2000 0 (by omega) (by omega)
 refine f1.trans ?_
 rw [g67L2042_eq]
 obtain ⟨ids2,rows2,b1,b2⟩:=basis_loop (fun e15 e16 e17=>Option.bind (gridAll e17 e16) fun r18=>some r18) hRW (by omega) (fun f hf hfP=>dens_le (by omega) hV' a2 a3 a4 a5 hf hfP) x hn 2000 0 [] [] (by omega) (by omega) ⟨rfl,fun i hi=>(by simp [frees] at hi),List.nodup_nil⟩
 simp only [Int.natCast_zero] at b2
 rw [← hn] at b2
 refine b2.trans ?_
 rw [b1.allGR]
 rfl
end Go.Pv
namespace Go.Pv
def dbnd:Nat→Int
 | 0=>9
 | j + 1=>2 * (dbnd j * bnd j)
theorem bnd_dbnd:∀ j,bnd j ≤ dbnd j
 | 0=>by decide
 | j + 1=>by
   have h:=bnd_dbnd j
   have hp:=bnd_pos j
   have:=Int.mul_le_mul_of_nonneg_right h (show 0 ≤ bnd j by omega)
   show 2 * (bnd j * bnd j) ≤ 2 * (dbnd j * bnd j)
   omega
theorem bnd_succ (j:Nat):bnd j ≤ bnd (j + 1):=by
 have hp:=bnd_pos j
 have:=Int.mul_le_mul_of_nonneg_left hp (show 0 ≤ bnd j by omega)
 show bnd j ≤ 2 * (bnd j * bnd j)
 omega
structure RelN (own:Vec) (c:Nat) (r r':Vec):Prop where
 eq:∃ g:Int,g ≠ 0∧∀ k,g * r' k = r k * own c - own k * r c
 le:∀ k,(r' k).natAbs ≤ (r k * own c - own k * r c).natAbs
 same:r c = 0→∀ k,(r' k).natAbs ≤ (r k).natAbs
structure RR (s:Stg) (m:Nat) (R:Nat→Vec):Prop where
 len:m = s.P.length + s.V.length
 low:∀ i,i < s.V.length→Par (R (s.P.length + i)) (app s.A (s.V.getD i (fun _=>0)))
 sum:∀ j,s.P.length ≤ j→j + 1 < m→sum5 (R j) = 0
 bd:∀ j,s.P.length ≤ j→j < m→Bdd (if j + 1 = m then dbnd s.P.length else bnd s.P.length) (R j)
theorem RR.zero_before {n c i m:Nat} {V0:List Vec} {s:Stg} {R R1:Nat→Vec} (h:RR s m R) (hf:FirstAt c i s)
   (h1:∀ j,R1 j = if j = s.P.length then R (s.P.length + i) else if j = s.P.length + i then R s.P.length else R j) (hl:s.P.length + i + 1 = m) {j:Nat} (hj:s.P.length < j) (hjm:j < m):R1 j c = 0:=by
 have hz:∀ l,l < i→R (s.P.length + l) c = 0:=fun l hl=>((h.low l (by have:=hf.1;omega)).zero c).2 (hf.2.2 l hl)
 rw [h1,if_neg (by omega)]
 split
 · exact hz 0 (by omega)
 · have:=hz (j - s.P.length) (by omega)
   rwa [show s.P.length + (j - s.P.length) = j by omega] at this
theorem RR.bd1 {c i m:Nat} {s:Stg} {R R1:Nat→Vec} (h:RR s m R) (hf:FirstAt c i s)
   (h1:∀ j,R1 j = if j = s.P.length then R (s.P.length + i) else if j = s.P.length + i then R s.P.length else R j) {j:Nat} (hj:s.P.length < j) (hjm:j < m):Bdd (if j + 1 = m∧s.P.length + i + 1 ≠ m then dbnd s.P.length else bnd s.P.length) (R1 j):=by
 have hm:=h.len
 have hi:=hf.1
 have e:R1 j = if j = s.P.length + i then R s.P.length else R j:=by rw [h1,if_neg (by omega)]
 by_cases hji:j = s.P.length + i
 · rw [e,if_pos hji,if_neg (fun h=>h.2 (by omega))]
   have:=h.bd s.P.length (Nat.le_refl _) (by omega)
   rwa [if_neg (by omega)] at this
 · rw [e,if_neg hji]
   have:=h.bd j (by omega) hjm
   by_cases hjl:j + 1 = m
   · rw [if_pos hjl] at this
     rw [if_pos ⟨hjl,by omega⟩];exact this
   · rw [if_neg hjl] at this
     rw [if_neg (fun h=>hjl h.1)];exact this
theorem RR.take {n c i m:Nat} {V0:List Vec} {s:Stg} {R R1 R2:Nat→Vec} (hs:SI n c V0 s) (h:RR s m R) (hf:FirstAt c i s)
   (h1:∀ j,R1 j = if j = s.P.length then R (s.P.length + i) else if j = s.P.length + i then R s.P.length else R j)
   (hr:∀ j,s.P.length < j→j < m→RelN (R1 s.P.length) c (R1 j) (R2 j)):RR (takeS c i s) m R2:=by
 have hi:=hf.1
 have hne:=hf.2.1
 have hPl:(takeS c i s).P.length = s.P.length + 1:=by simp [takeS]
 have hVl:=len_take s c i
 have hm:=h.len
 have e0:R1 s.P.length = R (s.P.length + i):=by rw [h1,if_pos rfl]
 have hown:Par (R1 s.P.length) (app s.A (s.V.getD i (fun _=>0))):=by rw [e0];exact h.low i hi
 refine ⟨by rw [hPl,hVl];omega,fun j hj=>?_,fun j hj hjm=>?_,fun j hj hjm=>?_⟩
 · rw [hVl] at hj
   rw [hPl,get_take (by omega),take_A]
   obtain ⟨g,hg,he⟩:=(hr (s.P.length + 1 + j) (by omega) (by omega)).eq
   have hpar:Par (R1 (s.P.length + 1 + j)) (app s.A (if j + 1 = i then s.V.getD 0 (fun _=>0) else s.V.getD (j + 1) (fun _=>0))):=by
     rw [h1,if_neg (by omega)]
     by_cases hji:j + 1 = i
     · rw [if_pos (by omega),if_pos hji]
       exact h.low 0 (by omega)
     · rw [if_neg (by omega),if_neg hji]
       have:=h.low (j + 1) (by omega)
       rwa [show s.P.length + (j + 1) = s.P.length + 1 + j by omega] at this
   have hst:=hpar.step hown hg c he
   have ef:app (updM s.A (app s.A (s.V.getD i (fun _=>0))) c) (if j + 1 = i then s.V.getD 0 (fun _=>0) else s.V.getD (j + 1) (fun _=>0)) = fun k=>app s.A (if j + 1 = i then s.V.getD 0 (fun _=>0) else s.V.getD (j + 1) (fun _=>0)) k * app s.A (s.V.getD i (fun _=>0)) c - app s.A (s.V.getD i (fun _=>0)) k * app s.A (if j + 1 = i then s.V.getD 0 (fun _=>0) else s.V.getD (j + 1) (fun _=>0)) c:=by
     funext k
     rw [app_upd,Int.mul_comm (app s.A (s.V.getD i (fun _=>0)) c)]
   rw [ef]
   exact hst
 · rw [hPl] at hj
   obtain ⟨g,hg,he⟩:=(hr j (by omega) (by omega)).eq
   have s1:sum5 (R1 j) = 0:=by
     rw [h1,if_neg (by omega)]
     split
     · exact h.sum _ (by omega) (by omega)
     · exact h.sum _ (by omega) (by omega)
   have s2:sum5 (R1 s.P.length) * R1 j c = 0:=by
     by_cases hl:s.P.length + i + 1 = m
     · rw [h.zero_before (n:=n) (V0:=V0) hf h1 hl (by omega) (by omega),Int.mul_zero]
     · rw [e0,h.sum _ (by omega) (by omega),Int.zero_mul]
   refine (Int.mul_eq_zero.1 (?_:g * _ = 0)).resolve_left hg
   unfold sum5 at s1 s2 ⊢
   have k0:=he 0
   have k1:=he 1
   have k2:=he 2
   have k3:=he 3
   have k4:=he 4
   calc g * (R2 j 0 + R2 j 1 + R2 j 2 + R2 j 3 + R2 j 4) = g * R2 j 0 + g * R2 j 1 + g * R2 j 2 + g * R2 j 3 + g * R2 j 4:=by grind
     _ = (R1 j 0 + R1 j 1 + R1 j 2 + R1 j 3 + R1 j 4) * R1 s.P.length c - (R1 s.P.length 0 + R1 s.P.length 1 + R1 s.P.length 2 + R1 s.P.length 3 + R1 s.P.length 4) * R1 j c:=by rw [k0,k1,k2,k3,k4];grind
     _ = 0:=by rw [s1,s2];simp
 · rw [hPl] at hj
   have hrel:=hr j (by omega) hjm
   have b1:=h.bd1 hf h1 (j:=j) (by omega) hjm
   have hbd:=bnd_dbnd s.P.length
   have hbs:=bnd_succ s.P.length
   have hbds:=bnd_dbnd (s.P.length + 1)
   rw [hPl]
   by_cases hl:s.P.length + i + 1 = m
   · have z:=h.zero_before (n:=n) (V0:=V0) hf h1 hl (j:=j) (by omega) hjm
     rw [if_neg (fun h=>h.2 hl)] at b1
     intro k
     have q1:=hrel.same z k
     have q2:=b1 k
     split <;> omega
   · have bo:Bdd (bnd s.P.length) (R1 s.P.length):=by
       rw [e0]
       have:=h.bd (s.P.length + i) (by omega) (by omega)
       rwa [if_neg hl] at this
     have hbp:=bnd_pos s.P.length
     intro k
     have q1:=hrel.le k
     by_cases hjl:j + 1 = m
     · rw [if_pos ⟨hjl,hl⟩] at b1
       rw [if_pos hjl]
       have m1:=mul_bd (b1 k) (bo c) (by omega) (by omega)
       have m2:=mul_bd (bo k) (b1 c) (by omega) (by omega)
       rw [Int.mul_comm (bnd s.P.length)] at m2
       show -(2 * (dbnd s.P.length * bnd s.P.length)) ≤ _∧_ ≤ 2 * (dbnd s.P.length * bnd s.P.length)
       omega
     · rw [if_neg (fun h=>hjl h.1)] at b1
       rw [if_neg hjl]
       have m1:=mul_bd (b1 k) (bo c) (by omega) (by omega)
       have m2:=mul_bd (bo k) (b1 c) (by omega) (by omega)
       show -(2 * (bnd s.P.length * bnd s.P.length)) ≤ _∧_ ≤ 2 * (bnd s.P.length * bnd s.P.length)
       omega
section
variable {C:Type} {n m c:Nat} {ids:List Nat} {rows:List (Option (List Int))} {M:List (List Int)}
end
end Go.Pv
namespace Go.Pv
section
variable {C:Type} {n m c d:Nat}
end
end Go.Pv
namespace Go.Pv
theorem map_getD {α β:Type} (f:α→β) (l:List α) (i:Nat) (d:α) (e:β) (h:i < l.length):(l.map f).getD i e = f (l.getD i d):=by
 simp only [List.getD_eq_getElem?_getD,List.getElem?_map,List.getElem?_eq_getElem h,Option.map_some,Option.getD_some]
def dW (w r:List Int):Int:=IntKind.wrap .i64 (IntKind.wrap .i64 (IntKind.wrap .i64 (w.getD (r.getD 0 0).toNat 0 + w.getD (r.getD 1 0).toNat 0) - w.getD (r.getD 2 0).toNat 0) - w.getD (r.getD 3 0).toNat 0)
def okR (w:List Int) (m:Int) (r:List Int):Bool:=if m = 0 then decide (dW w r = 0) else decide (Int.tmod (dW w r) m = 0)
theorem drop_all {p:List Int→Bool} {l:List (List Int)} {i:Nat} (h:i < l.length) (d:List Int):(l.drop i).all p = (p (l.getD i d) && (l.drop (i + 1)).all p):=by
 rw [List.drop_eq_getElem_cons h,List.all_cons,List.getD_eq_getElem?_getD,List.getElem?_eq_getElem h];rfl
theorem kept32_loop {x:PP} (hx:PT x) {w:List Int} (hw:(w.length:Int) = x.1) {m:Int} (hm:0 ≤ m) :
   ∀ (F i:Nat),x.2.2.2.1.length - i < F→i ≤ x.2.2.2.1.length→g32L122f 2000 F (fun e4 e5=>some (e4,e5,())) (some (true,0,())) w m x.2.2.2.1 ((x.2.2.2.1.length:Nat):Int) (i:Int) = some ((x.2.2.2.1.drop i).all (okR w m),0,())
 | 0,i,h,_=>by omega
 | F + 1,i,h,hi=>by
   rw [g32L122f_succ]
   unfold g32L122B
   have hr15:=hx.rules.1
   by_cases hlt:i < x.2.2.2.1.length
   · have e1:decide ((i:Int) < ((x.2.2.2.1.length:Nat):Int)) = true:=by simp;omega
     have ih:=kept32_loop hx hw hm F (i + 1) (by omega) (by omega)
     have hro:=hx.rules.2.1 _ (getD_mem hlt (List.replicate 4 0))
     rw [e1,cond_true,if_pos (ix hlt),Int.toNat_natCast,drop_all hlt (List.replicate 4 0),wn i (by omega)]
     generalize x.2.2.2.1.getD i (List.replicate 4 0) = r at hro ⊢
     obtain ⟨p,q,s,t,rfl,hp,hq,hs,ht⟩:=rule_nat hro
     have h0:idx 0 4:=by decide
     have h1:idx 1 4:=by decide
     have h2:idx 2 4:=by decide
     have h3:idx 3 4:=by decide
     simp only [show Int.toNat 0 = 0 from rfl,show Int.toNat 1 = 1 from rfl,show Int.toNat 2 = 2 from rfl,show Int.toNat 3 = 3 from rfl,List.getD_cons_zero,List.getD_cons_succ,Int.toNat_natCast,if_pos h0,if_pos h1,if_pos h2,if_pos h3,if_pos (ix (show p < w.length by omega)),if_pos (ix (show q < w.length by omega)),if_pos (ix (show s < w.length by omega)),if_pos (ix (show t < w.length by omega)),ih]
     have ed:okR w m [(p:Int),(q:Int),(s:Int),(t:Int)] = if m = 0 then decide (IntKind.wrap .i64 (IntKind.wrap .i64 (IntKind.wrap .i64 (w.getD p 0 + w.getD q 0) - w.getD s 0) - w.getD t 0) = 0) else decide (Int.tmod (IntKind.wrap .i64 (IntKind.wrap .i64 (IntKind.wrap .i64 (w.getD p 0 + w.getD q 0) - w.getD s 0) - w.getD t 0)) m = 0):=rfl
     rw [ed]
     generalize IntKind.wrap .i64 (IntKind.wrap .i64 (IntKind.wrap .i64 (w.getD p 0 + w.getD q 0) - w.getD s 0) - w.getD t 0) = v
     by_cases hm0:m = 0
     · subst hm0
       rw [ieq_self,cond_true,if_pos rfl]
       by_cases hv:v = 0
       · simp [hv]
       · simp [hv,ieq]
     · rw [show ieq m 0 = false from decide_eq_false hm0,cond_false,decide_eq_true (show 0 < m by omega),cond_true,if_neg hm0,if_neg hm0]
       by_cases hv:Int.tmod v m = 0
       · simp [hv]
       · simp [hv,ieq]
   · have e1:decide ((i:Int) < ((x.2.2.2.1.length:Nat):Int)) = false:=by simp;omega
     rw [e1,cond_false,List.drop_eq_nil_of_le (by omega)];rfl
def wOk (l:List Int):Bool:=l.all fun x=>decide (-1000 ≤ x) && decide (x ≤ 1000)
theorem kept32 {x:PP} (hx:PT x) {w:List Int} (hl:w.length ≤ 100) (m:Int):g32 2000 x w m = some (if (w.length:Int) = x.1∧wOk w = true∧0 ≤ m∧m ≤ 1000 then (x.2.2.2.1.all (okR w m),0,()) else (false,1,())):=by
 unfold g32
 rw [hx.check 2000 (by omega)]
 simp only [Option.bind_some,ieq_self,Bool.not_true,cond_false]
 by_cases h1:(w.length:Int) = x.1
 · rw [show ieq ((w.length:Nat):Int) x.1 = true from decide_eq_true h1,Bool.not_true,cond_false,are_eq 2000 _ _ w (by omega) (by omega)]
   simp only [Option.bind_some]
   by_cases h2:wOk w = true
   · have h2':(w.all fun x=>decide (-1000 ≤ x) && decide (x ≤ 1000)) = true:=h2
     rw [h2',Bool.not_true,cond_false,are_eq 2000 _ _ [m] (by simp) (by simp)]
     simp only [Option.bind_some]
     by_cases h3:0 ≤ m∧m ≤ 1000
     · have e3:([m].all fun x=>decide (0 ≤ x) && decide (x ≤ 1000)) = true:=by simp [h3.1,h3.2]
       have hr15:=hx.rules.1
       rw [e3,Bool.not_true,cond_false,g32L122_eq]
       have:=kept32_loop hx h1 h3.1 2000 0 (by omega) (by omega)
       rw [if_pos ⟨h1,h2,h3⟩]
       simpa using this
     · have e3:([m].all fun x=>decide (0 ≤ x) && decide (x ≤ 1000)) = false:=by
         simp only [List.all_cons,List.all_nil,Bool.and_true]
         by_cases h4:0 ≤ m
         · have:¬ m ≤ 1000:=fun h=>h3 ⟨h4,h⟩
           simp [this]
         · simp [h4]
       rw [e3,Bool.not_false,cond_true,if_neg (fun h=>h3 h.2.2)]
   · have h2':(w.all fun x=>decide (-1000 ≤ x) && decide (x ≤ 1000)) = false:=by
       cases hb:(w.all fun x=>decide (-1000 ≤ x) && decide (x ≤ 1000)) with
       | false=>rfl
       | true=>exact absurd hb h2
     rw [h2',Bool.not_false,cond_true,if_neg (fun h=>h2 h.2.1)]
 · rw [show ieq ((w.length:Nat):Int) x.1 = false from decide_eq_false h1,Bool.not_false,cond_true,if_neg (fun h=>h1 h.1)]
theorem drop_allI {p:Int→Bool} {l:List Int} {i:Nat} (h:i < l.length):(l.drop i).all p = (p (l.getD i 0) && (l.drop (i + 1)).all p):=by
 rw [List.drop_eq_getElem_cons h,List.all_cons,List.getD_eq_getElem?_getD,List.getElem?_eq_getElem h];rfl
theorem weights33 {x:PP} {w:List Int} (hl:w.length ≤ 100):g33 2000 x w = some (wOk w && decide ((w.length:Int) = x.1)):=by
 unfold g33
 rw [g33L26_eq]
 have : ∀ (F i:Nat),w.length - i < F→i ≤ w.length→g33L26f 2000 F (fun e1 e2 e3=>some e2) (fun e4 e5=>some (ieq ((List.length e4:Nat):Int) e5.1)) w (i:Int) x = some (((w.drop i).all fun x=>decide (-1000 ≤ x) && decide (x ≤ 1000)) && decide ((w.length:Int) = x.1)):=by
   intro F
   induction F with
   | zero=>intro i h;omega
   | succ F ih =>
     intro i h hi
     rw [g33L26f_succ]
     unfold g33L26B
     by_cases hlt:i < w.length
     · have e1:decide ((i:Int) < ((w.length:Nat):Int)) = true:=by simp;omega
       rw [e1,cond_true,if_pos (ix hlt),Int.toNat_natCast,drop_allI hlt]
       by_cases h1:w.getD i 0 < -1000
       · rw [decide_eq_true h1,cond_true,decide_eq_false (show ¬ -1000 ≤ w.getD i 0 by omega)];simp
       · rw [decide_eq_false h1,cond_false,if_pos (ix hlt),decide_eq_true (show -1000 ≤ w.getD i 0 by omega)]
         by_cases h2:1000 < w.getD i 0
         · rw [decide_eq_true h2,cond_true,decide_eq_false (show ¬ w.getD i 0 ≤ 1000 by omega)];simp
         · rw [decide_eq_false h2,cond_false,decide_eq_true (show w.getD i 0 ≤ 1000 by omega),wn i (by omega)]
           refine (ih (i + 1) (by omega) (by omega)).trans ?_
           simp
     · have e1:decide ((i:Int) < ((w.length:Nat):Int)) = false:=by simp;omega
       rw [e1,cond_false,List.drop_eq_nil_of_le (by omega)];rfl
 have h0:=this 2000 0 (by omega) (by omega)
 rw [List.drop_zero] at h0
 exact h0
end Go.Pv
namespace Go.Pv
def keyP:List Int→Int→Int | [],k=>k | a :: l,k=>keyP l (10 * k + a)
theorem key_loop (N:Nat) {C:Type} (k0:Int→Option C) (l:List Int) (hl:l.length ≤ 5) (hb:∀ t ∈ l,0 ≤ t∧t ≤ 9) :
   ∀ (F i:Nat) (k:Int),l.length - i < F→i ≤ l.length→0 ≤ k→k < 10 ^ i→g76L58f N F k0 l k (i:Int) = k0 (keyP (l.drop i) k)
 | 0,i,k,h,_,_,_=>by omega
 | F + 1,i,k,h,hi,h0,h1=>by
   rw [g76L58f_succ]
   unfold g76L58B
   by_cases hlt:i < l.length
   · have e1:decide ((i:Int) < (l.length:Int)) = true:=by simp;omega
     obtain ⟨b1,b2⟩:=hb _ (getD_mem hlt 0)
     have hp:(10:Int) ^ (i + 1) = 10 * 10 ^ i:=by rw [Int.pow_succ];omega
     have h5:(10:Int) ^ i ≤ 10 ^ 5:=by
       have h1:(10:Nat) ^ i ≤ 10 ^ 5:=Nat.pow_le_pow_right (by omega) (by omega)
       have h2:((10 ^ i:Nat):Int) ≤ ((10 ^ 5:Nat):Int):=Int.ofNat_le.2 h1
       simpa using h2
     have h6:(10:Int) ^ 5 = 100000:=by decide
     rw [e1,cond_true,if_pos (ix hlt),Int.toNat_natCast,wn i (by omega),w64 (x:=10 * k) (by omega) (by omega),w64 (x:=10 * k + l.getD i 0) (by omega) (by omega),getD_drop l i hlt]
     exact key_loop N k0 l hl hb F (i + 1) _ (by omega) (by omega) (by omega) (by omega)
   · have e1:decide ((i:Int) < (l.length:Int)) = false:=by simp;omega
     rw [e1,cond_false,List.drop_eq_nil_of_le (by omega)];rfl
theorem keyN_eq (N:Nat) (hN:100 < N) {l:List Int} (hl:l.length ≤ 5) (hb:∀ t ∈ l,0 ≤ t∧t ≤ 9):g76 N l = some (keyP l 0):=by
 unfold g76
 rw [g76L58_eq]
 have:=key_loop N (fun e1=>some e1) l hl hb N 0 0 (by omega) (by omega) (by omega) (by simp)
 simp only [Int.natCast_zero,List.drop_zero] at this
 exact this
theorem keyP_inj:∀ (a b:List Int) (j k:Int),a.length = b.length→(∀ t ∈ a,0 ≤ t∧t ≤ 9)→(∀ t ∈ b,0 ≤ t∧t ≤ 9)→keyP a j = keyP b k→j = k∧a = b
 | [],[],j,k,_,_,_,h=>⟨h,rfl⟩
 | x :: a,y :: b,j,k,hl,ha,hb,h=>by
   obtain ⟨h1,h2⟩:=keyP_inj a b (10 * j + x) (10 * k + y) (by simpa using hl) (fun t ht=>ha t (by simp [ht])) (fun t ht=>hb t (by simp [ht])) h
   have hx:=ha x (by simp)
   have hy:=hb y (by simp)
   have:j = k:=by omega
   subst this
   have:x = y:=by omega
   subst this
   exact ⟨rfl,by rw [h2]⟩
def KInv (n:Int) (known:List (Int×Int)) (L:List (List Int)):Prop:=∀ e:List Int,Crowd e n→mapFind (Ty.beq (.int .i64)) (keyP e 0) known = if e ∈ L then some (L.idxOf e:Int) else none
def rowL (L:List (List Int)) (ds:List (List Int)):List Int:=ds.map fun d=>(L.idxOf d:Int)
theorem idx_app {L T:List (List Int)} {e:List Int} (h:e ∈ L):(L ++ T).idxOf e = L.idxOf e:=by rw [List.idxOf_append,if_pos h]
theorem rowL_app {L T:List (List Int)} {ds:List (List Int)} (h:∀ d ∈ ds,d ∈ L):rowL (L ++ T) ds = rowL L ds:=by
 unfold rowL
 exact List.map_congr_left fun d hd=>by rw [idx_app (h d hd)]
def Rows39 (x:PP) (i:Nat) (L next:List (List Int)):Prop:=next.length = i∧∀ j,j < i→next.getD j [] = rowL L (nbr x (L.getD j []))
end Go.Pv
namespace Go.Pv
theorem awake_true:g29 2000 = some true:=by kernel_rfl
end Go.Pv
namespace Go.Pv
def wsum (w c:List Int):Nat→Int
 | 0=>0
 | i + 1=>wsum w c i + w.getD i 0 * c.getD i 0
theorem wsum_dot {w c:List Int} {n:Nat} (hn:n ≤ 5) (hw:w.length = n):wsum w c n = dot (fv w) (fv c):=by
 have h5:∀ k,wsum w c (n + k) = wsum w c n:=by
   intro k
   induction k with
   | zero=>rfl
   | succ k ih =>
     show wsum w c (n + k) + w.getD (n + k) 0 * c.getD (n + k) 0 = _
     have:w.getD (n + k) 0 = 0:=fv_ge (r:=w) hw (by omega)
     rw [this,Int.zero_mul,ih];omega
 have:=h5 (5 - n)
 rw [show n + (5 - n) = 5 by omega] at this
 rw [← this]
 unfold dot fv
 simp only [wsum]
 omega
theorem wsum_bd {w c:List Int} {n:Int} (hc:Crowd c n) (hw:Bdd 1000 (fv w)):∀ i:Nat,-(9000 * (i:Int)) ≤ wsum w c i∧wsum w c i ≤ 9000 * (i:Int)
 | 0=>by simp [wsum]
 | i + 1=>by
   have ih:=wsum_bd hc hw i
   have h1:=hw i
   have h2:-9 ≤ c.getD i 0∧c.getD i 0 ≤ 9:=by
     by_cases h:i < c.length
     · have:=hc.le _ (getD_mem h 0);omega
     · rw [List.getD_eq_getElem?_getD,List.getElem?_eq_none (by omega)];simp
   have:=mul_bd h1 h2 (by omega) (by omega)
   unfold fv at this
   simp only [wsum]
   omega
theorem mul_bd9 {w c:List Int} {n:Int} (hc:Crowd c n) (hw:Bdd 1000 (fv w)) (i:Nat):-9000 ≤ w.getD i 0 * c.getD i 0∧w.getD i 0 * c.getD i 0 ≤ 9000:=by
 have h1:=hw i
 have h2:-9 ≤ c.getD i 0∧c.getD i 0 ≤ 9:=by
   by_cases h:i < c.length
   · have:=hc.le _ (getD_mem h 0);omega
   · rw [List.getD_eq_getElem?_getD,List.getElem?_eq_none (by omega)];simp
 have:=mul_bd h1 h2 (by omega) (by omega)
 unfold fv at this
 omega
theorem weight80 {w c:List Int} {n:Int} (hc:Crowd c n) (hn:n ≤ 5) (hl:(w.length:Int) = n) (hw:Bdd 1000 (fv w)):g80 2000 (pad c) w = some (dot (fv w) (fv c)):=by
 unfold g80
 rw [g80L58_eq,← wsum_dot (n:=w.length) (by omega) rfl]
 have:∀ (F i:Nat),w.length - i < F→i ≤ w.length→g80L58f 2000 F (fun e1 e2=>some e1) (wsum w c i) w ((w.length:Nat):Int) (i:Int) (pad c) = some (wsum w c w.length):=by
   intro F
   induction F with
   | zero=>intro i h;omega
   | succ F ih =>
     intro i h hi
     rw [g80L58f_succ]
     unfold g80L58B
     by_cases hlt:i < w.length
     · have e1:decide ((i:Int) < ((w.length:Nat):Int)) = true:=by simp;omega
       have m1:=mul_bd9 hc hw i
       have m2:=wsum_bd hc hw i
       rw [e1,cond_true,if_pos (ix hlt),if_pos (ix (by omega)),Int.toNat_natCast,getD_pad,w64 (x:=w.getD i 0 * c.getD i 0) (by omega) (by omega),w64 (x:=wsum w c i + w.getD i 0 * c.getD i 0) (by omega) (by omega),wn i (by omega)]
       exact ih (i + 1) (by omega) (by omega)
     · have e1:decide ((i:Int) < ((w.length:Nat):Int)) = false:=by simp;omega
       have:i = w.length:=by omega
       rw [e1,cond_false,this]
 exact this 2000 0 (by omega) (by omega)
theorem weight46 {w c:List Int} {n:Int} (hc:Crowd c n) (hn:n ≤ 5) (hl:(w.length:Int) = n) (hw:Bdd 1000 (fv w)):g46 2000 w c = some (dot (fv w) (fv c)):=by
 unfold g46
 have hcl:=hc.len
 rw [g46L58_eq,← wsum_dot (n:=w.length) (by omega) rfl]
 have:∀ (F i:Nat),w.length - i < F→i ≤ w.length→g46L58f 2000 F (fun e1=>some e1) w c (wsum w c i) (i:Int) = some (wsum w c w.length):=by
   intro F
   induction F with
   | zero=>intro i h;omega
   | succ F ih =>
     intro i h hi
     rw [g46L58f_succ]
     unfold g46L58B
     by_cases hlt:i < w.length
     · have e1:decide ((i:Int) < ((c.length:Nat):Int)) = true:=by simp;omega
       have m1:=mul_bd9 hc hw i
       have m2:=wsum_bd hc hw i
       rw [e1,cond_true,if_pos (ix hlt),if_pos (ix (by omega)),Int.toNat_natCast,w64 (x:=w.getD i 0 * c.getD i 0) (by omega) (by omega),w64 (x:=wsum w c i + w.getD i 0 * c.getD i 0) (by omega) (by omega),wn i (by omega)]
       exact ih (i + 1) (by omega) (by omega)
     · have e1:decide ((i:Int) < ((c.length:Nat):Int)) = false:=by simp;omega
       have:i = w.length:=by omega
       rw [e1,cond_false,this]
 exact this 2000 0 (by omega) (by omega)
theorem dot_at1 (w:Vec) {p:Nat} (hp:p < 5):dot w (at1 p) = w p:=by
 unfold dot at1
 have:p = 0 ∨ p = 1 ∨ p = 2 ∨ p = 3 ∨ p = 4:=by omega
 rcases this with rfl | rfl | rfl | rfl | rfl <;> simp
theorem dot_chg (w:Vec) {n p q s t:Nat} (hn:n ≤ 5) (hp:p < n) (hq:q < n) (hs:s < n) (ht:t < n):dot w (fv (chg n [(p:Int),(q:Int),(s:Int),(t:Int)])) = w p + w q - w s - w t:=by
 have e:fv (chg n [(p:Int),(q:Int),(s:Int),(t:Int)]) = fun k=>at1 p k + at1 q k - at1 s k - at1 t k:=funext (fv_chg hp hq hs ht)
 have h1:=dot_at1 w (p:=p) (by omega)
 have h2:=dot_at1 w (p:=q) (by omega)
 have h3:=dot_at1 w (p:=s) (by omega)
 have h4:=dot_at1 w (p:=t) (by omega)
 rw [e,← h1,← h2,← h3,← h4]
 unfold dot
 grind
structure WK (x:PP) (w:List Int):Prop where
 len:(w.length:Int) = x.1
 bd:Bdd 512 (fv w)
 kept:∀ r ∈ x.2.2.2.1,dot (fv w) (fv (chg x.1.toNat r)) = 0
theorem wk_of {x:PP} (hx:PT x) {t:Stg} {R:Nat→Vec} {m:Nat} (hB:Bas x t R m) {f:Nat} (hf:f ∈ frees t x.1.toNat):WK x (wts x.1.toNat t R f):=by
 have hn:=hx.n
 obtain ⟨h1,h2⟩:=mem_frees.1 hf
 obtain ⟨a1,a2⟩:=hB.ok f h1 h2
 refine ⟨by omega,a2.bd (by omega) hB.rul hB.si hB.ab hB.pr hB.le h1 h2,fun r hr=>a2.kept (by omega) hB.si hB.pr h1 h2 ?_⟩
 unfold chgs
 exact List.mem_map.2 ⟨_,List.mem_map.2 ⟨r,hr,rfl⟩,rfl⟩
theorem WK.bd' {x:PP} {w:List Int} (h:WK x w):Bdd 1000 (fv w):=fun k=>by have:=h.bd k;omega
theorem WK.ok {x:PP} {w:List Int} (h:WK x w):wOk w = true:=by
 unfold wOk
 rw [List.all_eq_true]
 intro y hy
 obtain ⟨k,hk,rfl⟩:=List.getElem_of_mem hy
 have:=h.bd k
 unfold fv at this
 rw [List.getD_eq_getElem?_getD,List.getElem?_eq_getElem hk,Option.getD_some] at this
 simp;omega
theorem WK.all {x:PP} (hx:PT x) {w:List Int} (h:WK x w):x.2.2.2.1.all (okR w 0) = true:=by
 rw [List.all_eq_true]
 intro r hr
 have hk:=h.kept r hr
 have hn:=hx.n
 obtain ⟨p,q,s,t,rfl,hp,hq,hs,ht⟩:=rule_nat (hx.rules.2.1 r hr)
 rw [dot_chg _ (by omega) (by omega) (by omega) (by omega) (by omega)] at hk
 have bp:=h.bd p
 have bq:=h.bd q
 have bs:=h.bd s
 have bt:=h.bd t
 unfold okR dW
 rw [if_pos rfl]
 simp only [List.getD_cons_zero,List.getD_cons_succ,Int.toNat_natCast]
 unfold fv at hk bp bq bs bt
 rw [w64 (x:=w.getD p 0 + w.getD q 0) (by omega) (by omega),w64 (x:=w.getD p 0 + w.getD q 0 - w.getD s 0) (by omega) (by omega),w64 (by omega) (by omega)]
 exact decide_eq_true hk
theorem step_weight {x:PP} (hx:PT x) {w:List Int} (h:WK x w) {c d:List Int} (hc:Crowd c x.1) (hd:d ∈ nbr x c):dot (fv w) (fv d) = dot (fv w) (fv c):=by
 unfold nbr at hd
 obtain ⟨r,hr,rfl⟩:=List.mem_map.1 hd
 obtain ⟨hr,_⟩:=List.mem_filter.1 hr
 have hk:=h.kept r hr
 have hn:=hx.n
 have hcl:=hc.len
 obtain ⟨p,q,s,t,rfl,hp,hq,hs,ht⟩:=rule_nat (hx.rules.2.1 r hr)
 have e1:fv (stepR [(p:Int),(q:Int),(s:Int),(t:Int)] c) = fun k=>fv c k - fv (chg x.1.toNat [(p:Int),(q:Int),(s:Int),(t:Int)]) k:=by
   funext k
   rw [fv_step (by omega) (by omega) (by omega) (by omega),fv_chg (by omega) (by omega) (by omega) (by omega)]
   omega
 have e2:dot (fv w) (fv (stepR [(p:Int),(q:Int),(s:Int),(t:Int)] c)) = dot (fv w) (fv c) - dot (fv w) (fv (chg x.1.toNat [(p:Int),(q:Int),(s:Int),(t:Int)])):=by
   rw [e1];unfold dot;grind
 omega
theorem reach_weight {x:PP} (hx:PT x) {w:List Int} (h:WK x w) {c d:List Int} (hc:Crowd c x.1) (hr:Reach x c d):dot (fv w) (fv d) = dot (fv w) (fv c):=by
 induction hr with
 | refl=>rfl
 | step h1 hn ih=>rw [step_weight hx h (h1.crowd hx hc).1 hn,ih]
theorem forbids44 {x:PP} (hx:PT x) {t:Stg} {R:Nat→Vec} {m:Nat} (hB:Bas x t R m) (hg:g67 2000 x = some ((frees t x.1.toNat).map (wts x.1.toNat t R))) {a b:List Int} (ha:Crowd a x.1) (hb:Crowd b x.1) :
   (∃ f,f ∈ frees t x.1.toNat∧dot (fv (wts x.1.toNat t R f)) (fv a) ≠ dot (fv (wts x.1.toNat t R f)) (fv b)∧g44 2000 x a b = some (wts x.1.toNat t R f,true,0,())) ∨
   ((∀ f ∈ frees t x.1.toNat,dot (fv (wts x.1.toNat t R f)) (fv a) = dot (fv (wts x.1.toNat t R f)) (fv b))∧g44 2000 x a b = some ([],false,0,())):=by
 have hn:=hx.n
 have hal:=ha.len
 have hbl:=hb.len
 have hfl:=frees_len (n:=x.1.toNat) hB.si.nodup hB.si.lt
 unfold g44
 rw [open_eq 2000 (by omega) hx (by simp) (fun d hd=>by
   rcases List.mem_cons.1 hd with h1 | h1
   · subst h1;exact ha
   · obtain rfl:=List.mem_singleton.1 h1;exact hb)]
 simp only [Option.bind_some,ieq_self,Bool.not_true,cond_false]
 rw [hg]
 simp only [Option.bind_some]
 rw [g44L58_eq]
 have loop:∀ (F i:Nat),(frees t x.1.toNat).length - i < F→i ≤ (frees t x.1.toNat).length→(∀ j,j < i→dot (fv (wts x.1.toNat t R ((frees t x.1.toNat).getD j 0))) (fv a) = dot (fv (wts x.1.toNat t R ((frees t x.1.toNat).getD j 0))) (fv b)) →
     (∃ f,f ∈ frees t x.1.toNat∧dot (fv (wts x.1.toNat t R f)) (fv a) ≠ dot (fv (wts x.1.toNat t R f)) (fv b)∧g44L58f 2000 F (fun e7 e8 e9=>some (e7,e8,e9,())) (some (([]:List Int),false,0,())) a b ((frees t x.1.toNat).map (wts x.1.toNat t R)) ((((frees t x.1.toNat).map (wts x.1.toNat t R)).length:Nat):Int) (i:Int) = some (wts x.1.toNat t R f,true,0,())) ∨
     ((∀ f ∈ frees t x.1.toNat,dot (fv (wts x.1.toNat t R f)) (fv a) = dot (fv (wts x.1.toNat t R f)) (fv b))∧g44L58f 2000 F (fun e7 e8 e9=>some (e7,e8,e9,())) (some (([]:List Int),false,0,())) a b ((frees t x.1.toNat).map (wts x.1.toNat t R)) ((((frees t x.1.toNat).map (wts x.1.toNat t R)).length:Nat):Int) (i:Int) = some ([],false,0,())):=by
   intro F
   induction F with
   | zero=>intro i h;omega
   | succ F ih =>
     intro i h hi hj
     rw [g44L58f_succ]
     unfold g44L58B
     by_cases hlt:i < (frees t x.1.toNat).length
     · have e1:decide ((i:Int) < ((((frees t x.1.toNat).map (wts x.1.toNat t R)).length:Nat):Int)) = true:=by simp;omega
       have hm:=getD_mem (l:=frees t x.1.toNat) hlt 0
       have hW:=wk_of hx hB hm
       rw [e1,cond_true,if_pos (ix (by simpa using hlt)),Int.toNat_natCast,map_getD _ _ _ 0 _ hlt,of72 2000 a (by omega),of72 2000 b (by omega)]
       simp only [Option.bind_some]
       rw [weight80 ha (by omega) hW.len hW.bd',weight80 hb (by omega) hW.len hW.bd']
       simp only [Option.bind_some]
       by_cases he:dot (fv (wts x.1.toNat t R ((frees t x.1.toNat).getD i 0))) (fv a) = dot (fv (wts x.1.toNat t R ((frees t x.1.toNat).getD i 0))) (fv b)
       · rw [he,ieq_self,Bool.not_true,cond_false,wn i (by omega)]
         refine ih (i + 1) (by omega) (by omega) (fun j hj'=>?_)
         by_cases hji:j = i
         · subst hji;exact he
         · exact hj j (by omega)
       · rw [show ieq (dot (fv (wts x.1.toNat t R ((frees t x.1.toNat).getD i 0))) (fv a)) (dot (fv (wts x.1.toNat t R ((frees t x.1.toNat).getD i 0))) (fv b)) = false from decide_eq_false he,Bool.not_false,cond_true]
         exact .inl ⟨_,hm,he,rfl⟩
     · have e1:decide ((i:Int) < ((((frees t x.1.toNat).map (wts x.1.toNat t R)).length:Nat):Int)) = false:=by simp;omega
       rw [e1,cond_false]
       refine .inr ⟨fun f hf=>?_,rfl⟩
       obtain ⟨j,hj',rfl⟩:=List.getElem_of_mem hf
       have:=hj j (by omega)
       rwa [List.getD_eq_getElem?_getD,List.getElem?_eq_getElem hj'] at this
 exact loop 2000 0 (by omega) (by omega) (fun j hj=>by omega)
end Go.Pv
namespace Go.Pv
def First (x:PP) (L:List (List Int)) (p:Nat) (e:List Int):Prop:=p < L.length∧e ∈ nbr x (L.getD p [])∧∀ q,q < p→e ∉ nbr x (L.getD q [])
theorem First.uniq {x:PP} {L:List (List Int)} {p q:Nat} {e:List Int} (h1:First x L p e) (h2:First x L q e):p = q:=by
 rcases Nat.lt_trichotomy p q with h | h | h
 · exact absurd h1.2.1 (h2.2.2 p h)
 · exact h
 · exact absurd h2.2.1 (h1.2.2 q h)
theorem First.app {x:PP} {L:List (List Int)} {p:Nat} {e:List Int} (h:First x L p e) (T:List (List Int)):First x (L ++ T) p e:=by
 have h1:=h.1
 refine ⟨by simp;omega,by rw [getD_app _ _ _ h1];exact h.2.1,fun q hq=>by rw [getD_app _ _ _ (by omega)];exact h.2.2 q hq⟩
theorem First.new {x:PP} {L:List (List Int)} {i:Nat} {d e:List Int} (hi:i < L.length) (hLd:L.getD i [] = d) (he:e ∈ nbr x d) (hcl:∀ q,q < i→∀ e ∈ nbr x (L.getD q []),e ∈ L) (hm:e ∉ L):First x (L ++ [e]) i e:=by
 refine ⟨by simp;omega,by rw [getD_app _ _ _ hi,hLd];exact he,fun q hq h=>?_⟩
 rw [getD_app _ _ _ (by omega)] at h
 exact hm (hcl q hq e h)
abbrev ruleAt (x:PP) (k:Nat):List Int:=x.2.2.2.1.getD k (List.replicate 4 0)
theorem nbr_rule {x:PP} {d:List Int} {k:Nat} (hk:k < x.2.2.2.1.length) (hcan:canR (ruleAt x k) d = true):stepR (ruleAt x k) d ∈ nbr x d :=
 List.mem_map.2 ⟨_,List.mem_filter.2 ⟨getD_mem hk _,hcan⟩,rfl⟩
def WInv (x:PP) (c:List Int) (how:HowT) (L:List (List Int)):Prop:=∀ e,e ∈ L→e ≠ c→∃ p k:Nat,p < L.idxOf e∧First x L p e∧k < x.2.2.2.1.length∧canR (ruleAt x k) (L.getD p []) = true∧stepR (ruleAt x k) (L.getD p []) = e∧mapFind (Ty.beq (.arr 5 (.int .i64))) (pad e) how = some (pad (L.getD p []),(k:Int),())
theorem idx_new {L:List (List Int)} {e:List Int} (hm:e ∉ L):(L ++ [e]).idxOf e = L.length:=by
 rw [List.idxOf_append,if_neg hm];simp
theorem WInv.add {x:PP} {c:List Int} {how:HowT} {L:List (List Int)} (h:WInv x c how L) {i k:Nat} {d e:List Int} (hi:i < L.length) (hLd:L.getD i [] = d) (hcl:∀ q,q < i→∀ e ∈ nbr x (L.getD q []),e ∈ L) (hcr:∀ e ∈ L,Crowd e x.1) (hm:e ∉ L) (hk:k < x.2.2.2.1.length) (hcan:canR (ruleAt x k) d = true) (he:stepR (ruleAt x k) d = e) (hec:Crowd e x.1) :
   WInv x c (mapPut (Ty.beq (.arr 5 (.int .i64))) (pad e) (pad d,(k:Int),()) how) (L ++ [e]):=by
 intro e' he' hne
 by_cases hee:e' = e
 · subst hee
   refine ⟨i,k,by rw [idx_new hm];exact hi,First.new hi hLd (he ▸ nbr_rule hk hcan) hcl hm,hk,?_,?_,?_⟩
   · rw [getD_app _ _ _ hi,hLd];exact hcan
   · rw [getD_app _ _ _ hi,hLd];exact he
   · rw [find_put arr_eq,if_pos rfl,getD_app _ _ _ hi,hLd]
 · have hin:e' ∈ L:=by
     rcases List.mem_append.1 he' with h1 | h1
     · exact h1
     · exact absurd (List.mem_singleton.1 h1) hee
   obtain ⟨p,k',a1,a2,a3,a4,a5,a6⟩:=h e' hin hne
   have hp:¬ (pad e' = pad e):=fun hp=>hee (pad_inj (by have:=hec.len;have:=(hcr e' hin).len;omega) hp)
   refine ⟨p,k',by rw [idx_app hin];exact a1,a2.app _,a3,?_,?_,?_⟩
   · rw [getD_app _ _ _ a2.1];exact a4
   · rw [getD_app _ _ _ a2.1];exact a5
   · rw [find_put arr_eq,if_neg hp,a6,getD_app _ _ _ a2.1]
theorem getD_appI (L T:List Int) (i:Nat) (h:i < L.length):(L ++ T).getD i 0 = L.getD i 0:=by
 simp only [List.getD_eq_getElem?_getD,List.getElem?_append,h,if_true]
def SInv (x:PP) (L:List (List Int)) (steps:List Int):Prop:=steps.length = L.length∧steps.getD 0 0 = 0∧(∀ j,j < L.length→0 ≤ steps.getD j 0∧steps.getD j 0 ≤ j)∧∀ j,0 < j→j < L.length→∃ p,p < j∧First x L p (L.getD j [])∧steps.getD j 0 = steps.getD p 0 + 1
theorem SInv.add {x:PP} {L:List (List Int)} {steps:List Int} (h:SInv x L steps) {i:Nat} {d e:List Int} (hi:i < L.length) (hL:L.length ≤ 10000) (hLd:L.getD i [] = d) (hcl:∀ q,q < i→∀ e ∈ nbr x (L.getD q []),e ∈ L) (hm:e ∉ L) (he:e ∈ nbr x d) :
   SInv x (L ++ [e]) (steps ++ [IntKind.wrap .i64 (steps.getD i 0 + 1)]):=by
 obtain ⟨h1,h2,h3,h4⟩:=h
 obtain ⟨b1,b2⟩:=h3 i hi
 rw [w64 (x:=steps.getD i 0 + 1) (by omega) (by omega)]
 have hlast:(steps ++ [steps.getD i 0 + 1]).getD L.length 0 = steps.getD i 0 + 1:=by
   rw [List.getD_eq_getElem?_getD,List.getElem?_append_right (by omega),h1,Nat.sub_self];rfl
 refine ⟨by simp [h1],by rw [getD_appI _ _ _ (by omega)];exact h2,fun j hj=>?_,fun j hj0 hj=>?_⟩
 · by_cases hji:j = L.length
   · subst hji
     rw [hlast];omega
   · have hj':j < L.length:=by simp at hj;omega
     rw [getD_appI _ _ _ (by omega)]
     exact h3 j hj'
 · by_cases hji:j = L.length
   · subst hji
     refine ⟨i,hi,?_,?_⟩
     · have:(L ++ [e]).getD L.length [] = e:=by
         rw [List.getD_eq_getElem?_getD,List.getElem?_append_right (by omega),Nat.sub_self];rfl
       rw [this]
       exact First.new hi hLd he hcl hm
     · rw [hlast,getD_appI _ _ _ (by omega)]
   · have hj':j < L.length:=by simp at hj;omega
     obtain ⟨p,a1,a2,a3⟩:=h4 j hj0 hj'
     refine ⟨p,a1,?_,?_⟩
     · rw [getD_app _ _ _ hj'];exact a2.app _
     · rw [getD_appI _ _ _ (by omega),getD_appI _ _ _ (by omega)];exact a3
theorem reach_loopW (N:Nat) {x:PP} (hx:PT x) {C:Type} (k0 k1:Cbs t79→t79.T→Option C) (c:List Int) (d:List Int) (hd:Crowd d x.1) (i:Nat) :
   ∀ (F k:Nat) (L:List (List Int)) (how:HowT),x.2.2.2.1.length - k < F→k ≤ x.2.2.2.1.length→HInv x.1 how L→i < L.length→WInv x c how L→L.getD i [] = d→(∀ q,q < i→∀ e ∈ nbr x (L.getD q []),e ∈ L)→(∀ e ∈ L,Crowd e x.1)→L.length + (x.2.2.2.1.length - k) ≤ 10000→∃ how',HInv x.1 how' ((((x.2.2.2.1.drop k).filter fun r=>canR r d).map fun r=>stepR r d).foldl addN L)∧WInv x c how' ((((x.2.2.2.1.drop k).filter fun r=>canR r d).map fun r=>stepR r d).foldl addN L) ∧
     g98xL6f N F t79 k0 k1 (pad d) x.2.2.2.1 (x.2.2.2.1.length:Int) (k:Int) (run79 N) ((0,(x,(),(),(i:Int),how,L.map pad,())):t79.T) = k1 (run79 N) ((0,(x,(),(),(i:Int),how',((((x.2.2.2.1.drop k).filter fun r=>canR r d).map fun r=>stepR r d).foldl addN L).map pad,())):t79.T)
 | 0,k,L,how,h,_,_,_,_,_,_,_,_=>by omega
 | F + 1,k,L,how,h,hk,hI,hi,hW,hLd,hcl,hcr,hlen=>by
   rw [g98xL6f_succ]
   unfold g98xL6B
   have hr15:=hx.rules.1
   by_cases hlt:k < x.2.2.2.1.length
   · have e1:decide ((k:Int) < (x.2.2.2.1.length:Int)) = true:=by simp;omega
     have hro:=hx.rules.2.1 _ (getD_mem hlt (List.replicate 4 0))
     rw [e1,cond_true,if_pos (ix hlt),Int.toNat_natCast]
     dsimp only
     rw [can_pad N hx hd hro,nbr_drop x d k hlt L]
     simp only [Option.bind_some]
     cases hcan:canR (x.2.2.2.1.getD k (List.replicate 4 0)) d with
     | false =>
       simp only [cond_false]
       rw [wn k (by omega)]
       obtain ⟨how',h1,h1',h2⟩:=reach_loopW N hx k0 k1 c d hd i F (k + 1) L how (by omega) (by omega) hI hi hW hLd hcl hcr (by omega)
       exact ⟨how',h1,h1',h2⟩
     | true =>
       have hs:=hd.stepR hx hro hcan
       simp only [cond_true]
       rw [after_pad N hx hd hro]
       simp only [Option.bind_some,if_true]
       generalize hse:stepR (x.2.2.2.1.getD k (List.replicate 4 0)) d = e at hs ⊢
       have hy:(g79R7826 N).told.run [(.ref 2 0 []),(.ref 6 0 []),(.ref 7 0 []),(.ref 8 0 [])] ((0:Int),(x,(),(),(i:Int),how,L.map pad,())) [.dat (.int .i64) (k:Int),.dat (.arr 5 (.int .i64)) (pad e)] = g79R7826B N (fun vo2 vo8 vo13 vo18=>some (((0,(vo2,(),(),vo8,vo13,vo18,())):t79.T),true)) x (i:Int) how (L.map pad) (k:Int) (pad e) :=
         (g79R7826_run N x (i:Int) how (L.map pad) 0 (k:Int) (pad e)).trans (if_pos rfl)
       have hf:=hI e hs.len
       rw [wn k (by omega)]
       by_cases hm:e ∈ L
       · have ea:addN L e = L:=by unfold addN;rw [if_pos hm]
         rw [decide_eq_true hm] at hf
         rw [ea]
         have hy2:g79R7826B N (fun vo2 vo8 vo13 vo18=>some (((0,(vo2,(),(),vo8,vo13,vo18,())):t79.T),true)) x (i:Int) how (L.map pad) (k:Int) (pad e) = some (((0,(x,(),(),(i:Int),how,L.map pad,())):t79.T),true):=by
           unfold g79R7826B
           rw [hf,Bool.not_true,cond_false]
         obtain ⟨how',a1,a1',a2⟩:=reach_loopW N hx k0 k1 c d hd i F (k + 1) L how (by omega) (by omega) hI hi hW hLd hcl hcr (by omega)
         exact ⟨how',a1,a1',(congrArg (fun o=>Option.bind o _) (hy.trans hy2)).trans a2⟩
       · have ea:addN L e = L ++ [e]:=by unfold addN;rw [if_neg hm]
         rw [decide_eq_false hm] at hf
         rw [ea]
         have hy2:g79R7826B N (fun vo2 vo8 vo13 vo18=>some (((0,(vo2,(),(),vo8,vo13,vo18,())):t79.T),true)) x (i:Int) how (L.map pad) (k:Int) (pad e) = some (((0,(x,(),(),(i:Int),mapPut (Ty.beq (.arr 5 (.int .i64))) (pad e) ((List.getD (L.map pad) (Int.toNat (i:Int)) (List.replicate 5 0)),(k:Int),()) how,(L ++ [e]).map pad,())):t79.T),true):=by
           unfold g79R7826B
           rw [hf,Bool.not_false,cond_true,if_pos ⟨by omega,by simp;omega⟩,if_pos (by simp;omega),if_pos (by simp [maxCount];omega),show List.map pad L ++ [pad e] = (L ++ [e]).map pad by simp]
         have egd:(L.map pad).getD (Int.toNat (i:Int)) (List.replicate 5 0) = pad d:=by
           rw [Int.toNat_natCast,← hLd]
           simp only [List.getD_eq_getElem?_getD,List.getElem?_map,List.getElem?_eq_getElem hi,Option.map_some,Option.getD_some]
         obtain ⟨how',a1,a1',a2⟩:=reach_loopW N hx k0 k1 c d hd i F (k + 1) (L ++ [e]) (mapPut (Ty.beq (.arr 5 (.int .i64))) (pad e) ((List.getD (L.map pad) (Int.toNat (i:Int)) (List.replicate 5 0)),(k:Int),()) how) (by omega) (by omega) (fun e' he'=>by
           rw [find_put arr_eq]
           by_cases hee:e' = e
           · subst hee
             simp
           · have hp:¬ (pad e' = pad e):=fun hp=>hee (pad_inj (by have:=hs.len;omega) hp)
             rw [if_neg hp,hI e' he']
             simp [hee]) (by simp;omega) (by rw [egd];exact hW.add hi hLd hcl hcr hm hlt hcan hse hs) (by rw [getD_app _ _ _ hi];exact hLd) (fun q hq e' he'=>by
             rw [getD_app _ _ _ (by omega)] at he'
             exact List.mem_append.2 (.inl (hcl q hq e' he'))) (fun e' he'=>by
             rcases List.mem_append.1 he' with h1 | h1
             · exact hcr e' h1
             · obtain rfl:=List.mem_singleton.1 h1;exact hs) (by simp;omega)
         exact ⟨how',a1,a1',(congrArg (fun o=>Option.bind o _) (hy.trans hy2)).trans a2⟩
   · have e1:decide ((k:Int) < (x.2.2.2.1.length:Int)) = false:=by simp;omega
     rw [e1,cond_false,List.drop_eq_nil_of_le (by omega)]
     exact ⟨how,hI,hW,rfl⟩
theorem reached_loopW (N:Nat) (hN:100 < N) {x:PP} (hx:PT x) {C:Type} (k0:PP→Int→HowT→List (List Int)→Option C) {c:List Int} (hc:Crowd c x.1) :
   ∀ (F i:Nat) (L:List (List Int)) (how:HowT),716 < F + i→BInv x c i L→HInv x.1 how L→WInv x c how L→∃ how' L',Found x c L'∧HInv x.1 how' L'∧WInv x c how' L'∧L' = bfs x F i L∧g79L122f N F k0 x (i:Int) how (L.map pad) = k0 x (L'.length:Int) how' (L'.map pad)
 | 0,i,L,how,hF,hB,hI,hW=>by have:=hB.len hx hc;have:=hB.le;omega
 | F + 1,i,L,how,hF,hB,hI,hW=>by
   rw [g79L122f_succ]
   unfold g79L122B
   have hl:=hB.len hx hc
   have hr15:=hx.rules.1
   unfold bfs
   by_cases hlt:i < L.length
   · have e1:decide ((i:Int) < ((L.map pad).length:Int)) = true:=by simp;omega
     have hm:=(hB.reach _ (getD_mem hlt [])).crowd hx hc
     have eg:(L.map pad).getD i (List.replicate 5 0) = pad (L.getD i []):=by
       simp only [List.getD_eq_getElem?_getD,List.getElem?_map,List.getElem?_eq_getElem hlt,Option.map_some,Option.getD_some]
     rw [if_pos hlt,e1,cond_true,if_pos ⟨by omega,by simp;omega⟩,if_pos (by simp;omega),Int.toNat_natCast,eg]
     unfold g95x
     simp only [Option.bind_some]
     unfold g98x
     rw [g98xL6_eq]
     obtain ⟨how1,h1,h1',h2⟩:=reach_loopW N hx (fun e6 e7=>some ((()),((e6,e7),()),(()))) (fun e8 e9=>some ((()),((e8,e9),()),(()))) c (L.getD i []) hm.1 i N 0 L how (by omega) (by omega) hI hlt hW rfl hB.closed (fun e he=>((hB.reach e he).crowd hx hc).1) (by omega)
     simp only [Int.natCast_zero,List.drop_zero] at h1 h1' h2
     have hnb:(((x.2.2.2.1.filter fun r=>canR r (L.getD i [])).map fun r=>stepR r (L.getD i [])).foldl addN L) = rnd x L (L.getD i []):=rfl
     rw [hnb] at h1 h1' h2
     obtain ⟨how',L',g1,g2,g2',g3,g4⟩:=reached_loopW N hN hx k0 hc F (i + 1) (rnd x L (L.getD i [])) how1 (by omega) (hB.next hlt) h1 h1'
     refine ⟨how',L',g1,g2,g2',g3,?_⟩
     refine (congrArg (fun o=>Option.bind o _) h2).trans ?_
     simp only [Option.bind_some,asT]
     rw [if_pos trivial,wn i (by omega)]
     exact g4
   · have e1:decide ((i:Int) < ((L.map pad).length:Int)) = false:=by simp;omega
     have hi:i = L.length:=by have:=hB.le;omega
     rw [e1,cond_false,if_neg hlt]
     subst hi
     exact ⟨how,L,hB.found hx hc,hI,hW,rfl,rfl⟩
theorem reached79W {x:PP} (hx:PT x) {c:List Int} (hc:Crowd c x.1):∃ how,HInv x.1 how (allL x c)∧WInv x c how (allL x c)∧g79 2000 x (pad c) = some ((allL x c).map pad,how,()):=by
 unfold g79
 rw [g79L122_eq]
 obtain ⟨how,L,h1,h2,h2',h3,h4⟩:=reached_loopW 2000 (by omega) hx (fun e3 e4 e5 e6=>some ((e6,e5,()):List (List Int)×HowT×Unit)) hc 2000 0 [c] (mapPut (Ty.beq (.arr 5 (.int .i64))) (pad c) ((List.replicate 5 0),0,()) []) (by omega) (.start x c) (fun e he=>by
   rw [find_put arr_eq]
   by_cases hee:e = c
   · subst hee;simp
   · have hp:¬ (pad e = pad c):=fun hp=>hee (pad_inj (by have:=hc.len;omega) hp)
     rw [if_neg hp]
     simp [mapFind,hee]) (fun e he hne=>absurd (List.mem_singleton.1 he) hne)
 subst h3
 simp only [Int.natCast_zero] at h4
 exact ⟨how,h2,h2',h4⟩
theorem ref_loopW (N:Nat) (hN:100 < N) {x:PP} (hx:PT x) {C:Type} (k0:Int→PP→List Int→List (List Int)→List Int→List (Int×Int)→List (List Int)→List Int→List (List Int)→List (List Int)→List Int→List (List Int)→Option C) (d:List Int) (hd:Crowd d x.1) (i:Nat) (u1:List (List Int)) (u2:List Int) (u3 u4:List (List Int)) (u5:List Int) (u6:List (List Int)) :
   ∀ (F k:Nat) (L:List (List Int)) (steps:List Int) (known:List (Int×Int)) (done:List (List Int)),x.2.2.2.1.length - k < F→k ≤ x.2.2.2.1.length→KInv x.1 known L→i < L.length→L.getD i [] = d→SInv x L steps→(∀ q,q < i→∀ e ∈ nbr x (L.getD q []),e ∈ L)→L.length + (x.2.2.2.1.length - k) ≤ 10000→done.length ≤ k→(∀ e ∈ done,e ∈ L)→∃ known' steps',KInv x.1 known' ((((x.2.2.2.1.drop k).filter fun r=>canR r d).map fun r=>stepR r d).foldl addN L)∧SInv x ((((x.2.2.2.1.drop k).filter fun r=>canR r d).map fun r=>stepR r d).foldl addN L) steps' ∧
     g39L64074f N F k0 (i:Int) (k:Int) x (rowL L done) L steps known u1 u2 u3 u4 u5 u6 = k0 (i:Int) x (rowL ((((x.2.2.2.1.drop k).filter fun r=>canR r d).map fun r=>stepR r d).foldl addN L) (done ++ (((x.2.2.2.1.drop k).filter fun r=>canR r d).map fun r=>stepR r d))) ((((x.2.2.2.1.drop k).filter fun r=>canR r d).map fun r=>stepR r d).foldl addN L) steps' known' u1 u2 u3 u4 u5 u6
 | 0,k,L,steps,known,done,h,_,_,_,_,_,_,_,_,_=>by omega
 | F + 1,k,L,steps,known,done,h,hk,hI,hi,hLd,hS,hcl,hlen,hdl,hdone=>by
   have hst:=hS.1
   rw [g39L64074f_succ]
   unfold g39L64074B
   have hr15:=hx.rules.1
   by_cases hlt:k < x.2.2.2.1.length
   · have e1:decide ((k:Int) < (x.2.2.2.1.length:Int)) = true:=by simp;omega
     have hro:=hx.rules.2.1 _ (getD_mem hlt (List.replicate 4 0))
     have hdrop:x.2.2.2.1.drop k = x.2.2.2.1.getD k (List.replicate 4 0) :: x.2.2.2.1.drop (k + 1):=by
       rw [List.drop_eq_getElem_cons hlt];simp [hlt]
     rw [e1,cond_true,if_pos (ix hi),Int.toNat_natCast,if_pos hi,hLd,meet42 N x hx d hd.len hd.bd]
     simp only [Option.bind_some]
     have hm:meetL x d (k:Int) = bif canR (x.2.2.2.1.getD k (List.replicate 4 0)) d then (stepR (x.2.2.2.1.getD k (List.replicate 4 0)) d,true,()) else (d,false,()):=by
       unfold meetL
       rw [if_pos ⟨by omega,by omega⟩,Int.toNat_natCast]
     rw [hm,wn k (by omega),hdrop,List.filter_cons]
     cases hcan:canR (x.2.2.2.1.getD k (List.replicate 4 0)) d with
     | false =>
       simp only [cond_false,Bool.not_false,cond_true,Bool.false_eq_true,if_false]
       exact ref_loopW N hN hx k0 d hd i u1 u2 u3 u4 u5 u6 F (k + 1) L steps known done (by omega) (by omega) hI hi hLd hS hcl (by omega) (by omega) hdone
     | true =>
       have hs:=hd.stepR hx hro hcan
       simp only [cond_false,Bool.not_true,cond_true,if_true,List.map_cons,List.foldl_cons]
       have hnb:=nbr_rule hlt hcan
       generalize stepR (x.2.2.2.1.getD k (List.replicate 4 0)) d = e at hs hnb ⊢
       have hsl:=hs.len
       have hn:=hx.n
       rw [keyN_eq N hN (l:=e) (by omega) hs.le]
       simp only [Option.bind_some]
       rw [hI e hs]
       by_cases hmem:e ∈ L
       · have ea:addN L e = L:=by unfold addN;rw [if_pos hmem]
         rw [if_pos hmem,ea]
         simp only [Option.isSome_some,Bool.not_true,cond_false,Option.getD_some]
         rw [if_pos (by simp [rowL,maxCount];omega)]
         have er:rowL L done ++ [(L.idxOf e:Int)] = rowL L (done ++ [e]):=by simp [rowL]
         rw [er]
         have:=ref_loopW N hN hx k0 d hd i u1 u2 u3 u4 u5 u6 F (k + 1) L steps known (done ++ [e]) (by omega) (by omega) hI hi hLd hS hcl (by omega) (by simp;omega) (fun e' he'=>by
           rcases List.mem_append.1 he' with h1 | h1
           · exact hdone e' h1
           · obtain rfl:=List.mem_singleton.1 h1;exact hmem)
         simpa only [List.append_assoc,List.singleton_append] using this
       · have ea:addN L e = L ++ [e]:=by unfold addN;rw [if_neg hmem]
         rw [if_neg hmem,ea]
         simp only [Option.isSome_none,Bool.not_false,cond_true]
         rw [if_pos (by simp [maxCount];omega),if_pos (by rw [hst];exact ix hi),if_pos (by rw [hst];exact hi),if_pos (by simp [maxCount];omega),if_pos (by simp [rowL,maxCount];omega)]
         have hix:(L ++ [e]).idxOf e = L.length:=by
           rw [List.idxOf_append,if_neg hmem];simp
         have er:rowL L done ++ [((L.length:Nat):Int)] = rowL (L ++ [e]) (done ++ [e]):=by
           have:=rowL_app (T:=[e]) hdone
           unfold rowL at this ⊢
           rw [List.map_append,this]
           simp [hix]
         rw [er]
         have:=ref_loopW N hN hx k0 d hd i u1 u2 u3 u4 u5 u6 F (k + 1) (L ++ [e]) (steps ++ [IntKind.wrap .i64 (steps.getD i 0 + 1)]) (mapPut (Ty.beq (.int .i64)) (keyP e 0) ((L.length:Nat):Int) known) (done ++ [e]) (by omega) (by omega) (fun e' he'=>by
           rw [find_put int_eq]
           by_cases hee:e' = e
           · subst hee
             rw [if_pos rfl,if_pos (by simp),hix]
           · have hp:¬ (keyP e' 0 = keyP e 0):=fun hp=>hee (keyP_inj e' e 0 0 (by have:=he'.len;omega) he'.le hs.le hp).2
             rw [if_neg hp,hI e' he']
             by_cases hm2:e' ∈ L
             · rw [if_pos hm2,if_pos (by simp [hm2]),idx_app hm2]
             · rw [if_neg hm2,if_neg (by simp [hm2,hee])]) (by simp;omega) (by rw [getD_app _ _ _ hi];exact hLd) (hS.add hi (by omega) hLd hcl hmem hnb) (fun q hq e' he'=>by
           rw [getD_app _ _ _ (by omega)] at he'
           exact List.mem_append.2 (.inl (hcl q hq e' he'))) (by simp;omega) (by simp;omega) (fun e' he'=>by
           rcases List.mem_append.1 he' with h1 | h1
           · exact List.mem_append.2 (.inl (hdone e' h1))
           · exact List.mem_append.2 (.inr h1))
         simpa only [List.append_assoc,List.singleton_append] using this
   · have e1:decide ((k:Int) < (x.2.2.2.1.length:Int)) = false:=by simp;omega
     rw [e1,cond_false,List.drop_eq_nil_of_le (by omega)]
     exact ⟨known,steps,hI,hS,by simp⟩
theorem ref39_loopW (N:Nat) (hN:100 < N) {x:PP} (hx:PT x) {C:Type} (k0:PP→List (List Int)→List Int→List (Int×Int)→List (List Int)→List Int→List (List Int)→List (List Int)→List Int→List (List Int)→Option C) {c:List Int} (hc:Crowd c x.1) (u1:List (List Int)) (u2:List Int) (u3 u4:List (List Int)) (u5:List Int) :
   ∀ (F i:Nat) (L:List (List Int)) (steps:List Int) (known:List (Int×Int)) (next:List (List Int)),716 < F + i→BInv x c i L→KInv x.1 known L→SInv x L steps→Rows39 x i L next→∃ known' steps' next',Rows39 x (bfs x F i L).length (bfs x F i L) next'∧SInv x (bfs x F i L) steps'∧g39L250f N F k0 (i:Int) x L steps known u1 u2 u3 u4 u5 next = k0 x (bfs x F i L) steps' known' u1 u2 u3 u4 u5 next'
 | 0,i,L,steps,known,next,hF,hB,hI,hst,hR=>by have:=hB.len hx hc;have:=hB.le;omega
 | F + 1,i,L,steps,known,next,hF,hB,hI,hS,hR=>by
   have hst:=hS.1
   rw [g39L250f_succ]
   unfold g39L250B
   have hl:=hB.len hx hc
   have hr15:=hx.rules.1
   unfold bfs
   by_cases hlt:i < L.length
   · have e1:decide ((i:Int) < (L.length:Int)) = true:=by simp;omega
     have hm:=(hB.reach _ (getD_mem hlt [])).crowd hx hc
     rw [if_pos hlt,e1,cond_true,g39L64074_eq]
     obtain ⟨known1,steps1,h1,h2,h3⟩:=ref_loopW N hN hx (fun e5 e6 e7 e8 e9 e10 e11 e12 e13 e14 e15 e16=>if List.length e16 + List.length [e7] ≤ maxCount then g39L250f N F k0 (IntKind.wrap .i64 (e5 + 1)) e6 e8 e9 e10 e11 e12 e13 e14 e15 (e16 ++ [e7]) else none) (L.getD i []) hm.1 i u1 u2 u3 u4 u5 next N 0 L steps known [] (by omega) (by omega) hI hlt rfl hS hB.closed (by omega) (by simp) (fun e he=>by cases he)
     simp only [Int.natCast_zero,List.drop_zero,List.nil_append] at h1 h2 h3
     have hnb:(((x.2.2.2.1.filter fun r=>canR r (L.getD i [])).map fun r=>stepR r (L.getD i [])).foldl addN L) = rnd x L (L.getD i []):=rfl
     have hnb2:((x.2.2.2.1.filter fun r=>canR r (L.getD i [])).map fun r=>stepR r (L.getD i [])) = nbr x (L.getD i []):=rfl
     rw [hnb] at h1 h2 h3
     rw [hnb2] at h3
     have hB2:=hB.next hlt
     have hl2:=hB2.len hx hc
     obtain ⟨T,hT⟩:=fold_pre (ds:=nbr x (L.getD i [])) L
     have hT:rnd x L (L.getD i []) = L ++ T:=hT
     have hRl:=hR.1
     have hR2:Rows39 x (i + 1) (rnd x L (L.getD i [])) (next ++ [rowL (rnd x L (L.getD i [])) (nbr x (L.getD i []))]):=by
       refine ⟨by simp [hRl],fun j hj=>?_⟩
       by_cases hji:j = i
       · subst hji
         rw [List.getD_eq_getElem?_getD,List.getElem?_append_right (by omega),hRl,Nat.sub_self]
         have:(rnd x L (L.getD j [])).getD j [] = L.getD j []:=by rw [hT,getD_app _ _ _ hlt]
         rw [this];rfl
       · have:(rnd x L (L.getD i [])).getD j [] = L.getD j []:=by rw [hT,getD_app _ _ _ (by omega)]
         rw [this,getD_app _ _ _ (by omega),hR.2 j (by omega),hT,rowL_app (fun d hd=>hB.closed j (by omega) d hd)]
     obtain ⟨known2,steps2,next2,g1,g2,g3⟩:=ref39_loopW N hN hx k0 hc u1 u2 u3 u4 u5 F (i + 1) (rnd x L (L.getD i [])) steps1 known1 _ (by omega) hB2 h1 h2 hR2
     refine ⟨known2,steps2,next2,g1,g2,?_⟩
     refine Eq.trans h3 ?_
     rw [if_pos (by simp [maxCount];omega),wn i (by omega)]
     exact g3
   · have e1:decide ((i:Int) < (L.length:Int)) = false:=by simp;omega
     have hi:i = L.length:=by have:=hB.le;omega
     rw [e1,cond_false,if_neg hlt]
     subst hi
     exact ⟨known,steps,next,hR,hS,rfl⟩
theorem ref39W {x : PP} (hx : PT x) {c : List Int} (hc:Crowd c x.1):∃ steps next,Rows39 x (allL x c).length (allL x c) next∧SInv x (allL x c) steps∧g39 2000 x c = some (allL x c,steps,next,()):=by
 unfold g39
 have hcl:=hc.len
 have hn:=hx.n
 rw [keyN_eq 2000 (by omega) (l:=c) (by omega) hc.le]
 simp only [Option.bind_some]
 rw [g39L250_eq]
 obtain ⟨known,steps,next,h1,h2,h3⟩:=ref39_loopW 2000 (by omega) hx (fun e17 e18 e19 e20 e21 e22 e23 e24 e25 e26=>some ((e18,e19,e26,()):List (List Int)×List Int×List (List Int)×Unit)) hc [] [] [] [] [] 2000 0 [c] [0] (mapPut (Ty.beq (.int .i64)) (keyP c 0) 0 []) [] (by omega) (.start x c) (fun e he=>by
   rw [find_put int_eq]
   by_cases hee:e = c
   · subst hee;simp
   · have hp : ¬ (keyP e 0 = keyP c 0) := fun hp => hee (keyP_inj e c 0 0 (by have:=he.len;omega) he.le hc.le hp).2
     rw [if_neg hp]
     simp [mapFind, hee]) ⟨rfl, rfl, fun j hj => by have:j = 0:=by simpa using hj
                                                    subst this;exact ⟨by decide,by decide⟩,fun j h0 h1=>by simp at h1;omega⟩ ⟨rfl,fun j hj=>by omega⟩
 simp only [Int.natCast_zero] at h3
 exact ⟨steps,next,h1,h2,h3⟩
end Go.Pv
namespace Go.Pv
def doW (x:PP):List Int→List Int→List Int×Nat
 | c,[]=>(c,0)
 | c,r :: w=>bif (meetL x c r).2.1 then ((doW x (meetL x c r).1 w).1,(doW x (meetL x c r).1 w).2 + 1) else (c,0)
theorem doW_snoc {x:PP} {d:List Int} {k:Int} (hk:(meetL x d k).2.1 = true):∀ (w c:List Int),doW x c w = (d,w.length)→doW x c (w ++ [k]) = ((meetL x d k).1,w.length + 1)
 | [],c,h=>by
   have:c = d:=congrArg Prod.fst h
   subst this
   simp only [List.nil_append,doW,hk,cond_true,List.length_nil]
 | r :: w,c,h=>by
   simp only [List.cons_append,doW] at h ⊢
   cases hr:(meetL x c r).2.1 with
   | false=>rw [hr] at h;have:=congrArg Prod.snd h;simp at this
   | true =>
     rw [hr,cond_true] at h
     have h1:=congrArg Prod.fst h
     have h2:=congrArg Prod.snd h
     simp only [List.length_cons,Nat.add_right_cancel_iff] at h1 h2
     have ih:=doW_snoc hk w (meetL x c r).1 (Prod.ext h1 h2)
     rw [cond_true,ih]
     rfl
theorem idx_atW {L:List (List Int)} (hn:L.Nodup) {j:Nat} (h:j < L.length):L.idxOf (L.getD j []) = j:=by
 rw [List.getD_eq_getElem?_getD,List.getElem?_eq_getElem h,Option.getD_some]
 have hm:L[j] ∈ L:=List.getElem_mem h
 have h1:=List.idxOf_lt_length_of_mem hm
 have h2:L[L.idxOf L[j]] = L[j]:=List.getElem_idxOf h1
 have hp:=List.pairwise_iff_getElem.1 hn
 rcases Nat.lt_trichotomy (L.idxOf L[j]) j with h3 | h3 | h3
 · exact absurd h2 (hp _ _ h1 h h3)
 · exact h3
 · exact absurd h2.symm (hp _ _ h h1 h3)
theorem back81 {x:PP} (hx:PT x) {c:List Int} (hc:Crowd c x.1) {how:HowT} {L:List (List Int)} {steps:List Int} (hF:Found x c L) (hW:WInv x c how L) (hS:SInv x L steps) :
   ∀ (F j:Nat),j < F→j < L.length→∃ w:List Int,(w.length:Int) = steps.getD j 0∧w.length ≤ j∧doW x c w = (L.getD j [],w.length)∧g81x 2000 F (pad (L.getD j [])) c how c how = some (((),()),((),(c,(),how,()),()),(w,()))
 | 0,j,h,_=>by omega
 | F + 1,j,h,hj=>by
   have hcl:=hc.len
   have hn:=hx.n
   have hlen:=hF.len
   rw [g81x_succ]
   unfold g81xB
   rw [of72 2000 c (by omega)]
   simp only [Option.bind_some]
   have hmem:L.getD j [] ∈ L:=getD_mem hj []
   have hcr:Crowd (L.getD j []) x.1:=(((hF.mem _).1 hmem).crowd hx hc).1
   by_cases hec:L.getD j [] = c
   · have hj0:j = 0:=by
       have h1:=idx_atW hF.nodup hj
       have h2:=idx_atW hF.nodup hF.head.2
       rw [hF.head.1] at h2
       rw [hec] at h1
       omega
     subst hj0
     rw [(arr_eq _ _).2 (by rw [hec]),cond_true]
     exact ⟨[],by rw [hS.2.1];rfl,by simp,by rw [hec];rfl,rfl⟩
   · have hne:Ty.beq (.arr 5 (.int .i64)) (pad (L.getD j [])) (pad c) = false:=by
       cases hb:Ty.beq (.arr 5 (.int .i64)) (pad (L.getD j [])) (pad c) with
       | false=>rfl
       | true=>exact absurd (pad_inj (by have:=hcr.len;omega) ((arr_eq _ _).1 hb)) hec
     have hj0:0 < j:=by
       rcases Nat.eq_zero_or_pos j with h0 | h0
       · subst h0;exact absurd hF.head.1 hec
       · exact h0
     obtain ⟨p,k,a1,a2,a3,a4,a5,a6⟩:=hW _ hmem hec
     rw [idx_atW hF.nodup hj] at a1
     obtain ⟨p',b1,b2,b3⟩:=hS.2.2.2 j hj0 hj
     have hpp:=a2.uniq b2
     subst hpp
     obtain ⟨w,c1,c2,c3,c4⟩:=back81 hx hc hF hW hS F p (by omega) a2.1
     have hr15:=hx.rules.1
     have hmk:meetL x (L.getD p []) (k:Int) = (L.getD j [],true,()):=by
       unfold meetL
       rw [if_pos ⟨by omega,by omega⟩,Int.toNat_natCast]
       show (bif canR (ruleAt x k) (L.getD p []) then (stepR (ruleAt x k) (L.getD p []),true,()) else (L.getD p [],false,())) = _
       rw [a4,cond_true,a5]
     rw [hne,cond_false,a6]
     simp only [Option.getD_some]
     rw [c4]
     simp only [Option.bind_some]
     rw [if_pos (by simp [maxCount];omega)]
     refine ⟨w ++ [(k:Int)],by rw [b3,← c1];simp,by simp;omega,?_,rfl⟩
     rw [doW_snoc (by rw [hmk]) w c c3,hmk,List.length_append]
     rfl
theorem way49 {x:PP} (hx:PT x) {c b:List Int} (hc:Crowd c x.1) (hb:Crowd b x.1) {steps:List Int} (hS:SInv x (allL x c) steps) :
   (b ∉ allL x c→g49 2000 x c b = some (([]:List Int),false,0,())) ∧
   (b ∈ allL x c→∃ w:List Int,(w.length:Int) = steps.getD ((allL x c).idxOf b) 0∧w.length ≤ 715∧doW x c w = (b,w.length)∧g49 2000 x c b = some (w,true,0,())):=by
 obtain ⟨how,hH,hW,hr⟩:=reached79W hx hc
 have hF:=allL_found hx hc
 have hcl:=hc.len
 have hbl:=hb.len
 have hn:=hx.n
 have hlen:=hF.len
 unfold g49
 rw [open_eq 2000 (by omega) hx (by simp) (fun d hd=>by
   rcases List.mem_cons.1 hd with h1 | h1
   · subst h1;exact hc
   · obtain rfl:=List.mem_singleton.1 h1;exact hb)]
 simp only [Option.bind_some,ieq_self,Bool.not_true,cond_false]
 rw [of72 2000 c (by omega),of72 2000 b (by omega)]
 simp only [Option.bind_some]
 rw [hr]
 simp only [Option.bind_some]
 rw [hH b hbl]
 constructor
 · intro hm
   rw [decide_eq_false hm,Bool.not_false,cond_true]
 · intro hm
   rw [decide_eq_true hm,Bool.not_true,cond_false]
   have hj:=List.idxOf_lt_length_of_mem hm
   have hat:(allL x c).getD ((allL x c).idxOf b) [] = b:=by
     rw [List.getD_eq_getElem?_getD,List.getElem?_eq_getElem hj,Option.getD_some,List.getElem_idxOf]
   obtain ⟨w,c1,c2,c3,c4⟩:=back81 hx hc hF hW hS 2000 _ (by omega) hj
   rw [hat] at c3 c4
   refine ⟨w,c1,by omega,c3,?_⟩
   rw [c4]
   rfl
end Go.Pv
namespace Go.Pv
theorem sum55 {l:List Int} (hl:l.length ≤ 100) (hb:∀ t ∈ l,0 ≤ t∧t ≤ 9):g55 2000 l = some l.sum:=by
 unfold g55
 rw [g55L58_eq]
 have:∀ (F i:Nat) (s:Int),l.length - i < F→i ≤ l.length→0 ≤ s→s ≤ 9 * (i:Int)→g55L58f 2000 F (fun e1=>some e1) l s (i:Int) = some (s + (l.drop i).sum):=by
   intro F
   induction F with
   | zero=>intro i s h;omega
   | succ F ih =>
     intro i s h hi h1 h2
     rw [g55L58f_succ]
     unfold g55L58B
     by_cases hlt:i < l.length
     · have e1:decide ((i:Int) < ((l.length:Nat):Int)) = true:=by simp;omega
       obtain ⟨b1,b2⟩:=hb _ (getD_mem hlt 0)
       rw [e1,cond_true,if_pos (ix hlt),Int.toNat_natCast,w64 (x:=s + l.getD i 0) (by omega) (by omega),wn i (by omega)]
       refine (ih (i + 1) _ (by omega) (by omega) (by omega) (by omega)).trans ?_
       rw [getD_drop l i hlt,List.sum_cons]
       congr 1;omega
     · have e1:decide ((i:Int) < ((l.length:Nat):Int)) = false:=by simp;omega
       rw [e1,cond_false,List.drop_eq_nil_of_le (by omega)];simp
 have h0:=this 2000 0 0 (by omega) (by omega) (by omega) (by omega)
 simpa using h0
def trn (a:List Int) (n k:Nat):List Int:=(List.range k).map fun s=>a.getD ((s + 1) % n) 0
theorem trn_all {a:List Int}:trn a a.length a.length = a.drop 1 ++ a.take 1:=by
 cases a with
 | nil=>rfl
 | cons y a =>
   refine List.ext_getElem (by simp [trn]) fun i h1 h2=>?_
   have hi:i < a.length + 1:=by simpa [trn] using h1
   have e:(trn (y :: a) (y :: a).length (y :: a).length)[i]'h1 = (y :: a).getD ((i + 1) % (a.length + 1)) 0:=by simp [trn]
   rw [e]
   by_cases hl:i < a.length
   · rw [Nat.mod_eq_of_lt (by omega),List.getElem_append_left (by simpa using hl),List.getD_cons_succ,List.getD_eq_getElem?_getD,List.getElem?_eq_getElem hl]
     simp
   · have:i = a.length:=by omega
     subst this
     rw [List.getElem_append_right (by simp),Nat.mod_self]
     simp
theorem trn_crowd {a:List Int} {n:Int} (h:Crowd a n):Crowd (trn a a.length a.length) n:=by
 rw [trn_all]
 have hs:(a.drop 1 ++ a.take 1).sum = a.sum:=by
   rw [List.sum_append,Int.add_comm,← List.sum_append,List.take_append_drop]
 refine ⟨?_,fun t ht=>?_,by rw [hs];exact h.sum⟩
 · have:=h.len
   simp only [List.length_append,List.length_drop,List.length_take]
   omega
 · rcases List.mem_append.1 ht with h1 | h1
   · exact h.pos t (List.mem_of_mem_drop h1)
   · exact h.pos t (List.mem_of_mem_take h1)
theorem turn_loop {C:Type} (k0:List Int→List Int→List Int→PP→PP→List Int→Option C) {x:PP} (hx:PT x) {a:List Int} (ha:Crowd a x.1) (b of:List Int) :
   ∀ (F i:Nat),x.1.toNat - i < F→i ≤ x.1.toNat→g13L16378f 2000 F k0 a b (i:Int) of x x (trn a x.1.toNat i) = k0 a b of x x (trn a x.1.toNat x.1.toNat)
 | 0,i,h,_=>by omega
 | F + 1,i,h,hi=>by
   rw [g13L16378f_succ]
   unfold g13L16378B
   have hn:=hx.n
   have hal:=ha.len
   by_cases hlt:i < x.1.toNat
   · have e1:decide ((i:Int) < x.1) = true:=by simp;omega
     have em:Int.tmod ((i + 1:Nat):Int) x.1 = (((i + 1) % x.1.toNat:Nat):Int):=by
       rw [show x.1 = ((x.1.toNat:Nat):Int) by omega,Int.toNat_natCast]
       exact (Int.ofNat_tmod _ _).symm
     have hml:(i + 1) % x.1.toNat < a.length:=by
       have:=Nat.mod_lt (i + 1) (show 0 < x.1.toNat by omega)
       omega
     rw [e1,cond_true,if_neg (by omega),wn i (by omega),em,if_pos (ix hml),Int.toNat_natCast,if_pos (by simp [trn,maxCount];omega)]
     have:trn a x.1.toNat i ++ [a.getD ((i + 1) % x.1.toNat) 0] = trn a x.1.toNat (i + 1):=by unfold trn;rw [List.range_succ,List.map_append];rfl
     rw [this]
     exact turn_loop k0 hx ha b of F (i + 1) (by omega) (by omega)
   · have e1:decide ((i:Int) < x.1) = false:=by simp;omega
     have:i = x.1.toNat:=by omega
     subst this
     rw [e1,cond_false]
theorem ones54 {n:Nat} (hn:n ≤ 5):g54 2000 (n:Int) = some (List.replicate n 1):=by
 unfold g54
 rw [g54L58_eq]
 have:∀ (F i:Nat),n - i < F→i ≤ n→g54L58f 2000 F (fun e1=>some e1) (n:Int) (i:Int) (List.replicate i 1) = some (List.replicate n 1):=by
   intro F
   induction F with
   | zero=>intro i h;omega
   | succ F ih =>
     intro i h hi
     rw [g54L58f_succ]
     unfold g54L58B
     by_cases hlt:i < n
     · have e1:decide ((i:Int) < (n:Int)) = true:=by simp;omega
       rw [e1,cond_true,if_pos (by simp [maxCount];omega),wn i (by omega)]
       have e2:List.replicate i (1:Int) ++ [1] = List.replicate (i + 1) 1:=by rw [List.replicate_succ']
       rw [e2]
       exact ih (i + 1) (by omega) (by omega)
     · have e1:decide ((i:Int) < (n:Int)) = false:=by simp;omega
       have:i = n:=by omega
       rw [e1,cond_false,this]
 exact this 2000 0 (by omega) (by omega)
theorem and7 (v:Int):0 ≤ iand .i64 v 7∧iand .i64 v 7 ≤ 7:=by
 unfold iand
 have h:(BitVec.ofInt (IntKind.bits .i64) v &&& BitVec.ofInt (IntKind.bits .i64) 7).toNat ≤ 7:=by
   rw [BitVec.toNat_and]
   exact Nat.and_le_right
 rw [w64 (by omega) (by omega)]
 omega
theorem one_all {x:PP} (hx:PT x) (m:Int):x.2.2.2.1.all (okR (List.replicate x.1.toNat 1) m) = true:=by
 rw [List.all_eq_true]
 intro r hr
 have hn:=hx.n
 obtain ⟨p,q,s,t,rfl,hp,hq,hs,ht⟩:=rule_nat (hx.rules.2.1 r hr)
 have g1:∀ k:Nat,(k:Int) < x.1→(List.replicate x.1.toNat (1:Int)).getD k 0 = 1:=fun k hk=>by
   have:k < x.1.toNat:=by omega
   simp [List.getD_eq_getElem?_getD,List.getElem?_replicate,this]
 have hd:dW (List.replicate x.1.toNat 1) [(p:Int),(q:Int),(s:Int),(t:Int)] = 0:=by
   unfold dW
   simp only [List.getD_cons_zero,List.getD_cons_succ,Int.toNat_natCast]
   rw [g1 p hp,g1 q hq,g1 s hs,g1 t ht];decide
 unfold okR
 rw [hd]
 split <;> simp
theorem one_ok (n:Nat):wOk (List.replicate n 1) = true:=by
 unfold wOk
 rw [List.all_eq_true]
 intro y hy
 obtain rfl:=List.eq_of_mem_replicate hy
 decide
theorem tallyWeighs_plain (p:PP) (l of:List Int):g13 2000 p l of = some true:=by
 unfold g13
 obtain ⟨x,ex,hx,_⟩:=tame_eq 2000 (by omega) p 5 (by omega) (by omega)
 have hn:=hx.n
 obtain ⟨t,R,mm,hB,hg⟩:=basis67 hx
 obtain ⟨a,ea,ha,_⟩:=gathered_eq 2000 (by omega) l x.1 (by omega) (by omega) 9 (by omega) (by omega)
 obtain ⟨steps,next,_,hS,hr⟩:=ref39W hx ha
 have hF:=allL_found hx ha
 have hlen:=hF.len
 have hpos:=hF.head.2
 have hal:=ha.len
 rw [ex]
 simp only [Option.bind_some]
 rw [hx.given 2000]
 simp only [Option.bind_some]
 rw [ea]
 simp only [Option.bind_some]
 rw [hr]
 simp only [Option.bind_some]
 rw [if_pos ⟨by omega,by omega⟩,wu64n (x:=((List.length (allL x a):Nat):Int)) (by omega) (by omega),if_neg (by omega)]
 obtain ⟨j,ej,j1,j2⟩:=low (of.getD (Int.toNat 0) 0) (m:=((List.length (allL x a):Nat):Int)) (by omega) (by omega)
 rw [ej,if_pos ⟨j1,j2⟩]
 have hmem:(allL x a).getD j.toNat [] ∈ allL x a:=getD_mem (by omega) []
 generalize (allL x a).getD j.toNat [] = b at hmem ⊢
 have hrb:=(hF.mem b).1 hmem
 obtain ⟨hb,hsum⟩:=hrb.crowd hx ha
 obtain ⟨w,w1,w2,w3,w4⟩:=(way49 hx ha hb hS).2 hmem
 have hbl:=hb.len
 have hno:g44 2000 x a b = some ([],false,0,()):=by
   rcases forbids44 hx hB hg ha hb with ⟨f,hf,hne,e⟩ | ⟨hall,e⟩
   · exact absurd (reach_weight hx (wk_of hx hB hf) ha hrb).symm hne
   · exact e
 rw [w4,hno]
 simp only [Option.bind_some,ieq_self,Bool.not_true,cond_false]
 rw [sum55 (by omega) ha.le,sum55 (by omega) hb.le]
 simp only [Option.bind_some]
 rw [hsum,ieq_self,Bool.not_true,cond_false,decide_eq_false (show ¬ ((1000:Int) < ((w.length:Nat):Int)) by omega),cond_false,g13L16378_eq]
 have turn:=fun (k0:List Int→List Int→List Int→PP→PP→List Int→Option Bool)=>turn_loop k0 hx ha b of 2000 0 (by omega) (by omega)
 simp only [Int.natCast_zero] at turn
 refine (turn _).trans ?_
 have hal':x.1.toNat = a.length:=by omega
 have hc:=trn_crowd ha
 rw [← hal'] at hc
 generalize trn a x.1.toNat x.1.toNat = c at hc ⊢
 have hone:g54 2000 x.1 = some (List.replicate x.1.toNat 1):=by
   have:=ones54 (n:=x.1.toNat) (by omega)
   rwa [show ((x.1.toNat:Nat):Int) = x.1 by omega] at this
 obtain ⟨m1,m2⟩:=and7 (of.getD (Int.toNat 1) 0)
 have hk1:g32 2000 x (List.replicate x.1.toNat 1) (iand .i64 (of.getD (Int.toNat 1) 0) 7) = some (true,0,()):=by
   rw [kept32 hx (by simp;omega),if_pos ⟨by simp;omega,one_ok _,by omega,by omega⟩,one_all hx]
 have fin:(Option.bind (g54 2000 x.1) fun r21=>if idx 1 2 then Option.bind (g32 2000 x r21 (iand .i64 (of.getD (Int.toNat 1) 0) 7)) fun r22=>bif (ieq r22.2.1 0) then bif r22.1 then Option.bind (g29 2000) fun r23=>some r23 else some false else some false else none) = some true:=by
   rw [hone]
   simp only [Option.bind_some]
   rw [if_pos ⟨by omega,by omega⟩,hk1]
   simp only [Option.bind_some,ieq_self,cond_true]
   rw [awake_true];rfl
 have hW2:=way49 hx ha hc hS
 rcases forbids44 hx hB hg ha hc with ⟨f,hf,hne,e⟩ | ⟨hall,e⟩
 · have hW:=wk_of hx hB hf
   have hwl:=hW.len
   have hnr:c ∉ allL x a:=fun h=>hne (reach_weight hx hW ha ((hF.mem c).1 h)).symm
   rw [e,hW2.1 hnr]
   simp only [Option.bind_some,ieq_self,Bool.not_true,cond_false,cond_true]
   rw [kept32 hx (by omega),if_pos ⟨hwl,hW.ok,by omega,by omega⟩,hW.all hx,weights33 (x:=x) (by omega),hW.ok,decide_eq_true hwl,weight46 ha (by omega) hwl hW.bd',weight46 hb (by omega) hwl hW.bd',reach_weight hx hW ha hrb]
   simp only [Option.bind_some,ieq_self,Bool.not_true,cond_false,Bool.and_self,cond_true]
   exact fin
 · rw [e]
   simp only [Option.bind_some]
   by_cases hcm:c ∈ allL x a
   · obtain ⟨w',_,_,_,e'⟩:=hW2.2 hcm
     rw [e']
     simp only [Option.bind_some,ieq_self,Bool.not_true,cond_false,cond_true]
     exact fin
   · rw [hW2.1 hcm]
     simp only [Option.bind_some,ieq_self,Bool.not_true,cond_false,cond_true]
     exact fin
end Go.Pv
