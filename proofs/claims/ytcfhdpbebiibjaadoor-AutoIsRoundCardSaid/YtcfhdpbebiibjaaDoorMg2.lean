/- Plain texts, merged: PlSeq, PlEvf, PlB85, PlZ, PlDi, PlCh0, PlBo, PlKer, PlBt, PlMo, PlDk, PlBk, PlIr, PlSm, PlB61, PlRo. -/
import Derived.Test.YtcfhdpbebiibjaaDoorMg1
import Derived.KernelRfl
/- Plain: the sequence of a machine, by numbers instead of words. -/
set_option linter.unusedVariables false
set_option linter.unusedSimpArgs false
namespace Go.Pv
def sq (x:MM) (s n:Nat):Int:=if h:n = 0 ∨ x.1.toNat < 2 then oM x s else sq x (dM x s (n % x.1.toNat)) (n / x.1.toNat)
termination_by n
decreasing_by exact Nat.div_lt_self (by omega) (by omega)
theorem sq_zero (x:MM) (s:Nat):sq x s 0 = oM x s:=by rw [sq];simp
theorem sq_pos {x:MM} (hb:2 ≤ x.1) (s:Nat) {n:Nat} (h:n ≠ 0):sq x s n = sq x (dM x s (n % x.1.toNat)) (n / x.1.toNat):=by rw [sq,dif_neg (by omega)]
def Zed (x:MM):Prop:=∀ s,s < x.2.1.length→oM x (dM x s 0) = oM x s
theorem Tame.zed {x:MM} (h:Tame x):Zed x:=fun s hs=>h.zero s hs
theorem sq_step {x:MM} (hb:2 ≤ x.1) (hz:Zed x) {s:Nat} (hs:s < x.2.1.length) (n:Nat):sq x s n = sq x (dM x s (n % x.1.toNat)) (n / x.1.toNat):=by
 by_cases h:n = 0
 · subst h
   rw [Nat.zero_mod,Nat.zero_div,sq_zero,sq_zero,hz s hs]
 · exact sq_pos hb s h
def val (b:Nat):List Nat→Nat
 | []=>0
 | r :: w=>r + b * val b w
theorem beh_sq {x:MM} (hx:WM x) (hb:2 ≤ x.1) (hz:Zed x):∀ (w:List Nat) (s:Nat),s < x.2.1.length→(∀ r ∈ w,(r:Int) < x.1)→beh x s w = sq x s (val x.1.toNat w)
 | [],s,hs,_=>by rw [val,sq_zero];rfl
 | r :: w,s,hs,hw=>by
   have hr:(r:Int) < x.1:=hw r (by simp)
   rw [val,sq_step hb hz hs,Nat.add_mul_mod_self_left,Nat.add_mul_div_left _ _ (by omega),Nat.mod_eq_of_lt (by omega),Nat.div_eq_of_lt (by omega),Nat.zero_add]
   exact beh_sq hx hb hz w _ (hx.at hs hr).2 (fun q hq=>hw q (by simp [hq]))
theorem digits (b:Nat) (hb:2 ≤ b) (n:Nat):∃ w:List Nat,(∀ r ∈ w,r < b)∧val b w = n:=by
 induction n using Nat.strongRecOn with
 | _ n ih =>
   by_cases h:n = 0
   · exact ⟨[],by simp,h.symm⟩
   · obtain ⟨w,h1,h2⟩:=ih (n / b) (Nat.div_lt_self (by omega) hb)
     refine ⟨n % b :: w,fun r hr=>?_,?_⟩
     · rcases List.mem_cons.1 hr with rfl | hr
       · exact Nat.mod_lt _ (by omega)
       · exact h1 r hr
     · rw [val,h2];exact Nat.mod_add_div n b
theorem same_sq {x y:MM} (hx:WM x) (hy:WM y) (hb:2 ≤ x.1) (e:y.1 = x.1) (zx:Zed x) (zy:Zed y) {s t:Nat} (hs:s < x.2.1.length) (ht:t < y.2.1.length):Same x y s t ↔ ∀ n,sq x s n = sq y t n:=by
 constructor
 · intro h n
   obtain ⟨w,h1,h2⟩:=digits x.1.toNat (by omega) n
   have hw:∀ r ∈ w,(r:Int) < x.1:=fun r hr=>by have:=h1 r hr;omega
   have:=h w hw
   rw [beh_sq hx hb zx w s hs hw,beh_sq hy (by omega) zy w t ht (by rw [e];exact hw),e,h2] at this
   exact this
 · intro h w hw
   rw [beh_sq hx hb zx w s hs hw,beh_sq hy (by omega) zy w t ht (by rw [e];exact hw),e,h]
theorem Zed.of {F x:MM} (hF:WM F) (hx:WM x) (e:F.1 = x.1) (hz:Zed x) (h:∀ i,i < F.2.1.length→∃ t,t < x.2.1.length∧Same F x i t):Zed F:=fun i hi=>by
 obtain ⟨t,ht,hs⟩:=h i hi
 have hb:=hF.base
 have h1:=hs.out
 have h2:=(hs.step (r:=0) (by omega)).out
 rw [h1,h2,hz t ht]
theorem at_sq {x:MM} (h:Tame x):∀ (F n s:Nat),n < 2 ^ F→F ≤ 62→s < x.2.1.length→∃ t:Nat,t < x.2.1.length∧atP x.2.2.1 x.1 (F + 1) (n:Int) (s:Int) = some (t:Int)∧oM x t = sq x s n
 | 0,n,s,hn,_,hs=>by
   have:n = 0:=by simp at hn;omega
   subst this
   refine ⟨s,hs,?_,by rw [sq_zero]⟩
   simp only [atP]
   rw [if_neg (by simp)]
 | F + 1,n,s,hn,hF,hs=>by
   rw [atP]
   by_cases h0:n = 0
   · subst h0
     exact ⟨s,hs,by rw [if_neg (by simp)],by rw [sq_zero]⟩
   · rw [if_pos (by omega)]
     obtain ⟨hb1,hb2⟩:=h.base
     have hw:=h.wm
     have hb:((x.1.toNat:Nat):Int) = x.1:=by omega
     have hlt:n % x.1.toNat < x.1.toNat:=Nat.mod_lt _ (by omega)
     have em:Int.tmod (n:Int) x.1 = ((n % x.1.toNat:Nat):Int):=by rw [Int.tmod_eq_emod_of_nonneg (by omega),Int.natCast_emod,hb]
     have ed:IntKind.wrap .i64 (Int.tdiv (n:Int) x.1) = ((n / x.1.toNat:Nat):Int):=by
       have hp:2 ^ (F + 1) ≤ 2 ^ 62:=Nat.pow_le_pow_right (by omega) hF
       have:(2:Nat) ^ 62 = 4611686018427387904:=by decide
       have hle:n / x.1.toNat ≤ n:=Nat.div_le_self _ _
       have e0:(n:Int) / x.1 = ((n / x.1.toNat:Nat):Int):=by rw [Int.natCast_ediv,hb]
       rw [Int.tdiv_eq_ediv_of_nonneg (by omega),e0]
       revert hle
       generalize n / x.1.toNat = q
       intro hle
       exact w64 (by omega) (by omega)
     have hat:=hw.at hs (r:=n % x.1.toNat) (by omega)
     have hrow:=hw.row s hs
     have e1:atStep x.2.2.1 x.1 (n:Int) (s:Int) = some (dM x s (n % x.1.toNat):Int):=by
       unfold atStep
       rw [if_neg (by omega),if_pos ⟨by omega,by rw [hw.next];omega⟩,em,Int.toNat_natCast,if_pos ⟨by omega,by omega⟩,Int.toNat_natCast,hat.1]
     rw [e1,ed]
     simp only
     obtain ⟨t,t1,t2,t3⟩:=at_sq h F (n / x.1.toNat) (dM x s (n % x.1.toNat)) (by
       have:n / x.1.toNat ≤ n / 2:=Nat.div_le_div_left (by omega) (by omega)
       rw [Nat.pow_succ] at hn;omega) (by omega) hat.2
     exact ⟨t,t1,t2,by rw [t3,sq_pos hb1 s h0]⟩
theorem g70_sq {x:MM} (h:Tame x) (N:Nat) (hN:100 ≤ N) (s n:Nat) (hs:s < x.2.1.length) (hn:n < 4611686018427387904):g70 N x (s:Int) (n:Int) = some (sq x s n):=by
 have h62:(2:Nat) ^ 62 = 4611686018427387904:=by decide
 obtain ⟨t,t1,t2,t3⟩:=at_sq h 62 n s (by omega) (by omega) hs
 have e4:=atP_more x.2.2.1 x.1 63 (N - 63) (n:Int) (s:Int) _ t2
 rw [show 63 + (N - 63) = N by omega] at e4
 unfold g70
 rw [e4,Option.bind_some,if_pos ⟨by omega,by omega⟩,Int.toNat_natCast,← t3];rfl
theorem Form.tame {F:MM} (h:Form F) (hb:2 ≤ F.1∧F.1 ≤ 5) (hn:F.2.1.length ≤ 12) (hz:Zed F):Tame F:=by
 have hw:=h.toWM
 refine ⟨hb,⟨hw.many,hn⟩,hw.out,hw.next,fun r hr=>?_,fun s hs=>hz s hs⟩
 obtain ⟨i,hi,rfl⟩:=List.getElem_of_mem hr
 have hi':i < F.2.1.length:=by rw [← hw.next];exact hi
 have e:F.2.2.1.getD i [] = F.2.2.1[i]:=getD_of hi []
 exact ⟨by rw [← e];exact hw.row i hi',fun t ht=>hw.rng i hi' t (by rw [e];exact ht)⟩
end Go.Pv
namespace Go.Pv
theorem ev_beh {x:MM} (hx:Tame x) {k C c:Nat} (hk:k ≤ C + 1) (hC:C ≤ 1000) (N:Nat) (hN:100 ≤ N) {H:MM} {l:List PP} (hd:Disc (0,0,()) x.1.toNat idK (evOut x N) (evStep x (k:Int)) (0,(c:Int),()) H l) (hl:∀ t ∈ l,EvP x (C:Int) t) :
   ∀ (w:List Nat) (i:Nat),i < l.length→(∀ r ∈ w,r < x.1.toNat)→beh H i w = sq x (l.getD i (0,0,())).1.toNat (k * val x.1.toNat w + (l.getD i (0,0,())).2.1.toNat):=by
 have hb:=hx.base
 have hw:=hx.wm
 have eb:((x.1.toNat:Nat):Int) = x.1:=by omega
 intro w
 induction w with
 | nil =>
   intro i hi _
   have ht:=hl _ (getD_mem hi (0,0,()))
   show oM H i = _
   unfold oM
   rw [hd.out,getD_of (by simpa using hi),List.getElem_map]
   rw [getD_of hi] at ht ⊢
   revert ht
   generalize l[i] = t
   intro ht
   have h1:=ht.s;have h2:=ht.c
   have:=g70_sq hx N hN t.1.toNat t.2.1.toNat (by omega) (by omega)
   unfold evOut
   rw [show ((t.1.toNat:Nat):Int) = t.1 by omega,show ((t.2.1.toNat:Nat):Int) = t.2.1 by omega] at this
   rw [this,val,Nat.mul_zero,Nat.zero_add];rfl
 | cons r w ih =>
   intro i hi hr
   have ht:=hl _ (getD_mem hi (0,0,()))
   have hrb:r < x.1.toNat:=hr r (by simp)
   obtain ⟨j,h1,h2,h3⟩:=hd.way i r hi hrb
   have hdm:dM H i r = j:=by unfold dM;rw [h1];simp
   show beh H (dM H i r) w = _
   rw [hdm,ih j h2 (fun q hq=>hr q (by simp [hq]))]
   have h3:l.getD j (0,0,()) = evStep x (k:Int) (l.getD i (0,0,())) r:=h3
   rw [h3]
   revert ht
   generalize l.getD i (0,0,()) = t
   intro ht
   have q1:=ht.s;have q2:=ht.c
   have e1:(k:Int) * (r:Int) + t.2.1 = ((k * r + t.2.1.toNat:Nat):Int):=by rw [Int.natCast_add,Int.natCast_mul];omega
   unfold evStep
   simp only
   have e3:((k * r + t.2.1.toNat:Nat):Int) % x.1 = (((k * r + t.2.1.toNat) % x.1.toNat:Nat):Int):=by rw [Int.natCast_emod,eb]
   have e4:((k * r + t.2.1.toNat:Nat):Int) / x.1 = (((k * r + t.2.1.toNat) / x.1.toNat:Nat):Int):=by rw [Int.natCast_ediv,eb]
   rw [e1,e3,e4,Int.toNat_natCast,Int.toNat_natCast,Int.toNat_natCast,val]
   rw [sq_step hb.1 hx.zed (s:=t.1.toNat) (by omega) (k * (r + x.1.toNat * val x.1.toNat w) + t.2.1.toNat)]
   have e2:k * (r + x.1.toNat * val x.1.toNat w) + t.2.1.toNat = (k * r + t.2.1.toNat) + x.1.toNat * (k * val x.1.toNat w):=by
     rw [Nat.mul_add,Nat.mul_left_comm];omega
   rw [e2,Nat.add_mul_mod_self_left,Nat.add_mul_div_left _ _ (by omega),Nat.add_comm (k * val x.1.toNat w)]
theorem ev_seq {x:MM} (hx:Tame x) {k C c:Nat} (hk:k ≤ C + 1) (hC:C ≤ 1000) (N:Nat) (hN:100 ≤ N) {H:MM} {l:List PP} (hd:Disc (0,0,()) x.1.toNat idK (evOut x N) (evStep x (k:Int)) (0,(c:Int),()) H l) (hl:∀ t ∈ l,EvP x (C:Int) t) (hw:WM H) :
   Zed H∧∀ m,sq H 0 m = sq x 0 (k * m + c):=by
 have hb:=hx.base
 have hb1:H.1 = x.1:=by rw [hd.base];omega
 have hlen:H.2.1.length = l.length:=by rw [hd.out,List.length_map]
 have key:=ev_beh hx hk hC N hN hd hl
 have hz:Zed H:=fun s hs=>by
   rw [hlen] at hs
   have h1:=key [] s hs (by simp)
   have h2:=key [0] s hs (by simp;omega)
   rw [show beh H s [] = oM H s from rfl] at h1
   rw [show beh H s [0] = oM H (dM H s 0) from rfl] at h2
   rw [h1,h2]
   simp [val]
 refine ⟨hz,fun m=>?_⟩
 obtain ⟨w,h1,h2⟩:=digits x.1.toNat (by omega) m
 have h3:=key w 0 hd.some1 h1
 rw [hd.first] at h3
 rw [beh_sq hw (by omega) hz w 0 hw.many (fun r hr=>by have:=h1 r hr;omega),hb1,h2] at h3
 simpa using h3
end Go.Pv
namespace Go.Pv
end Go.Pv
namespace Go.Pv
theorem WM.nat {x:MM} (h:WM x) {s:Int} (h0:0 ≤ s) (h1:s < (x.2.1.length:Int)) {r:Nat} (hr:(r:Int) < x.1):(x.2.2.1.getD s.toNat []).getD r 0 = (dM x s.toNat r:Int)∧dM x s.toNat r < x.2.1.length:=h.at (by omega) hr
theorem WM.oAt {x:MM} (h:WM x) {s:Nat} (hs:s < x.2.1.length):0 ≤ oM x s∧oM x s ≤ 9:=h.out _ (getD_mem hs 0)
end Go.Pv
namespace Go.Pv
abbrev ppB:PP→PP→Bool:=Ty.beq (.pair (.int .i64) (.pair (.int .i64) .unit))
section
variable {V:Type}
theorem find_some (k:PP):∀ mp:List (PP×V),(mapFind ppB k mp).isSome = true ↔ k ∈ mp.map (·.1)
 | []=>by simp [mapFind]
 | (q,v) :: mp=>by
   simp only [mapFind,List.map_cons,List.mem_cons]
   by_cases h:k = q
   · subst h;rw [if_pos ((pp_eq k k).2 rfl)];simp
   · rw [if_neg (fun e=>h ((pp_eq k q).1 e)),find_some k mp];simp [h]
theorem put_new (k:PP) (v:V):∀ mp:List (PP×V),k ∉ mp.map (·.1)→mapPut ppB k v mp = mp ++ [(k,v)]
 | [],_=>rfl
 | (q,u) :: mp,h=>by
   simp only [List.map_cons,List.mem_cons,not_or] at h
   have:ppB k q = false:=by
     cases hq:ppB k q with
     | false=>rfl
     | true=>exact absurd ((pp_eq k q).1 hq) h.1
   simp only [mapPut,this,Bool.false_eq_true,if_false,put_new k v mp h.2,List.cons_append]
theorem find_old (k:PP) (e:List (PP×V)):∀ mp:List (PP×V),k ∈ mp.map (·.1)→mapFind ppB k (mp ++ e) = mapFind ppB k mp
 | [],h=>by simp at h
 | (q,u) :: mp,h=>by
   simp only [List.cons_append,mapFind]
   by_cases hk:k = q
   · subst hk;rw [if_pos ((pp_eq k k).2 rfl),if_pos ((pp_eq k k).2 rfl)]
   · rw [if_neg (fun e=>hk ((pp_eq k q).1 e)),if_neg (fun e=>hk ((pp_eq k q).1 e))]
     exact find_old k e mp (by simpa [hk] using h)
theorem find_new (k:PP) (v:V):∀ mp:List (PP×V),k ∉ mp.map (·.1)→mapFind ppB k (mp ++ [(k,v)]) = some v
 | [],_=>by simp only [List.nil_append,mapFind];rw [if_pos ((pp_eq k k).2 rfl)]
 | (q,u) :: mp,h=>by
   simp only [List.map_cons,List.mem_cons,not_or] at h
   simp only [List.cons_append,mapFind]
   rw [if_neg (fun e=>h.1 ((pp_eq k q).1 e))]
   exact find_new k v mp h.2
end
abbrev dP:PP:=(0,0,())
def nxP (x y:MM) (p:PP) (r:Nat):PP:=((dM x p.1.toNat r:Int),(dM y p.2.1.toNat r:Int),())
structure InP (x y:MM) (p:PP):Prop where
 s:0 ≤ p.1∧p.1 < (x.2.1.length:Int)
 t:0 ≤ p.2.1∧p.2.1 < (y.2.1.length:Int)
theorem in_next {x y:MM} (hx:WM x) (hy:WM y) (hb:y.1 = x.1) {p:PP} (h:InP x y p) {r:Nat} (hr:(r:Int) < x.1):InP x y (nxP x y p r):=by
 have h1:=hx.at (s:=p.1.toNat) (by have:=h.s;omega) hr
 have h2:=hy.at (s:=p.2.1.toNat) (by have:=h.t;omega) (by rw [hb];exact hr)
 exact ⟨⟨by unfold nxP;simp only;omega,by unfold nxP;simp only;omega⟩,⟨by unfold nxP;simp only;omega,by unfold nxP;simp only;omega⟩⟩
structure DJ (x y:MM) (mp:List (PP×(PP×Int×Unit))) (D:List PP) (h:Nat):Prop where
 keys:mp.map (·.1) = D
 nd:D.Nodup
 zero:1 ≤ D.length∧D.getD 0 dP = dP
 rng:∀ p ∈ D,InP x y p
 par:∀ i,0 < i→i < D.length→∃ j r,j < i∧mapFind ppB (D.getD i dP) mp = some (D.getD j dP,r,())
 sem:Same x y 0 0→∀ p ∈ D,Same x y p.1.toNat p.2.1.toNat
 done:∀ i,i < h→i < D.length→oM x (D.getD i dP).1.toNat = oM y (D.getD i dP).2.1.toNat∧∀ r:Nat,(r:Int) < x.1→nxP x y (D.getD i dP) r ∈ D
theorem DJ.push {x y:MM} (hx:WM x) (hy:WM y) (hb:y.1 = x.1) {mp:List (PP×(PP×Int×Unit))} {D:List PP} {h:Nat} (J:DJ x y mp D h) (hh:h < D.length) {r:Nat} (hr:(r:Int) < x.1) (hm:nxP x y (D.getD h dP) r ∉ D) :
   DJ x y (mp ++ [(nxP x y (D.getD h dP) r,(D.getD h dP,(r:Int),()))]) (D ++ [nxP x y (D.getD h dP) r]) h:=by
 have gl:∀ i,i < D.length→(D ++ [nxP x y (D.getD h dP) r]).getD i dP = D.getD i dP:=fun i hi=>getD_append_left hi
 have hin:=J.rng _ (getD_mem hh dP)
 refine ⟨by rw [List.map_append,J.keys];rfl,?_,⟨by simp,by rw [gl 0 (by have:=J.zero;omega)];exact J.zero.2⟩,fun p hp=>?_,fun i h0 hi=>?_,fun hs p hp=>?_,fun i hi hi2=>?_⟩
 · rw [List.nodup_append]
   refine ⟨J.nd,by simp,fun a ha b hb e=>?_⟩
   simp only [List.mem_cons,List.not_mem_nil,or_false] at hb
   exact hm (hb ▸ e ▸ ha)
 · rcases List.mem_append.1 hp with hp | hp
   · exact J.rng p hp
   · simp only [List.mem_cons,List.not_mem_nil,or_false] at hp
     subst hp;exact in_next hx hy hb hin hr
 · by_cases hl:i < D.length
   · obtain ⟨j,q,h1,h2⟩:=J.par i h0 hl
     refine ⟨j,q,h1,?_⟩
     rw [gl i hl,gl j (by omega),find_old _ _ _ (by rw [J.keys];exact getD_mem hl dP),h2]
   · have:i = D.length:=by simp at hi;omega
     subst this
     refine ⟨h,(r:Int),hh,?_⟩
     rw [gl h hh]
     have:(D ++ [nxP x y (D.getD h dP) r]).getD D.length dP = nxP x y (D.getD h dP) r:=by
       rw [List.getD_eq_getElem?_getD,List.getElem?_append_right (by omega)];simp
     rw [this,find_new _ _ _ (by rw [J.keys];exact hm)]
 · rcases List.mem_append.1 hp with hp | hp
   · exact J.sem hs p hp
   · simp only [List.mem_cons,List.not_mem_nil,or_false] at hp
     subst hp
     have:=(J.sem hs _ (getD_mem hh dP)).step hr
     unfold nxP
     simp only [Int.toNat_natCast]
     exact this
 · have hl:i < D.length:=by omega
   rw [gl i hl]
   obtain ⟨h1,h2⟩:=J.done i hi hl
   exact ⟨h1,fun q hq=>List.mem_append_left _ (h2 q hq)⟩
end Go.Pv
namespace Go.Pv
structure GoodAll (x:MM) (s:Nat):Prop where
 out:0 ≤ x.2.1.getD s 0∧x.2.1.getD s 0 ≤ 9
 good:GoodRow x s
end Go.Pv
namespace Go.Pv
structure Row10 (r:List Int):Prop where
 len:r.length = 10
 rng:∀ v ∈ r,0 ≤ v∧v ≤ 9
structure Tab (t:List (List Int)):Prop where
 len:t.length = 10
 row:∀ r ∈ t,Row10 r
theorem to_rng {to:List Int} (h:Row10 to) {v:Int} (h0:0 ≤ v) (h1:v ≤ 9):0 ≤ to.getD v.toNat 0∧to.getD v.toNat 0 ≤ 9:=h.rng _ (getD_mem (by have:=h.len;omega) 0)
end Go.Pv
namespace Go.Pv
theorem WM.tame {F:MM} (hw:WM F) (hb:2 ≤ F.1∧F.1 ≤ 5) (hn:F.2.1.length ≤ 12) (hz:Zed F):Tame F:=by
 refine ⟨hb,⟨hw.many,hn⟩,hw.out,hw.next,fun r hr=>?_,fun s hs=>hz s hs⟩
 obtain ⟨i,hi,rfl⟩:=List.getElem_of_mem hr
 have hi':i < F.2.1.length:=by rw [← hw.next];exact hi
 have e:F.2.2.1.getD i [] = F.2.2.1[i]:=getD_of hi []
 exact ⟨by rw [← e];exact hw.row i hi',fun t ht=>hw.rng i hi' t (by rw [e];exact ht)⟩
end Go.Pv
namespace Go.Pv
def boOut (x y:MM) (t:List (List Int)) (p:PP):Int:=(t.getD (oM x p.1.toNat).toNat []).getD (oM y p.2.1.toNat).toNat 0
theorem bo_out {x y:MM} (hx:WM x) (hy:WM y) {t:List (List Int)} (ht:Tab t) {p:PP} (hp:InP x y p) :
   idx p.1 x.2.1.length∧idx (x.2.1.getD p.1.toNat 0) t.length∧idx p.2.1 y.2.1.length∧idx (y.2.1.getD p.2.1.toNat 0) (t.getD (x.2.1.getD p.1.toNat 0).toNat []).length∧0 ≤ boOut x y t p∧boOut x y t p ≤ 9:=by
 have h1:=hp.s;have h2:=hp.t
 have o1:=hx.oAt (s:=p.1.toNat) (by omega)
 have o2:=hy.oAt (s:=p.2.1.toNat) (by omega)
 have hl:=ht.len
 have hr:=ht.row _ (getD_mem (l:=t) (i:=(oM x p.1.toNat).toNat) (by omega) [])
 have hl2:=hr.len
 have o1':0 ≤ x.2.1.getD p.1.toNat 0∧x.2.1.getD p.1.toNat 0 ≤ 9:=o1
 have o2':0 ≤ y.2.1.getD p.2.1.toNat 0∧y.2.1.getD p.2.1.toNat 0 ≤ 9:=o2
 have hl3:(t.getD (x.2.1.getD p.1.toNat 0).toNat []).length = 10:=hl2
 refine ⟨⟨by omega,by omega⟩,⟨by omega,by omega⟩,⟨by omega,by omega⟩,⟨by omega,by omega⟩,?_⟩
 exact to_rng hr o2.1 o2.2
theorem bo_next {x y:MM} (hx:WM x) (hy:WM y) (hb:y.1 = x.1) {p:PP} (hp:InP x y p) {r:Nat} (hr:(r:Int) < x.1) :
   idx p.1 x.2.2.1.length∧idx (r:Int) (x.2.2.1.getD p.1.toNat []).length∧idx p.2.1 y.2.2.1.length∧idx (r:Int) (y.2.2.1.getD p.2.1.toNat []).length ∧
     (x.2.2.1.getD p.1.toNat []).getD r 0 = (dM x p.1.toNat r:Int)∧(y.2.2.1.getD p.2.1.toNat []).getD r 0 = (dM y p.2.1.toNat r:Int):=by
 have h1:=hp.s;have h2:=hp.t
 have a1:=hx.nat h1.1 h1.2 hr
 have a2:=hy.nat h2.1 h2.2 (r:=r) (by omega)
 have r1:=hx.row p.1.toNat (by omega)
 have r2:=hy.row p.2.1.toNat (by omega)
 have n1:=hx.next;have n2:=hy.next
 exact ⟨⟨by omega,by omega⟩,⟨by omega,by omega⟩,⟨by omega,by omega⟩,⟨by omega,by omega⟩,a1.1,a2.1⟩
theorem ref_both_row (N:Nat) {x y:MM} (hx:WM x) (hy:WM y) (hb:y.1 = x.1) {D:Type} (k0:List (List Int)→Int→Int→Int→MM→MM→Int→Int→List Int→List (List Int)→List (List Int×Int)→List Int→List (List Int)→List Int→List (List Int)→Option D)
   (tb:List (List Int)) (i:Int) (t:PP) (ht:InP x y t) (a1 a2:Int) (u1:List Int) (u2:List (List Int)) (o1:List Int) (o2:List (List Int)) :
   ∀ (F r:Nat) (row:List Int) (q:List PP),x.1.toNat - r < F→(r:Int) ≤ x.1→row.length ≤ r→q.length ≤ 100000 + r →
     g53L128154f N F k0 tb i t.1 t.2.1 (r:Int) x y a1 a2 row (q.map arrP) (mpairs 0 (q.map arrP)) u1 u2 o1 o2 =
       k0 tb i t.1 t.2.1 x y a1 a2 (bfsRow idK (nxP x y) t ((List.range x.1.toNat).drop r) row q).1 ((bfsRow idK (nxP x y) t ((List.range x.1.toNat).drop r) row q).2.map arrP) (mpairs 0 ((bfsRow idK (nxP x y) t ((List.range x.1.toNat).drop r) row q).2.map arrP)) u1 u2 o1 o2
 | 0,r,row,q,hF,_,_,_=>by omega
 | F + 1,r,row,q,hF,hr,h1,h2=>by
   rw [g53L128154f_succ]
   unfold g53L128154B
   have hbx:=hx.base
   by_cases hlt:(r:Int) < x.1
   · obtain ⟨i1,i2,i3,i4,i5,i6⟩:=bo_next hx hy hb ht (r:=r) hlt
     rw [decide_eq_true hlt,cond_true,if_pos i1,if_pos i2,if_pos i3,if_pos i4]
     simp only [Int.toNat_natCast]
     rw [i5,i6,set_pair,range_drop (by omega)]
     unfold bfsRow
     rw [map_idK]
     rw [show ([(dM x t.1.toNat r:Int),(dM y t.2.1.toNat r:Int)]:List Int) = arrP (nxP x y t r) from rfl]
     unfold g65
     rw [find_mpairs (arr_eq 2)]
     by_cases hm:nxP x y t r ∈ q
     · rw [if_pos ((mem_inj (fun a b=>arrP_inj)).2 hm),if_pos hm]
       simp only [Option.isSome_some,Bool.not_true,cond_false,Option.bind_some]
       rw [if_pos (by simp only [List.length_cons,List.length_nil,maxCount];omega),Option.getD_some,wn r (by omega),Nat.zero_add,posOf_inj_map (fun a b=>arrP_inj)]
       exact ref_both_row N hx hy hb k0 tb i t ht a1 a2 u1 u2 o1 o2 F (r + 1) _ q (by omega) (by omega) (by simp;omega) (by omega)
     · rw [if_neg (fun h=>hm ((mem_inj (fun a b=>arrP_inj)).1 h)),if_neg hm]
       simp only [Option.isSome_none,Bool.not_false,cond_true,Option.bind_some,Bool.not_false]
       rw [if_pos (by simp only [List.length_cons,List.length_nil,List.length_map,maxCount];omega),if_pos (by simp only [List.length_cons,List.length_nil,maxCount];omega),wn r (by omega)]
       rw [put_mpairs (arr_eq 2) _ _ _ _ (fun h=>hm ((mem_inj (fun a b=>arrP_inj)).1 h)),show mpairs 0 (q.map arrP) ++ [(arrP (nxP x y t r),((q.map arrP).length:Int))] = mpairs 0 ((q ++ [nxP x y t r]).map arrP) by rw [List.map_append,List.map_cons,List.map_nil,mpairs_snoc];simp]
       rw [show q.map arrP ++ [arrP (nxP x y t r)] = (q ++ [nxP x y t r]).map arrP by simp,List.length_map]
       exact ref_both_row N hx hy hb k0 tb i t ht a1 a2 u1 u2 o1 o2 F (r + 1) _ _ (by omega) (by omega) (by simp;omega) (by simp;omega)
   · rw [decide_eq_false hlt,cond_false,List.drop_of_length_le (by simp;omega)];rfl
end Go.Pv
namespace Go.Pv
def Eqk (b:Nat→List Nat→Int) (ok:Nat→Prop) (k i j:Nat):Prop:=∀ w:List Nat,(∀ r ∈ w,ok r)→w.length ≤ k→b i w = b j w
section
variable {b:Nat→List Nat→Int} {ok:Nat→Prop}
theorem Eqk.symm {k i j:Nat} (h:Eqk b ok k i j):Eqk b ok k j i:=fun w h1 h2=>(h w h1 h2).symm
theorem Eqk.trans {k i j l:Nat} (h:Eqk b ok k i j) (g:Eqk b ok k j l):Eqk b ok k i l:=fun w h1 h2=>(h w h1 h2).trans (g w h1 h2)
end
def go (x:MM):Nat→List Nat→Nat
 | s,[]=>s
 | s,r :: w=>go x (dM x s r) w
theorem go_snoc (x:MM):∀ (w:List Nat) (s r:Nat),go x s (w ++ [r]) = dM x (go x s w) r
 | [],_,_=>rfl
 | q :: w,s,r=>go_snoc x w (dM x s q) r
theorem beh_go (x:MM):∀ (w:List Nat) (s:Nat),beh x s w = oM x (go x s w)
 | [],_=>rfl
 | r :: w,s=>beh_go x w (dM x s r)
theorem go_lt {x:MM} (hx:WM x):∀ (w:List Nat) (s:Nat),s < x.2.1.length→(∀ r ∈ w,(r:Int) < x.1)→go x s w < x.2.1.length
 | [],s,hs,_=>hs
 | r :: w,s,hs,hw=>go_lt hx w _ (hx.at hs (hw r (by simp))).2 (fun q hq=>hw q (by simp [hq]))
end Go.Pv
namespace Go.Pv
def runP (x y:MM) (w:List Nat):PP:=((go x 0 w:Int),(go y 0 w:Int),())
abbrev okW (x:MM) (w:List Nat):Prop:=∀ r ∈ w,(r:Int) < x.1
theorem runP_snoc (x y:MM) (w:List Nat) (r:Nat):nxP x y (runP x y w) r = runP x y (w ++ [r]):=by
 unfold nxP runP
 simp only [Int.toNat_natCast,go_snoc]
theorem okW_snoc {x:MM} {w:List Nat} {r:Nat}:okW x (w ++ [r]) ↔ okW x w∧(r:Int) < x.1:=by
 constructor
 · intro h
   exact ⟨fun q hq=>h q (List.mem_append_left _ hq),h r (by simp)⟩
 · intro h q hq
   rcases List.mem_append.1 hq with hq | hq
   · exact h.1 q hq
   · simp only [List.mem_cons,List.not_mem_nil,or_false] at hq
     subst hq;exact h.2
theorem okW_nil (x:MM):okW x []:=fun r hr=>by cases hr
theorem runP_in {x y:MM} (hx:WM x) (hy:WM y) (hb:y.1 = x.1) {w:List Nat} (hw:okW x w):InP x y (runP x y w):=by
 have h1:=go_lt hx w 0 hx.many hw
 have h2:=go_lt hy w 0 hy.many (by rw [hb];exact hw)
 exact ⟨⟨by unfold runP;simp only;omega,by unfold runP;simp only;omega⟩,⟨by unfold runP;simp only;omega,by unfold runP;simp only;omega⟩⟩
theorem sub_len {D E:List PP} (hn:D.Nodup) (h:∀ p ∈ D,p ∈ E):D.length ≤ E.length :=
 pigeon_num (P:=fun p=>p ∈ E) (K:=E.length) idK (fun p:PP=>(posOf p E:Int)) (fun s t hs ht he=>by
   have h1:=posOf_get hs
   have h2:=posOf_get ht
   have he2:(posOf s E:Int) = (posOf t E:Int):=he
   have he3:posOf s E = posOf t E:=by omega
   rw [he3] at h1
   rw [h1] at h2
   exact Option.some.inj h2) (fun s hs=>by
   have:=posOf_lt hs
   show 0 ≤ (posOf s E:Int)∧(posOf s E:Int) < (E.length:Int)
   omega) h (by rw [map_idK];exact hn)
structure DK (x y:MM) (mp:List (PP×(PP×Int×Unit))) (D:List PP) (W:List (List Nat)) (h:Nat):Prop where
 keys:mp.map (·.1) = D
 nd:D.Nodup
 len:W.length = D.length
 zero:1 ≤ D.length∧D.getD 0 dP = dP∧W.getD 0 [] = []
 run:∀ i,i < D.length→okW x (W.getD i [])∧D.getD i dP = runP x y (W.getD i [])
 par:∀ i,0 < i→i < D.length→∃ j r:Nat,j < i∧mapFind ppB (D.getD i dP) mp = some (D.getD j dP,(r:Int),())∧W.getD i [] = W.getD j [] ++ [r]
 mono:∀ i j,i ≤ j→j < D.length→(W.getD i []).length ≤ (W.getD j []).length
 top:h < D.length→∀ j,j < D.length→(W.getD j []).length ≤ (W.getD h []).length + 1
 done:∀ i,i < h→i < D.length→oM x (D.getD i dP).1.toNat = oM y (D.getD i dP).2.1.toNat∧∀ r:Nat,(r:Int) < x.1→∃ j,j < D.length∧D.getD j dP = nxP x y (D.getD i dP) r∧(W.getD j []).length ≤ (W.getD i []).length + 1
theorem getD_last {α:Type} (l:List α) (a d:α):(l ++ [a]).getD l.length d = a:=by
 rw [List.getD_eq_getElem?_getD,List.getElem?_append_right (by omega)];simp
theorem DK.rng {x y:MM} (hx:WM x) (hy:WM y) (hb:y.1 = x.1) {mp:List (PP×(PP×Int×Unit))} {D:List PP} {W:List (List Nat)} {h:Nat} (J:DK x y mp D W h) {i:Nat} (hi:i < D.length):InP x y (D.getD i dP):=by
 rw [(J.run i hi).2];exact runP_in hx hy hb (J.run i hi).1
theorem DK.len_le {x y:MM} {mp:List (PP×(PP×Int×Unit))} {D:List PP} {W:List (List Nat)} {h:Nat} (J:DK x y mp D W h) {E:List PP} (hE:∀ w,okW x w→runP x y w ∈ E):D.length ≤ E.length :=
 sub_len J.nd fun p hp=>by
   obtain ⟨i,hi,rfl⟩:=List.getElem_of_mem hp
   have:=J.run i hi
   rw [getD_of hi] at this
   rw [this.2];exact hE _ this.1
theorem DK.push {x y:MM} {mp:List (PP×(PP×Int×Unit))} {D:List PP} {W:List (List Nat)} {h:Nat} (J:DK x y mp D W h) (hh:h < D.length) {r:Nat} (hr:(r:Int) < x.1) (hm:nxP x y (D.getD h dP) r ∉ D) :
   DK x y (mp ++ [(nxP x y (D.getD h dP) r,(D.getD h dP,(r:Int),()))]) (D ++ [nxP x y (D.getD h dP) r]) (W ++ [W.getD h [] ++ [r]]) h:=by
 have hlen:=J.len
 have gl:∀ i,i < D.length→(D ++ [nxP x y (D.getD h dP) r]).getD i dP = D.getD i dP:=fun i hi=>getD_append_left hi
 have gw:∀ i,i < D.length→(W ++ [W.getD h [] ++ [r]]).getD i [] = W.getD i []:=fun i hi=>getD_append_left (by omega)
 have gln:(D ++ [nxP x y (D.getD h dP) r]).getD D.length dP = nxP x y (D.getD h dP) r:=getD_last _ _ _
 have gwn:(W ++ [W.getD h [] ++ [r]]).getD D.length [] = W.getD h [] ++ [r]:=by rw [← hlen];exact getD_last _ _ _
 have hz:=J.zero
 have split:∀ i,i < (D ++ [nxP x y (D.getD h dP) r]).length→i < D.length ∨ i = D.length:=fun i hi=>by simp at hi;omega
 refine ⟨by rw [List.map_append,J.keys];rfl,?_,by simp [hlen],⟨by simp,by rw [gl 0 (by omega)];exact hz.2.1,by rw [gw 0 (by omega)];exact hz.2.2⟩,fun i hi=>?_,fun i h0 hi=>?_,fun i j hij hj=>?_,fun _ j hj=>?_,fun i hi hi2=>?_⟩
 · rw [List.nodup_append]
   refine ⟨J.nd,by simp,fun a ha b hb e=>?_⟩
   simp only [List.mem_cons,List.not_mem_nil,or_false] at hb
   exact hm (hb ▸ e ▸ ha)
 · rcases split i hi with hi | rfl
   · rw [gl i hi,gw i hi];exact J.run i hi
   · rw [gln,gwn]
     have:=J.run h hh
     refine ⟨okW_snoc.2 ⟨this.1,hr⟩,?_⟩
     rw [← runP_snoc,← this.2]
 · rcases split i hi with hl | rfl
   · obtain ⟨j,q,h1,h2,h3⟩:=J.par i h0 hl
     refine ⟨j,q,h1,?_,?_⟩
     · rw [gl i hl,gl j (by omega),find_old _ _ _ (by rw [J.keys];exact getD_mem hl dP),h2]
     · rw [gw i hl,gw j (by omega),h3]
   · refine ⟨h,r,hh,?_,?_⟩
     · rw [gl h hh,gln,find_new _ _ _ (by rw [J.keys];exact hm)]
     · rw [gw h hh,gwn]
 · rcases split j hj with hl | rfl
   · rw [gw j hl,gw i (by omega)];exact J.mono i j hij hl
   · rw [gwn]
     by_cases hl:i < D.length
     · rw [gw i hl]
       have:=J.top hh i hl
       simpa using this
     · have:i = D.length:=by omega
       subst this
       rw [gwn];omega
 · rw [gw h hh]
   rcases split j hj with hl | rfl
   · rw [gw j hl];exact J.top hh j hl
   · rw [gwn];simp
 · have hl:i < D.length:=by omega
   rw [gl i hl,gw i hl]
   obtain ⟨h1,h2⟩:=J.done i hi hl
   refine ⟨h1,fun q hq=>?_⟩
   obtain ⟨j,j1,j2,j3⟩:=h2 q hq
   exact ⟨j,by simp;omega,by rw [gl j j1];exact j2,by rw [gw j j1];exact j3⟩
theorem dik_row {x y:MM} (hx:WM x) (hy:WM y) (hb:y.1 = x.1) (N:Nat) {C:Type} (k0:Bool→MM→MM→PP→PP→List (PP×(PP×Int×Unit))→List PP→Option C) (v:Bool) (v8 p:PP) (h:Nat) :
   ∀ (F r:Nat) (mp:List (PP×(PP×Int×Unit))) (D:List PP) (W:List (List Nat)),x.1.toNat - r < F→(r:Int) ≤ x.1→DK x y mp D W h→h < D.length→D.getD h dP = p→D.length ≤ 100000 + r→(∀ q:Nat,q < r→nxP x y p q ∈ D) →
     ∃ mp' ext wx,g79L113758f N F k0 v x.1 (r:Int) x y v8 p mp (D.drop (h + 1)) = k0 v x y v8 p mp' ((D ++ ext).drop (h + 1))∧DK x y mp' (D ++ ext) (W ++ wx) h∧∀ q:Nat,(q:Int) < x.1→nxP x y p q ∈ D ++ ext
 | 0,r,mp,D,W,hF,_,_,_,_,_,_=>by omega
 | F + 1,r,mp,D,W,hF,hr,J,hh,hp,hlen,hall=>by
   rw [g79L113758f_succ]
   unfold g79L113758B
   have hbx:=hx.base
   by_cases hlt:(r:Int) < x.1
   · have hin:=J.rng hx hy hb hh
     rw [hp] at hin
     have h1:=hx.at (s:=p.1.toNat) (by have:=hin.s;omega) hlt
     have h2:=hy.at (s:=p.2.1.toNat) (by have:=hin.t;omega) (by rw [hb];exact hlt)
     have r1:=hx.row p.1.toNat (by have:=hin.s;omega)
     have r2:=hy.row p.2.1.toNat (by have:=hin.t;omega)
     have n1:=hx.next;have n2:=hy.next
     have hs:=hin.s;have ht:=hin.t
     rw [decide_eq_true hlt,cond_true,if_pos (⟨by omega,by omega⟩:idx _ _),if_pos (⟨by omega,by omega⟩:idx _ _),if_pos (⟨by omega,by omega⟩:idx _ _),if_pos (⟨by omega,by omega⟩:idx _ _)]
     simp only [Int.toNat_natCast]
     rw [h1.1,h2.1]
     rw [show (((dM x p.1.toNat r:Int),(dM y p.2.1.toNat r:Int),()):PP) = nxP x y p r from rfl]
     by_cases hm:nxP x y p r ∈ D
     · have:(mapFind ppB (nxP x y p r) mp).isSome = true:=(find_some _ _).2 (by rw [J.keys];exact hm)
       rw [this,Bool.not_true,cond_false,wn r (by omega)]
       exact dik_row hx hy hb N k0 v v8 p h F (r + 1) mp D W (by omega) (by omega) J hh hp (by omega) (fun q hq=>by
         by_cases hqr:q = r
         · subst hqr;exact hm
         · exact hall q (by omega))
     · have:(mapFind ppB (nxP x y p r) mp).isSome = false:=by
         rw [← Bool.not_eq_true,find_some,J.keys];exact hm
       rw [this,Bool.not_false,cond_true,if_pos (by simp only [List.length_cons,List.length_nil,List.length_drop,maxCount];omega),wn r (by omega),put_new _ _ _ (by rw [J.keys];exact hm)]
       have J':=J.push hh hlt (by rw [hp];exact hm)
       rw [hp] at J'
       have gh:(D ++ [nxP x y p r]).getD h dP = p:=by rw [getD_append_left hh];exact hp
       have ih:=dik_row hx hy hb N k0 v v8 p h F (r + 1) _ _ _ (by omega) (by omega) J' (by simp;omega) gh (by simp;omega) (fun q hq=>by
         by_cases hqr:q = r
         · subst hqr;simp
         · exact List.mem_append_left _ (hall q (by omega)))
       obtain ⟨mp',ext,wx,e1,e2,e3⟩:=ih
       refine ⟨mp',nxP x y p r :: ext,(W.getD h [] ++ [r]) :: wx,?_,?_,?_⟩
       · rw [List.drop_append_of_le_length (by omega)] at e1
         rw [e1];simp
       · simpa using e2
       · simpa using e3
   · rw [decide_eq_false hlt,cond_false]
     exact ⟨mp,[],[],by simp,by simpa using J,fun q hq=>by simpa using hall q (by omega)⟩
theorem dik_loop {x y:MM} (hx:WM x) (hy:WM y) (hb:y.1 = x.1) (N:Nat) (hN:1001 < N) {E:List PP} (hE:∀ w,okW x w→runP x y w ∈ E) (hK:E.length ≤ 60000) {C:Type} (k0:Bool→MM→MM→PP→List (PP×(PP×Int×Unit))→List PP→Option C) (v8:PP) :
   ∀ (F h:Nat) (mp:List (PP×(PP×Int×Unit))) (D:List PP) (W:List (List Nat)),E.length - h < F→DK x y mp D W h→h ≤ D.length →
     (∃ mp' q,g79L444f N F k0 false x y v8 mp (D.drop h) = k0 false x y v8 mp' q∧Same x y 0 0) ∨
     (∃ mp' D' W' h' q,g79L444f N F k0 false x y v8 mp (D.drop h) = k0 true x y (D'.getD h' dP) mp' q∧h' < D'.length∧DK x y mp' D' W' h'∧oM x (D'.getD h' dP).1.toNat ≠ oM y (D'.getD h' dP).2.1.toNat)
 | 0,h,mp,D,W,hF,J,hh=>by
   have hl:=J.len_le hE
   omega
 | F + 1,h,mp,D,W,hF,J,hh=>by
   rw [g79L444f_succ]
   unfold g79L444B
   have hl:=J.len_le hE
   have hbx:=hx.base
   by_cases hlt:h < D.length
   · have hne:0 < (D.drop h).length:=by rw [List.length_drop];omega
     have e0:D.drop h = D.getD h dP :: D.drop (h + 1):=dropD D hlt
     have hin:=J.rng hx hy hb hlt
     have hs:=hin.s;have ht:=hin.t
     rw [decide_eq_true (show (0:Int) < ((D.drop h).length:Int) by omega),cond_true,if_pos (⟨by omega,by omega⟩:idx 0 (D.drop h).length),if_pos (show Int.toNat 0 < (D.drop h).length from hne),if_pos (by omega)]
     rw [show (D.drop h).getD (Int.toNat 0) (0,0,()) = D.getD h dP by rw [e0];rfl,if_pos (⟨by omega,by omega⟩:idx _ _),if_pos (⟨by omega,by omega⟩:idx _ _)]
     rw [show List.drop (Int.toNat 1) (List.take (Int.toNat ((D.drop h).length:Int)) (D.drop h)) = D.drop (h + 1) by rw [Int.toNat_natCast,List.take_length,List.drop_drop];rfl]
     by_cases ho:oM x (D.getD h dP).1.toNat = oM y (D.getD h dP).2.1.toNat
     · have:ieq (x.2.1.getD (D.getD h dP).1.toNat 0) (y.2.1.getD (D.getD h dP).2.1.toNat 0) = true:=by
         have h1:x.2.1.getD (D.getD h dP).1.toNat 0 = y.2.1.getD (D.getD h dP).2.1.toNat 0:=ho
         rw [h1,ieq_self]
       rw [this,Bool.not_true,cond_false,g79L113758_eq]
       have el:=fun k=>dik_row (C:=C) hx hy hb N k false v8 (D.getD h dP) h N 0 mp D W (by omega) (by omega) J hlt rfl (by omega) (fun q hq=>by omega)
       simp only [Int.natCast_zero] at el
       obtain ⟨mp',ext,wx,e1,e2,e3⟩:=el (fun e1 e2 e3 e4 e5 e6 e7=>g79L444f N F k0 e1 e2 e3 e4 e6 e7)
       refine (show _ = _ from e1) ▸ ?_
       have hle:h < (D ++ ext).length:=by rw [List.length_append];omega
       have J2:DK x y mp' (D ++ ext) (W ++ wx) (h + 1):=⟨e2.keys,e2.nd,e2.len,e2.zero,e2.run,e2.par,e2.mono,fun h1 j hj=>by
         have:=e2.top hle j hj
         have:=e2.mono h (h + 1) (by omega) h1
         omega,fun i hi hi2=>by
         by_cases hih:i < h
         · exact e2.done i hih hi2
         · have:i = h:=by omega
           subst this
           rw [getD_append_left hlt]
           refine ⟨ho,fun r hr=>?_⟩
           obtain ⟨j,j1,j2⟩:=List.getElem_of_mem (e3 r hr)
           exact ⟨j,j1,by rw [getD_of j1,j2],e2.top hle j j1⟩⟩
       exact dik_loop hx hy hb N hN hE hK k0 v8 F (h + 1) mp' (D ++ ext) (W ++ wx) (by omega) J2 (by simp;omega)
     · have:ieq (x.2.1.getD (D.getD h dP).1.toNat 0) (y.2.1.getD (D.getD h dP).2.1.toNat 0) = false:=by
         have h1:¬ x.2.1.getD (D.getD h dP).1.toNat 0 = y.2.1.getD (D.getD h dP).2.1.toNat 0:=ho
         simp only [ieq,decide_eq_false_iff_not];exact h1
       rw [this,Bool.not_false,cond_true]
       exact .inr ⟨mp,D,W,h,_,rfl,hlt,J,ho⟩
   · have:h = D.length:=by omega
     subst this
     have e0:D.drop D.length = []:=List.drop_of_length_le (by omega)
     rw [e0,decide_eq_false (show ¬ (0:Int) < (([]:List PP).length:Int) by simp),cond_false]
     refine .inl ⟨mp,[],rfl,?_⟩
     have key:∀ (w:List Nat) (i:Nat),i < D.length→(∀ r ∈ w,(r:Int) < x.1)→beh x (D.getD i dP).1.toNat w = beh y (D.getD i dP).2.1.toNat w:=by
       intro w
       induction w with
       | nil=>intro i hi _;exact (J.done i hi hi).1
       | cons r w ih =>
         intro i hi hw
         have hr:(r:Int) < x.1:=hw r (by simp)
         obtain ⟨j,hj,he,_⟩:=(J.done i hi hi).2 r hr
         have:=ih j hj (fun q hq=>hw q (by simp [hq]))
         rw [he] at this
         exact this
     intro w hw
     have:=key w 0 (by have:=J.zero;omega) hw
     rw [J.zero.2.1] at this
     exact this
theorem DK.short {x y:MM} {mp:List (PP×(PP×Int×Unit))} {D:List PP} {W:List (List Nat)} {h:Nat} (J:DK x y mp D W h) (hh:h < D.length):∀ v:List Nat,okW x v.reverse→v.length < (W.getD h []).length→∃ i,i < h∧D.getD i dP = runP x y v.reverse∧(W.getD i []).length ≤ v.length
 | [],_,hl=>by
   refine ⟨0,?_,?_,?_⟩
   · rcases Nat.eq_zero_or_pos h with h0 | h0
     · subst h0;rw [J.zero.2.2] at hl;simp at hl
     · exact h0
   · rw [J.zero.2.1];rfl
   · rw [J.zero.2.2];simp
 | r :: v,hv,hl=>by
   rw [List.reverse_cons] at hv ⊢
   simp only [List.length_cons] at hl ⊢
   obtain ⟨h1,h2⟩:=okW_snoc.1 hv
   obtain ⟨i,i1,i2,i3⟩:=J.short hh v h1 (by omega)
   obtain ⟨j,j1,j2,j3⟩:=(J.done i i1 (by omega)).2 r h2
   refine ⟨j,?_,by rw [j2,i2,runP_snoc],by omega⟩
   rcases Nat.lt_or_ge j h with hj | hj
   · exact hj
   · have:=J.mono h j hj j1
     omega
theorem val_snoc (b:Nat):∀ (w:List Nat) (r:Nat),val b (w ++ [r]) = val b w + b ^ w.length * r
 | [],r=>by simp [val]
 | q :: w,r=>by
   simp only [List.cons_append,val,val_snoc b w r,List.length_cons,Nat.pow_succ]
   rw [Nat.mul_add,← Nat.add_assoc,← Nat.mul_assoc,Nat.mul_comm b (b ^ w.length)]
theorem back_num {x y:MM} (hx:WM x) (N:Nat) {mp:List (PP×(PP×Int×Unit))} {D:List PP} {W:List (List Nat)} {h:Nat} (J:DK x y mp D W h) {C:Type} (k0:Int→MM→PP→List (PP×(PP×Int×Unit))→Option C) :
   ∀ (F i:Nat) (v:Int),i < F→i < D.length→∃ v' p,g79L7162f N F k0 v x (D.getD i dP) mp = k0 v' x p mp∧∀ u:Nat,v = (u:Int)→x.1.toNat ^ (W.getD i []).length * (u + 1) ≤ 4611686018427387904→v' = ((val x.1.toNat (W.getD i []) + x.1.toNat ^ (W.getD i []).length * u:Nat):Int)
 | 0,i,v,hF,_=>by omega
 | F + 1,i,v,hF,hi=>by
   rw [g79L7162f_succ]
   unfold g79L7162B
   by_cases h0:D.getD i dP = dP
   · have hi0:i = 0:=by
       have hz:=J.zero
       have h1:D.getD 0 dP = D.getD i dP:=by rw [h0,hz.2.1]
       rw [getD_of (show 0 < D.length by omega),getD_of hi] at h1
       exact ((List.getElem_inj J.nd).1 h1).symm
     rw [h0,(pp_eq dP (0,0,())).2 rfl,Bool.not_true,cond_false]
     refine ⟨v,dP,rfl,fun u hu _=>?_⟩
     subst hi0
     rw [J.zero.2.2,hu]
     simp [val]
   · have:Ty.beq (.pair (.int .i64) (.pair (.int .i64) .unit)) (D.getD i dP) (0,0,()) = false:=by
       cases hq:Ty.beq (.pair (.int .i64) (.pair (.int .i64) .unit)) (D.getD i dP) (0,0,()) with
       | false=>rfl
       | true=>exact absurd ((pp_eq _ _).1 hq) h0
     rw [this,Bool.not_false,cond_true]
     obtain ⟨j,r,hj,he,hw⟩:=J.par i (by
       rcases Nat.eq_zero_or_pos i with h | h
       · subst h;exact absurd J.zero.2.1 h0
       · exact h) hi
     rw [show mapFind (Ty.beq (.pair (.int .i64) (.pair (.int .i64) .unit))) (D.getD i dP) mp = some (D.getD j dP,(r:Int),()) from he,Option.getD_some]
     obtain ⟨v',p,e1,e2⟩:=back_num hx N J k0 F j (IntKind.wrap .i64 ((IntKind.wrap .i64 (v * x.1)) + (r:Int))) (by omega) (by omega)
     refine ⟨v',p,e1,fun u hu hb=>?_⟩
     have hbx:=hx.base
     have eb:((x.1.toNat:Nat):Int) = x.1:=by omega
     have hok:=(J.run i hi).1
     rw [hw] at hok hb ⊢
     have hr:=(okW_snoc.1 hok).2
     simp only [List.length_append,List.length_cons,List.length_nil,Nat.zero_add,Nat.pow_succ] at hb ⊢
     have hpos:1 ≤ x.1.toNat ^ (W.getD j []).length:=Nat.pow_pos (by omega)
     have h1:u * x.1.toNat + r + 1 ≤ x.1.toNat * (u + 1):=by
       rw [Nat.mul_add,Nat.mul_one,Nat.mul_comm x.1.toNat u];omega
     have h2:x.1.toNat ^ (W.getD j []).length * (u * x.1.toNat + r + 1) ≤ 4611686018427387904:=by
       refine Nat.le_trans (Nat.mul_le_mul_left _ h1) ?_
       rw [← Nat.mul_assoc];exact hb
     have h3:u * x.1.toNat + r + 1 ≤ 4611686018427387904:=Nat.le_trans (Nat.le_mul_of_pos_left _ hpos) h2
     have h4:v * x.1 = ((u * x.1.toNat:Nat):Int):=by rw [hu,Int.natCast_mul,eb]
     have:=e2 (u * x.1.toNat + r) (by rw [h4,w64 (x:=((u * x.1.toNat:Nat):Int)) (by omega) (by omega),w64 (by omega) (by omega)];omega) h2
     rw [this,val_snoc]
     congr 1
     rw [Nat.mul_add,Nat.mul_comm u x.1.toNat,← Nat.mul_assoc]
     omega
theorem diff_gen {x y:MM} (hx:WM x) (hy:WM y) (hb:y.1 = x.1) (N:Nat) (hN:1001 < N) {E:List PP} (hE:∀ w,okW x w→runP x y w ∈ E) (hK:E.length ≤ 60000) (hK2:E.length < N) :
   ∃ v d,g79 N x y = some (v,d,())∧(d = false∧v = 0∧Same x y 0 0 ∨ d = true∧∃ w,okW x w∧beh x 0 w ≠ beh y 0 w∧(∀ u,okW x u→u.length < w.length→beh x 0 u = beh y 0 u)∧(x.1.toNat ^ w.length ≤ 4611686018427387904→v = (val x.1.toNat w:Int))):=by
 have m1:=hx.many;have m2:=hy.many
 have J0:DK x y [((0,0,()),((0,0,()),0,()))] [dP] [[]] 0:=⟨rfl,by simp,rfl,⟨by simp,rfl,rfl⟩,fun i hi=>by
   have:i = 0:=by simp at hi;omega
   subst this;exact ⟨okW_nil x,rfl⟩,fun i h0 hi=>by simp at hi;omega,fun i j hij hj=>by
   have:i = 0∧j = 0:=by simp at hj;omega
   rw [this.1,this.2];exact Nat.le_refl _,fun _ j hj=>by
   have:j = 0:=by simp at hj;omega
   subst this;simp,fun i hi=>by omega⟩
 have:=dik_loop hx hy hb N hN hE hK (C:=Int×Bool×Unit) (fun e8 e9 e10 e11 e12 e13=>bif (!e8) then some (0,false,()) else g79L7162 N (fun e14 e15 e16 e17=>some (e14,true,())) 0 e9 e11 e12) (0,0,()) N 0 _ _ _ (by omega) J0 (by simp)
 rw [List.drop_zero] at this
 rcases this with ⟨mp',q,e,hs⟩ | ⟨mp',D',W',h',q,e,hh,J,ho⟩
 · refine ⟨0,false,?_,.inl ⟨rfl,rfl,hs⟩⟩
   unfold g79
   rw [g79L444_eq]
   refine Eq.trans e ?_
   rfl
 · have hl:=J.len_le hE
   obtain ⟨v',p,e2,e3⟩:=back_num hx N J (fun e14 e15 e16 e17=>some (e14,true,())) N h' 0 (by omega) hh
   have hr:=J.run h' hh
   refine ⟨v',true,?_,.inr ⟨rfl,W'.getD h' [],hr.1,?_,fun u hu hlu=>?_,fun hp=>?_⟩⟩
   · unfold g79
     rw [g79L444_eq]
     refine Eq.trans e ?_
     rw [Bool.not_true,cond_false,g79L7162_eq]
     exact e2
   · rw [beh_go,beh_go]
     rw [hr.2] at ho
     exact ho
   · obtain ⟨i,i1,i2,_⟩:=J.short hh u.reverse (by rw [List.reverse_reverse];exact hu) (by rw [List.length_reverse];exact hlu)
     have:=(J.done i i1 (by omega)).1
     rw [i2,List.reverse_reverse] at this
     rw [beh_go,beh_go]
     exact this
   · have:=e3 0 rfl (by simpa using hp)
     simpa using this
end Go.Pv
namespace Go.Pv
theorem ref_both_loop2 (N:Nat) (hN:1001 < N) {x y:MM} (hx:WM x) (hy:WM y) (hb:y.1 = x.1) {tb:List (List Int)} (htb:Tab tb) {E:List PP} (hE:∀ w,okW x w→runP x y w ∈ E) (hK:E.length ≤ 60000) {D:Type} (k0:MM→MM→Int→Int→List (List Int)→List (List Int×Int)→List Int→List (List Int)→List Int→List (List Int)→Option D)
   (a1 a2:Int) (u1:List Int) (u2:List (List Int)) :
   ∀ (F i:Nat) (q:List PP) (o1:List Int) (o2:List (List Int)) (l:List PP) (outs:List Int) (rows:List (List Int)),bfs (0,0,()) idK (boOut x y tb) (nxP x y) x.1.toNat F i q o1 o2 = some (l,outs,rows)→(∀ t ∈ q,∃ w,okW x w∧t = runP x y w)→q.Nodup→i ≤ q.length→o1.length = i→o2.length = i →
     g53L250f N F k0 tb (i:Int) x y a1 a2 (q.map arrP) (mpairs 0 (q.map arrP)) u1 u2 o1 o2 = k0 x y a1 a2 (l.map arrP) (mpairs 0 (l.map arrP)) u1 u2 outs rows
 | 0,i,q,o1,o2,l,outs,rows,h,_,_,_,_,_=>by simp [bfs] at h
 | F + 1,i,q,o1,o2,l,outs,rows,h,hq,hn,hi,l1,l2=>by
   rw [g53L250f_succ]
   unfold g53L250B
   unfold bfs at h
   have hbx:=hx.base
   have hlen:q.length ≤ E.length:=sub_len hn fun p hp=>by
     obtain ⟨w,hw,rfl⟩:=hq p hp
     exact hE w hw
   by_cases hlt:i < q.length
   · rw [if_pos hlt] at h
     have e1:decide ((i:Int) < ((q.map arrP).length:Int)) = true:=by rw [decide_eq_true_iff,List.length_map];omega
     have e2:idx (i:Int) (q.map arrP).length:=⟨by omega,by rw [List.length_map];omega⟩
     have e3:Int.toNat (i:Int) < (q.map arrP).length:=by rw [List.length_map];omega
     have hs:=hq _ (getD_mem hlt (0,0,()))
     rw [e1,cond_true,if_pos e2,if_pos (⟨by omega,by omega⟩:idx 0 2),if_pos e3,if_pos e2,if_pos (⟨by omega,by omega⟩:idx 1 2),if_pos e3,Int.toNat_natCast,g53L128154_eq,arrP_get q hlt]
     revert h hs
     generalize q.getD i (0,0,()) = t
     intro h hs
     obtain ⟨w0,hw0,ht0⟩:=hs
     have hs:InP x y t:=by rw [ht0];exact runP_in hx hy hb hw0
     have el:=fun k0=>ref_both_row (D:=D) N hx hy hb k0 tb (i:Int) t hs a1 a2 u1 u2 o1 o2 N 0 [] q (by omega) (by omega) (by simp) (by omega)
     simp only [Int.natCast_zero,List.drop_zero] at el
     rw [show (arrP t).getD (Int.toNat 0) 0 = t.1 from rfl,show (arrP t).getD (Int.toNat 1) 0 = t.2.1 from rfl,el]
     obtain ⟨new,ext,e,g1,g2,g3,g4,g5⟩:=bfsRow_spec idK (nxP x y) t (fun t=>∃ w,okW x w∧t = runP x y w) (List.range x.1.toNat) [] q (fun r hr=>⟨w0 ++ [r],okW_snoc.2 ⟨hw0,by have:=List.mem_range.1 hr;omega⟩,by rw [ht0,runP_snoc]⟩) hq (by rw [map_idK];exact hn)
     rw [e] at h ⊢
     dsimp only at h ⊢
     rw [List.nil_append] at h ⊢
     obtain ⟨i1,i2,i3,i4,_⟩:=bo_out hx hy htb hs
     rw [if_pos i1,if_pos i2,if_pos i3,if_pos i4,if_pos (by simp only [List.length_cons,List.length_nil,maxCount];omega),if_pos (by simp only [List.length_cons,List.length_nil,maxCount];omega),wn i (by omega)]
     exact ref_both_loop2 N hN hx hy hb htb hE hK k0 a1 a2 u1 u2 F (i + 1) (q ++ ext) _ _ l outs rows h (fun t ht=>by
       rcases List.mem_append.1 ht with ht | ht
       · exact hq t ht
       · exact g3 t ht) (by rw [map_idK] at g4;exact g4) (by simp;omega) (by simp [l1]) (by simp [l2])
   · rw [if_neg hlt] at h
     have e1:decide ((i:Int) < ((q.map arrP).length:Int)) = false:=by rw [decide_eq_false_iff_not,List.length_map];omega
     rw [e1,cond_false]
     simp only [Option.some.injEq,Prod.mk.injEq] at h
     obtain ⟨rfl,rfl,rfl⟩:=h
     rfl
theorem ref_both_gen {x y:MM} (hx:WM x) (hy:WM y) (hb:y.1 = x.1) {tb:List (List Int)} (htb:Tab tb) (N:Nat) (hN:1001 < N) {E:List PP} (hE:∀ w,okW x w→runP x y w ∈ E) (hK:E.length ≤ 60000) (hK2:E.length < N) :
   ∃ (l:List PP) (rows:List (List Int)),g53 N x y tb = some (x.1,l.map (boOut x y tb),rows,())∧(∀ t ∈ l,∃ w,okW x w∧t = runP x y w)∧(∀ w,okW x w→runP x y w ∈ l)∧l.length ≤ E.length:=by
 have hbx:=hx.base
 obtain ⟨l,outs,rows,e,hd,hl⟩:=bfs_disc (0,0,()) idK (boOut x y tb) (nxP x y) x.1.toNat (fun t=>∃ w,okW x w∧t = runP x y w)
   (fun t ht r hr=>by
     obtain ⟨w,hw,rfl⟩:=ht
     exact ⟨w ++ [r],okW_snoc.2 ⟨hw,by omega⟩,runP_snoc x y w r⟩) E.length (fun p:PP=>(posOf p E:Int)) (fun t ht=>by
     obtain ⟨w,hw,rfl⟩:=ht
     have:=posOf_lt (hE w hw)
     show 0 ≤ (posOf (runP x y w) E:Int)∧(posOf (runP x y w) E:Int) < (E.length:Int)
     omega) (fun s t hs ht he=>by
     obtain ⟨w,hw,rfl⟩:=hs
     obtain ⟨u,hu,rfl⟩:=ht
     have h1:=posOf_get (hE w hw)
     have h2:=posOf_get (hE u hu)
     have he:posOf (runP x y w) E = posOf (runP x y u) E:=by
       have he:(posOf (runP x y w) E:Int) = (posOf (runP x y u) E:Int):=he
       omega
     rw [he] at h1
     rw [h1] at h2
     exact Option.some.inj h2) N hK2 (0,0,()) ⟨[],okW_nil x,rfl⟩
 have hn:l.Nodup:=by have:=hd.nodup;rw [map_idK] at this;exact this
 refine ⟨l,rows,?_,hl,?_,sub_len hn fun p hp=>by
   obtain ⟨w,hw,rfl⟩:=hl p hp
   exact hE w hw⟩
 · have ho:outs = l.map (boOut x y tb):=hd.out
   have:=ref_both_loop2 N hN hx hy hb htb hE hK (fun e17 e18 e19 e20 e21 e22 e23 e24 e25 e26=>some (e20,e25,e26,())) 0 x.1 [] [] N 0 [(0,0,())] [] [] l _ _ e (by intro p hp;simp only [List.mem_cons,List.not_mem_nil,or_false] at hp;subst hp;exact ⟨[],okW_nil x,rfl⟩) (by simp) (by simp) rfl rfl
   unfold g53
   rw [g53L250_eq,set_pair]
   refine Eq.trans this ?_
   rw [ho]
 · intro w
   have key:∀ v:List Nat,okW x v.reverse→runP x y v.reverse ∈ l:=by
     intro v
     induction v with
     | nil =>
       intro _
       have:=getD_mem hd.some1 (0,0,())
       rw [hd.first] at this
       exact this
     | cons r v ih =>
       intro hv
       rw [List.reverse_cons] at hv ⊢
       obtain ⟨h1,h2⟩:=okW_snoc.1 hv
       obtain ⟨i,hi,he⟩:=List.getElem_of_mem (ih h1)
       obtain ⟨j,_,j2,j3⟩:=hd.way i r hi (by omega)
       have j3:l.getD j (0,0,()) = nxP x y (l.getD i (0,0,())) r:=j3
       rw [getD_of hi,he,runP_snoc] at j3
       rw [← j3]
       exact getD_mem j2 _
   intro hw
   have:=key w.reverse (by rw [List.reverse_reverse];exact hw)
   rwa [List.reverse_reverse] at this
theorem flat_len {α β:Type} (f:α→List β) (n:Nat):∀ l:List α,(∀ a ∈ l,(f a).length ≤ n)→(l.flatMap f).length ≤ l.length * n
 | [],_=>by simp
 | a :: l,h=>by
   have h1:=h a (by simp)
   have h2:=flat_len f n l (fun b hb=>h b (by simp [hb]))
   simp only [List.flatMap_cons,List.length_append,List.length_cons,Nat.add_mul,Nat.one_mul]
   omega
end Go.Pv
namespace Go.Pv
def EvQ (x:MM) (c:Int) (t:PP):Prop:=EvP x 200 t∧(t.2.1 ≤ 100 ∨ t = (0,c,()))
def numQ (x:MM) (t:PP):Int:=if t.2.1 ≤ 100 then t.1 * 101 + t.2.1 else (x.2.1.length:Int) * 101
theorem evQ_step {x:MM} (hx:Tame x) {c:Int} {t:PP} (h:EvQ x c t) {r:Nat} (hr:(r:Int) < x.1):EvQ x c (evStep x 1 t r):=by
 have hb:=hx.base
 have h1:=ev_step hx.wm (k:=1) (C:=200) (by omega) (by omega) h.1 hr
 refine ⟨h1.1,.inl ?_⟩
 have hc:=h.1.c
 show (1 * (r:Int) + t.2.1) / x.1 ≤ 100
 rw [Int.one_mul]
 have:((r:Int) + t.2.1) / x.1 < 101:=Int.ediv_lt_of_lt_mul (by omega) (by
   have:(101:Int) * x.1 = x.1 * 101:=Int.mul_comm _ _
   omega)
 omega
theorem evQ_bnd (x:MM) (c:Int):∀ t:PP,EvQ x c t→0 ≤ numQ x t∧numQ x t < ((x.2.1.length * 101 + 1:Nat):Int):=fun t ht=>by
 have h1:=ht.1.s;have h2:=ht.1.c
 unfold numQ
 split
 · omega
 · omega
theorem evQ_inj (x:MM) (c:Int):∀ t u:PP,EvQ x c t→EvQ x c u→numQ x t = numQ x u→t = u:=fun t u ht hu he=>by
 have h1:=ht.1.s;have h2:=ht.1.c
 have g1:=hu.1.s;have g2:=hu.1.c
 unfold numQ at he
 by_cases a:t.2.1 ≤ 100
 · rw [if_pos a] at he
   by_cases b:u.2.1 ≤ 100
   · rw [if_pos b] at he
     obtain ⟨t1,t2,⟨⟩⟩:=t
     obtain ⟨u1,u2,⟨⟩⟩:=u
     simp only at *
     have e1:t1 = u1:=by omega
     have e2:t2 = u2:=by omega
     rw [e1,e2]
   · rw [if_neg b] at he;omega
 · rw [if_neg a] at he
   by_cases b:u.2.1 ≤ 100
   · rw [if_pos b] at he;omega
   · rw [ht.2.resolve_left a,hu.2.resolve_left b]
theorem every_one2 {x:MM} (hx:Tame x) {c:Int} (hc:0 ≤ c∧c ≤ 200) (N:Nat) (hN:1213 < N) :
   ∃ H l,g73 N x 1 c = some H∧g39 N x 1 c = some H∧Disc (0,0,()) x.1.toNat idK (evOut x N) (evStep x 1) (0,c,()) H l∧(∀ t ∈ l,EvP x 200 t)∧WM H∧H.1 = x.1∧H.2.1.length ≤ 1213:=by
 have hw:=hx.wm
 have hb:=hx.base
 have hm:=hx.many
 have ha:EvP x 200 (0,c,()):=⟨⟨by simp only;omega,by simp only;omega⟩,hc⟩
 obtain ⟨H,l,e,hd,hl,hlen,hbf⟩:=built_eq96 N (b:=x.1.toNat) (by omega) (by omega) (0,c,()) (fun (x1:PP×Unit)=>Option.bind (g97 N x1.1 x) fun y2=>some y2) (fun (x3:PP×Int×Unit)=>Option.bind (g98 N x3.1 x3.2.1 1 x) fun y4=>some y4)
   (evOut x N) (evStep x 1) (EvQ x c) (fun t ht r hr=>evQ_step hx ht (by omega)) (x.2.1.length * 101 + 1) (numQ x)
   (evQ_bnd x c) (evQ_inj x c)
   (by omega) (by omega)
   (fun t ht=>by
     show Option.bind (g97 N t x) (fun y2=>some y2) = _
     have ht:=ht.1
     obtain ⟨v,q1,q2⟩:=at_any hx N (by omega) t.1 t.2.1 ht.s.1 ht.s.2 ht.c.1 (by have:=ht.c;omega)
     unfold g97 evOut
     rw [q1];rfl)
   (fun t ht r hr=>by
     show Option.bind (g98 N t (r:Int) 1 x) (fun y4=>some y4) = _
     obtain ⟨q1,q2,q3,q4,q5,q6,q7⟩:=ev_step hw (k:=1) (C:=200) (by omega) (by omega) ht.1 (r:=r) (by omega)
     unfold g98
     rw [if_pos q5,if_neg (by omega),q2,q3,if_pos q6,if_neg (by omega),q4,q7];rfl) ⟨ha,.inr rfl⟩
 have eb:((x.1.toNat:Nat):Int) = x.1:=by omega
 rw [eb] at e
 have hb1:H.1 = x.1:=by rw [hd.base];exact eb
 refine ⟨H,l,?_,?_,hd,fun t ht=>(hl t ht).1,hd.wm (by omega) (fun t ht=>?_),hb1,by omega⟩
 · unfold g73
   rw [e];rfl
 · have:=ref_every_loop N hx (k:=1) (C:=200) (by omega) (by omega) (by omega) (fun e17 e18 e19 e20 e21 e22 e23 e24 e25=>some (e19,e24,e25,())) 0 x.1 [] [] N 0 [(0,c,())] [] [] l _ _ hbf (by intro t ht;simp only [List.mem_cons,List.not_mem_nil,or_false] at ht;subst ht;exact ha) (by simp) (by simp) rfl rfl
   unfold g39
   rw [g39L250_eq,set_pair]
   refine Eq.trans this ?_
   obtain ⟨h1,h2,h3,⟨⟩⟩:=H
   simp only at hb1
   rw [hb1]
 · have ht:=(hl t ht).1
   obtain ⟨v,q1,q2⟩:=at_any hx N (by omega) t.1 t.2.1 ht.s.1 ht.s.2 ht.c.1 (by have:=ht.c;omega)
   unfold evOut
   rw [q1];exact q2
def cb (b:Nat):Nat→Nat
 | 0=>200
 | k + 1=>(b - 1 + cb b k) / b
theorem cb_one {b:Nat} (hb:1 ≤ b) {L:Nat} (h:cb b L ≤ 1):∀ k,cb b (L + k) ≤ 1
 | 0=>h
 | k + 1=>by
   have:=cb_one hb h k
   show (b - 1 + cb b (L + k)) / b ≤ 1
   have h2:b - 1 + cb b (L + k) ≤ b:=by omega
   calc (b - 1 + cb b (L + k)) / b ≤ b / b:=Nat.div_le_div_right h2
     _ = 1:=Nat.div_self (by omega)
theorem go_carry {x:MM} (hx:Tame x) {c:Int} (hc:0 ≤ c∧c ≤ 200) {N:Nat} {H:MM} {l:List PP} (hd:Disc (0,0,()) x.1.toNat idK (evOut x N) (evStep x 1) (0,c,()) H l) (hl:∀ t ∈ l,EvP x 200 t) :
   ∀ v:List Nat,okW x v.reverse→go H 0 v.reverse < l.length∧(l.getD (go H 0 v.reverse) (0,0,())).2.1 ≤ (cb x.1.toNat v.length:Int)
 | [],_=>by
   refine ⟨hd.some1,?_⟩
   show (l.getD 0 (0,0,())).2.1 ≤ 200
   rw [hd.first];exact hc.2
 | r :: v,hv=>by
   have hb:=hx.base
   rw [List.reverse_cons] at hv ⊢
   obtain ⟨h1,h2⟩:=okW_snoc.1 hv
   obtain ⟨i1,i2⟩:=go_carry hx hc hd hl v h1
   rw [go_snoc]
   obtain ⟨j,j1,j2,j3⟩:=hd.way (go H 0 v.reverse) r i1 (by omega)
   have hj:dM H (go H 0 v.reverse) r = j:=by unfold dM;rw [j1];simp
   rw [hj]
   refine ⟨j2,?_⟩
   have j3:l.getD j (0,0,()) = evStep x 1 (l.getD (go H 0 v.reverse) (0,0,())) r:=j3
   rw [j3]
   have hp:=(hl _ (getD_mem i1 (0,0,()))).c
   show (1 * (r:Int) + (l.getD (go H 0 v.reverse) (0,0,())).2.1) / x.1 ≤ (((x.1.toNat - 1 + cb x.1.toNat v.length) / x.1.toNat:Nat):Int)
   rw [Int.one_mul,Int.natCast_ediv,show ((x.1.toNat:Nat):Int) = x.1 by omega]
   exact Int.ediv_le_ediv (by omega) (by rw [Int.natCast_add];omega)
def wordsEq (b:Nat):Nat→List (List Nat)
 | 0=>[[]]
 | k + 1=>(List.range b).flatMap fun r=>(wordsEq b k).map fun w=>r :: w
def wordsLt (b L:Nat):List (List Nat):=(List.range L).flatMap (wordsEq b)
theorem wordsEq_mem {b:Nat}:∀ w:List Nat,(∀ r ∈ w,r < b)→w ∈ wordsEq b w.length
 | [],_=>by simp [wordsEq]
 | r :: w,h=>by
   show r :: w ∈ (List.range b).flatMap fun r=>(wordsEq b w.length).map fun w=>r :: w
   exact List.mem_flatMap.2 ⟨r,List.mem_range.2 (h r (by simp)),List.mem_map.2 ⟨w,wordsEq_mem w (fun q hq=>h q (by simp [hq])),rfl⟩⟩
theorem wordsLt_mem {b L:Nat} {w:List Nat} (h:∀ r ∈ w,r < b) (hl:w.length < L):w ∈ wordsLt b L :=
 List.mem_flatMap.2 ⟨w.length,List.mem_range.2 hl,wordsEq_mem w h⟩
theorem few_bases {b:Nat} (h1:2 ≤ b) (h2:b ≤ 5):∃ L,cb b L ≤ 1∧(wordsLt b L).length ≤ 255:=by
 have:b = 2 ∨ b = 3 ∨ b = 4 ∨ b = 5:=by omega
 rcases this with rfl | rfl | rfl | rfl
 · exact ⟨8,by decide,by decide +kernel⟩
 · exact ⟨5,by decide,by decide +kernel⟩
 · exact ⟨4,by decide,by decide +kernel⟩
 · exact ⟨4,by decide,by decide +kernel⟩
def smallI (l:List PP):List Nat:=(List.range l.length).filter fun i=>decide ((l.getD i (0,0,())).2.1 ≤ 1)
theorem small_len {x:MM} (hx:Tame x) {l:List PP} (hn:l.Nodup) (hl:∀ t ∈ l,EvP x 200 t):(smallI l).length ≤ 24:=by
 have hm:=hx.many
 have hsub:∀ i ∈ smallI l,i < l.length∧(l.getD i (0,0,())).2.1 ≤ 1:=fun i hi=>by
   have:=List.mem_filter.1 hi
   exact ⟨List.mem_range.1 this.1,by simpa using this.2⟩
 have:=pigeon_num (P:=fun i:Nat=>i < l.length∧(l.getD i (0,0,())).2.1 ≤ 1) (K:=24) idK (fun i:Nat=>(l.getD i (0,0,())).1 * 2 + (l.getD i (0,0,())).2.1) (fun s t hs ht he=>by
   have a1:=hl _ (getD_mem hs.1 (0,0,()))
   have a2:=hl _ (getD_mem ht.1 (0,0,()))
   have s1:=a1.s;have s2:=a1.c;have t1:=a2.s;have t2:=a2.c
   have hs2:=hs.2;have ht2:=ht.2
   have he:(l.getD s (0,0,())).1 * 2 + (l.getD s (0,0,())).2.1 = (l.getD t (0,0,())).1 * 2 + (l.getD t (0,0,())).2.1:=he
   have e1:l.getD s (0,0,()) = l.getD t (0,0,()):=by
     revert he s1 s2 t1 t2 hs2 ht2
     generalize l.getD s (0,0,()) = u
     generalize l.getD t (0,0,()) = v
     intro hs2 ht2 s1 s2 t1 t2 he
     obtain ⟨u1,u2,⟨⟩⟩:=u
     obtain ⟨v1,v2,⟨⟩⟩:=v
     simp only at *
     have e1:u1 = v1:=by omega
     have e2:u2 = v2:=by omega
     rw [e1,e2]
   rw [getD_of hs.1,getD_of ht.1] at e1
   exact (List.getElem_inj hn).1 e1) (fun i hi=>by
   have a1:=hl _ (getD_mem hi.1 (0,0,()))
   have s1:=a1.s;have s2:=a1.c
   have:=hi.2
   show 0 ≤ (l.getD i (0,0,())).1 * 2 + (l.getD i (0,0,())).2.1∧(l.getD i (0,0,())).1 * 2 + (l.getD i (0,0,())).2.1 < ((24:Nat):Int)
   omega) hsub (by rw [map_idK];exact List.Sublist.nodup List.filter_sublist List.nodup_range)
 exact this
theorem few_pairs {x:MM} (hx:Tame x) {c d:Int} (hc:0 ≤ c∧c ≤ 200) (hd:0 ≤ d∧d ≤ 200) {N:Nat} {H G:MM} {l m:List PP} (h1:Disc (0,0,()) x.1.toNat idK (evOut x N) (evStep x 1) (0,c,()) H l) (l1:∀ t ∈ l,EvP x 200 t)
   (h2:Disc (0,0,()) x.1.toNat idK (evOut x N) (evStep x 1) (0,d,()) G m) (l2:∀ t ∈ m,EvP x 200 t):∃ E:List PP,(∀ w,okW H w→runP H G w ∈ E)∧E.length ≤ 831:=by
 have hb:=hx.base
 have hH:H.1 = x.1:=by rw [h1.base];omega
 obtain ⟨L,L1,L2⟩:=few_bases (b:=x.1.toNat) (by omega) (by omega)
 have n1:l.Nodup:=by have:=h1.nodup;rwa [map_idK] at this
 have n2:m.Nodup:=by have:=h2.nodup;rwa [map_idK] at this
 refine ⟨(wordsLt x.1.toNat L).map (runP H G) ++ (smallI l).flatMap fun i:Nat=>(smallI m).map fun j:Nat=>(((i:Nat):Int),(j:Int),()),fun w hw=>?_,?_⟩
 · have hw:okW x w:=fun r hr=>by have:=hw r hr;rw [hH] at this;exact this
   rcases Nat.lt_or_ge w.length L with hlt | hge
   · exact List.mem_append_left _ (List.mem_map.2 ⟨w,wordsLt_mem (fun r hr=>by have:=hw r hr;omega) hlt,rfl⟩)
   · refine List.mem_append_right _ ?_
     have a:=go_carry hx hc h1 l1 w.reverse (by rw [List.reverse_reverse];exact hw)
     have b:=go_carry hx hd h2 l2 w.reverse (by rw [List.reverse_reverse];exact hw)
     rw [List.reverse_reverse,List.length_reverse] at a b
     have hcb:=cb_one (b:=x.1.toNat) (by omega) L1 (w.length - L)
     rw [show L + (w.length - L) = w.length by omega] at hcb
     refine List.mem_flatMap.2 ⟨go H 0 w,List.mem_filter.2 ⟨List.mem_range.2 a.1,decide_eq_true (by have:=a.2;omega)⟩,List.mem_map.2 ⟨go G 0 w,List.mem_filter.2 ⟨List.mem_range.2 b.1,decide_eq_true (by have:=b.2;omega)⟩,rfl⟩⟩
 · have s1:=small_len hx n1 l1
   have s2:=small_len hx n2 l2
   have:=flat_len (fun i:Nat=>(smallI m).map fun j:Nat=>((i:Int),(j:Int),())) 24 (smallI l) (fun i _=>by rw [List.length_map];exact s2)
   rw [List.length_append,List.length_map]
   have h3:(smallI l).length * 24 ≤ 24 * 24:=Nat.mul_le_mul_right 24 s1
   omega
end Go.Pv
namespace Go.Pv
def eqTab:List (List Int):=(List.range 10).map fun i=>(List.replicate 10 (0:Int)).set i 1
theorem eq_tab:Tab eqTab:=⟨rfl,fun r hr=>by
 have h:eqTab.all (fun r=>decide (r.length = 10) && r.all fun v=>decide (0 ≤ v) && decide (v ≤ 9)) = true:=by kernel_rfl
 have:=List.all_eq_true.1 h r hr
 simp only [Bool.and_eq_true,decide_eq_true_eq,List.all_eq_true] at this
 exact ⟨this.1,fun v hv=>this.2 v hv⟩⟩
theorem eq_get:∀ a,a < 10→∀ b,b < 10→(eqTab.getD a []).getD b 0 = if a = b then 1 else 0:=by decide
theorem bo_eq {x y:MM} (hx:WM x) (hy:WM y) {p:PP} (hp:InP x y p):boOut x y eqTab p = 0 ↔ oM x p.1.toNat ≠ oM y p.2.1.toNat:=by
 have h1:=hp.s;have h2:=hp.t
 have o1:=hx.oAt (s:=p.1.toNat) (by omega)
 have o2:=hy.oAt (s:=p.2.1.toNat) (by omega)
 unfold boOut
 rw [eq_get _ (by omega) _ (by omega)]
 by_cases h:(oM x p.1.toNat).toNat = (oM y p.2.1.toNat).toNat
 · rw [if_pos h]
   constructor
   · intro hh;omega
   · intro hh;exact absurd (by omega) hh
 · rw [if_neg h]
   exact ⟨fun _ e=>h (by rw [e]),fun _=>rfl⟩
def tabI:List Nat:=[10,11,12,13,14,15,16,17,18,19]
def tabR:List (Option (List Int)):=List.replicate 10 (some []) ++ eqTab.map some
theorem tab48 {C:Type} (k0:MM→MM→List Nat→List (Option (List Int))→Option C) (x y:MM):g48L58f 2000 2000 k0 0 x y (List.range (Int.toNat 10)) (List.replicate (Int.toNat 10) (some ([]:List Int))) = k0 x y tabI tabR:=by kernel_rfl
theorem all48:gridAll tabR tabI = some eqTab:=by kernel_rfl
theorem noughts {C:Type} (N:Nat) (k0:Bool→MM→Option C) (k1:MM→Option C) (z:MM) (hz:z.2.1.length ≤ 100000):∀ (F i:Nat),z.2.1.length - i < F→i ≤ z.2.1.length→(∀ j,j < i→z.2.1.getD j 0 ≠ 0) →
   ((∀ v ∈ z.2.1,v ≠ 0)∧g48L250f N F k0 k1 (i:Int) z = k1 z) ∨ ((∃ v ∈ z.2.1,v = 0)∧g48L250f N F k0 k1 (i:Int) z = k0 false z)
 | 0,i,hF,_,_=>by omega
 | F + 1,i,hF,hi,hall=>by
   rw [g48L250f_succ]
   unfold g48L250B
   by_cases hlt:i < z.2.1.length
   · rw [decide_eq_true (show (i:Int) < ((z.2.1.length:Nat):Int) by omega),cond_true,if_pos (⟨by omega,by omega⟩:idx _ _),Int.toNat_natCast]
     by_cases h0:z.2.1.getD i 0 = 0
     · rw [h0,ieq_self,cond_true]
       exact .inr ⟨⟨_,getD_mem hlt 0,h0⟩,rfl⟩
     · rw [show ieq (z.2.1.getD i 0) 0 = false by simp only [ieq,decide_eq_false_iff_not];exact h0,cond_false,wn i (by omega)]
       exact noughts N k0 k1 z hz F (i + 1) (by omega) (by omega) (fun j hj=>by
         by_cases hji:j = i
         · subst hji;exact h0
         · exact hall j (by omega))
   · rw [decide_eq_false (show ¬ (i:Int) < ((z.2.1.length:Nat):Int) by omega),cond_false]
     refine .inl ⟨fun v hv=>?_,rfl⟩
     obtain ⟨j,hj,rfl⟩:=List.getElem_of_mem hv
     have:=hall j (by omega)
     rwa [getD_of hj] at this
theorem same48 {x y:MM} (hx:WM x) (hy:WM y) (hb:y.1 = x.1) {E:List PP} (hE:∀ w,okW x w→runP x y w ∈ E) (hK:E.length < 2000):∃ b,g48 2000 x y = some b∧(b = true ↔ Same x y 0 0):=by
 obtain ⟨l,rows,e,h1,h2,h3⟩:=ref_both_gen hx hy hb eq_tab 2000 (by omega) hE (by omega) hK
 have key:(∀ v ∈ l.map (boOut x y eqTab),v ≠ 0) ↔ Same x y 0 0:=by
   constructor
   · intro h w hw
     have:=h _ (List.mem_map.2 ⟨_,h2 w hw,rfl⟩)
     rw [ne_eq,bo_eq hx hy (runP_in hx hy hb hw)] at this
     rw [beh_go,beh_go]
     exact Classical.not_not.1 this
   · intro h v hv
     obtain ⟨t,ht,rfl⟩:=List.mem_map.1 hv
     obtain ⟨w,hw,rfl⟩:=h1 t ht
     rw [ne_eq,bo_eq hx hy (runP_in hx hy hb hw)]
     have:=h w hw
     rw [beh_go,beh_go] at this
     exact fun e=>e this
 unfold g48
 rw [if_pos (⟨rfl,by omega,by omega⟩:mkOk 10 10),g48L58_eq,tab48]
 rw [all48]
 simp only [Option.bind_some]
 rw [e]
 simp only [Option.bind_some]
 rw [g48L250_eq]
 have:=noughts 2000 (fun e10 e11=>some e10) (fun e12=>some true) (x.1,l.map (boOut x y eqTab),rows,()) (by simp only [List.length_map];omega) 2000 0 (by simp only [List.length_map];omega) (by omega) (fun j hj=>by omega)
 simp only [Int.natCast_zero] at this
 rcases this with ⟨a,b⟩ | ⟨a,b⟩
 · exact ⟨true,b,by simp only [true_iff];exact key.1 a⟩
 · refine ⟨false,b,?_⟩
   simp only [Bool.false_eq_true,false_iff]
   intro hs
   obtain ⟨v,hv,h0⟩:=a
   exact key.2 hs v hv h0
end Go.Pv
namespace Go.Pv
end Go.Pv
namespace Go.Pv
structure RoOk (b:Int) (hd rd:List Int):Prop where
 base:2 ≤ b∧b ≤ 5
 lh:hd.length ≤ 20
 lr:1 ≤ rd.length∧rd.length ≤ 20
 dh:∀ v ∈ hd,0 ≤ v∧v ≤ 9
 dr:∀ v ∈ rd,0 ≤ v∧v ≤ 9
def redN (hd rd:List Int) (v:Int):Int:=if v < (hd.length:Int) then v else hd.length + (v - hd.length) % rd.length
theorem red_rng {b:Int} {hd rd:List Int} (h:RoOk b hd rd) {v:Int} (hv:0 ≤ v):0 ≤ redN hd rd v∧redN hd rd v < (hd.length:Int) + rd.length:=by
 have:=h.lr
 unfold redN
 split
 · omega
 · have m1:=Int.emod_nonneg (v - hd.length) (show (rd.length:Int) ≠ 0 by omega)
   have m2:=Int.emod_lt_of_pos (v - hd.length) (show 0 < (rd.length:Int) by omega)
   omega
def roStep (b:Int) (hd rd:List Int) (t:PP) (r:Nat):PP:=(redN hd rd (t.1 * b),redN hd rd (t.2.1 + r * t.1),())
def roOut (hd rd:List Int) (t:PP):Int:=if t.2.1 < (hd.length:Int) then hd.getD t.2.1.toNat 0 else rd.getD ((t.2.1 - hd.length) % rd.length).toNat 0
structure RoP (hd rd:List Int) (t:PP):Prop where
 u:0 ≤ t.1∧t.1 < (hd.length:Int) + rd.length
 v:0 ≤ t.2.1∧t.2.1 < (hd.length:Int) + rd.length
theorem ro_mul {b:Int} {hd rd:List Int} (h:RoOk b hd rd) {t:PP} (ht:RoP hd rd t) {r:Nat} (hr:(r:Int) < b):0 ≤ t.1 * b∧t.1 * b ≤ 200∧0 ≤ (r:Int) * t.1∧(r:Int) * t.1 ≤ 200:=by
 have h1:=h.base;have h2:=h.lh;have h3:=h.lr;have h4:=ht.u
 have a1:0 ≤ t.1 * b:=Int.mul_nonneg h4.1 (by omega)
 have a2:t.1 * b ≤ 40 * b:=Int.mul_le_mul_of_nonneg_right (by omega) (by omega)
 have a3:0 ≤ (r:Int) * t.1:=Int.mul_nonneg (by omega) h4.1
 have a4:(r:Int) * t.1 ≤ 5 * t.1:=Int.mul_le_mul_of_nonneg_right (by omega) h4.1
 omega
theorem ro_close {b:Int} {hd rd:List Int} (h:RoOk b hd rd) {t:PP} (ht:RoP hd rd t) {r:Nat} (hr:(r:Int) < b):RoP hd rd (roStep b hd rd t r):=by
 obtain ⟨a1,a2,a3,a4⟩:=ro_mul h ht hr
 have:=ht.v
 exact ⟨red_rng h a1,red_rng h (by omega)⟩
theorem red_ref {b:Int} {hd rd:List Int} (h:RoOk b hd rd) (N:Nat) {v:Int} (hv:0 ≤ v∧v ≤ 100000):g64 N v (hd.length:Int) (rd.length:Int) = some (redN hd rd v):=by
 have h2:=h.lh;have h3:=h.lr
 unfold g64
 rw [w64 (x:=(hd.length:Int) + rd.length) (by omega) (by omega)]
 by_cases hl:v < (hd.length:Int) + rd.length
 · rw [decide_eq_true hl,cond_true]
   unfold redN
   split
   · rfl
   · rw [Int.emod_eq_of_lt (by omega) (by omega)];congr 1;omega
 · rw [decide_eq_false hl,cond_false,if_neg (by omega),w64 (x:=v - hd.length) (by omega) (by omega),Int.tmod_eq_emod_of_nonneg (by omega)]
   have m1:=Int.emod_nonneg (v - hd.length) (show (rd.length:Int) ≠ 0 by omega)
   have m2:=Int.emod_lt_of_pos (v - hd.length) (show 0 < (rd.length:Int) by omega)
   rw [w64 (by omega) (by omega)]
   unfold redN
   rw [if_neg (by omega)]
theorem out_rng {b:Int} {hd rd:List Int} (h:RoOk b hd rd) {t:PP} (ht:RoP hd rd t):0 ≤ roOut hd rd t∧roOut hd rd t ≤ 9:=by
 have h2:=h.lh;have h3:=h.lr;have h4:=ht.v
 unfold roOut
 split
 · exact h.dh _ (getD_mem (by omega) 0)
 · have m1:=Int.emod_nonneg (t.2.1 - hd.length) (show (rd.length:Int) ≠ 0 by omega)
   have m2:=Int.emod_lt_of_pos (t.2.1 - hd.length) (show 0 < (rd.length:Int) by omega)
   exact h.dr _ (getD_mem (by omega) 0)
theorem ro_bnd {b:Int} {hd rd:List Int} (h:RoOk b hd rd):∀ t:PP,RoP hd rd t→0 ≤ t.1 * 40 + t.2.1∧t.1 * 40 + t.2.1 < ((1600:Nat):Int):=fun t ht=>by
 have h2:=h.lh;have h3:=h.lr;have h4:=ht.u;have h5:=ht.v
 omega
theorem ro_inj {b:Int} {hd rd:List Int} (h:RoOk b hd rd):∀ t u:PP,RoP hd rd t→RoP hd rd u→t.1 * 40 + t.2.1 = u.1 * 40 + u.2.1→t = u:=fun t u ht hu he=>by
 have h2:=h.lh;have h3:=h.lr;have h4:=ht.u;have h5:=ht.v;have h6:=hu.u;have h7:=hu.v
 obtain ⟨t1,t2,⟨⟩⟩:=t
 obtain ⟨u1,u2,⟨⟩⟩:=u
 simp only at *
 have:t1 = u1:=by omega
 have:t2 = u2:=by omega
 subst_vars;rfl
abbrev roA (hd rd:List Int):PP:=(redN hd rd 1,redN hd rd 0,())
theorem roA_ok {b:Int} {hd rd:List Int} (h:RoOk b hd rd):RoP hd rd (roA hd rd):=⟨red_rng h (by omega),red_rng h (by omega)⟩
theorem ref_round_row (N:Nat) {b:Int} {hd rd:List Int} (h:RoOk b hd rd) {D:Type} (k0:Int→List Int→List Int→Int→Int→Int→Int→Int→Int→List Int→List (List Int)→List (List Int×Int)→List Int→List (List Int)→List Int→List (List Int)→Option D)
   (i:Int) (t:PP) (ht:RoP hd rd t) (a1 a2:Int) (u1:List Int) (u2:List (List Int)) (o1:List Int) (o2:List (List Int)) :
   ∀ (F r:Nat) (row:List Int) (q:List PP),b.toNat - r < F→(r:Int) ≤ b→row.length ≤ r→q.length ≤ 100000 + r →
     g21L259226f N F k0 b hd rd (hd.length:Int) (rd.length:Int) i t.1 t.2.1 (r:Int) a1 a2 row (q.map arrP) (mpairs 0 (q.map arrP)) u1 u2 o1 o2 =
       k0 b hd rd (hd.length:Int) (rd.length:Int) i t.2.1 a1 a2 (bfsRow idK (roStep b hd rd) t ((List.range b.toNat).drop r) row q).1 ((bfsRow idK (roStep b hd rd) t ((List.range b.toNat).drop r) row q).2.map arrP) (mpairs 0 ((bfsRow idK (roStep b hd rd) t ((List.range b.toNat).drop r) row q).2.map arrP)) u1 u2 o1 o2
 | 0,r,row,q,hF,_,_,_=>by omega
 | F + 1,r,row,q,hF,hr,h1,h2=>by
   rw [g21L259226f_succ]
   unfold g21L259226B
   have hb:=h.base
   by_cases hlt:(r:Int) < b
   · obtain ⟨p1,p2,p3,p4⟩:=ro_mul h ht (r:=r) hlt
     have:=ht.v;have:=h.lh;have:=h.lr
     have e1:decide ((r:Int) < b) = true:=by simpa using hlt
     rw [e1,cond_true,w64 (x:=t.1 * b) (by omega) (by omega),red_ref h N (by omega),Option.bind_some,Int.mul_comm t.1 (r:Int),w64 (x:=(r:Int) * t.1) (by omega) (by omega),Int.add_comm,w64 (x:=t.2.1 + (r:Int) * t.1) (by omega) (by omega),red_ref h N (by omega),Option.bind_some,set_pair,range_drop (by omega)]
     unfold bfsRow
     rw [map_idK]
     rw [show ([redN hd rd (t.1 * b),redN hd rd (t.2.1 + (r:Int) * t.1)]:List Int) = arrP (roStep b hd rd t r) from rfl]
     unfold g65
     rw [find_mpairs (arr_eq 2)]
     by_cases hm:roStep b hd rd t r ∈ q
     · rw [if_pos ((mem_inj (fun a b=>arrP_inj)).2 hm),if_pos hm]
       simp only [Option.isSome_some,Bool.not_true,cond_false,Option.bind_some]
       rw [if_pos (by simp only [List.length_cons,List.length_nil,maxCount];omega),Option.getD_some,wn r (by omega),Nat.zero_add,posOf_inj_map (fun a b=>arrP_inj)]
       exact ref_round_row N h k0 i t ht a1 a2 u1 u2 o1 o2 F (r + 1) _ q (by omega) (by omega) (by simp;omega) (by omega)
     · rw [if_neg (fun h=>hm ((mem_inj (fun a b=>arrP_inj)).1 h)),if_neg hm]
       simp only [Option.isSome_none,Bool.not_false,cond_true,Option.bind_some,Bool.not_false]
       rw [if_pos (by simp only [List.length_cons,List.length_nil,List.length_map,maxCount];omega),if_pos (by simp only [List.length_cons,List.length_nil,maxCount];omega),wn r (by omega)]
       rw [put_mpairs (arr_eq 2) _ _ _ _ (fun h=>hm ((mem_inj (fun a b=>arrP_inj)).1 h)),show mpairs 0 (q.map arrP) ++ [(arrP (roStep b hd rd t r),((q.map arrP).length:Int))] = mpairs 0 ((q ++ [roStep b hd rd t r]).map arrP) by rw [List.map_append,List.map_cons,List.map_nil,mpairs_snoc];simp]
       rw [show q.map arrP ++ [arrP (roStep b hd rd t r)] = (q ++ [roStep b hd rd t r]).map arrP by simp,List.length_map]
       exact ref_round_row N h k0 i t ht a1 a2 u1 u2 o1 o2 F (r + 1) _ _ (by omega) (by omega) (by simp;omega) (by simp;omega)
   · have e1:decide ((r:Int) < b) = false:=by simpa using hlt
     rw [e1,cond_false,List.drop_of_length_le (by simp;omega)];rfl
theorem ref_round_loop (N:Nat) {b:Int} {hd rd:List Int} (h:RoOk b hd rd) (hN:1700 < N) {D:Type} (k0:Int→Int→List (List Int)→List (List Int×Int)→List Int→List (List Int)→List Int→List (List Int)→Option D)
   (a1 a2:Int) (u1:List Int) (u2:List (List Int)) :
   ∀ (F i:Nat) (q:List PP) (o1:List Int) (o2:List (List Int)) (l:List PP) (outs:List Int) (rows:List (List Int)),bfs (0,0,()) idK (roOut hd rd) (roStep b hd rd) b.toNat F i q o1 o2 = some (l,outs,rows)→(∀ t ∈ q,RoP hd rd t)→q.Nodup→i ≤ q.length→o1.length = i→o2.length = i →
     g21L506f N F k0 b hd rd (hd.length:Int) (rd.length:Int) (i:Int) a1 a2 (q.map arrP) (mpairs 0 (q.map arrP)) u1 u2 o1 o2 = k0 a1 a2 (l.map arrP) (mpairs 0 (l.map arrP)) u1 u2 outs rows
 | 0,i,q,o1,o2,l,outs,rows,hh,_,_,_,_,_=>by simp [bfs] at hh
 | F + 1,i,q,o1,o2,l,outs,rows,hh,hq,hn,hi,l1,l2=>by
   rw [g21L506f_succ]
   unfold g21L506B
   unfold bfs at hh
   have hb:=h.base
   have hh2:=h.lh
   have hr2:=h.lr
   have hlen:q.length ≤ 1600:=pigeon_num idK (fun t:PP=>t.1 * 40 + t.2.1) (ro_inj h) (ro_bnd h) hq (by rw [map_idK];exact hn)
   by_cases hlt:i < q.length
   · rw [if_pos hlt] at hh
     have e1:decide ((i:Int) < ((q.map arrP).length:Int)) = true:=by rw [decide_eq_true_iff,List.length_map];omega
     have e2:idx (i:Int) (q.map arrP).length:=⟨by omega,by rw [List.length_map];omega⟩
     have e3:Int.toNat (i:Int) < (q.map arrP).length:=by rw [List.length_map];omega
     have hs:=hq _ (getD_mem hlt (0,0,()))
     rw [e1,cond_true,if_pos e2,if_pos (⟨by omega,by omega⟩:idx 0 2),if_pos e3,if_pos e2,if_pos (⟨by omega,by omega⟩:idx 1 2),if_pos e3,Int.toNat_natCast,g21L259226_eq,arrP_get q hlt]
     revert hh hs
     generalize q.getD i (0,0,()) = t
     intro hh hs
     have el:=fun k0=>ref_round_row (D:=D) N h k0 (i:Int) t hs a1 a2 u1 u2 o1 o2 N 0 [] q (by omega) (by omega) (by simp) (by omega)
     simp only [Int.natCast_zero,List.drop_zero] at el
     rw [show (arrP t).getD (Int.toNat 0) 0 = t.1 from rfl,show (arrP t).getD (Int.toNat 1) 0 = t.2.1 from rfl,el]
     obtain ⟨new,ext,e,g1,g2,g3,g4,g5⟩:=bfsRow_spec idK (roStep b hd rd) t (RoP hd rd) (List.range b.toNat) [] q (fun r hr=>ro_close h hs (by have:=List.mem_range.1 hr;omega)) hq (by rw [map_idK];exact hn)
     rw [e] at hh ⊢
     dsimp only at hh ⊢
     rw [List.nil_append] at hh ⊢
     have rec':=ref_round_loop N h hN k0 a1 a2 u1 u2 F (i + 1) (q ++ ext) _ _ l outs rows hh (fun t ht=>by
       rcases List.mem_append.1 ht with ht | ht
       · exact hq t ht
       · exact g3 t ht) (by rw [map_idK] at g4;exact g4) (by simp;omega) (by simp [l1]) (by simp [l2])
     have hv:=hs.v
     unfold roOut at rec'
     by_cases hl:t.2.1 < (hd.length:Int)
     · rw [decide_eq_true hl,cond_true,if_pos (⟨by omega,by omega⟩:idx _ _),if_pos (by simp only [List.length_cons,List.length_nil,maxCount];omega),if_pos (by simp only [List.length_cons,List.length_nil,maxCount];omega),wn i (by omega)]
       rw [if_pos hl] at rec'
       exact rec'
     · have m1:=Int.emod_nonneg (t.2.1 - hd.length) (show (rd.length:Int) ≠ 0 by omega)
       have m2:=Int.emod_lt_of_pos (t.2.1 - hd.length) (show 0 < (rd.length:Int) by omega)
       rw [decide_eq_false hl,cond_false,if_neg (by omega),w64 (x:=t.2.1 - hd.length) (by omega) (by omega),Int.tmod_eq_emod_of_nonneg (by omega),if_pos (⟨by omega,by omega⟩:idx _ _),if_pos (by simp only [List.length_cons,List.length_nil,maxCount];omega),if_pos (by simp only [List.length_cons,List.length_nil,maxCount];omega),wn i (by omega)]
       rw [if_neg hl] at rec'
       exact rec'
   · rw [if_neg hlt] at hh
     have e1:decide ((i:Int) < ((q.map arrP).length:Int)) = false:=by rw [decide_eq_false_iff_not,List.length_map];omega
     rw [e1,cond_false]
     simp only [Option.some.injEq,Prod.mk.injEq] at hh
     obtain ⟨rfl,rfl,rfl⟩:=hh
     rfl
end Go.Pv
