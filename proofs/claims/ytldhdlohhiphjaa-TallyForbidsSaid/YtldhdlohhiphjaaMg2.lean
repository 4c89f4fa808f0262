/- Plain texts, merged: QaL8, QaL9, QaLa, QaR, QaR2, QaLb, QaLc, QaLd, QaLe, QaR3, QaAw, QaLf. -/
import Derived.Test.YtldhdlohhiphjaaMg1
import Derived.Test.YtldhdlohhiphjaaPvL06
/- Seat 06, plain: the changes of rules, as the program and the reference have them. -/
set_option linter.unusedVariables false
set_option linter.unusedSimpArgs false
namespace Go.Pv
def chg (n:Nat) (r:List Int):List Int:=dec (dec (inc (inc (List.replicate n 0) (r.getD 0 0).toNat) (r.getD 1 0).toNat) (r.getD 2 0).toNat) (r.getD 3 0).toNat
theorem chg_len (n:Nat) (r:List Int):(chg n r).length = n:=by unfold chg;rw [dec_len,dec_len,inc_len,inc_len,List.length_replicate]
theorem step_len (r c:List Int):(stepR r c).length = c.length:=by unfold stepR stepL;rw [inc_len,inc_len,dec_len,dec_len]
def at1 (p k:Nat):Int:=if k = p then 1 else 0
theorem fv_inc {c:List Int} {i:Nat} (h:i < c.length) (k:Nat):fv (inc c i) k = fv c k + at1 i k:=by
 unfold inc at1
 rw [fv_set _ h]
 split
 · rename_i e;subst e;rfl
 · omega
theorem fv_dec {c:List Int} {i:Nat} (h:i < c.length) (k:Nat):fv (dec c i) k = fv c k - at1 i k:=by
 unfold dec at1
 rw [fv_set _ h]
 split
 · rename_i e;subst e;rfl
 · omega
theorem fv_rep (n k:Nat):fv (List.replicate n 0) k = 0:=by
 unfold fv
 rw [List.getD_eq_getElem?_getD,List.getElem?_replicate]
 split <;> rfl
theorem fv_chg {n p q s t:Nat} (hp:p < n) (hq:q < n) (hs:s < n) (ht:t < n) (k:Nat):fv (chg n [(p:Int),(q:Int),(s:Int),(t:Int)]) k = at1 p k + at1 q k - at1 s k - at1 t k:=by
 unfold chg
 simp only [List.getD_cons_zero,List.getD_cons_succ,Int.toNat_natCast]
 rw [fv_dec (by rw [dec_len,inc_len,inc_len,List.length_replicate];exact ht),fv_dec (by rw [inc_len,inc_len,List.length_replicate];exact hs),fv_inc (by rw [inc_len,List.length_replicate];exact hq),fv_inc (by rw [List.length_replicate];exact hp),fv_rep]
 omega
theorem fv_step {c:List Int} {p q s t:Nat} (hp:p < c.length) (hq:q < c.length) (hs:s < c.length) (ht:t < c.length) (k:Nat):fv (stepR [(p:Int),(q:Int),(s:Int),(t:Int)] c) k = fv c k - at1 p k - at1 q k + at1 s k + at1 t k:=by
 unfold stepR stepL
 simp only [List.getD_cons_zero,List.getD_cons_succ,Int.toNat_natCast]
 rw [fv_inc (by rw [inc_len,dec_len,dec_len];exact ht),fv_inc (by rw [dec_len,dec_len];exact hs),fv_dec (by rw [dec_len];exact hq),fv_dec hp]
theorem at1_sum {p:Nat} (hp:p < 5):at1 p 0 + at1 p 1 + at1 p 2 + at1 p 3 + at1 p 4 = 1:=by
 unfold at1
 have:p = 0 ∨ p = 1 ∨ p = 2 ∨ p = 3 ∨ p = 4:=by omega
 rcases this with rfl | rfl | rfl | rfl | rfl <;> decide
theorem at1_bd (p k:Nat):0 ≤ at1 p k∧at1 p k ≤ 1:=by unfold at1;split <;> omega
theorem rul_chg {n:Nat} (hn:n ≤ 5) {r:List Int} (h:RuleOk (n:Int) r):Rul n (fv (chg n r)):=by
 obtain ⟨p,q,s,t,rfl,hp,hq,hs,ht⟩:=rule_nat h
 have hp:p < n:=by omega
 have hq:q < n:=by omega
 have hs:s < n:=by omega
 have ht:t < n:=by omega
 have e:=fv_chg hp hq hs ht
 have sp:=at1_sum (p:=p) (by omega)
 have sq:=at1_sum (p:=q) (by omega)
 have ss:=at1_sum (p:=s) (by omega)
 have st:=at1_sum (p:=t) (by omega)
 refine ⟨fun k=>?_,?_,?_,fun k hk=>fv_ge (chg_len _ _) hk⟩
 · rw [e]
   have:=at1_bd p k
   have:=at1_bd q k
   have:=at1_bd s k
   have:=at1_bd t k
   omega
 · rw [e,e,e,e,e]
   have b:∀ k,(at1 p k + at1 q k - at1 s k - at1 t k).natAbs ≤ (at1 p k + at1 q k + at1 s k + at1 t k).toNat:=fun k=>by
     have:=at1_bd p k
     have:=at1_bd q k
     have:=at1_bd s k
     have:=at1_bd t k
     omega
   have c:∀ k,((at1 p k + at1 q k + at1 s k + at1 t k).toNat:Int) = at1 p k + at1 q k + at1 s k + at1 t k:=fun k=>by
     have:=at1_bd p k
     have:=at1_bd q k
     have:=at1_bd s k
     have:=at1_bd t k
     omega
   have b0:=b 0
   have b1:=b 1
   have b2:=b 2
   have b3:=b 3
   have b4:=b 4
   have c0:=c 0
   have c1:=c 1
   have c2:=c 2
   have c3:=c 3
   have c4:=c 4
   omega
 · unfold sum5
   rw [e,e,e,e,e]
   omega
theorem mkOk_n {n:Nat} (h:n ≤ 5):mkOk (n:Int) (n:Int):=⟨by omega,by omega,by omega⟩
def chgs (x:PP):List (List Int):=x.2.2.2.1.map (chg x.1.toNat)
theorem take_succ {α:Type} (l:List α) (i:Nat) (d:α) (h:i < l.length):l.take (i + 1) = l.take i ++ [l.getD i d]:=by
 rw [List.take_add_one,List.getD_eq_getElem?_getD,List.getElem?_eq_getElem h];rfl
theorem rows67 {C:Type} (k0:PP→List Nat→List (Option (List Int))→Option C) {x:PP} (hx:PT x) :
   ∀ (F i:Nat) (ids:List Nat) (rows:List (Option (List Int))),x.2.2.2.1.length - i < F→i ≤ x.2.2.2.1.length→GR ids rows ((x.2.2.2.1.take i).map (chg x.1.toNat))→∃ ids' rows',GR ids' rows' (chgs x)∧g67L58f 2000 F k0 x.2.2.2.1 (x.2.2.2.1.length:Int) (i:Int) x ids rows = k0 x ids' rows'
 | 0,i,ids,rows,h,_,_=>by omega
 | F + 1,i,ids,rows,h,hi,hG=>by
   rw [g67L58f_succ]
   unfold g67L58B
   have hr15:=hx.rules.1
   obtain ⟨hn1,hn2⟩:=hx.n
   obtain ⟨n,hn⟩:∃ n:Nat,x.1 = (n:Int):=⟨x.1.toNat,by omega⟩
   have hn5:n ≤ 5:=by omega
   by_cases hlt:i < x.2.2.2.1.length
   · have e1:decide ((i:Int) < (x.2.2.2.1.length:Int)) = true:=by simp;omega
     have hro:=hx.rules.2.1 _ (getD_mem hlt (List.replicate 4 0))
     have hil:=hG.len
     rw [List.length_map,List.length_take] at hil
     have hadd:=hG.snoc (chg x.1.toNat (x.2.2.2.1.getD i (List.replicate 4 0)))
     have et:((x.2.2.2.1.take (i + 1)).map (chg x.1.toNat)) = ((x.2.2.2.1.take i).map (chg x.1.toNat)) ++ [chg x.1.toNat (x.2.2.2.1.getD i (List.replicate 4 0))]:=by
       rw [take_succ _ _ (List.replicate 4 0) hlt,List.map_append];rfl
     rw [← et] at hadd
     rw [e1,cond_true,if_pos (ix hlt),Int.toNat_natCast]
     generalize x.2.2.2.1.getD i (List.replicate 4 0) = r at hro hadd
     obtain ⟨p,q,s,t,rfl,hp,hq,hs,ht⟩:=rule_nat hro
     rw [hn] at hp hq hs ht
     have hp:p < n:=by omega
     have hq:q < n:=by omega
     have hs:s < n:=by omega
     have ht:t < n:=by omega
     have h0:idx 0 4:=by decide
     have h1:idx 1 4:=by decide
     have h2:idx 2 4:=by decide
     have h3:idx 3 4:=by decide
     have hb:Bd 0 (List.replicate n 0):=fun j=>by
       have:=fv_rep n j
       unfold fv at this
       omega
     have w1:=winc hb (by omega) p
     have w2:=winc (hb.inc p) (by omega) q
     have w3:=wdec ((hb.inc p).inc q) (by omega) s
     have w4:=wdec (((hb.inc p).inc q).dec s) (by omega) t
     have sh:shiftIds rows.length [0] = [rows.length]:=rfl
     have hmx:ids.length + List.length ([0]:List Nat) ≤ maxCount:=by simp [maxCount];omega
     have ec:chg n [(p:Int),(q:Int),(s:Int),(t:Int)] = dec (dec (inc (inc (List.replicate n 0) p) q) s) t:=rfl
     rw [hn,Int.toNat_natCast] at hadd
     rw [ec] at hadd
     simp only [hn,Int.toNat_natCast,if_pos (mkOk_n hn5),show Int.toNat 0 = 0 from rfl,show Int.toNat 1 = 1 from rfl,show Int.toNat 2 = 2 from rfl,show Int.toNat 3 = 3 from rfl,List.getD_cons_zero,List.getD_cons_succ,if_pos h0,if_pos h1,if_pos h2,if_pos h3,List.length_replicate,if_pos (ix hp),if_pos hp,w1,inc_len,if_pos (ix hq),if_pos hq,w2,if_pos (ix hs),if_pos hs,w3,dec_len,if_pos (ix ht),if_pos ht,w4,if_pos hmx,sh,wn i (by omega)]
     have hn':x.1.toNat = n:=by omega
     rw [← hn'] at hadd
     obtain ⟨ids',rows',a1,a2⟩:=rows67 k0 hx F (i + 1) _ _ (by omega) (by omega) hadd
     rw [hn'] at a2
     exact ⟨ids',rows',a1,a2⟩
   · have e1:decide ((i:Int) < (x.2.2.2.1.length:Int)) = false:=by simp;omega
     rw [e1,cond_false]
     rw [List.take_of_length_le (by omega)] at hG
     exact ⟨ids,rows,hG,rfl⟩
def chgsN (x:PP):List (List Int):=x.2.2.2.1.map fun r=>stepR r (List.replicate x.1.toNat 0)
theorem rows69 {C:Type} (k0:PP→List Nat→List (Option (List Int))→Option C) {x:PP} (hx:PT x) :
   ∀ (F i:Nat) (ids:List Nat) (rows:List (Option (List Int))),x.2.2.2.1.length - i < F→i ≤ x.2.2.2.1.length→GR ids rows ((x.2.2.2.1.take i).map fun r=>stepR r (List.replicate x.1.toNat 0))→∃ ids' rows',GR ids' rows' (chgsN x)∧g69xL58f 2000 F k0 (i:Int) x ids rows = k0 x ids' rows'
 | 0,i,ids,rows,h,_,_=>by omega
 | F + 1,i,ids,rows,h,hi,hG=>by
   rw [g69xL58f_succ]
   unfold g69xL58B
   have hr15:=hx.rules.1
   obtain ⟨hn1,hn2⟩:=hx.n
   obtain ⟨n,hn⟩:∃ n:Nat,x.1 = (n:Int):=⟨x.1.toNat,by omega⟩
   have hn5:n ≤ 5:=by omega
   by_cases hlt:i < x.2.2.2.1.length
   · have e1:decide ((i:Int) < (x.2.2.2.1.length:Int)) = true:=by simp;omega
     have hro:=hx.rules.2.1 _ (getD_mem hlt (List.replicate 4 0))
     have hil:=hG.len
     rw [List.length_map,List.length_take] at hil
     have hadd:=hG.snoc (stepR (x.2.2.2.1.getD i (List.replicate 4 0)) (List.replicate x.1.toNat 0))
     have et:((x.2.2.2.1.take (i + 1)).map fun r=>stepR r (List.replicate x.1.toNat 0)) = ((x.2.2.2.1.take i).map fun r=>stepR r (List.replicate x.1.toNat 0)) ++ [stepR (x.2.2.2.1.getD i (List.replicate 4 0)) (List.replicate x.1.toNat 0)]:=by
       rw [take_succ _ _ (List.replicate 4 0) hlt,List.map_append];rfl
     rw [← et] at hadd
     have hmk:mkOk x.1 x.1:=by rw [hn];exact mkOk_n hn5
     rw [e1,cond_true,if_pos hmk,if_pos (ix hlt),Int.toNat_natCast]
     generalize x.2.2.2.1.getD i (List.replicate 4 0) = r at hro hadd
     obtain ⟨p,q,s,t,rfl,hp,hq,hs,ht⟩:=rule_nat hro
     rw [hn] at hp hq hs ht
     have hp:p < n:=by omega
     have hq:q < n:=by omega
     have hs:s < n:=by omega
     have ht:t < n:=by omega
     have h0:idx 0 4:=by decide
     have h1:idx 1 4:=by decide
     have h2:idx 2 4:=by decide
     have h3:idx 3 4:=by decide
     have hb:Bd 0 (List.replicate n 0):=fun j=>by
       have:=fv_rep n j
       unfold fv at this
       omega
     have w1:=wdec hb (by omega) p
     have w2:=wdec (hb.dec p) (by omega) q
     have w3:=winc ((hb.dec p).dec q) (by omega) s
     have w4:=winc (((hb.dec p).dec q).inc s) (by omega) t
     have sh:shiftIds rows.length [0] = [rows.length]:=rfl
     have hmx:ids.length + List.length ([0]:List Nat) ≤ maxCount:=by simp [maxCount];omega
     have ec:stepR [(p:Int),(q:Int),(s:Int),(t:Int)] (List.replicate n 0) = inc (inc (dec (dec (List.replicate n 0) p) q) s) t:=rfl
     rw [hn,Int.toNat_natCast] at hadd
     rw [ec] at hadd
     simp only [hn,Int.toNat_natCast,show Int.toNat 0 = 0 from rfl,show Int.toNat 1 = 1 from rfl,show Int.toNat 2 = 2 from rfl,show Int.toNat 3 = 3 from rfl,List.getD_cons_zero,List.getD_cons_succ,if_pos h0,if_pos h1,if_pos h2,if_pos h3,List.length_replicate,if_pos (ix hp),if_pos hp,w1,dec_len,if_pos (ix hq),if_pos hq,w2,if_pos (ix hs),if_pos hs,w3,inc_len,if_pos (ix ht),if_pos ht,w4,if_pos hmx,sh,wn i (by omega)]
     have hn':x.1.toNat = n:=by omega
     rw [← hn'] at hadd
     obtain ⟨ids',rows',a1,a2⟩:=rows69 k0 hx F (i + 1) _ _ (by omega) (by omega) hadd
     rw [hn'] at a2
     exact ⟨ids',rows',a1,a2⟩
   · have e1:decide ((i:Int) < (x.2.2.2.1.length:Int)) = false:=by simp;omega
     rw [e1,cond_false]
     rw [List.take_of_length_le (by omega)] at hG
     exact ⟨ids,rows,hG,rfl⟩
theorem changes69 {x:PP} (hx:PT x):∃ ids rows,GR ids rows (chgsN x)∧g69x 2000 x = some (((),()),((),()),((ids,rows),())):=by
 unfold g69x
 rw [g69xL58_eq]
 have hr15:=hx.rules.1
 obtain ⟨ids,rows,h1,h2⟩:=rows69 (fun e1 e2 e3=>some ((((),()),((),()),((e2,e3),())):(g69xS).R)) hx 2000 0 [] [] (by omega) (by omega) ⟨rfl,fun i hi=>(by simp at hi),List.nodup_nil⟩
 exact ⟨ids,rows,h1,h2⟩
end Go.Pv
namespace Go.Pv
theorem allRuns_of {X E:Type} {step:E→X→List E→List Nat→Option (X×List E×List Nat)} {es:List E} (st:List Nat→X→Prop) (xf:X)
   (hstep:∀ seen x i q,(∀ j ∈ seen,j < es.length)→seen.Nodup→st seen x→es[i]? = some q→i ∉ seen→∃ y,step q x es (seen ++ [i]) = some (y,es,seen ++ [i])∧st (seen ++ [i]) y)
   (hend:∀ seen x,(∀ j ∈ seen,j < es.length)→seen.Nodup→(∀ j,j < es.length→j ∈ seen)→st seen x→x = xf) :
   ∀ m seen x,es.length ≤ seen.length + m→(∀ j ∈ seen,j < es.length)→seen.Nodup→st seen x→AllRuns step m x es seen xf:=by
 have full:∀ seen:List Nat,allSeen es seen = true→∀ j,j < es.length→j ∈ seen:=fun seen h j hj=>by
   unfold allSeen at h
   have:=List.all_eq_true.1 h j (List.mem_range.2 hj)
   simpa using this
 intro m
 induction m with
 | zero =>
   intro seen x hm hb hn hs
   have hall:∀ j,j < es.length→j ∈ seen:=fun j hj=>by
     rcases Decidable.em (j ∈ seen) with h | h
     · exact h
     · exfalso
       have:=nodup_nat (L:=j :: seen) (M:=List.range es.length) (List.nodup_cons.2 ⟨h,hn⟩) (fun d hd=>by
         rw [List.mem_range]
         rcases List.mem_cons.1 hd with rfl | hd
         · exact hj
         · exact hb d hd)
       simp at this
       omega
   refine ⟨?_,(hend seen x hb hn hall hs).symm⟩
   unfold allSeen
   rw [List.all_eq_true]
   intro j hj
   simpa using hall j (List.mem_range.1 hj)
 | succ m ih =>
   intro seen x hm hb hn hs
   cases ha:allSeen es seen with
   | true=>exact .inl ⟨ha,(hend seen x hb hn (full seen ha) hs).symm⟩
   | false =>
     refine .inr ⟨ha,fun i q hq hi=>?_⟩
     have hi':i ∉ seen:=by simpa using hi
     have hil:i < es.length:=by
       rcases Nat.lt_or_ge i es.length with h | h
       · exact h
       · rw [List.getElem?_eq_none h] at hq;cases hq
     obtain ⟨y,h1,h2⟩:=hstep seen x i q hb hn hs hq hi'
     refine ⟨_,h1,ih (seen ++ [i]) y (by simp;omega) (fun j hj=>?_) ?_ h2⟩
     · rcases List.mem_append.1 hj with h | h
       · exact hb j h
       · obtain rfl:=List.mem_singleton.1 h;exact hil
     · rw [List.nodup_append]
       refine ⟨hn,by simp,fun a ha b hb2=>?_⟩
       obtain rfl:=List.mem_singleton.1 hb2
       exact fun e=>hi' (e ▸ ha)
theorem mrun_st {X E:Type} {step:E→X→List E→List Nat→Option (X×List E×List Nat)} {es:List E} (st:List Nat→X→Prop) (x xf:X) (h0:st [] x)
   (hstep:∀ seen x i q,(∀ j ∈ seen,j < es.length)→seen.Nodup→st seen x→es[i]? = some q→i ∉ seen→∃ y,step q x es (seen ++ [i]) = some (y,es,seen ++ [i])∧st (seen ++ [i]) y)
   (hend:∀ seen x,(∀ j ∈ seen,j < es.length)→seen.Nodup→(∀ j,j < es.length→j ∈ seen)→st seen x→x = xf):mrun step x es = some xf :=
 mrun_of (allRuns_of st xf hstep hend es.length [] x (by simp) (fun j h=>by cases h) List.nodup_nil h0)
section
variable {n m:Nat} {V0:List Vec} {t:Stg} {R:Nat→Vec} {f:Nat}
def dens (t:Stg) (R:Nat→Vec) (f j:Nat):Nat:=den (R j (t.P.getD j 0)) (R j f)
theorem dens_le (hn:n ≤ 5) (hV:∀ v ∈ V0,Rul n v) (hs:SI n n V0 t) (ha:AB V0 t) (hR:PR n t m R) (hP:t.P.length ≤ 4) (hf:f < n) (hfP:f ∉ t.P):∃ D:Nat,0 < D∧D ≤ 512∧∀ j,j < t.P.length→dens t R f j ∣ D:=by
 by_cases h3:t.P.length ≤ 3
 · obtain ⟨g,B,hg,hA,hB⟩:=ha.fin hV h3
   have hff:B f f ≠ 0:=fun h0=>A_ne hs hfP (by rw [hA,h0,Int.mul_zero])
   refine ⟨(B f f).natAbs,by omega,by have:=hB f f;omega,fun j hj=>?_⟩
   have h1:=row_two hn hs hR hf hfP hj
   rw [hA,hA] at h1
   refine den_dvd (hR.piv j hj).2.1 (a:=B f (t.P.getD j 0)) ?_
   refine (Int.mul_eq_zero.1 (?_:g * _ = 0)).resolve_left hg
   calc g * (R j (t.P.getD j 0) * B f (t.P.getD j 0) + R j f * B f f) = g * B f f * R j f + g * B f (t.P.getD j 0) * R j (t.P.getD j 0):=by grind
     _ = 0:=h1
 · refine ⟨1,by decide,by decide,fun j hj=>?_⟩
   have hin:∀ l,l < 5→l ≠ f→l ∈ t.P:=fun l hl hlf=>by
     rcases Decidable.em (l ∈ t.P) with h1 | h1
     · exact h1
     · exfalso
       have:=nodup_nat (L:=l :: f :: t.P) (M:=List.range 5) (by
         rw [List.nodup_cons,List.nodup_cons]
         exact ⟨by simp [h1,hlf],hfP,hs.nodup⟩) (fun d hd=>by
         rw [List.mem_range]
         rcases List.mem_cons.1 hd with rfl | hd
         · exact hl
         · rcases List.mem_cons.1 hd with rfl | hd
           · omega
           · have:=hs.lt d hd;omega)
       simp at this
       omega
   obtain ⟨a1,a2,a3,_⟩:=hR.piv j hj
   have hpm:=getD_mem hj 0
   have hpl:=hs.lt _ hpm
   have hsm:=hR.sum j (by have:=hR.len;omega)
   have e:sum5 (R j) = Go.Pv.dot (fun _=>1) (R j):=by unfold sum5 Go.Pv.dot;grind
   rw [e] at hsm
   have z5:∀ l,l ≠ f→l ≠ t.P.getD j 0→(if l < 5 then 1 else 0:Int) * R j l = 0:=fun l h1 h2=>by
     by_cases hl5:l < 5
     · have hl:=hin l hl5 h1
       obtain ⟨i,hi,rfl⟩:=List.getElem_of_mem hl
       have e:t.P.getD i 0 = t.P[i]:=by rw [List.getD_eq_getElem?_getD,List.getElem?_eq_getElem hi];rfl
       rw [← e,a3 i hi (fun hij=>h2 (by rw [← e,hij])),Int.mul_zero]
     · rw [if_neg hl5,Int.zero_mul]
   have:=dot_two (a:=fun l=>if l < 5 then 1 else 0) (b:=R j) (f:=f) (p:=t.P.getD j 0) (by omega) (by omega) (fun e=>hfP (by rw [e];exact hpm)) z5
   have e2:Go.Pv.dot (fun l=>if l < 5 then 1 else 0) (R j) = Go.Pv.dot (fun _=>1) (R j):=rfl
   rw [e2,hsm] at this
   rw [if_pos (show f < 5 by omega),if_pos (show t.P.getD j 0 < 5 by omega)] at this
   have e3:(R j f).natAbs = (R j (t.P.getD j 0)).natAbs:=by omega
   unfold dens den
   rw [e3,Nat.gcd_self,Nat.div_self (by omega)]
   exact Nat.dvd_refl _
end
def opx (a d:Int):Int:=Int.tdiv a (Nat.gcd a.natAbs d.natAbs:Nat) * d
theorem opx_abs {a d:Int} (ha:a ≠ 0):(opx a d).natAbs = Nat.lcm a.natAbs d.natAbs:=by
 unfold opx
 rw [Int.natAbs_mul,Int.natAbs_tdiv,Int.natAbs_natCast,Nat.lcm]
 exact Nat.div_mul_right_comm (Nat.gcd_dvd_left _ _) _
theorem opx_ne {a d:Int} (ha:a ≠ 0) (hd:d ≠ 0):opx a d ≠ 0:=fun h=>by
 have h1:=opx_abs (d:=d) ha
 rw [h] at h1
 have:=Nat.lcm_pos (show 0 < a.natAbs by omega) (show 0 < d.natAbs by omega)
 simp at h1
 omega
theorem opx_neg {a d:Int} (ha:a ≠ 0) (hd:d ≠ 0):(opx a d < 0) ↔ ¬ ((a < 0) ↔ (d < 0)):=by
 have hg:0 < Nat.gcd a.natAbs d.natAbs:=Nat.gcd_pos_of_pos_left _ (by omega)
 obtain ⟨q,hq⟩:((Nat.gcd a.natAbs d.natAbs:Nat):Int) ∣ a:=Int.ofNat_dvd_left.2 (Nat.gcd_dvd_left _ _)
 have et':∀ G:Int,G ≠ 0→a = G * q→Int.tdiv a G = q:=fun G h0 h=>by rw [h];exact Int.mul_tdiv_cancel_left q h0
 have et:Int.tdiv a (Nat.gcd a.natAbs d.natAbs:Nat) = q:=et' _ (by omega) hq
 have hgi:(0:Int) < ((Nat.gcd a.natAbs d.natAbs:Nat):Int):=by omega
 have hq0:q ≠ 0:=fun h=>by rw [h,Int.mul_zero] at hq;exact ha hq
 have hsg:a < 0 ↔ q < 0:=by
   constructor
   · intro h
     rcases Int.lt_or_lt_of_ne hq0 with h1 | h1
     · exact h1
     · have:=Int.mul_pos hgi h1;omega
   · intro h
     have:=Int.mul_neg_of_pos_of_neg hgi h
     omega
 unfold opx
 rw [et,hsg]
 rcases Int.lt_or_lt_of_ne hq0 with h1 | h1 <;> rcases Int.lt_or_lt_of_ne hd with h2 | h2
 · have:=Int.mul_pos_of_neg_of_neg h1 h2
   constructor
   · intro h;omega
   · intro h;exact absurd ⟨fun _=>h2,fun _=>h1⟩ h
 · have:=Int.mul_neg_of_neg_of_pos h1 h2
   exact ⟨fun _ h=>by have:=h.1 h1;omega,fun _=>this⟩
 · have:=Int.mul_neg_of_pos_of_neg h1 h2
   exact ⟨fun _ h=>by have:=h.2 h2;omega,fun _=>this⟩
 · have:=Int.mul_pos h1 h2
   constructor
   · intro h;omega
   · intro h;exact absurd ⟨fun h=>by omega,fun h=>by omega⟩ h
section
variable (t:Stg) (R:Nat→Vec) (f:Nat)
def sd (j:Nat):Int:=Int.tdiv (R j (t.P.getD j 0)) (Nat.gcd (R j (t.P.getD j 0)).natAbs (R j f).natAbs:Nat)
theorem sd_abs (j:Nat):(sd t R f j).natAbs = dens t R f j:=by
 unfold sd dens den
 rw [Int.natAbs_tdiv,Int.natAbs_natCast];rfl
def actN (j:Nat):Bool:=decide (R j f ≠ 0) && decide (sd t R f j < 0)
structure LS (seen:List Nat) (a:Int):Prop where
 ne:a ≠ 0
 dvd:∀ j ∈ seen,R j f ≠ 0→dens t R f j ∣ a.natAbs
 least:∀ m:Nat,(∀ j ∈ seen,R j f ≠ 0→dens t R f j ∣ m)→a.natAbs ∣ m
 neg:a < 0 ↔ (seen.filter (actN t R f)).length % 2 = 1
def lsN (a:Int) (j:Nat):Int:=if R j f = 0 then a else opx a (sd t R f j)
variable {t R f}
theorem LS.nil:LS t R f [] 1:=⟨by decide,fun j h=>(by cases h),fun m _=>Nat.one_dvd m,by simp⟩
theorem LS.snoc {seen:List Nat} {a:Int} (h:LS t R f seen a) {j:Nat} (hx:R j (t.P.getD j 0) ≠ 0):LS t R f (seen ++ [j]) (lsN t R f a j):=by
 have hdp:0 < dens t R f j:=by
   unfold dens den
   exact Nat.div_pos (Nat.gcd_le_left _ (by omega)) (Nat.gcd_pos_of_pos_left _ (by omega))
 have hsd:sd t R f j ≠ 0:=fun h0=>by
   have:=sd_abs t R f j
   rw [h0] at this
   simp at this
   omega
 unfold lsN
 by_cases hy:R j f = 0
 · rw [if_pos hy]
   refine ⟨h.ne,fun i hi hne=>?_,fun m hm=>h.least m fun i hi hne=>hm i (by simp [hi]) hne,?_⟩
   · rcases List.mem_append.1 hi with h1 | h1
     · exact h.dvd i h1 hne
     · obtain rfl:=List.mem_singleton.1 h1
       exact absurd hy hne
   · rw [List.filter_append,h.neg]
     have:actN t R f j = false:=by unfold actN;simp [hy]
     simp [this]
 · rw [if_neg hy]
   refine ⟨opx_ne h.ne hsd,fun i hi hne=>?_,fun m hm=>?_,?_⟩
   · rw [opx_abs h.ne]
     rcases List.mem_append.1 hi with h1 | h1
     · exact Nat.dvd_trans (h.dvd i h1 hne) (Nat.dvd_lcm_left _ _)
     · obtain rfl:=List.mem_singleton.1 h1
       rw [← sd_abs]
       exact Nat.dvd_lcm_right _ _
   · rw [opx_abs h.ne]
     refine Nat.lcm_dvd (h.least m fun i hi hne=>hm i (by simp [hi]) hne) ?_
     rw [sd_abs]
     exact hm j (by simp) hy
   · rw [opx_neg h.ne hsd,List.filter_append,h.neg]
     by_cases hs:sd t R f j < 0
     · have:actN t R f j = true:=by unfold actN;simp [hy,hs]
       simp only [List.filter_cons,this,if_true,List.filter_nil,List.length_append,List.length_singleton,hs,iff_true]
       omega
     · have:actN t R f j = false:=by unfold actN;simp [hs]
       simp only [List.filter_cons,this,Bool.false_eq_true,if_false,List.filter_nil,List.length_append,List.length_nil,hs,iff_false]
       omega
theorem LS.uniq {seen seen':List Nat} {a b:Int} (h:LS t R f seen a) (h':LS t R f seen' b) (hn:seen.Nodup) (hn':seen'.Nodup) (hm:∀ j,j ∈ seen ↔ j ∈ seen'):a = b:=by
 have e1:a.natAbs = b.natAbs:=Nat.dvd_antisymm (h.least _ fun j hj hne=>h'.dvd j ((hm j).1 hj) hne) (h'.least _ fun j hj hne=>h.dvd j ((hm j).2 hj) hne)
 have e2:(seen.filter (actN t R f)).length = (seen'.filter (actN t R f)).length:=by
   have a1:=nodup_nat (hn.sublist (List.filter_sublist (p:=actN t R f))) (M:=seen'.filter (actN t R f)) fun d hd=>by
     rw [List.mem_filter] at hd ⊢
     exact ⟨(hm d).1 hd.1,hd.2⟩
   have a2:=nodup_nat (hn'.sublist (List.filter_sublist (p:=actN t R f))) (M:=seen.filter (actN t R f)) fun d hd=>by
     rw [List.mem_filter] at hd ⊢
     exact ⟨(hm d).2 hd.1,hd.2⟩
   omega
 have n1:=h.neg
 have n2:=h'.neg
 rw [e2,← n2] at n1
 omega
theorem LS.le {seen:List Nat} {a:Int} (h:LS t R f seen a) {D:Nat} (hD0:0 < D) (hD:D ≤ 512) (hd:∀ j ∈ seen,dens t R f j ∣ D):-512 ≤ a∧a ≤ 512:=by
 have:=Nat.le_of_dvd hD0 (h.least D fun j hj _=>hd j hj)
 omega
variable (t R f)
def lsF:Nat→Int
 | 0=>1
 | j + 1=>lsN t R f (lsF j) j
variable {t R f}
theorem LS.all:∀ k,(∀ j,j < k→R j (t.P.getD j 0) ≠ 0)→LS t R f (List.range k) (lsF t R f k)
 | 0,_=>LS.nil
 | k + 1,h=>by
   rw [List.range_succ]
   exact (LS.all k fun j hj=>h j (by omega)).snoc (h k (by omega))
structure OS (n:Nat) (t:Stg) (R:Nat→Vec) (f:Nat) (A:Int) (seen:List Nat) (o:List Int):Prop where
 len:o.length = n
 own:∀ j ∈ seen,fv o (t.P.getD j 0) = Int.tdiv (-(R j f) * A) (R j (t.P.getD j 0))
 rest:∀ k,(∀ j ∈ seen,t.P.getD j 0 ≠ k)→fv o k = if k = f then A else 0
theorem OS.snoc {n:Nat} {A:Int} {seen:List Nat} {o:List Int} (h:OS n t R f A seen o) {j:Nat} (hj:t.P.getD j 0 < n) (hd:∀ i ∈ seen,t.P.getD i 0 ≠ t.P.getD j 0):OS n t R f A (seen ++ [j]) (o.set (t.P.getD j 0) (Int.tdiv (-(R j f) * A) (R j (t.P.getD j 0)))):=by
 refine ⟨by simp [h.len],fun i hi=>?_,fun k hk=>?_⟩
 · rw [fv_set _ (by rw [h.len];exact hj)]
   rcases List.mem_append.1 hi with h1 | h1
   · rw [if_neg (hd i h1)];exact h.own i h1
   · obtain rfl:=List.mem_singleton.1 h1
     rw [if_pos rfl]
 · rw [fv_set _ (by rw [h.len];exact hj),if_neg (fun e=>hk j (by simp) e.symm)]
   exact h.rest k fun i hi=>hk i (by simp [hi])
theorem list_fv {a b:List Int} (h:a.length = b.length) (he:∀ k,fv a k = fv b k):a = b:=by
 refine List.ext_getElem h fun k h1 h2=>?_
 have:=he k
 unfold fv at this
 rw [List.getD_eq_getElem?_getD,List.getElem?_eq_getElem h1,List.getD_eq_getElem?_getD,List.getElem?_eq_getElem h2] at this
 exact this
theorem OS.uniq {n:Nat} {A:Int} {seen seen':List Nat} {o o':List Int} (h:OS n t R f A seen o) (h':OS n t R f A seen' o') (hm:∀ j,j ∈ seen ↔ j ∈ seen'):o = o':=by
 refine list_fv (by rw [h.len,h'.len]) fun k=>?_
 by_cases hk:∃ j,j ∈ seen∧t.P.getD j 0 = k
 · obtain ⟨j,hj,rfl⟩:=hk
   rw [h.own j hj,h'.own j ((hm j).1 hj)]
 · rw [h.rest k fun j hj e=>hk ⟨j,hj,e⟩,h'.rest k fun j hj e=>hk ⟨j,(hm j).2 hj,e⟩]
variable (n:Nat) (t R f) (A:Int)
def osF:Nat→List Int
 | 0=>(List.replicate n 0).set f A
 | j + 1=>(osF j).set (t.P.getD j 0) (Int.tdiv (-(R j f) * A) (R j (t.P.getD j 0)))
variable {n t R f A}
theorem OS.nil (hf:f < n):OS n t R f A [] ((List.replicate n 0).set f A) :=
 ⟨by simp,fun j h=>(by cases h),fun k _=>by rw [fv_set _ (by simp;exact hf),fv_rep]⟩
theorem OS.all (hf:f < n) (hn:t.P.Nodup) (hlt:∀ p ∈ t.P,p < n):∀ k,k ≤ t.P.length→OS n t R f A (List.range k) (osF t R f n A k)
 | 0,_=>OS.nil hf
 | k + 1,h=>by
   rw [List.range_succ]
   exact (OS.all hf hn hlt k (by omega)).snoc (hlt _ (getD_mem (by omega) 0)) fun i hi e=>by
     have hik:=List.mem_range.1 hi
     have:=inj_getD (i:=i) (j:=k) hn (by omega) (by omega) e
     omega
end
end Go.Pv
namespace Go.Pv
theorem g92_two {a b:Int} (ha:a.natAbs < 2 ^ 62) (hb:b.natAbs < 2 ^ 62):g92 2000 [a,b] = some ((Nat.gcd a.natAbs b.natAbs:Nat):Int):=by
 rw [g92_eq (by simp) (fun x hx=>by
   rcases List.mem_cons.1 hx with rfl | hx
   · exact ha
   · obtain rfl:=List.mem_singleton.1 hx;exact hb)]
 unfold gcdL gcdL gcdL
 rw [Nat.gcd_zero_left]
structure RW (n:Nat) (t:Stg) (R:Nat→Vec) (W:List (List Int)):Prop where
 len:W.length = t.P.length
 row:∀ j,j < t.P.length→(W.getD j []).length = n
 fv:∀ j,j < t.P.length→fv (W.getD j []) = R j
 piv:∀ j,j < t.P.length→t.P.getD j 0 < n∧R j (t.P.getD j 0) ≠ 0∧∀ l,l < t.P.getD j 0→R j l = 0
 bd:∀ j,j < t.P.length→Bdd 2147483648 (R j)
 nodup:t.P.Nodup
 le:t.P.length ≤ 4
 lt:∀ p ∈ t.P,p < n
section
variable {n:Nat} {t:Stg} {R:Nat→Vec} {W:List (List Int)} {f:Nat}
theorem RW.get (h:RW n t R W) {j:Nat} (hj:j < t.P.length) (k:Nat):(W.getD j []).getD k 0 = R j k:=by
 rw [← h.fv j hj];rfl
theorem tdiv_le {a b:Int} (hb:b ≠ 0) {B:Int} (ha:-B ≤ a∧a ≤ B):-B ≤ Int.tdiv a b∧Int.tdiv a b ≤ B:=by
 have h1:(Int.tdiv a b).natAbs ≤ a.natAbs:=by
   rw [Int.natAbs_tdiv]
   exact Nat.div_le_self _ _
 omega
theorem stepA (h:RW n t R W) (hf:f < n) {j:Nat} (hj:j < t.P.length) {a:Int} (ha0:a ≠ 0) (ha:-512 ≤ a∧a ≤ 512) (ha2:-512 ≤ lsN t R f a j∧lsN t R f a j ≤ 512) (es:List (Int×Int)) (x:PP) (ids:List Nat) (rows:List (Option (List Int))) (n' f':Int) (es2:List (Int×Int)) (sn:List Nat) :
   g67M4182842S 2000 (((t.P.getD j 0:Nat):Int),(j:Int)) (((),W,es,(),(f:Int),a,n',f',()),(x,(ids,rows),())) es2 sn = some ((((),W,es,(),(f:Int),lsN t R f a j,n',f',()),(x,(ids,rows),())),es2,sn):=by
 unfold g67M4182842S g67M4182842B
 have hW:=h.len
 have hr:=h.row j hj
 obtain ⟨p1,p2,p3⟩:=h.piv j hj
 have e62:(2:Nat) ^ 62 = 4611686018427387904:=by decide
 have bx:=h.bd j hj (t.P.getD j 0)
 have bf:=h.bd j hj f
 dsimp only
 rw [if_pos (ix (by omega)),Int.toNat_natCast,if_pos (ix (by omega)),Int.toNat_natCast,h.get hj]
 by_cases hy:R j f = 0
 · rw [hy,ieq_self,Bool.not_true,cond_false]
   unfold lsN
   rw [if_pos hy]
 · have hg0:0 < Nat.gcd (R j (t.P.getD j 0)).natAbs (R j f).natAbs:=Nat.gcd_pos_of_pos_left _ (by omega)
   have hgi:((Nat.gcd (R j (t.P.getD j 0)).natAbs (R j f).natAbs:Nat):Int) ≠ 0:=by omega
   have hsb:=tdiv_le hgi bx
   have hsd:IntKind.wrap .i64 (Int.tdiv (R j (t.P.getD j 0)) ((Nat.gcd (R j (t.P.getD j 0)).natAbs (R j f).natAbs:Nat):Int)) = sd t R f j:=w64 (by omega) (by omega)
   have hsd2:sd t R f j = Int.tdiv (R j (t.P.getD j 0)) ((Nat.gcd (R j (t.P.getD j 0)).natAbs (R j f).natAbs:Nat):Int):=rfl
   have hg2:0 < Nat.gcd a.natAbs (sd t R f j).natAbs:=Nat.gcd_pos_of_pos_left _ (by omega)
   have hg2i:((Nat.gcd a.natAbs (sd t R f j).natAbs:Nat):Int) ≠ 0:=by omega
   have hab:=tdiv_le hg2i ha
   have hl:lsN t R f a j = opx a (sd t R f j):=by unfold lsN;rw [if_neg hy]
   rw [hl] at ha2
   rw [show ieq (R j f) 0 = false from decide_eq_false hy,Bool.not_false,cond_true]
   rw [if_pos (ix (by omega)),if_pos (ix (by omega)),if_pos (ix (by omega)),if_pos (ix (by omega)),if_pos (ix (by omega)),if_pos (ix (by omega))]
   rw [Int.toNat_natCast,h.get hj,g92_two (by omega) (by omega)]
   simp only [Option.bind_some]
   rw [if_neg hgi,hsd,g92_two (by omega) (by omega)]
   simp only [Option.bind_some]
   have e1:IntKind.wrap .i64 (Int.tdiv a ((Nat.gcd a.natAbs (sd t R f j).natAbs:Nat):Int)) = Int.tdiv a ((Nat.gcd a.natAbs (sd t R f j).natAbs:Nat):Int):=w64 (by omega) (by omega)
   have e2:IntKind.wrap .i64 (Int.tdiv a ((Nat.gcd a.natAbs (sd t R f j).natAbs:Nat):Int) * sd t R f j) = opx a (sd t R f j):=w64 (x:=opx a (sd t R f j)) (by omega) (by omega)
   rw [if_neg hg2i,e1,e2,hl]
theorem stepB (h:RW n t R W) (hf:f < n) {j:Nat} (hj:j < t.P.length) {A:Int} (hA:0 ≤ A∧A ≤ 512) {o:List Int} (ho:o.length = n) (hof:fv o f = A) (es:List (Int×Int)) (x:PP) (ids:List Nat) (rows:List (Option (List Int))) (n' f':Int) (es2:List (Int×Int)) (sn:List Nat) :
   g67M33462778S 2000 (((t.P.getD j 0:Nat):Int),(j:Int)) (((),W,es,(),(f:Int),(),n',f',()),(x,(ids,rows),o,())) es2 sn = some ((((),W,es,(),(f:Int),(),n',f',()),(x,(ids,rows),o.set (t.P.getD j 0) (Int.tdiv (-(R j f) * A) (R j (t.P.getD j 0))),())),es2,sn):=by
 unfold g67M33462778S g67M33462778B
 have hW:=h.len
 have hr:=h.row j hj
 obtain ⟨p1,p2,p3⟩:=h.piv j hj
 have bf:=h.bd j hj f
 have hof':o.getD f 0 = A:=hof
 dsimp only
 rw [if_pos (ix (by omega)),Int.toNat_natCast,if_pos (ix (by omega)),if_pos (ix (by omega)),if_pos (tnlt (by omega)),if_pos (ix (by omega)),if_pos (ix (by omega)),Int.toNat_natCast,h.get hj,if_neg p2,if_pos (ix (by omega)),if_pos (by omega),Int.toNat_natCast,h.get hj,hof']
 have m1:=mul_bd (a:=2147483648) (b:=512) (x:=-(R j f)) (y:=A) (by omega) (by omega) (by omega) (by omega)
 have d1:=tdiv_le (B:=2147483648 * 512) p2 m1
 have e0:ineg (R j f) = -(R j f):=Int.zero_sub _
 have e1:IntKind.wrap .i64 (-(R j f)) = -(R j f):=w64 (by omega) (by omega)
 have e2:IntKind.wrap .i64 (-(R j f) * A) = -(R j f) * A:=w64 (by omega) (by omega)
 have e3:IntKind.wrap .i64 (Int.tdiv (-(R j f) * A) (R j (t.P.getD j 0))) = Int.tdiv (-(R j f) * A) (R j (t.P.getD j 0)):=w64 (by omega) (by omega)
 rw [e0,e1,e2,e3]
def esF (t:Stg) (k:Nat):List (Int×Int):=(List.range k).map fun j=>(((t.P.getD j 0:Nat):Int),(j:Int))
theorem esF_get {k i:Nat} {q:Int×Int} (h:(esF t k)[i]? = some q):i < k∧q = (((t.P.getD i 0:Nat):Int),(i:Int)):=by
 unfold esF at h
 rw [List.getElem?_map] at h
 rcases Nat.lt_or_ge i k with h1 | h1
 · rw [List.getElem?_range h1] at h
   simp only [Option.map_some,Option.some.injEq] at h
   exact ⟨h1,h.symm⟩
 · rw [List.getElem?_eq_none (by simp;omega)] at h;cases h
theorem esF_len (k:Nat):(esF t k).length = k:=by simp [esF]
def fw (t:Stg) (R:Nat→Vec) (f:Nat):Int:=((lsF t R f t.P.length).natAbs:Int)
theorem runA (h:RW n t R W) (hf:f < n) {D:Nat} (hD0:0 < D) (hD:D ≤ 512) (hd:∀ j,j < t.P.length→dens t R f j ∣ D) (x:PP) (ids:List Nat) (rows:List (Option (List Int))) (n' f':Int) :
   mrun (g67M4182842S 2000) (((),W,esF t t.P.length,(),(f:Int),1,n',f',()),(x,(ids,rows),())) (esF t t.P.length) = some (((),W,esF t t.P.length,(),(f:Int),lsF t R f t.P.length,n',f',()),(x,(ids,rows),())):=by
 have hall:=LS.all (t:=t) (R:=R) (f:=f) t.P.length fun j hj=>(h.piv j hj).2.1
 refine mrun_st (fun seen X=>∃ a:Int,X = (((),W,esF t t.P.length,(),(f:Int),a,n',f',()),(x,(ids,rows),()))∧LS t R f seen a) _ _ ⟨1,rfl,.nil⟩ ?_ ?_
 · intro seen X i q hb hn ⟨a,hX,hL⟩ hq hi
   subst hX
   obtain ⟨hik,rfl⟩:=esF_get hq
   rw [esF_len] at hb
   have hs:=hL.snoc (j:=i) (h.piv i hik).2.1
   have hle:=hL.le hD0 hD fun j hj=>hd j (hb j hj)
   have hle2:=hs.le hD0 hD fun j hj=>by
     rcases List.mem_append.1 hj with h1 | h1
     · exact hd j (hb j h1)
     · obtain rfl:=List.mem_singleton.1 h1;exact hd j hik
   exact ⟨_,stepA h hf hik hL.ne hle hle2 _ x ids rows n' f' _ _,_,rfl,hs⟩
 · intro seen X hb hn hall2 ⟨a,hX,hL⟩
   subst hX
   rw [esF_len] at hb hall2
   have:=hL.uniq hall hn List.nodup_range fun j=>⟨fun hj=>List.mem_range.2 (hb j hj),fun hj=>hall2 j (List.mem_range.1 hj)⟩
   rw [this]
theorem runB (h:RW n t R W) (hf:f < n) (hfP:f ∉ t.P) {A:Int} (hA:0 ≤ A∧A ≤ 512) (x:PP) (ids:List Nat) (rows:List (Option (List Int))) (n' f':Int) :
   mrun (g67M33462778S 2000) (((),W,esF t t.P.length,(),(f:Int),(),n',f',()),(x,(ids,rows),(List.replicate n 0).set f A,())) (esF t t.P.length) = some (((),W,esF t t.P.length,(),(f:Int),(),n',f',()),(x,(ids,rows),osF t R f n A t.P.length,())):=by
 have hall:=OS.all (n:=n) (t:=t) (R:=R) (f:=f) (A:=A) hf h.nodup h.lt t.P.length (Nat.le_refl _)
 refine mrun_st (fun seen X=>∃ o:List Int,X = (((),W,esF t t.P.length,(),(f:Int),(),n',f',()),(x,(ids,rows),o,()))∧OS n t R f A seen o) _ _ ⟨_,rfl,.nil hf⟩ ?_ ?_
 · intro seen X i q hb hn ⟨o,hX,hO⟩ hq hi
   subst hX
   obtain ⟨hik,rfl⟩:=esF_get hq
   rw [esF_len] at hb
   have hof:fv o f = A:=by
     rw [hO.rest f fun j hj e=>hfP (by rw [← e];exact getD_mem (hb j hj) 0),if_pos rfl]
   refine ⟨_,stepB h hf hik hA hO.len hof _ x ids rows n' f' _ _,_,rfl,hO.snoc (h.piv i hik).1 fun j hj e=>hi ?_⟩
   have:=inj_getD (i:=j) (j:=i) h.nodup (hb j hj) hik e
   rw [← this];exact hj
 · intro seen X hb hn hall2 ⟨o,hX,hO⟩
   subst hX
   rw [esF_len] at hb hall2
   have:=hO.uniq hall fun j=>⟨fun hj=>List.mem_range.2 (hb j hj),fun hj=>hall2 j (List.mem_range.1 hj)⟩
   rw [this]
def wts (n:Nat) (t:Stg) (R:Nat→Vec) (f:Nat):List Int:=osF t R f n (fw t R f) t.P.length
theorem wts_ok (h:RW n t R W) (hf:f < n) (hfP:f ∉ t.P):(wts n t R f).length = n∧WT n t R f (fv (wts n t R f)):=by
 have hL:=LS.all (t:=t) (R:=R) (f:=f) t.P.length fun j hj=>(h.piv j hj).2.1
 have hO:=OS.all (n:=n) (t:=t) (R:=R) (f:=f) (A:=fw t R f) hf h.nodup h.lt t.P.length (Nat.le_refl _)
 have hff:fv (wts n t R f) f = fw t R f:=by
   unfold wts
   rw [hO.rest f fun j hj e=>hfP (by rw [← e];exact getD_mem (List.mem_range.1 hj) 0),if_pos rfl]
 refine ⟨hO.len,fun k hk hkf=>?_,?_,fun j hj=>?_,fun m hm=>?_⟩
 · unfold wts
   rw [hO.rest k fun j hj e=>hk (by rw [← e];exact getD_mem (List.mem_range.1 hj) 0),if_neg hkf]
 · rw [hff]
   have:=hL.ne
   unfold fw
   omega
 · rw [hff]
   unfold wts
   rw [hO.own j (List.mem_range.2 hj)]
   obtain ⟨p1,p2,p3⟩:=h.piv j hj
   have hdv:R j (t.P.getD j 0) ∣ -(R j f) * fw t R f:=by
     by_cases hy:R j f = 0
     · rw [hy];simp
     · have h1:=hL.dvd j (List.mem_range.2 hj) hy
       rw [← Int.natAbs_dvd_natAbs,Int.natAbs_mul,Int.natAbs_neg]
       unfold fw
       rw [Int.natAbs_natCast]
       unfold dens den at h1
       have hg:0 < Nat.gcd (R j (t.P.getD j 0)).natAbs (R j f).natAbs:=Nat.gcd_pos_of_pos_left _ (by omega)
       have e1:(R j (t.P.getD j 0)).natAbs = Nat.gcd (R j (t.P.getD j 0)).natAbs (R j f).natAbs * ((R j (t.P.getD j 0)).natAbs / Nat.gcd (R j (t.P.getD j 0)).natAbs (R j f).natAbs):=(Nat.mul_div_cancel' (Nat.gcd_dvd_left _ _)).symm
       rw [e1]
       exact Nat.mul_dvd_mul (Nat.gcd_dvd_right _ _) h1
   exact Int.tdiv_mul_cancel hdv
 · rw [hff]
   unfold fw
   rw [Int.natAbs_natCast]
   exact hL.least m fun j hj hne=>hm j (List.mem_range.1 hj) hne
end
end Go.Pv
namespace Go.Pv
theorem nodup_len:∀ {L M:List (List Int)},L.Nodup→(∀ d ∈ L,d ∈ M)→L.length ≤ M.length
 | [],M,_,_=>by simp
 | a :: L,M,h,hs=>by
   have h1:=List.nodup_cons.1 h
   have ha:a ∈ M:=hs a (by simp)
   have ih:=nodup_len (L:=L) (M:=M.erase a) h1.2 (fun d hd=>by
     have hne:d ≠ a:=fun e=>h1.1 (e ▸ hd)
     exact (List.mem_erase_of_ne hne).2 (hs d (by simp [hd])))
   have hl:=List.length_erase_of_mem ha
   have hp:=List.length_pos_of_mem ha
   simp only [List.length_cons]
   omega
def allC:Nat→Nat→List (List Int)
 | 0,0=>[[]]
 | 0,_ + 1=>[]
 | n + 1,s=>(List.range (s + 1)).flatMap fun k=>(allC n (s - k)).map fun l=>(k:Int) :: l
theorem mem_allC:∀ (n s:Nat) (l:List Int),l.length = n→(∀ t ∈ l,0 ≤ t)→l.sum = (s:Int)→l ∈ allC n s
 | 0,0,[],_,_,_=>by simp [allC]
 | 0,s + 1,[],_,_,h=>by simp at h;omega
 | n + 1,s,a :: l,hl,hp,hs=>by
   have ha:=hp a (by simp)
   have hn:=sum_nonneg l (fun t ht=>hp t (by simp [ht]))
   simp only [List.sum_cons] at hs
   simp only [allC,List.mem_flatMap,List.mem_range,List.mem_map]
   refine ⟨a.toNat,by omega,l,mem_allC n (s - a.toNat) l (by simpa using hl) (fun t ht=>hp t (by simp [ht])) (by omega),by rw [Int.toNat_of_nonneg ha]⟩
def lensB:Bool:=[1,2,3,4,5].all fun n=>[0,1,2,3,4,5,6,7,8,9].all fun s=>decide ((allC n s).length ≤ 715)
theorem lens_ok:lensB = true:=by decide +kernel
theorem allC_len (n s:Nat) (h1:1 ≤ n) (h2:n ≤ 5) (h3:s ≤ 9):(allC n s).length ≤ 715:=by
 have h:=lens_ok
 unfold lensB at h
 have a:=List.all_eq_true.1 h n (by simp;omega)
 have b:=List.all_eq_true.1 a s (by simp;omega)
 exact of_decide_eq_true b
def nbr (x:PP) (c:List Int):List (List Int):=(x.2.2.2.1.filter fun r=>canR r c).map fun r=>stepR r c
def addN (L:List (List Int)) (d:List Int):List (List Int):=if d ∈ L then L else L ++ [d]
def rnd (x:PP) (L:List (List Int)) (c:List Int):List (List Int):=(nbr x c).foldl addN L
def bfs (x:PP):Nat→Nat→List (List Int)→List (List Int)
 | 0,_,L=>L
 | F + 1,i,L=>if i < L.length then bfs x F (i + 1) (rnd x L (L.getD i [])) else L
inductive Reach (x:PP):List Int→List Int→Prop
 | refl (c):Reach x c c
 | step {c d e}:Reach x c d→e ∈ nbr x d→Reach x c e
theorem Reach.trans {x:PP} {c d e:List Int} (h1:Reach x c d) (h2:Reach x d e):Reach x c e:=by
 induction h2 with
 | refl=>exact h1
 | step _ hn ih=>exact ih.step hn
theorem nbr_crowd {x:PP} (hx:PT x) {c d:List Int} (hc:Crowd c x.1) (hd:d ∈ nbr x c):Crowd d x.1∧d.sum = c.sum:=by
 unfold nbr at hd
 obtain ⟨r,hr,rfl⟩:=List.mem_map.1 hd
 obtain ⟨hr,hcan⟩:=List.mem_filter.1 hr
 have hro:=hx.rules.2.1 r hr
 refine ⟨hc.stepR hx hro hcan,?_⟩
 obtain ⟨p,q,s,t,rfl,hp,hq,hs,ht⟩:=rule_nat hro
 have hl:=hc.len
 exact stepL_sum (p:=p) (q:=q) (s:=s) (t:=t) (by omega) (by omega) (by omega) (by omega)
theorem Reach.crowd {x:PP} (hx:PT x) {c d:List Int} (h:Reach x c d) (hc:Crowd c x.1):Crowd d x.1∧d.sum = c.sum:=by
 induction h with
 | refl=>exact ⟨hc,rfl⟩
 | step _ hn ih =>
   obtain ⟨h1,h2⟩:=nbr_crowd hx ih.1 hn
   exact ⟨h1,h2.trans ih.2⟩
theorem addN_mem {L:List (List Int)} {d e:List Int}:e ∈ addN L d ↔ e ∈ L ∨ e = d:=by
 unfold addN
 split
 · rename_i h
   constructor
   · exact .inl
   · rintro (h1 | rfl)
     · exact h1
     · exact h
 · simp
theorem addN_nodup {L:List (List Int)} (h:L.Nodup) (d:List Int):(addN L d).Nodup:=by
 unfold addN
 split
 · exact h
 · rename_i hd
   rw [List.nodup_append]
   refine ⟨h,by simp,fun a ha b hb=>?_⟩
   obtain rfl:=List.mem_singleton.1 hb
   exact fun e=>hd (e ▸ ha)
theorem addN_pre (L:List (List Int)) (d:List Int):∃ T,addN L d = L ++ T:=by
 unfold addN
 split
 · exact ⟨[],by simp⟩
 · exact ⟨[d],rfl⟩
theorem fold_mem {ds:List (List Int)}:∀ {L:List (List Int)} {e:List Int},e ∈ ds.foldl addN L ↔ e ∈ L ∨ e ∈ ds:=by
 induction ds with
 | nil=>intro L e;simp
 | cons d ds ih =>
   intro L e
   rw [List.foldl_cons,ih,addN_mem,List.mem_cons,or_assoc]
theorem fold_nodup {ds:List (List Int)}:∀ {L:List (List Int)},L.Nodup→(ds.foldl addN L).Nodup:=by
 induction ds with
 | nil=>intro L h;exact h
 | cons d ds ih=>intro L h;exact ih (addN_nodup h d)
theorem fold_pre {ds:List (List Int)}:∀ (L:List (List Int)),∃ T,ds.foldl addN L = L ++ T:=by
 induction ds with
 | nil=>intro L;exact ⟨[],by simp⟩
 | cons d ds ih =>
   intro L
   obtain ⟨T,h1⟩:=addN_pre L d
   obtain ⟨T2,h2⟩:=ih (addN L d)
   exact ⟨T ++ T2,by rw [List.foldl_cons,h2,h1,List.append_assoc]⟩
structure BInv (x:PP) (c:List Int) (i:Nat) (L:List (List Int)):Prop where
 head:L.getD 0 [] = c∧0 < L.length
 nodup:L.Nodup
 reach:∀ d ∈ L,Reach x c d
 closed:∀ j,j < i→∀ e ∈ nbr x (L.getD j []),e ∈ L
 le:i ≤ L.length
theorem getD_app (L T:List (List Int)) (i:Nat) (h:i < L.length):(L ++ T).getD i [] = L.getD i []:=by
 simp only [List.getD_eq_getElem?_getD,List.getElem?_append,h,if_true]
theorem BInv.next {x:PP} {c:List Int} {i:Nat} {L:List (List Int)} (h:BInv x c i L) (hi:i < L.length):BInv x c (i + 1) (rnd x L (L.getD i [])):=by
 obtain ⟨T,hT⟩:=fold_pre (ds:=nbr x (L.getD i [])) L
 have hm:=h.reach _ (getD_mem hi [])
 refine ⟨?_,fold_nodup h.nodup,fun d hd=>?_,fun j hj e he=>?_,?_⟩
 · unfold rnd
   rw [hT,getD_app _ _ _ h.head.2]
   exact ⟨h.head.1,by have:=h.head.2;simp;omega⟩
 · rcases fold_mem.1 hd with hd | hd
   · exact h.reach d hd
   · exact hm.step hd
 · unfold rnd at he ⊢
   refine fold_mem.2 ?_
   rw [hT,getD_app _ _ _ (by omega)] at he
   by_cases hji:j = i
   · subst hji;exact .inr he
   · exact .inl (h.closed j (by omega) e he)
 · unfold rnd
   rw [hT];simp;omega
theorem BInv.len {x:PP} (hx:PT x) {c:List Int} (hc:Crowd c x.1) {i:Nat} {L:List (List Int)} (h:BInv x c i L):L.length ≤ 715:=by
 have hn:=hx.n
 have hs:=hc.sum
 refine Nat.le_trans (nodup_len h.nodup (M:=allC x.1.toNat c.sum.toNat) fun d hd=>?_) (allC_len _ _ (by omega) (by omega) (by omega))
 obtain ⟨h1,h2⟩:=(h.reach d hd).crowd hx hc
 have:=h1.len
 exact mem_allC _ _ d (by omega) h1.pos (by rw [h2];omega)
theorem BInv.start (x:PP) (c:List Int):BInv x c 0 [c] :=
 ⟨⟨rfl,by simp⟩,by simp,fun d hd=>by obtain rfl:=List.mem_singleton.1 hd;exact .refl d,fun j hj=>by omega,by simp⟩
structure Found (x:PP) (c:List Int) (L:List (List Int)):Prop where
 head:L.getD 0 [] = c∧0 < L.length
 nodup:L.Nodup
 mem:∀ d,d ∈ L ↔ Reach x c d
 len:L.length ≤ 715
theorem BInv.found {x:PP} (hx:PT x) {c:List Int} (hc:Crowd c x.1) {L:List (List Int)} (h:BInv x c L.length L):Found x c L:=by
 refine ⟨h.head,h.nodup,fun d=>⟨h.reach d,fun hr=>?_⟩,h.len hx hc⟩
 induction hr with
 | refl=>rw [← h.head.1];exact getD_mem h.head.2 []
 | step _ hn ih =>
   obtain ⟨j,hj,rfl⟩:=List.getElem_of_mem ih
   refine h.closed j hj _ ?_
   rw [List.getD_eq_getElem?_getD,List.getElem?_eq_getElem hj]
   exact hn
theorem bfs_found {x:PP} (hx:PT x) {c:List Int} (hc:Crowd c x.1):∀ (F i:Nat) (L:List (List Int)),BInv x c i L→715 < F + i→Found x c (bfs x F i L)
 | 0,i,L,h,hF=>by have:=h.len hx hc;have:=h.le;omega
 | F + 1,i,L,h,hF=>by
   unfold bfs
   split
   · rename_i hi
     exact bfs_found hx hc F (i + 1) _ (h.next hi) (by omega)
   · rename_i hi
     have:i = L.length:=by have:=h.le;omega
     subst this
     exact h.found hx hc
end Go.Pv
namespace Go.Pv
section
variable {α β:Type} {eq:α→α→Bool} (heq:∀ a b,eq a b = true ↔ a = b)
include heq
theorem find_put [DecidableEq α] (k k':α) (v:β):∀ m:List (α×β),mapFind eq k' (mapPut eq k v m) = if k' = k then some v else mapFind eq k' m
 | []=>by
   simp only [mapPut,mapFind]
   by_cases h:k' = k
   · rw [if_pos ((heq _ _).2 h),if_pos h]
   · rw [if_neg (fun h2=>h ((heq _ _).1 h2)),if_neg h]
 | q :: r=>by
   simp only [mapPut]
   by_cases h1:eq k q.1 = true
   · rw [if_pos h1]
     have e1:=(heq _ _).1 h1
     simp only [mapFind]
     by_cases h:k' = k
     · rw [if_pos ((heq _ _).2 h),if_pos h]
     · have h2:¬ (eq k' q.1 = true):=fun h2=>h ((heq _ _).1 h2 |>.trans e1.symm)
       have h3:¬ (eq k' k = true):=fun h2=>h ((heq _ _).1 h2)
       rw [if_neg h3,if_neg h,if_neg h2]
   · rw [if_neg h1]
     simp only [mapFind]
     by_cases h2:eq k' q.1 = true
     · have e2:=(heq _ _).1 h2
       have h:k' ≠ k:=fun h=>h1 ((heq _ _).2 (h.symm.trans e2))
       rw [if_pos h2,if_neg h,if_pos h2]
     · rw [if_neg h2,find_put k k' v r,if_neg h2]
end
theorem int_eq (a b:Int):Ty.beq (.int .i64) a b = true ↔ a = b:=by
 show ieq a b = true ↔ a = b
 simp [ieq]
def allL (x:PP) (c:List Int):List (List Int):=bfs x 2000 0 [c]
theorem allL_found {x:PP} (hx:PT x) {c:List Int} (hc:Crowd c x.1):Found x c (allL x c):=bfs_found hx hc 2000 0 [c] (.start x c) (by omega)
end Go.Pv
namespace Go.Pv
theorem first90 {r:List Int} {p:Nat} (hl:r.length ≤ 1000) (hp:p < r.length) (hne:r.getD p 0 ≠ 0) (hz:∀ l,l < p→r.getD l 0 = 0):g90 2000 r (fun (x5:(Int)×(Unit))=>Option.bind (g91 2000 x5.1) fun y6=>some y6) = some (p:Int):=by
 unfold g90
 rw [g90L26_eq]
 have:∀ (F i:Nat),p - i < F→i ≤ p→g90L26f 2000 F (fun e2=>some e2) (some (-1)) r (fun (x5:(Int)×(Unit))=>Option.bind (g91 2000 x5.1) fun y6=>some y6) (r.length:Int) (i:Int) = some (p:Int):=by
   intro F
   induction F with
   | zero=>intro i h;omega
   | succ F ih =>
     intro i h hi
     rw [g90L26f_succ]
     unfold g90L26B
     have e1:decide ((i:Int) < (r.length:Int)) = true:=by simp;omega
     rw [e1,cond_true,if_pos (ix (by omega)),Int.toNat_natCast]
     unfold g91
     simp only [Option.bind_some]
     by_cases hip:i = p
     · subst hip
       rw [show ieq (r.getD i 0) 0 = false from decide_eq_false hne,Bool.not_false,cond_true]
     · rw [hz i (by omega),ieq_self,Bool.not_true,cond_false,wn i (by omega)]
       exact ih (i + 1) (by omega) (by omega)
 have h0:=this 2000 0 (by omega) (by omega)
 simp only [Int.natCast_zero] at h0
 exact h0
theorem mapPut_new {β:Type} (k:Int) (v:β):∀ m:List (Int×β),(∀ q ∈ m,q.1 ≠ k)→mapPut (Ty.beq (.int .i64)) k v m = m ++ [(k,v)]
 | [],_=>rfl
 | q :: m,h=>by
   unfold mapPut
   rw [if_neg (fun e=>h q (by simp) ((int_eq k q.1).1 e).symm),mapPut_new k v m fun r hr=>h r (by simp [hr])]
   rfl
theorem mapFind_int {β:Type} (k:Int):∀ m:List (Int×β),(mapFind (Ty.beq (.int .i64)) k m).isSome = decide (∃ q ∈ m,q.1 = k)
 | []=>by simp [mapFind]
 | q :: m=>by
   unfold mapFind
   by_cases h:Ty.beq (.int .i64) k q.1 = true
   · rw [if_pos h]
     have:=(int_eq k q.1).1 h
     simp [this]
   · rw [if_neg h,mapFind_int k m]
     have h2:¬ q.1 = k:=fun e=>h ((int_eq k q.1).2 e.symm)
     simp [h2]
section
variable {n:Nat} {t:Stg} {R:Nat→Vec} {W:List (List Int)}
theorem firsts_loop {C:Type} (k0:List (List Int)→PP→List (Int×Int)→Option C) (h:RW n t R W) (hn:n ≤ 5) (x:PP) :
   ∀ (F i:Nat),t.P.length - i < F→i ≤ t.P.length→g67L506f 2000 F k0 W W (t.P.length:Int) (i:Int) x (esF t i) = k0 W x (esF t t.P.length)
 | 0,i,hF,_=>by omega
 | F + 1,i,hF,hi=>by
   rw [g67L506f_succ]
   unfold g67L506B
   have hW:=h.len
   have hle:=h.le
   by_cases hlt:i < t.P.length
   · have e1:decide ((i:Int) < (t.P.length:Int)) = true:=by simp;omega
     obtain ⟨p1,p2,p3⟩:=h.piv i hlt
     have hr:=h.row i hlt
     rw [e1,cond_true,if_pos (ix (by omega)),Int.toNat_natCast,first90 (p:=t.P.getD i 0) (by omega) (by omega) (by rw [h.get hlt];exact p2) (fun l hl=>by rw [h.get hlt];exact p3 l hl)]
     simp only [Option.bind_some]
     rw [wn i (by omega),mapPut_new _ _ _ fun q hq=>by
       unfold esF at hq
       obtain ⟨j,hj,rfl⟩:=List.mem_map.1 hq
       have hj:=List.mem_range.1 hj
       intro e
       have e2:t.P.getD j 0 = t.P.getD i 0:=by
         dsimp only at e
         omega
       have:=inj_getD (i:=j) (j:=i) h.nodup (by omega) hlt e2
       omega]
     have:esF t i ++ [(((t.P.getD i 0:Nat):Int),(i:Int))] = esF t (i + 1):=by unfold esF;rw [List.range_succ,List.map_append];rfl
     rw [this]
     exact firsts_loop k0 h hn x F (i + 1) (by omega) (by omega)
   · have e1:decide ((i:Int) < (t.P.length:Int)) = false:=by simp;omega
     have:i = t.P.length:=by omega
     rw [e1,cond_false,this]
theorem esF_find (f:Nat):(mapFind (Ty.beq (.int .i64)) (f:Int) (esF t t.P.length)).isSome = t.P.contains f:=by
 rw [mapFind_int]
 rw [Bool.eq_iff_iff]
 rw [decide_eq_true_iff,List.contains_iff_mem]
 constructor
 · rintro ⟨q,hq,he⟩
   unfold esF at hq
   obtain ⟨j,hj,rfl⟩:=List.mem_map.1 hq
   have:t.P.getD j 0 = f:=by dsimp only at he;omega
   rw [← this]
   exact getD_mem (List.mem_range.1 hj) 0
 · intro hf
   obtain ⟨j,hj,rfl⟩:=List.getElem_of_mem hf
   refine ⟨(((t.P.getD j 0:Nat):Int),(j:Int)),?_,?_⟩
   · unfold esF
     exact List.mem_map.2 ⟨j,List.mem_range.2 hj,rfl⟩
   · rw [List.getD_eq_getElem?_getD,List.getElem?_eq_getElem hj];rfl
theorem filt_len (p:Nat→Bool):∀ l:List Nat,(l.filter p).length + (l.filter fun f=>!p f).length = l.length
 | []=>rfl
 | a :: l=>by
   have:=filt_len p l
   cases h:p a <;> simp only [List.filter_cons,h,Bool.not_true,Bool.not_false,Bool.false_eq_true,if_true,if_false,List.length_cons] <;> omega
def frees (t:Stg) (c:Nat):List Nat:=(List.range c).filter fun f=>!t.P.contains f
theorem mem_frees {c f:Nat}:f ∈ frees t c ↔ f < c∧f ∉ t.P:=by
 unfold frees
 rw [List.mem_filter,List.mem_range]
 simp
theorem frees_len (hn:t.P.Nodup) (hlt:∀ p ∈ t.P,p < n):(frees t n).length + t.P.length = n:=by
 have h1:=filt_len (fun f=>!t.P.contains f) (List.range n)
 rw [List.length_range] at h1
 have h2:((List.range n).filter fun f=>!(!t.P.contains f)).length = t.P.length:=by
   have a1:=nodup_nat (List.nodup_range.sublist (List.filter_sublist (p:=fun f=>!(!t.P.contains f)) (l:=List.range n))) (M:=t.P) fun d hd=>by
     have:=(List.mem_filter.1 hd).2
     simpa using this
   have a2:=nodup_nat hn (M:=(List.range n).filter fun f=>!(!t.P.contains f)) fun d hd=>by
     rw [List.mem_filter,List.mem_range]
     exact ⟨hlt d hd,by simpa using hd⟩
   omega
 unfold frees
 omega
theorem basis_loop {C:Type} (k0:PP→List Nat→List (Option (List Int))→Option C) (h:RW n t R W) (hn:n ≤ 5) (hD:∀ f,f < n→f ∉ t.P→∃ D:Nat,0 < D∧D ≤ 512∧∀ j,j < t.P.length→dens t R f j ∣ D) (x:PP) (hx:x.1 = (n:Int)) :
   ∀ (F f:Nat) (ids:List Nat) (rows:List (Option (List Int))),n - f < F→f ≤ n→GR ids rows ((frees t f).map (wts n t R))→∃ ids' rows',GR ids' rows' ((frees t n).map (wts n t R))∧g67L2042f 2000 F k0 W (esF t t.P.length) (n:Int) (f:Int) x ids rows = k0 x ids' rows'
 | 0,f,ids,rows,hF,_,_=>by omega
 | F + 1,f,ids,rows,hF,hf,hG=>by
   rw [g67L2042f_succ]
   unfold g67L2042B
   by_cases hlt:f < n
   · have e1:decide ((f:Int) < (n:Int)) = true:=by simp;omega
     rw [e1,cond_true,esF_find]
     by_cases hfP:f ∈ t.P
     · rw [List.contains_iff_mem.2 hfP,cond_true,wn f (by omega)]
       refine basis_loop k0 h hn hD x hx F (f + 1) ids rows (by omega) (by omega) ?_
       have:frees t (f + 1) = frees t f:=by
         unfold frees
         rw [List.range_succ,List.filter_append]
         simp [hfP]
       rw [this];exact hG
     · have hc:t.P.contains f = false:=by
         cases hb:t.P.contains f with
         | false=>rfl
         | true=>exact absurd (List.contains_iff_mem.1 hb) hfP
       obtain ⟨D,hD0,hD1,hD2⟩:=hD f hlt hfP
       have hL:=LS.all (t:=t) (R:=R) (f:=f) t.P.length fun j hj=>(h.piv j hj).2.1
       have hle:=hL.le hD0 hD1 fun j hj=>hD2 j (List.mem_range.1 hj)
       have hfw:imax (lsF t R f t.P.length) (IntKind.wrap .i64 (ineg (lsF t R f t.P.length))) = fw t R f:=by
         unfold fw
         rw [show ineg (lsF t R f t.P.length) = -(lsF t R f t.P.length) from Int.zero_sub _,w64 (by omega) (by omega)]
         simp only [imax]
         split <;> omega
       have hfw2:0 ≤ fw t R f∧fw t R f ≤ 512:=by unfold fw;omega
       have hil:=hG.len
       have hfl:(frees t f).length ≤ f:=by
         unfold frees
         refine Nat.le_trans (List.length_filter_le _ _) ?_
         simp
       rw [List.length_map] at hil
       rw [hc,cond_false,runA h hlt hD0 hD1 hD2]
       simp only [Option.bind_some]
       rw [hx,if_pos (mkOk_n hn),Int.toNat_natCast,if_pos (ix (by rw [List.length_replicate];exact hlt)),if_pos (tnlt (by rw [List.length_replicate];exact hlt)),Int.toNat_natCast,hfw,runB h hlt hfP hfw2]
       simp only [Option.bind_some]
       rw [if_pos (by simp [maxCount];omega),wn f (by omega)]
       have hadd:=hG.snoc (wts n t R f)
       have:frees t (f + 1) = frees t f ++ [f]:=by
         unfold frees
         rw [List.range_succ,List.filter_append]
         simp [hfP]
       have e2:(frees t f).map (wts n t R) ++ [wts n t R f] = (frees t (f + 1)).map (wts n t R):=by rw [this,List.map_append];rfl
       rw [e2] at hadd
       exact basis_loop k0 h hn hD x hx F (f + 1) _ _ (by omega) (by omega) hadd
   · have e1:decide ((f:Int) < (n:Int)) = false:=by simp;omega
     have:f = n:=by omega
     subst this
     rw [e1,cond_false]
     exact ⟨ids,rows,hG,rfl⟩
end
structure Bas (x:PP) (t:Stg) (R:Nat→Vec) (m:Nat):Prop where
 elim:Elim 0 x.1.toNat ⟨idM,[],(chgs x).map fv⟩ t
 si:SI x.1.toNat x.1.toNat ((chgs x).map fv) t
 ab:AB ((chgs x).map fv) t
 pr:PR x.1.toNat t m R
 le:t.P.length ≤ 4
 ok:∀ f,f < x.1.toNat→f ∉ t.P→(wts x.1.toNat t R f).length = x.1.toNat∧WT x.1.toNat t R f (fv (wts x.1.toNat t R f))
 rul:∀ v ∈ (chgs x).map fv,Rul x.1.toNat v
theorem basis67 {x:PP} (hx:PT x):∃ t R m,Bas x t R m∧g67 2000 x = some ((frees t x.1.toNat).map (wts x.1.toNat t R)):=by
 obtain ⟨hn1,hn2⟩:=hx.n
 have hr15:=hx.rules.1
 have hn:x.1 = ((x.1.toNat:Nat):Int):=by omega
 have hlen:∀ r ∈ chgs x,r.length = x.1.toNat:=fun r hr=>by
   obtain ⟨q,_,rfl⟩:=List.mem_map.1 hr
   exact chg_len _ _
 have hV:∀ r ∈ chgs x,Rul x.1.toNat (fv r):=fun r hr=>by
   obtain ⟨q,hq,rfl⟩:=List.mem_map.1 hr
   exact rul_chg (by omega) (by rw [← hn];exact hx.rules.2.1 q hq)
 have hV':∀ v ∈ (chgs x).map fv,Rul x.1.toNat v:=fun v hv=>by
   obtain ⟨r,hr,rfl⟩:=List.mem_map.1 hv
   exact hV r hr
 unfold g67
 rw [g67L58_eq]
 obtain ⟨ids,rows,hG,he⟩:=rows67 (fun e1 e2 e3=>Option.bind (g89x 2000 e2 e3) fun r4=>g67L506 2000 (fun e8 e9 e10=>g67L2042 2000 (fun e15 e16 e17=>Option.bind (gridAll e17 e16) fun r18=>some r18) e8 e10 e9.1 0 e9 ([]:List Nat) ([]:List (Option (List (Int))))) r4.1.1 r4.1.1 ((List.length r4.1.1:Nat):Int) 0 e1 ([]:List ((Int)×(Int)))) hx 2000 0 [] [] (by omega) (by omega) ⟨rfl,fun i hi=>(by simp at hi),List.nodup_nil⟩
 simp only [Int.natCast_zero] at he
 have hcl:(chgs x).length ≤ 1000:=by unfold chgs;rw [List.length_map];omega
 obtain ⟨t,M',a1,a2,a3,a4,a5,a6,a7,a8⟩:=reduced89 (n:=x.1.toNat) (by omega) (by omega) hcl hG hlen hV
 have hPm:=a4.len
 have hget:∀ j,j < t.P.length→(M'.take t.P.length).getD j [] = M'.getD j []:=fun j hj=>by
   simp [List.getD_eq_getElem?_getD,List.getElem?_take,hj]
 have hbn:bnd t.P.length ≤ 2147483648:=by
   have:∀ j,j ≤ 4→bnd j ≤ 2147483648:=fun j hj=>by
     match j,hj with
     | 0,_=>decide
     | 1,_=>decide
     | 2,_=>decide
     | 3,_=>decide
     | 4,_=>decide
   exact this _ a5
 have hRW:RW x.1.toNat t (fun j=>fv (M'.getD j [])) (M'.take t.P.length):=by
   refine ⟨by rw [List.length_take];omega,fun j hj=>by rw [hget j hj];exact a7 j (by omega),fun j hj=>by rw [hget j hj],fun j hj=>?_,fun j hj k=>?_,a2.nodup,a5,a2.lt⟩
   · obtain ⟨b1,b2,b3,b4⟩:=a4.piv j hj
     exact ⟨a2.lt _ (getD_mem hj 0),b2,b4⟩
   · have:=a4.bd j (by omega) k
     omega
 refine ⟨t,fun j=>fv (M'.getD j []),(chgs x).length,⟨a1,a2,a3,a4,a5,fun f hf hfP=>wts_ok hRW hf hfP,hV'⟩,?_⟩
 refine he.trans ?_
 rw [a8]
 simp only [Option.bind_some]
 have hWl:(M'.take t.P.length).length = t.P.length:=hRW.len
 rw [hWl,g67L506_eq]
 have f1:=firsts_loop (fun e8 e9 e10=>g67L2042 2000 (fun e15 e16 e17=>Option.bind (gridAll e17 e16) fun r18=>some r18) e8 e10 e9.1 0 e9 ([]:List Nat) ([]:List (Option (List (Int))))) hRW (by omega) x 2000 0 (by omega) (by omega)
 refine f1.trans ?_
 rw [g67L2042_eq]
 obtain ⟨ids2,rows2,b1,b2⟩:=basis_loop (fun e15 e16 e17=>Option.bind (gridAll e17 e16) fun r18=>some r18) hRW (by omega) (fun f hf hfP=>dens_le (by omega) hV' a2 a3 a4 a5 hf hfP) x hn 2000 0 [] [] (by omega) (by omega) ⟨rfl,fun i hi=>(by simp [frees] at hi),List.nodup_nil⟩
 simp only [Int.natCast_zero] at b2
 rw [← hn] at b2
 refine b2.trans ?_
 rw [b1.allGR]
 rfl
end Go.Pv
namespace Go.Pv
def dbnd:Nat→Int
 | 0=>9
 | j + 1=>2 * (dbnd j * bnd j)
theorem bnd_dbnd:∀ j,bnd j ≤ dbnd j
 | 0=>by decide
 | j + 1=>by
   have h:=bnd_dbnd j
   have hp:=bnd_pos j
   have:=Int.mul_le_mul_of_nonneg_right h (show 0 ≤ bnd j by omega)
   show 2 * (bnd j * bnd j) ≤ 2 * (dbnd j * bnd j)
   omega
theorem bnd_succ (j:Nat):bnd j ≤ bnd (j + 1):=by
 have hp:=bnd_pos j
 have:=Int.mul_le_mul_of_nonneg_left hp (show 0 ≤ bnd j by omega)
 show bnd j ≤ 2 * (bnd j * bnd j)
 omega
theorem dbnd_le:∀ j,j ≤ 3→dbnd j ≤ 147456
 | 0,_=>by decide
 | 1,_=>by decide
 | 2,_=>by decide
 | 3,_=>by decide
 | j + 4,h=>by omega
structure RelN (own:Vec) (c:Nat) (r r':Vec):Prop where
 eq:∃ g:Int,g ≠ 0∧∀ k,g * r' k = r k * own c - own k * r c
 le:∀ k,(r' k).natAbs ≤ (r k * own c - own k * r c).natAbs
 same:r c = 0→∀ k,(r' k).natAbs ≤ (r k).natAbs
structure RR (s:Stg) (m:Nat) (R:Nat→Vec):Prop where
 len:m = s.P.length + s.V.length
 low:∀ i,i < s.V.length→Par (R (s.P.length + i)) (app s.A (s.V.getD i (fun _=>0)))
 sum:∀ j,s.P.length ≤ j→j + 1 < m→sum5 (R j) = 0
 bd:∀ j,s.P.length ≤ j→j < m→Bdd (if j + 1 = m then dbnd s.P.length else bnd s.P.length) (R j)
theorem RR.zero_before {n c i m:Nat} {V0:List Vec} {s:Stg} {R R1:Nat→Vec} (h:RR s m R) (hf:FirstAt c i s)
   (h1:∀ j,R1 j = if j = s.P.length then R (s.P.length + i) else if j = s.P.length + i then R s.P.length else R j) (hl:s.P.length + i + 1 = m) {j:Nat} (hj:s.P.length < j) (hjm:j < m):R1 j c = 0:=by
 have hz:∀ l,l < i→R (s.P.length + l) c = 0:=fun l hl=>((h.low l (by have:=hf.1;omega)).zero c).2 (hf.2.2 l hl)
 rw [h1,if_neg (by omega)]
 split
 · exact hz 0 (by omega)
 · have:=hz (j - s.P.length) (by omega)
   rwa [show s.P.length + (j - s.P.length) = j by omega] at this
theorem RR.bd1 {c i m:Nat} {s:Stg} {R R1:Nat→Vec} (h:RR s m R) (hf:FirstAt c i s)
   (h1:∀ j,R1 j = if j = s.P.length then R (s.P.length + i) else if j = s.P.length + i then R s.P.length else R j) {j:Nat} (hj:s.P.length < j) (hjm:j < m):Bdd (if j + 1 = m∧s.P.length + i + 1 ≠ m then dbnd s.P.length else bnd s.P.length) (R1 j):=by
 have hm:=h.len
 have hi:=hf.1
 have e:R1 j = if j = s.P.length + i then R s.P.length else R j:=by rw [h1,if_neg (by omega)]
 by_cases hji:j = s.P.length + i
 · rw [e,if_pos hji,if_neg (fun h=>h.2 (by omega))]
   have:=h.bd s.P.length (Nat.le_refl _) (by omega)
   rwa [if_neg (by omega)] at this
 · rw [e,if_neg hji]
   have:=h.bd j (by omega) hjm
   by_cases hjl:j + 1 = m
   · rw [if_pos hjl] at this
     rw [if_pos ⟨hjl,by omega⟩];exact this
   · rw [if_neg hjl] at this
     rw [if_neg (fun h=>hjl h.1)];exact this
theorem RR.take {n c i m:Nat} {V0:List Vec} {s:Stg} {R R1 R2:Nat→Vec} (hs:SI n c V0 s) (h:RR s m R) (hf:FirstAt c i s)
   (h1:∀ j,R1 j = if j = s.P.length then R (s.P.length + i) else if j = s.P.length + i then R s.P.length else R j)
   (hr:∀ j,s.P.length < j→j < m→RelN (R1 s.P.length) c (R1 j) (R2 j)):RR (takeS c i s) m R2:=by
 have hi:=hf.1
 have hne:=hf.2.1
 have hPl:(takeS c i s).P.length = s.P.length + 1:=by simp [takeS]
 have hVl:=len_take s c i
 have hm:=h.len
 have e0:R1 s.P.length = R (s.P.length + i):=by rw [h1,if_pos rfl]
 have hown:Par (R1 s.P.length) (app s.A (s.V.getD i (fun _=>0))):=by rw [e0];exact h.low i hi
 refine ⟨by rw [hPl,hVl];omega,fun j hj=>?_,fun j hj hjm=>?_,fun j hj hjm=>?_⟩
 · rw [hVl] at hj
   rw [hPl,get_take (by omega),take_A]
   obtain ⟨g,hg,he⟩:=(hr (s.P.length + 1 + j) (by omega) (by omega)).eq
   have hpar:Par (R1 (s.P.length + 1 + j)) (app s.A (if j + 1 = i then s.V.getD 0 (fun _=>0) else s.V.getD (j + 1) (fun _=>0))):=by
     rw [h1,if_neg (by omega)]
     by_cases hji:j + 1 = i
     · rw [if_pos (by omega),if_pos hji]
       exact h.low 0 (by omega)
     · rw [if_neg (by omega),if_neg hji]
       have:=h.low (j + 1) (by omega)
       rwa [show s.P.length + (j + 1) = s.P.length + 1 + j by omega] at this
   have hst:=hpar.step hown hg c he
   have ef:app (updM s.A (app s.A (s.V.getD i (fun _=>0))) c) (if j + 1 = i then s.V.getD 0 (fun _=>0) else s.V.getD (j + 1) (fun _=>0)) = fun k=>app s.A (if j + 1 = i then s.V.getD 0 (fun _=>0) else s.V.getD (j + 1) (fun _=>0)) k * app s.A (s.V.getD i (fun _=>0)) c - app s.A (s.V.getD i (fun _=>0)) k * app s.A (if j + 1 = i then s.V.getD 0 (fun _=>0) else s.V.getD (j + 1) (fun _=>0)) c:=by
     funext k
     rw [app_upd,Int.mul_comm (app s.A (s.V.getD i (fun _=>0)) c)]
   rw [ef]
   exact hst
 · rw [hPl] at hj
   obtain ⟨g,hg,he⟩:=(hr j (by omega) (by omega)).eq
   have s1:sum5 (R1 j) = 0:=by
     rw [h1,if_neg (by omega)]
     split
     · exact h.sum _ (by omega) (by omega)
     · exact h.sum _ (by omega) (by omega)
   have s2:sum5 (R1 s.P.length) * R1 j c = 0:=by
     by_cases hl:s.P.length + i + 1 = m
     · rw [h.zero_before (n:=n) (V0:=V0) hf h1 hl (by omega) (by omega),Int.mul_zero]
     · rw [e0,h.sum _ (by omega) (by omega),Int.zero_mul]
   refine (Int.mul_eq_zero.1 (?_:g * _ = 0)).resolve_left hg
   unfold sum5 at s1 s2 ⊢
   have k0:=he 0
   have k1:=he 1
   have k2:=he 2
   have k3:=he 3
   have k4:=he 4
   calc g * (R2 j 0 + R2 j 1 + R2 j 2 + R2 j 3 + R2 j 4) = g * R2 j 0 + g * R2 j 1 + g * R2 j 2 + g * R2 j 3 + g * R2 j 4:=by grind
     _ = (R1 j 0 + R1 j 1 + R1 j 2 + R1 j 3 + R1 j 4) * R1 s.P.length c - (R1 s.P.length 0 + R1 s.P.length 1 + R1 s.P.length 2 + R1 s.P.length 3 + R1 s.P.length 4) * R1 j c:=by rw [k0,k1,k2,k3,k4];grind
     _ = 0:=by rw [s1,s2];simp
 · rw [hPl] at hj
   have hrel:=hr j (by omega) hjm
   have b1:=h.bd1 hf h1 (j:=j) (by omega) hjm
   have hbd:=bnd_dbnd s.P.length
   have hbs:=bnd_succ s.P.length
   have hbds:=bnd_dbnd (s.P.length + 1)
   rw [hPl]
   by_cases hl:s.P.length + i + 1 = m
   · have z:=h.zero_before (n:=n) (V0:=V0) hf h1 hl (j:=j) (by omega) hjm
     rw [if_neg (fun h=>h.2 hl)] at b1
     intro k
     have q1:=hrel.same z k
     have q2:=b1 k
     split <;> omega
   · have bo:Bdd (bnd s.P.length) (R1 s.P.length):=by
       rw [e0]
       have:=h.bd (s.P.length + i) (by omega) (by omega)
       rwa [if_neg hl] at this
     have hbp:=bnd_pos s.P.length
     intro k
     have q1:=hrel.le k
     by_cases hjl:j + 1 = m
     · rw [if_pos ⟨hjl,hl⟩] at b1
       rw [if_pos hjl]
       have m1:=mul_bd (b1 k) (bo c) (by omega) (by omega)
       have m2:=mul_bd (bo k) (b1 c) (by omega) (by omega)
       rw [Int.mul_comm (bnd s.P.length)] at m2
       show -(2 * (dbnd s.P.length * bnd s.P.length)) ≤ _∧_ ≤ 2 * (dbnd s.P.length * bnd s.P.length)
       omega
     · rw [if_neg (fun h=>hjl h.1)] at b1
       rw [if_neg hjl]
       have m1:=mul_bd (b1 k) (bo c) (by omega) (by omega)
       have m2:=mul_bd (bo k) (b1 c) (by omega) (by omega)
       show -(2 * (bnd s.P.length * bnd s.P.length)) ≤ _∧_ ≤ 2 * (bnd s.P.length * bnd s.P.length)
       omega
theorem RR.fit {n c i m:Nat} {V0:List Vec} {s:Stg} {R R1:Nat→Vec} (hs:SI n c V0 s) (h:RR s m R) (hc5:c < 5) (hf:FirstAt c i s) (hz5:∀ j k,5 ≤ k→R j k = 0)
   (h1:∀ j,R1 j = if j = s.P.length then R (s.P.length + i) else if j = s.P.length + i then R s.P.length else R j) {j:Nat} (hj:s.P.length < j) (hjm:j < m) (k l:Nat) :
   -2000000000000000000 ≤ R1 j k * R1 s.P.length l∧R1 j k * R1 s.P.length l ≤ 2000000000000000000:=by
 have hm:=h.len
 have hi:=hf.1
 have hle:=hs.le
 by_cases h3:s.P.length ≤ 3
 · have hd:=dbnd_le _ h3
   have hbd:=bnd_dbnd s.P.length
   have hbp:=bnd_pos s.P.length
   have b1:=h.bd1 hf h1 hj hjm k
   have b2:=h.bd (s.P.length + i) (by omega) (by omega) l
   rw [h1 s.P.length,if_pos rfl]
   have c1:-147456 ≤ R1 j k∧R1 j k ≤ 147456:=by
     split at b1 <;> omega
   have c2:-147456 ≤ R (s.P.length + i) l∧R (s.P.length + i) l ≤ 147456:=by
     split at b2 <;> omega
   have:=mul_bd c1 c2 (by omega) (by omega)
   omega
 · have hc:c = 4:=by omega
   subst hc
   have hP:s.P.length = 4:=by omega
   have zr:∀ q,q < s.V.length→s.P.length + q + 1 < m→∀ k,R (s.P.length + q) k = 0:=fun q hq hqm k=>by
     have hp:=h.low q hq
     have hz:∀ d,d < 4→R (s.P.length + q) d = 0:=fun d hd=>(hp.zero d).2 (hs.zero _ (getD_mem hq _) d hd)
     have hsm:=h.sum (s.P.length + q) (by omega) hqm
     unfold sum5 at hsm
     have z0:=hz 0 (by omega)
     have z1:=hz 1 (by omega)
     have z2:=hz 2 (by omega)
     have z3:=hz 3 (by omega)
     have hk:k = 0 ∨ k = 1 ∨ k = 2 ∨ k = 3 ∨ k = 4 ∨ 5 ≤ k:=by omega
     rcases hk with rfl | rfl | rfl | rfl | rfl | hk
     · exact z0
     · exact z1
     · exact z2
     · exact z3
     · omega
     · exact hz5 _ _ hk
   have hl:s.P.length + i + 1 = m:=by
     rcases Nat.lt_or_ge (s.P.length + i + 1) m with h4 | h4
     · have:=zr i hi h4 4
       exact absurd (((h.low i hi).zero 4).1 this) hf.2.1
     · omega
   have:R1 j k = 0:=by
     rw [h1,if_neg (by omega)]
     split
     · exact zr 0 (by omega) (by omega) k
     · have:=zr (j - s.P.length) (by omega) (by omega) k
       rwa [show s.P.length + (j - s.P.length) = j by omega] at this
   rw [this,Int.zero_mul]
   omega
theorem gcd93 (N:Nat) {C:Type} (k0:Int→Option C):∀ (k F:Nat) (a b:Int),2 * k + 1 < F→b.natAbs < 2 ^ k→∃ r:Int,r.natAbs = Nat.gcd a.natAbs b.natAbs∧g93L12f N F k0 a b = k0 r:=by
 have zero:∀ (F:Nat) (a:Int),0 < F→g93L12f N F k0 a 0 = k0 a:=by
   intro F a h
   obtain ⟨F,rfl⟩:∃ G,F = G + 1:=⟨F - 1,by omega⟩
   rw [g93L12f_succ]
   unfold g93L12B
   rw [ieq_self,Bool.not_true,cond_false]
 have step:∀ (F:Nat) (a b:Int),b ≠ 0→g93L12f N (F + 1) k0 a b = g93L12f N F k0 b (Int.tmod a b):=by
   intro F a b hb
   rw [g93L12f_succ]
   unfold g93L12B
   rw [show ieq b 0 = false from decide_eq_false hb,Bool.not_false,cond_true,if_neg hb]
 intro k
 induction k with
 | zero =>
   intro F a b hF hb
   have:b = 0:=by simp at hb;omega
   subst this
   exact ⟨a,by simp,zero F a (by omega)⟩
 | succ k ih =>
   intro F a b hF hb
   by_cases hb0:b = 0
   · subst hb0
     exact ⟨a,by simp,zero F a (by omega)⟩
   · obtain ⟨F,rfl⟩:∃ G,F = G + 1:=⟨F - 1,by omega⟩
     rw [step F a b hb0]
     have g1:Nat.gcd a.natAbs b.natAbs = Nat.gcd b.natAbs (Int.tmod a b).natAbs:=by
       rw [Int.natAbs_tmod,Nat.gcd_comm a.natAbs,Nat.gcd_rec,Nat.gcd_comm]
     by_cases hr0:Int.tmod a b = 0
     · rw [hr0,zero F b (by omega)]
       exact ⟨b,by rw [g1,hr0];simp,rfl⟩
     · obtain ⟨F,rfl⟩:∃ G,F = G + 1:=⟨F - 1,by omega⟩
       rw [step F b (Int.tmod a b) hr0]
       have hlt:(Int.tmod a b).natAbs < b.natAbs:=by rw [Int.natAbs_tmod];exact Nat.mod_lt _ (by omega)
       have hhalf:(Int.tmod b (Int.tmod a b)).natAbs < 2 ^ k:=by
         rw [Int.natAbs_tmod]
         have h1:=Nat.mod_lt b.natAbs (show 0 < (Int.tmod a b).natAbs by omega)
         have h2:=Nat.mod_add_div b.natAbs (Int.tmod a b).natAbs
         have h3:0 < b.natAbs / (Int.tmod a b).natAbs:=Nat.div_pos (by omega) (by omega)
         have h4:=Nat.le_mul_of_pos_right (Int.tmod a b).natAbs h3
         rw [Nat.pow_succ] at hb
         omega
       obtain ⟨r,h1,h2⟩:=ih F (Int.tmod a b) (Int.tmod b (Int.tmod a b)) (by omega) hhalf
       refine ⟨r,?_,h2⟩
       rw [h1,g1,Int.natAbs_tmod b,Nat.gcd_comm b.natAbs,Nat.gcd_rec (Int.tmod a b).natAbs b.natAbs,Nat.gcd_comm (b.natAbs % (Int.tmod a b).natAbs)]
theorem g93_eq {a b:Int} (ha:a.natAbs < 2 ^ 62) (hb:b.natAbs < 2 ^ 62):g93 2000 a b = some ((Nat.gcd a.natAbs b.natAbs:Nat):Int):=by
 unfold g93
 rw [g93L12_eq]
 obtain ⟨r,h1,h2⟩:=gcd93 2000 (fun e1=>some (imax e1 (IntKind.wrap .i64 (ineg e1)))) 62 2000 a b (by omega) hb
 refine h2.trans ?_
 have hlt:Nat.gcd a.natAbs b.natAbs < 2 ^ 62:=by
   by_cases h0:a.natAbs = 0
   · rw [h0,Nat.gcd_zero_left];exact hb
   · have:=Nat.le_of_dvd (by omega) (Nat.gcd_dvd_left a.natAbs b.natAbs)
     omega
 have e:(2:Nat) ^ 62 = 4611686018427387904:=by decide
 rw [e] at hlt
 rw [show ineg r = -r from Int.zero_sub r,w64 (by omega) (by omega)]
 congr 1
 simp only [imax]
 split <;> omega
def nx (r own:List Int) (a b:Int) (k:Nat):List Int:=(List.range k).map fun l=>fv r l * a - fv own l * b
theorem nx_len (r own:List Int) (a b:Int) (k:Nat):(nx r own a b k).length = k:=by simp [nx]
theorem nx_succ (r own:List Int) (a b:Int) (k:Nat):nx r own a b (k + 1) = nx r own a b k ++ [fv r k * a - fv own k * b]:=by
 unfold nx;rw [List.range_succ,List.map_append];rfl
theorem nx_get {r own:List Int} {a b:Int} {n k:Nat} (h:k < n):(nx r own a b n).getD k 0 = fv r k * a - fv own k * b:=by
 unfold nx
 rw [List.getD_eq_getElem?_getD,List.getElem?_map,List.getElem?_range h];rfl
theorem gcdL_app:∀ (l:List Int) (g:Nat) (x:Int),gcdL g (l ++ [x]) = Nat.gcd (gcdL g l) x.natAbs
 | [],g,x=>rfl
 | y :: l,g,x=>gcdL_app l _ x
section
variable {C:Type} {n m c:Nat} {ids:List Nat} {rows:List (Option (List Int))} {M:List (List Int)}
theorem find68 (k0:Int→Int→Int→Int→List Nat→List (Option (List Int))→Option C) (hG:GR ids rows M) (hm:M.length = m) (hm2:m ≤ 1000) (hc:c < n) (hlen:∀ j,j < m→(M.getD j []).length = n) (t1 t5:Int) :
   ∀ (F i:Nat),m - i < F→i ≤ m→∃ q,i ≤ q∧q ≤ m∧(∀ j,i ≤ j→j < q→fv (M.getD j []) c = 0)∧(q < m→fv (M.getD q []) c ≠ 0)∧g68xL7460f 2000 F k0 t1 t5 (c:Int) (i:Int) ids rows = k0 t1 t5 (c:Int) (q:Int) ids rows
 | 0,i,h,_=>by omega
 | F + 1,i,h,hi=>by
   rw [g68xL7460f_succ]
   unfold g68xL7460B
   have hil:=hG.len
   by_cases hlt:i < m
   · have e1:decide ((i:Int) < ((ids.length:Nat):Int)) = true:=by simp;omega
     have li:=hlen i hlt
     rw [e1,cond_true,if_pos (ix (by omega)),Int.toNat_natCast,hG.id (by omega)]
     simp only [Option.bind_some]
     rw [hG.get i (by omega)]
     simp only [Option.bind_some]
     rw [if_pos (ix (by omega)),if_pos (tnlt (by omega)),Int.toNat_natCast]
     by_cases hz:fv (M.getD i []) c = 0
     · rw [show ieq ((M.getD i []).getD c 0) 0 = true from decide_eq_true hz,cond_true,wn i (by omega)]
       obtain ⟨q,a1,a2,a3,a4,a5⟩:=find68 k0 hG hm hm2 hc hlen t1 t5 F (i + 1) (by omega) (by omega)
       exact ⟨q,by omega,a2,fun j hj hjq=>by
         by_cases hji:j = i
         · subst hji;exact hz
         · exact a3 j (by omega) hjq,a4,a5⟩
     · rw [show ieq ((M.getD i []).getD c 0) 0 = false from decide_eq_false hz,cond_false]
       exact ⟨i,Nat.le_refl _,hi,fun j hj hjq=>by omega,fun _=>hz,rfl⟩
   · have e1:decide ((i:Int) < ((ids.length:Nat):Int)) = false:=by simp;omega
     rw [e1,cond_false]
     exact ⟨i,Nat.le_refl _,hi,fun j hj hjq=>by omega,fun h=>by omega,rfl⟩
theorem next68 (k0:Int→Int→Int→Int→Int→List Int→List Nat→List (Option (List Int))→Option C) (hn:n ≤ 5) (hG:GR ids rows M) {d i:Nat} (hd:d < M.length) (hi:i < M.length) (hld:(M.getD d []).length = n) (hli:(M.getD i []).length = n) {a b:Int}
   (hf1:∀ k,-2000000000000000000 ≤ fv (M.getD i []) k * a∧fv (M.getD i []) k * a ≤ 2000000000000000000) (hf2:∀ k,-2000000000000000000 ≤ fv (M.getD d []) k * b∧fv (M.getD d []) k * b ≤ 2000000000000000000) (t6:Int) :
   ∀ (F k:Nat),n - k < F→k ≤ n→g68xL122284346f 2000 F k0 (n:Int) (d:Int) t6 (i:Int) a b (gcdL 0 (nx (M.getD i []) (M.getD d []) a b k):Int) (k:Int) (nx (M.getD i []) (M.getD d []) a b k) ids rows = k0 (n:Int) (d:Int) t6 (i:Int) (gcdL 0 (nx (M.getD i []) (M.getD d []) a b n):Int) (nx (M.getD i []) (M.getD d []) a b n) ids rows
 | 0,k,h,_=>by omega
 | F + 1,k,h,hk=>by
   rw [g68xL122284346f_succ]
   unfold g68xL122284346B
   have hil:=hG.len
   by_cases hlt:k < n
   · have e1:decide ((k:Int) < (n:Int)) = true:=by simp;omega
     have hx:∀ x ∈ nx (M.getD i []) (M.getD d []) a b k,x.natAbs < 2 ^ 62:=fun x hx=>by
       unfold nx at hx
       obtain ⟨l,hl,rfl⟩:=List.mem_map.1 hx
       have q1:=hf1 l
       have q2:=hf2 l
       have e:(2:Nat) ^ 62 = 4611686018427387904:=by decide
       omega
     have q1:=hf1 k
     have q2:=hf2 k
     have hxk:(fv (M.getD i []) k * a - fv (M.getD d []) k * b).natAbs < 2 ^ 62:=by
       have e:(2:Nat) ^ 62 = 4611686018427387904:=by decide
       omega
     have e0:(M.getD i []).getD k 0 = fv (M.getD i []) k:=rfl
     have e00:(M.getD d []).getD k 0 = fv (M.getD d []) k:=rfl
     have el:(nx (M.getD i []) (M.getD d []) a b k ++ [fv (M.getD i []) k * a - fv (M.getD d []) k * b]).length = k + 1:=by rw [← nx_succ,nx_len]
     have eg:(nx (M.getD i []) (M.getD d []) a b k ++ [fv (M.getD i []) k * a - fv (M.getD d []) k * b]).getD k 0 = fv (M.getD i []) k * a - fv (M.getD d []) k * b:=by rw [← nx_succ,nx_get (by omega)]
     rw [e1,cond_true,if_pos (ix (by omega)),Int.toNat_natCast,hG.id (by omega)]
     simp only [Option.bind_some]
     rw [hG.get i hi]
     simp only [Option.bind_some]
     rw [if_pos (ix (by omega)),Int.toNat_natCast,if_pos (by omega),if_pos (ix (by omega)),Int.toNat_natCast,hG.id hd]
     simp only [Option.bind_some]
     rw [hG.get d hd]
     simp only [Option.bind_some]
     rw [if_pos (ix (by omega)),if_pos (by omega),e0,e00,w64 (x:=fv (M.getD i []) k * a) (by omega) (by omega),w64 (x:=fv (M.getD d []) k * b) (by omega) (by omega),w64 (x:=fv (M.getD i []) k * a - fv (M.getD d []) k * b) (by omega) (by omega),if_pos (by rw [nx_len];simp [maxCount];omega),if_pos (ix (by omega)),if_pos (by omega),eg,g93_eq (by rw [Int.natAbs_natCast];exact gcdL_lt hx) hxk]
     simp only [Option.bind_some]
     rw [wn k (by omega),Int.natAbs_natCast,← gcdL_app,← nx_succ]
     exact next68 k0 hn hG hd hi hld hli hf1 hf2 t6 F (k + 1) (by omega) (by omega)
   · have e1:decide ((k:Int) < (n:Int)) = false:=by simp;omega
     have:k = n:=by omega
     subst this
     rw [e1,cond_false]
theorem div68 (k0:Int→Int→Int→Int→List Int→List Nat→List (Option (List Int))→Option C) (hn:n ≤ 5) {r:List Int} (hrn:r.length = n) {g:Int} (hg:0 < g) (hdv:∀ k,g ∣ fv r k) (hr:∀ k,-4000000000000000000 ≤ fv r k∧fv r k ≤ 4000000000000000000) (t5 t6 t8:Int) :
   ∀ (F i:Nat) (cur:List Int),n - i < F→i ≤ n→cur.length = n→(∀ k,k < i→g * fv cur k = fv r k)→(∀ k,i ≤ k→fv cur k = fv r k) →
     ∃ cur',cur'.length = n∧(∀ k,g * fv cur' k = fv r k)∧g68xL244568698f 2000 F k0 (n:Int) t5 t6 t8 g (i:Int) cur ids rows = k0 (n:Int) t5 t6 t8 cur' ids rows
 | 0,i,cur,h,_,_,_,_=>by omega
 | F + 1,i,cur,h,hi,hc,h1,h2=>by
   rw [g68xL244568698f_succ]
   unfold g68xL244568698B
   by_cases hlt:i < n
   · have e1:decide ((i:Int) < (n:Int)) = true:=by simp;omega
     have e2:decide ((0:Int) < g) = true:=decide_eq_true hg
     have ec:cur.getD i 0 = fv r i:=h2 i (Nat.le_refl _)
     obtain ⟨q,hq⟩:=hdv i
     have et:Int.tdiv (fv r i) g = q:=by rw [hq];exact Int.mul_tdiv_cancel_left q (by omega)
     have hqb:-4000000000000000000 ≤ q∧q ≤ 4000000000000000000:=by
       have:=hr i
       have h5:(fv r i).natAbs = g.natAbs * q.natAbs:=by rw [hq,Int.natAbs_mul]
       have h6:q.natAbs ≤ g.natAbs * q.natAbs:=Nat.le_mul_of_pos_left _ (by omega)
       omega
     rw [e1,cond_true,e2,cond_true,if_pos (ix (by omega)),Int.toNat_natCast,if_pos (by omega),if_neg (by omega),if_pos (ix (by omega)),if_pos (by omega),wn i (by omega),ec,et,w64 (x:=q) (by omega) (by omega)]
     exact div68 k0 hn hrn hg hdv hr t5 t6 t8 F (i + 1) _ (by omega) (by omega) (by simp [hc]) (fun k hk=>by
       rw [fv_set _ (by omega)]
       by_cases hki:k = i
       · subst hki;rw [if_pos rfl,hq]
       · rw [if_neg hki];exact h1 k (by omega)) (fun k hk=>by
       rw [fv_set _ (by omega),if_neg (by omega)]
       exact h2 k (by omega))
   · have e1:decide ((i:Int) < (n:Int)) = false:=by simp;omega
     rw [e1,cond_false]
     refine ⟨cur,hc,fun k=>?_,rfl⟩
     by_cases hk:k < i
     · exact h1 k hk
     · rw [fv_ge hc (by omega),fv_ge hrn (by omega)];simp
end
end Go.Pv
namespace Go.Pv
theorem gcdL_zero:∀ (l:List Int),gcdL 0 l = 0→∀ x ∈ l,x = 0:=fun l h x hx=>by
 have:=(gcdL_dvd l 0).2 x hx
 rw [h] at this
 have:=Nat.eq_zero_of_zero_dvd this
 omega
theorem dvd_gcdL {d:Nat}:∀ (l:List Int) (g:Nat),d ∣ g→(∀ x ∈ l,d ∣ x.natAbs)→d ∣ gcdL g l
 | [],g,h,_=>h
 | y :: l,g,h,hl=>dvd_gcdL l _ (Nat.dvd_gcd h (hl y (by simp))) fun x hx=>hl x (by simp [hx])
theorem relN_of {own r:List Int} {n c:Nat} (hc:c < n) (hrn:r.length = n) (hon:own.length = n) (hoc:fv own c ≠ 0) {nxt:List Int} (hnl:nxt.length = n) {g:Nat} (hg:g = gcdL 0 (nx r own (fv own c) (fv r c) n))
   (h:if 0 < g then ∀ k,(g:Int) * fv nxt k = fv (nx r own (fv own c) (fv r c) n) k else nxt = nx r own (fv own c) (fv r c) n):RelN (fv own) c (fv r) (fv nxt):=by
 have hx:∀ k,fv (nx r own (fv own c) (fv r c) n) k = fv r k * fv own c - fv own k * fv r c:=fun k=>by
   by_cases hk:k < n
   · exact nx_get hk
   · rw [fv_ge (k:=k) (nx_len _ _ _ _ _) (by omega),fv_ge (k:=k) hrn (by omega),fv_ge (k:=k) hon (by omega)];simp
 by_cases h0:0 < g
 · rw [if_pos h0] at h
   have he:∀ k,(g:Int) * fv nxt k = fv r k * fv own c - fv own k * fv r c:=fun k=>by rw [h k,hx k]
   refine ⟨⟨g,by omega,he⟩,fun k=>?_,fun hz k=>?_⟩
   · rw [← he k,Int.natAbs_mul]
     exact Nat.le_mul_of_pos_left _ (by omega)
   · have e:=he k
     rw [hz,Int.mul_zero,Int.sub_zero] at e
     have hd:(fv own c).natAbs ∣ g:=by
       rw [hg]
       refine dvd_gcdL _ _ (Nat.dvd_zero _) fun x hxm=>?_
       unfold nx at hxm
       obtain ⟨l,hl,rfl⟩:=List.mem_map.1 hxm
       rw [hz,Int.mul_zero,Int.sub_zero,Int.natAbs_mul]
       exact Nat.dvd_mul_left _ _
     obtain ⟨q,hq⟩:=hd
     have hq0:1 ≤ q:=by
       rcases Nat.eq_zero_or_pos q with h1 | h1
       · rw [h1,Nat.mul_zero] at hq;omega
       · exact h1
     have e2:(fv own c).natAbs * (q * (fv nxt k).natAbs) = (fv own c).natAbs * (fv r k).natAbs:=by
       have:=congrArg Int.natAbs e
       rw [Int.natAbs_mul,Int.natAbs_mul,Int.natAbs_natCast,hq,Nat.mul_assoc] at this
       rw [this,Nat.mul_comm]
     have e3:=Nat.eq_of_mul_eq_mul_left (by omega) e2
     have:=Nat.le_mul_of_pos_left (fv nxt k).natAbs hq0
     omega
 · rw [if_neg h0] at h
   subst h
   have hz:∀ k,fv r k * fv own c - fv own k * fv r c = 0:=fun k=>by
     rw [← hx k]
     by_cases hk:k < n
     · have h00:gcdL 0 (nx r own (fv own c) (fv r c) n) = 0:=by omega
       have hmm:(nx r own (fv own c) (fv r c) n).getD k 0 ∈ nx r own (fv own c) (fv r c) n:=getD_mem (by rw [nx_len];exact hk) 0
       exact gcdL_zero _ h00 _ hmm
     · exact fv_ge (nx_len _ _ _ _ _) (by omega)
   refine ⟨⟨1,by decide,fun k=>by rw [hx k,Int.one_mul]⟩,fun k=>by rw [hx k];exact Nat.le_refl _,fun _ k=>by rw [hx k,hz k];simp⟩
section
variable {C:Type} {n m c d:Nat}
theorem rows68 (k0:Int→Int→Int→List Nat→List (Option (List Int))→Option C) (hn:n ≤ 5) {M1:List (List Int)} (hm:M1.length = m) (hm2:m ≤ 1000) (hd:d < m) (hc:c < n) (hlen:∀ j,j < m→(M1.getD j []).length = n) (hoc:fv (M1.getD d []) c ≠ 0)
   (hfit:∀ j,d < j→j < m→∀ k l,-2000000000000000000 ≤ fv (M1.getD j []) k * fv (M1.getD d []) l∧fv (M1.getD j []) k * fv (M1.getD d []) l ≤ 2000000000000000000) :
   ∀ (F i:Nat) (ids:List Nat) (rows:List (Option (List Int))) (M':List (List Int)),m - i < F→d < i→i ≤ m→GR ids rows M'→M'.length = m→(∀ j,j < m→(M'.getD j []).length = n)→M'.getD d [] = M1.getD d []→(∀ j,d < j→j < i→RelN (fv (M1.getD d [])) c (fv (M1.getD j [])) (fv (M'.getD j [])))→(∀ j,i ≤ j→M'.getD j [] = M1.getD j []) →
     ∃ ids' rows' M'',GR ids' rows' M''∧M''.length = m∧(∀ j,j < m→(M''.getD j []).length = n)∧(∀ j,d < j→j < m→RelN (fv (M1.getD d [])) c (fv (M1.getD j [])) (fv (M''.getD j [])))∧g68xL119418f 2000 F k0 (n:Int) (d:Int) (c:Int) (i:Int) ids rows = k0 (n:Int) (d:Int) (c:Int) ids' rows'
 | 0,i,ids,rows,M',h,_,_,_,_,_,_,_,_=>by omega
 | F + 1,i,ids,rows,M',h,hdi,hi,hG,hl,hln,hod,h1,h2=>by
   rw [g68xL119418f_succ]
   unfold g68xL119418B
   have idl:ids.length = m:=by rw [hG.len];exact hl
   by_cases hlt:i < m
   · have e1:decide ((i:Int) < ((ids.length:Nat):Int)) = true:=by simp;omega
     have gi:rowOf rows (ids.getD i 0) = some (M1.getD i []):=by rw [hG.get i (by omega),h2 i (Nat.le_refl _)]
     have gd:rowOf rows (ids.getD d 0) = some (M1.getD d []):=by rw [hG.get d (by omega),hod]
     have li:=hlen i hlt
     have ld:=hlen d hd
     have ec:(M1.getD d []).getD c 0 = fv (M1.getD d []) c:=rfl
     have ec2:(M1.getD i []).getD c 0 = fv (M1.getD i []) c:=rfl
     rw [e1,cond_true,if_pos (ix (by omega)),Int.toNat_natCast,hG.id (by omega)]
     simp only [Option.bind_some]
     rw [gd]
     simp only [Option.bind_some]
     rw [if_pos (ix (by omega)),Int.toNat_natCast,if_pos (by omega),if_pos (ix (by omega)),Int.toNat_natCast,hG.id (by omega)]
     simp only [Option.bind_some]
     rw [gi]
     simp only [Option.bind_some]
     rw [if_pos (ix (by omega)),if_pos (by omega),ec,ec2,g68xL122284346_eq]
     have hGi:M'.getD i [] = M1.getD i []:=h2 i (Nat.le_refl _)
     have nxt:=next68 (fun e25 e26 e27 e28 e29 e30 e31 e32=>g68xL244568698 2000 (fun e33 e34 e35 e36 e37 e38 e39=>if idx e36 (List.length e38) then if (Int.toNat e36) < List.length e38 then (g68xL119418f 2000 F k0 e33 e34 e35 (IntKind.wrap .i64 (e36 + 1)) (List.set e38 (Int.toNat e36) (List.length e39)) (e39 ++ [some e37])) else none else none) e25 e26 e27 e28 e29 0 e30 e31 e32) hn hG (d:=d) (i:=i) (by omega) (by omega) (by rw [hod];exact ld) (by rw [hGi];exact li) (a:=fv (M1.getD d []) c) (b:=fv (M1.getD i []) c) (fun k=>by rw [hGi];exact hfit i hdi hlt k c) (fun k=>by rw [hod,Int.mul_comm];exact hfit i hdi hlt c k) (c:Int) 2000 0 (by omega) (by omega)
     rw [hGi,hod] at nxt
     have z0:nx (M1.getD i []) (M1.getD d []) (fv (M1.getD d []) c) (fv (M1.getD i []) c) 0 = []:=rfl
     rw [z0] at nxt
     have z1:((gcdL 0 ([]:List Int):Nat):Int) = 0:=rfl
     rw [z1] at nxt
     simp only [Int.natCast_zero] at nxt
     have fin:∀ cur:List Int,cur.length = n→RelN (fv (M1.getD d [])) c (fv (M1.getD i [])) (fv cur)→∃ ids' rows' M'',GR ids' rows' M''∧M''.length = m∧(∀ j,j < m→(M''.getD j []).length = n)∧(∀ j,d < j→j < m→RelN (fv (M1.getD d [])) c (fv (M1.getD j [])) (fv (M''.getD j [])))∧(if idx (i:Int) (List.length ids) then if (Int.toNat (i:Int)) < List.length ids then (g68xL119418f 2000 F k0 (n:Int) (d:Int) (c:Int) (IntKind.wrap .i64 ((i:Int) + 1)) (List.set ids (Int.toNat (i:Int)) (List.length rows)) (rows ++ [some cur])) else none else none) = k0 (n:Int) (d:Int) (c:Int) ids' rows':=fun cur hcl hrel=>by
       rw [if_pos (ix (by omega)),Int.toNat_natCast,if_pos (by omega),wn i (by omega)]
       refine rows68 k0 hn hm hm2 hd hc hlen hoc hfit F (i + 1) _ _ (M'.set i cur) (by omega) (by omega) (by omega) (hG.repl (by omega) cur) (by simp [hl]) (fun j hj=>?_) (by rw [setD _ _ _ _ _ (by omega),if_neg (by omega)];exact hod) (fun j hj1 hj2=>?_) (fun j hj=>?_)
       · rw [setD _ _ _ _ _ (by omega)]
         split
         · exact hcl
         · exact hln j hj
       · rw [setD _ _ _ _ _ (by omega)]
         by_cases hji:j = i
         · subst hji;rw [if_pos rfl];exact hrel
         · rw [if_neg hji];exact h1 j hj1 (by omega)
       · rw [setD _ _ _ _ _ (by omega),if_neg (by omega)]
         exact h2 j (by omega)
     by_cases hg:0 < gcdL 0 (nx (M1.getD i []) (M1.getD d []) (fv (M1.getD d []) c) (fv (M1.getD i []) c) n)
     · have hdv:∀ k,((gcdL 0 (nx (M1.getD i []) (M1.getD d []) (fv (M1.getD d []) c) (fv (M1.getD i []) c) n):Nat):Int) ∣ fv (nx (M1.getD i []) (M1.getD d []) (fv (M1.getD d []) c) (fv (M1.getD i []) c) n) k:=fun k=>by
         by_cases hk:k < n
         · exact Int.ofNat_dvd_left.2 ((gcdL_dvd _ 0).2 _ (getD_mem (by rw [nx_len];exact hk) 0))
         · rw [fv_ge (nx_len _ _ _ _ _) (by omega)];exact Int.dvd_zero _
       have hbd:∀ k,-4000000000000000000 ≤ fv (nx (M1.getD i []) (M1.getD d []) (fv (M1.getD d []) c) (fv (M1.getD i []) c) n) k∧fv (nx (M1.getD i []) (M1.getD d []) (fv (M1.getD d []) c) (fv (M1.getD i []) c) n) k ≤ 4000000000000000000:=fun k=>by
         by_cases hk:k < n
         · have en:fv (nx (M1.getD i []) (M1.getD d []) (fv (M1.getD d []) c) (fv (M1.getD i []) c) n) k = fv (M1.getD i []) k * fv (M1.getD d []) c - fv (M1.getD d []) k * fv (M1.getD i []) c:=nx_get hk
           rw [en]
           have q1:=hfit i hdi hlt k c
           have q2:=hfit i hdi hlt c k
           rw [Int.mul_comm] at q2
           omega
         · rw [fv_ge (nx_len _ _ _ _ _) (by omega)];omega
       obtain ⟨cur,b1,b2,b3⟩:=div68 (ids:=ids) (rows:=rows) (fun e33 e34 e35 e36 e37 e38 e39=>if idx e36 (List.length e38) then if (Int.toNat e36) < List.length e38 then (g68xL119418f 2000 F k0 e33 e34 e35 (IntKind.wrap .i64 (e36 + 1)) (List.set e38 (Int.toNat e36) (List.length e39)) (e39 ++ [some e37])) else none else none) hn (nx_len _ _ _ _ _) (by omega) hdv hbd (d:Int) (c:Int) (i:Int) 2000 0 _ (by omega) (by omega) (nx_len _ _ _ _ _) (fun k hk=>by omega) (fun k hk=>rfl)
       obtain ⟨ids',rows',M'',c1,c2,c3,c4,c5⟩:=fin cur b1 (relN_of hc li ld hoc b1 rfl (by rw [if_pos hg];exact b2))
       refine ⟨ids',rows',M'',c1,c2,c3,c4,?_⟩
       refine nxt.trans ?_
       rw [g68xL244568698_eq]
       simp only [Int.natCast_zero] at b3
       exact b3.trans c5
     · obtain ⟨ids',rows',M'',c1,c2,c3,c4,c5⟩:=fin _ (nx_len _ _ _ _ _) (relN_of hc li ld hoc (nx_len _ _ _ _ _) rfl (by rw [if_neg hg]))
       refine ⟨ids',rows',M'',c1,c2,c3,c4,?_⟩
       refine nxt.trans ?_
       have hg0:gcdL 0 (nx (M1.getD i []) (M1.getD d []) (fv (M1.getD d []) c) (fv (M1.getD i []) c) n) = 0:=by omega
       rw [g68xL244568698_eq,hg0,show (2000:Nat) = 1999 + 1 from rfl,g68xL244568698f_succ]
       unfold g68xL244568698B
       have en:decide ((0:Int) < (n:Int)) = true:=by simp;omega
       rw [en,cond_true,show decide ((0:Int) < ((0:Nat):Int)) = false from rfl,cond_false]
       exact c5
   · have e1:decide ((i:Int) < ((ids.length:Nat):Int)) = false:=by simp;omega
     rw [e1,cond_false]
     exact ⟨ids,rows,M',hG,hl,hln,fun j hj1 hj2=>h1 j hj1 (by omega),rfl⟩
theorem rank_loop (k0:Int→List Nat→List (Option (List Int))→Option C) (hn:n ≤ 5) {V0:List Vec} (hm2:m ≤ 1000) :
   ∀ (F c:Nat) (s:Stg) (ids:List Nat) (rows:List (Option (List Int))) (M:List (List Int)),n - c < F→c ≤ n→SI n c V0 s→RR s m (fun j=>fv (M.getD j []))→GR ids rows M→M.length = m→(∀ j,j < m→(M.getD j []).length = n) →
     ∃ t ids' rows',Elim c n s t∧g68xL58f 2000 F k0 (n:Int) (s.P.length:Int) (c:Int) ids rows = k0 (t.P.length:Int) ids' rows'
 | 0,c,s,ids,rows,M,h,_,_,_,_,_,_=>by omega
 | F + 1,c,s,ids,rows,M,h,hc,hS,hR,hG,hm,hlen=>by
   rw [g68xL58f_succ]
   unfold g68xL58B
   by_cases hlt:c < n
   · have e1:decide ((c:Int) < (n:Int)) = true:=by simp;omega
     have hil:ids.length = m:=by rw [hG.len];exact hm
     have hPm:=hR.len
     rw [e1,cond_true,g68xL7460_eq]
     obtain ⟨q,q1,q2,q3,q4,q5⟩:=find68 (fun e4 e5 e6 e7 e8 e9=>bif (ieq e7 ((List.length e8:Nat):Int)) then (g68xL58f 2000 F k0 e4 e5 (IntKind.wrap .i64 (e6 + 1)) e8 e9) else if idx e7 (List.length e8) then Option.bind (idAt e8 e9 (Int.toNat e7)) fun r10=>if idx e5 (List.length e8) then Option.bind (idAt e8 e9 (Int.toNat e5)) fun r11=>if idx e5 (List.length e8) then Option.bind (rowOf e9 r10) fun _=>if (Int.toNat e5) < List.length e8 then if idx e7 (List.length (List.set e8 (Int.toNat e5) r10)) then Option.bind (rowOf e9 r11) fun _=>if (Int.toNat e7) < List.length (List.set e8 (Int.toNat e5) r10) then g68xL119418 2000 (fun e40 e41 e42 e43 e44=>(g68xL58f 2000 F k0 e40 (IntKind.wrap .i64 (e41 + 1)) (IntKind.wrap .i64 (e42 + 1)) e43 e44)) e4 e5 e6 (IntKind.wrap .i64 (e5 + 1)) (List.set (List.set e8 (Int.toNat e5) r10) (Int.toNat e7) r11) e9 else none else none else none else none else none else none) hG hm hm2 hlt hlen (n:Int) (s.P.length:Int) 2000 s.P.length (by omega) (by omega)
     rw [q5,hil]
     by_cases hqm:q = m
     · have hnone:NoneAt c s:=fun v hv=>by
         obtain ⟨i,hi,rfl⟩:=List.getElem_of_mem hv
         have e:s.V.getD i (fun _=>0) = s.V[i]:=by rw [List.getD_eq_getElem?_getD,List.getElem?_eq_getElem hi];rfl
         rw [← e]
         exact ((hR.low i hi).zero c).1 (q3 _ (by omega) (by omega))
       rw [hqm,ieq_self,cond_true,wn c (by omega)]
       obtain ⟨t,ids',rows',a1,a2⟩:=rank_loop k0 hn hm2 F (c + 1) s ids rows M (by omega) (by omega) (hS.skip hnone) hR hG hm hlen
       exact ⟨t,ids',rows',.none hnone a1,a2⟩
     · have hqlt:q < m:=by omega
       obtain ⟨i,rfl⟩:∃ i,q = s.P.length + i:=⟨q - s.P.length,by omega⟩
       have hfirst:FirstAt c i s:=by
         refine ⟨by omega,fun h0=>?_,fun j hj=>?_⟩
         · exact q4 hqlt (((hR.low i (by omega)).zero c).2 h0)
         · exact ((hR.low j (by omega)).zero c).1 (q3 _ (by omega) (by omega))
       have hd:s.P.length < m:=by omega
       have hG1:=hG.swap (i:=s.P.length) (j:=s.P.length + i) (by omega) (by omega)
       have hM1:∀ j,(List.set (List.set M s.P.length (M.getD (s.P.length + i) [])) (s.P.length + i) (M.getD s.P.length [])).getD j [] = if j = s.P.length then M.getD (s.P.length + i) [] else if j = s.P.length + i then M.getD s.P.length [] else M.getD j []:=fun j=>by
         rw [setD _ _ _ _ _ (by simp;omega),setD _ _ _ _ _ (by omega)]
         by_cases e1:j = s.P.length + i
         · rw [if_pos e1]
           by_cases e2:j = s.P.length
           · rw [if_pos e2];have:i = 0:=by omega
             subst this;rfl
           · rw [if_neg e2,if_pos e1]
         · rw [if_neg e1,if_neg e1]
       have hlen1:∀ j,j < m→((List.set (List.set M s.P.length (M.getD (s.P.length + i) [])) (s.P.length + i) (M.getD s.P.length [])).getD j []).length = n:=fun j hj=>by
         rw [hM1]
         split
         · exact hlen _ hqlt
         · split
           · exact hlen _ hd
           · exact hlen j hj
       have h1R:∀ j,fv ((List.set (List.set M s.P.length (M.getD (s.P.length + i) [])) (s.P.length + i) (M.getD s.P.length [])).getD j []) = if j = s.P.length then fv (M.getD (s.P.length + i) []) else if j = s.P.length + i then fv (M.getD s.P.length []) else fv (M.getD j []):=fun j=>by
         rw [hM1]
         split
         · rfl
         · split <;> rfl
       have hz5:∀ j k,5 ≤ k→fv (M.getD j []) k = 0:=fun j k hk=>by
         by_cases hj:j < m
         · exact fv_ge (hlen j hj) (by omega)
         · rw [List.getD_eq_getElem?_getD,List.getElem?_eq_none (by omega)];rfl
       obtain ⟨ids2,rows2,M2,b1,b2,b3,b5,b6⟩:=rows68 (fun e40 e41 e42 e43 e44=>(g68xL58f 2000 F k0 e40 (IntKind.wrap .i64 (e41 + 1)) (IntKind.wrap .i64 (e42 + 1)) e43 e44)) hn (m:=m) (c:=c) (d:=s.P.length) (by simp [hm]) hm2 hd hlt hlen1 (by rw [hM1,if_pos rfl];exact q4 hqlt) (fun j hj1 hj2 k l=>hR.fit hS (by omega) hfirst hz5 h1R hj1 hj2 k l) 2000 (s.P.length + 1) _ rows _ (by omega) (by omega) (by omega) hG1 (by simp [hm]) hlen1 rfl (fun j hj1 hj2=>by omega) (fun j hj=>rfl)
       have hR2:=RR.take (R1:=fun j=>fv ((List.set (List.set M s.P.length (M.getD (s.P.length + i) [])) (s.P.length + i) (M.getD s.P.length [])).getD j [])) (R2:=fun j=>fv (M2.getD j [])) hS hR hfirst h1R b5
       have hPl:(takeS c i s).P.length = s.P.length + 1:=by simp [takeS]
       obtain ⟨t,ids',rows',a1,a9⟩:=rank_loop k0 hn hm2 F (c + 1) (takeS c i s) ids2 rows2 M2 (by omega) (by omega) (hS.take hfirst) hR2 b1 b2 b3
       refine ⟨t,ids',rows',.take hfirst a1,?_⟩
       have hids1:(List.set ids s.P.length (ids.getD (s.P.length + i) 0)).length = m:=by simp [hil]
       rw [show ieq ((s.P.length + i:Nat):Int) ((m:Nat):Int) = false from decide_eq_false (by omega),cond_false,if_pos (ix hqlt),Int.toNat_natCast,hG.id (by omega)]
       simp only [Option.bind_some]
       rw [if_pos (ix hd),Int.toNat_natCast,hG.id (by omega)]
       simp only [Option.bind_some]
       rw [if_pos (ix hd),hG.get (s.P.length + i) (by omega)]
       simp only [Option.bind_some]
       rw [if_pos hd,hids1,if_pos (ix hqlt),hG.get s.P.length (by omega)]
       simp only [Option.bind_some]
       rw [if_pos hqlt,wn s.P.length (by omega),g68xL119418_eq]
       refine b6.trans ?_
       rw [wn s.P.length (by omega),wn c (by omega)]
       rw [hPl] at a9
       exact a9
   · have e1:decide ((c:Int) < (n:Int)) = false:=by simp;omega
     have:c = n:=by omega
     subst this
     rw [e1,cond_false]
     exact ⟨s,ids,rows,.done _ _,rfl⟩
end
theorem app_id5 {v:Vec} (h:∀ k,5 ≤ k→v k = 0):app idM v = v:=by
 funext k
 unfold app dot idM
 by_cases h0:k = 0
 · subst h0;simp
 by_cases h1:k = 1
 · subst h1;simp
 by_cases h2:k = 2
 · subst h2;simp
 by_cases h3:k = 3
 · subst h3;simp
 by_cases h4:k = 4
 · subst h4;simp
 rw [h k (by omega),if_neg h0,if_neg h1,if_neg h2,if_neg h3,if_neg h4];simp
theorem rank68 {n:Nat} (hn:n ≤ 5) {ids:List Nat} {rows:List (Option (List Int))} {M:List (List Int)} {V0:List Vec} (hm:M.length = V0.length) (hm2:M.length ≤ 1000) (hG:GR ids rows M) (hlen:∀ r ∈ M,r.length = n) (hz:∀ v ∈ V0,∀ k,5 ≤ k→v k = 0)
   (hp:∀ j,j < M.length→Par (fv (M.getD j [])) (V0.getD j (fun _=>0))) (hs:∀ j,j + 1 < M.length→sum5 (fv (M.getD j [])) = 0) (hb:∀ j,j < M.length→Bdd (if j + 1 = M.length then 9 else 2) (fv (M.getD j []))) :
   ∃ t ids' rows',Elim 0 n ⟨idM,[],V0⟩ t∧g68x 2000 (n:Int) ids rows = some (((t.P.length:Int),()),((),(ids',rows'),()),(())):=by
 unfold g68x
 rw [g68xL58_eq]
 have hR:RR ⟨idM,[],V0⟩ M.length (fun j=>fv (M.getD j [])):=by
   refine ⟨by simp [hm],fun i hi=>?_,fun j _ hj=>hs j hj,fun j _ hj=>hb j hj⟩
   have e:app idM (V0.getD i (fun _=>0)) = V0.getD i (fun _=>0):=app_id5 (hz _ (getD_mem hi _))
   simp only [List.length_nil,Nat.zero_add]
   rw [e]
   exact hp i (by rw [hm];exact hi)
 obtain ⟨t,ids',rows',a1,a2⟩:=rank_loop (fun e45 e46 e47=>some (((e45,()),((),(e46,e47),()),(())):(g68xS).R)) hn hm2 2000 0 ⟨idM,[],V0⟩ ids rows M (by omega) (by omega) (SI.start n V0) hR hG rfl (fun j hj=>hlen _ (getD_mem hj []))
 exact ⟨t,ids',rows',a1,a2⟩
end Go.Pv
namespace Go.Pv
theorem fv_chgN {n:Nat} {r:List Int} (h:RuleOk (n:Int) r) (k:Nat):fv (stepR r (List.replicate n 0)) k = -fv (chg n r) k:=by
 obtain ⟨p,q,s,t,rfl,hp,hq,hs,ht⟩:=rule_nat h
 have hp:p < n:=by omega
 have hq:q < n:=by omega
 have hs:s < n:=by omega
 have ht:t < n:=by omega
 rw [fv_chg hp hq hs ht,fv_step (by simpa using hp) (by simpa using hq) (by simpa using hs) (by simpa using ht),fv_rep]
 omega
theorem map_getD {α β:Type} (f:α→β) (l:List α) (i:Nat) (d:α) (e:β) (h:i < l.length):(l.map f).getD i e = f (l.getD i d):=by
 simp only [List.getD_eq_getElem?_getD,List.getElem?_map,List.getElem?_eq_getElem h,Option.map_some,Option.getD_some]
theorem chg_pair {x:PP} (hx:PT x) {j:Nat} (hj:j < (chgsN x).length):∃ r,RuleOk ((x.1.toNat:Nat):Int) r∧(chgsN x).getD j [] = stepR r (List.replicate x.1.toNat 0)∧((chgs x).map fv).getD j (fun _=>0) = fv (chg x.1.toNat r):=by
 have hj':j < x.2.2.2.1.length:=by unfold chgsN at hj;simpa using hj
 have hn:=hx.n
 refine ⟨x.2.2.2.1.getD j [],?_,?_,?_⟩
 · rw [show ((x.1.toNat:Nat):Int) = x.1 by omega]
   exact hx.rules.2.1 _ (getD_mem hj' [])
 · unfold chgsN
   rw [map_getD _ _ _ [] _ hj']
 · unfold chgs
   rw [List.map_map,map_getD _ _ _ [] _ hj'];rfl
theorem chgsN_len (x:PP):(chgsN x).length = x.2.2.2.1.length:=by simp [chgsN]
theorem par_neg {r s:Vec} (h:∀ k,r k = -s k):Par r s:=⟨1,-1,by decide,by decide,fun k=>by rw [h k];omega⟩
theorem rul_of {x:PP} (hx:PT x) {j:Nat} (hj:j < (chgsN x).length):Rul x.1.toNat (((chgs x).map fv).getD j (fun _=>0))∧∀ k,fv ((chgsN x).getD j []) k = -(((chgs x).map fv).getD j (fun _=>0)) k:=by
 obtain ⟨r,h1,h2,h3⟩:=chg_pair hx hj
 have hn:=hx.n
 rw [h2,h3]
 exact ⟨rul_chg (by omega) h1,fun k=>fv_chgN h1 k⟩
theorem rulN {x:PP} (hx:PT x) {j:Nat} (hj:j < (chgsN x).length):sum5 (fv ((chgsN x).getD j [])) = 0∧Bdd 2 (fv ((chgsN x).getD j [])):=by
 obtain ⟨h1,h2⟩:=rul_of hx hj
 refine ⟨?_,fun k=>?_⟩
 · have:=h1.s
   unfold sum5 at this ⊢
   rw [h2,h2,h2,h2,h2];omega
 · have:=h1.b k
   rw [h2];omega
theorem chgs_z {x:PP} (hx:PT x):∀ v ∈ (chgs x).map fv,∀ k,5 ≤ k→v k = 0:=fun v hv k hk=>by
 obtain ⟨j,hj,rfl⟩:=List.getElem_of_mem hv
 have hj':j < (chgsN x).length:=by simpa [chgs,chgsN] using hj
 obtain ⟨h1,_⟩:=rul_of hx hj'
 have hn:=hx.n
 have:=h1.z k (by omega)
 rwa [List.getD_eq_getElem?_getD,List.getElem?_eq_getElem hj] at this
theorem chgsN_row {x:PP} (hx:PT x):∀ r ∈ chgsN x,r.length = x.1.toNat:=fun r hr=>by
 unfold chgsN at hr
 obtain ⟨q,_,rfl⟩:=List.mem_map.1 hr
 rw [step_len,List.length_replicate]
theorem rank_chgs {x:PP} (hx:PT x) {t:Stg} {R:Nat→Vec} {m:Nat} (hB:Bas x t R m) {ids:List Nat} {rows:List (Option (List Int))} (hG:GR ids rows (chgsN x)) :
   ∃ ids' rows',g68x 2000 x.1 ids rows = some (((t.P.length:Int),()),((),(ids',rows'),()),(())):=by
 have hn:=hx.n
 have hr:=hx.rules.1
 have hl:=chgsN_len x
 obtain ⟨t',ids',rows',a1,a2⟩:=rank68 (n:=x.1.toNat) (V0:=(chgs x).map fv) (by omega) (by simp [chgs,chgsN]) (by omega) hG (chgsN_row hx) (chgs_z hx) (fun j hj=>par_neg (rul_of hx hj).2) (fun j hj=>(rulN hx (by omega)).1) (fun j hj k=>by
   have:=(rulN hx hj).2 k
   split <;> omega)
 rw [a1.uniq hB.elim] at a2
 rw [show ((x.1.toNat:Nat):Int) = x.1 by omega] at a2
 exact ⟨ids',rows',a2⟩
def dif (a b:List Int) (n:Nat):List Int:=(List.range n).map fun s=>b.getD s 0 - a.getD s 0
theorem dif_len (a b:List Int) (n:Nat):(dif a b n).length = n:=by simp [dif]
theorem dif_fv {a b:List Int} {n:Nat} (ha:a.length = n) (hb:b.length = n) (k:Nat):fv (dif a b n) k = fv b k - fv a k:=by
 by_cases h:k < n
 · unfold dif fv
   rw [map_getD _ _ _ 0 _ (by simpa using h)]
   rw [List.getD_eq_getElem?_getD (l:=List.range n),List.getElem?_range h];rfl
 · rw [fv_ge (dif_len a b n) (by omega),fv_ge ha (by omega),fv_ge hb (by omega)];rfl
theorem dif_loop {C:Type} (k0:PP→List Int→Option C) {x:PP} (hx:PT x) {a b:List Int} (ha:Crowd a x.1) (hb:Crowd b x.1) :
   ∀ (F i:Nat),x.1.toNat - i < F→i ≤ x.1.toNat→g45L58f 2000 F k0 a b (i:Int) x (dif a b i) = k0 x (dif a b x.1.toNat)
 | 0,i,h,_=>by omega
 | F + 1,i,h,hi=>by
   rw [g45L58f_succ]
   unfold g45L58B
   have hn:=hx.n
   have hal:=ha.len
   have hbl:=hb.len
   by_cases hlt:i < x.1.toNat
   · have e1:decide ((i:Int) < x.1) = true:=by simp;omega
     have h1:=ha.le _ (getD_mem (l:=a) (i:=i) (by omega) 0)
     have h2:=hb.le _ (getD_mem (l:=b) (i:=i) (by omega) 0)
     have hmx:(dif a b i).length + List.length [b.getD i 0 - a.getD i 0] ≤ maxCount:=by rw [dif_len];simp [maxCount];omega
     rw [e1,cond_true,if_pos (ix (by omega)),if_pos (ix (by omega)),Int.toNat_natCast,w64 (by omega) (by omega),if_pos hmx,wn i (by omega)]
     have:dif a b i ++ [b.getD i 0 - a.getD i 0] = dif a b (i + 1):=by unfold dif;rw [List.range_succ,List.map_append];rfl
     rw [this]
     exact dif_loop k0 hx ha hb F (i + 1) (by omega) (by omega)
   · have e1:decide ((i:Int) < x.1) = false:=by simp;omega
     have:i = x.1.toNat:=by omega
     subst this
     rw [e1,cond_false]
theorem canForbid45 {x:PP} (hx:PT x) {t:Stg} {R:Nat→Vec} {m:Nat} (hB:Bas x t R m) {a b:List Int} (ha:Crowd a x.1) (hb:Crowd b x.1) :
   ∃ q:Bool,g45 2000 x a b = some q∧(q = true ↔ ∃ k,k < x.1.toNat∧app t.A (fv (dif a b x.1.toNat)) k ≠ 0):=by
 obtain ⟨ids,rows,hG,he⟩:=changes69 hx
 obtain ⟨ids',rows',hr⟩:=rank_chgs hx hB hG
 have hn:=hx.n
 have hr15:=hx.rules.1
 have hl:=chgsN_len x
 have hal:=ha.len
 have hbl:=hb.len
 have hcl:((chgs x).map fv).length = (chgsN x).length:=by simp [chgs,chgsN]
 have hdb:∀ k,-9 ≤ fv (dif a b x.1.toNat) k∧fv (dif a b x.1.toNat) k ≤ 9:=fun k=>by
   rw [dif_fv (by omega) (by omega)]
   by_cases hk:k < x.1.toNat
   · have h1:=ha.le _ (getD_mem (l:=a) (i:=k) (by omega) 0)
     have h2:=hb.le _ (getD_mem (l:=b) (i:=k) (by omega) 0)
     unfold fv;omega
   · rw [fv_ge (r:=a) (n:=x.1.toNat) (by omega) (by omega),fv_ge (r:=b) (n:=x.1.toNat) (by omega) (by omega)];omega
 have gl:∀ j,j < (chgsN x).length→(chgsN x ++ [dif a b x.1.toNat]).getD j [] = (chgsN x).getD j []:=fun j hj=>by
   simp only [List.getD_eq_getElem?_getD,List.getElem?_append,hj,if_true]
 have gn:(chgsN x ++ [dif a b x.1.toNat]).getD (chgsN x).length [] = dif a b x.1.toNat:=by
   rw [List.getD_eq_getElem?_getD,List.getElem?_append_right (Nat.le_refl _),Nat.sub_self];rfl
 have vl:∀ j,j < (chgsN x).length→((chgs x).map fv ++ [fv (dif a b x.1.toNat)]).getD j (fun _=>0) = ((chgs x).map fv).getD j (fun _=>0):=fun j hj=>by
   have:j < ((chgs x).map fv).length:=by omega
   simp only [List.getD_eq_getElem?_getD,List.getElem?_append,this,if_true]
 have vn:((chgs x).map fv ++ [fv (dif a b x.1.toNat)]).getD (chgsN x).length (fun _=>0) = fv (dif a b x.1.toNat):=by
   rw [List.getD_eq_getElem?_getD,List.getElem?_append_right (by omega),hcl,Nat.sub_self];rfl
 have hM:(chgsN x ++ [dif a b x.1.toNat]).length = (chgsN x).length + 1:=by simp
 have hG2:=hG.snoc (dif a b x.1.toNat)
 obtain ⟨t2,ids2,rows2,c1,c2⟩:=rank68 (n:=x.1.toNat) (V0:=(chgs x).map fv ++ [fv (dif a b x.1.toNat)]) (by omega) (by rw [hM,List.length_append,hcl];rfl) (by omega) hG2 (fun r hr=>by
     rcases List.mem_append.1 hr with h1 | h1
     · exact chgsN_row hx r h1
     · obtain rfl:=List.mem_singleton.1 h1;exact dif_len _ _ _) (fun v hv k hk=>by
     rcases List.mem_append.1 hv with h1 | h1
     · exact chgs_z hx v h1 k hk
     · obtain rfl:=List.mem_singleton.1 h1;exact fv_ge (dif_len _ _ _) (by omega)) (fun j hj=>by
     by_cases hjl:j < (chgsN x).length
     · rw [gl j hjl,vl j hjl];exact par_neg (rul_of hx hjl).2
     · obtain rfl:j = (chgsN x).length:=by omega
       rw [gn,vn];exact .refl _) (fun j hj=>by rw [gl j (by omega)];exact (rulN hx (by omega)).1) (fun j hj k=>by
     by_cases hjl:j < (chgsN x).length
     · rw [gl j hjl]
       have:=(rulN hx hjl).2 k
       split <;> omega
     · obtain rfl:j = (chgsN x).length:=by omega
       rw [gn,if_pos hM.symm]
       exact hdb k)
 rw [show ((x.1.toNat:Nat):Int) = x.1 by omega] at c2
 have c1':Elim 0 x.1.toNat (more ⟨idM,[],(chgs x).map fv⟩ (fv (dif a b x.1.toNat))) t2:=c1
 refine ⟨decide ((t.P.length:Int) < (t2.P.length:Int)),?_,?_⟩
 · unfold g45
   rw [g45L58_eq]
   have hil:=hG.len
   have:=dif_loop (fun e1 e2=>Option.bind (g69x 2000 e1) fun r3=>if List.length r3.2.2.1.1 + List.length [0] ≤ maxCount then Option.bind (g68x 2000 e1.1 (r3.2.2.1.1 ++ shiftIds (List.length r3.2.2.1.2) [0]) (r3.2.2.1.2 ++ [some e2])) fun r4=>Option.bind (g69x 2000 e1) fun r5=>Option.bind (g68x 2000 e1.1 r5.2.2.1.1 r5.2.2.1.2) fun r6=>some (decide ((r6.1.1:Int) < r4.1.1)) else none) hx ha hb 2000 0 (by omega) (by omega)
   refine this.trans ?_
   rw [he]
   simp only [Option.bind_some]
   rw [if_pos (by simp [maxCount];omega),show shiftIds rows.length [0] = [rows.length] from rfl,c2]
   simp only [Option.bind_some]
   rw [hr]
   rfl
 · rw [decide_eq_true_iff]
   constructor
   · intro hlt
     rcases Classical.em (∃ k,k < x.1.toNat∧app t.A (fv (dif a b x.1.toNat)) k ≠ 0) with h1 | h1
     · exact h1
     · exfalso
       have:=more_same hB.elim c1' fun k hk=>Classical.byContradiction fun hne=>h1 ⟨k,hk,hne⟩
       omega
   · intro hex
     have:=more_more hB.elim c1' (fun v hv k hk=>by omega) (fun k hk=>by omega) hex
     omega
def dW (w r:List Int):Int:=IntKind.wrap .i64 (IntKind.wrap .i64 (IntKind.wrap .i64 (w.getD (r.getD 0 0).toNat 0 + w.getD (r.getD 1 0).toNat 0) - w.getD (r.getD 2 0).toNat 0) - w.getD (r.getD 3 0).toNat 0)
def okR (w:List Int) (m:Int) (r:List Int):Bool:=if m = 0 then decide (dW w r = 0) else decide (Int.tmod (dW w r) m = 0)
theorem drop_all {p:List Int→Bool} {l:List (List Int)} {i:Nat} (h:i < l.length) (d:List Int):(l.drop i).all p = (p (l.getD i d) && (l.drop (i + 1)).all p):=by
 rw [List.drop_eq_getElem_cons h,List.all_cons,List.getD_eq_getElem?_getD,List.getElem?_eq_getElem h];rfl
theorem kept34_loop {x:PP} (hx:PT x) {w:List Int} (hw:(w.length:Int) = x.1) {m:Int} (hm:0 ≤ m) :
   ∀ (F i:Nat),x.2.2.2.1.length - i < F→i ≤ x.2.2.2.1.length→g34L26f 2000 F (fun e1 e2=>some e1) (fun e3=>some true) w m (i:Int) x = some ((x.2.2.2.1.drop i).all (okR w m))
 | 0,i,h,_=>by omega
 | F + 1,i,h,hi=>by
   rw [g34L26f_succ]
   unfold g34L26B
   have hr15:=hx.rules.1
   by_cases hlt:i < x.2.2.2.1.length
   · have e1:decide ((i:Int) < ((x.2.2.2.1.length:Nat):Int)) = true:=by simp;omega
     have ih:=kept34_loop hx hw hm F (i + 1) (by omega) (by omega)
     have hro:=hx.rules.2.1 _ (getD_mem hlt (List.replicate 4 0))
     rw [e1,cond_true,if_pos (ix hlt),Int.toNat_natCast,drop_all hlt (List.replicate 4 0),wn i (by omega)]
     generalize x.2.2.2.1.getD i (List.replicate 4 0) = r at hro ⊢
     obtain ⟨p,q,s,t,rfl,hp,hq,hs,ht⟩:=rule_nat hro
     have h0:idx 0 4:=by decide
     have h1:idx 1 4:=by decide
     have h2:idx 2 4:=by decide
     have h3:idx 3 4:=by decide
     simp only [show Int.toNat 0 = 0 from rfl,show Int.toNat 1 = 1 from rfl,show Int.toNat 2 = 2 from rfl,show Int.toNat 3 = 3 from rfl,List.getD_cons_zero,List.getD_cons_succ,Int.toNat_natCast,if_pos h0,if_pos h1,if_pos h2,if_pos h3,if_pos (ix (show p < w.length by omega)),if_pos (ix (show q < w.length by omega)),if_pos (ix (show s < w.length by omega)),if_pos (ix (show t < w.length by omega)),ih]
     have ed:okR w m [(p:Int),(q:Int),(s:Int),(t:Int)] = if m = 0 then decide (IntKind.wrap .i64 (IntKind.wrap .i64 (IntKind.wrap .i64 (w.getD p 0 + w.getD q 0) - w.getD s 0) - w.getD t 0) = 0) else decide (Int.tmod (IntKind.wrap .i64 (IntKind.wrap .i64 (IntKind.wrap .i64 (w.getD p 0 + w.getD q 0) - w.getD s 0) - w.getD t 0)) m = 0):=rfl
     rw [ed]
     generalize IntKind.wrap .i64 (IntKind.wrap .i64 (IntKind.wrap .i64 (w.getD p 0 + w.getD q 0) - w.getD s 0) - w.getD t 0) = v
     by_cases hm0:m = 0
     · subst hm0
       rw [ieq_self,cond_true,if_pos rfl]
       by_cases hv:v = 0
       · simp [hv]
       · simp [hv,ieq]
     · rw [show ieq m 0 = false from decide_eq_false hm0,cond_false,decide_eq_true (show 0 < m by omega),cond_true,if_neg hm0,if_neg hm0]
       by_cases hv:Int.tmod v m = 0
       · simp [hv]
       · simp [hv,ieq]
   · have e1:decide ((i:Int) < ((x.2.2.2.1.length:Nat):Int)) = false:=by simp;omega
     rw [e1,cond_false,List.drop_eq_nil_of_le (by omega)];rfl
theorem kept34 {x:PP} (hx:PT x) {w:List Int} (hw:(w.length:Int) = x.1) {m:Int} (hm:0 ≤ m):g34 2000 x w m = some (x.2.2.2.1.all (okR w m)):=by
 unfold g34
 rw [g34L26_eq]
 have hr15:=hx.rules.1
 have:=kept34_loop hx hw hm 2000 0 (by omega) (by omega)
 simpa using this
def wOk (l:List Int):Bool:=l.all fun x=>decide (-1000 ≤ x) && decide (x ≤ 1000)
theorem drop_allI {p:Int→Bool} {l:List Int} {i:Nat} (h:i < l.length):(l.drop i).all p = (p (l.getD i 0) && (l.drop (i + 1)).all p):=by
 rw [List.drop_eq_getElem_cons h,List.all_cons,List.getD_eq_getElem?_getD,List.getElem?_eq_getElem h];rfl
theorem weights33 {x:PP} {w:List Int} (hl:w.length ≤ 100):g33 2000 x w = some (wOk w && decide ((w.length:Int) = x.1)):=by
 unfold g33
 rw [g33L26_eq]
 have : ∀ (F i:Nat),w.length - i < F→i ≤ w.length→g33L26f 2000 F (fun e1 e2 e3=>some e2) (fun e4 e5=>some (ieq ((List.length e4:Nat):Int) e5.1)) w (i:Int) x = some (((w.drop i).all fun x=>decide (-1000 ≤ x) && decide (x ≤ 1000)) && decide ((w.length:Int) = x.1)):=by
   intro F
   induction F with
   | zero=>intro i h;omega
   | succ F ih =>
     intro i h hi
     rw [g33L26f_succ]
     unfold g33L26B
     by_cases hlt:i < w.length
     · have e1:decide ((i:Int) < ((w.length:Nat):Int)) = true:=by simp;omega
       rw [e1,cond_true,if_pos (ix hlt),Int.toNat_natCast,drop_allI hlt]
       by_cases h1:w.getD i 0 < -1000
       · rw [decide_eq_true h1,cond_true,decide_eq_false (show ¬ -1000 ≤ w.getD i 0 by omega)];simp
       · rw [decide_eq_false h1,cond_false,if_pos (ix hlt),decide_eq_true (show -1000 ≤ w.getD i 0 by omega)]
         by_cases h2:1000 < w.getD i 0
         · rw [decide_eq_true h2,cond_true,decide_eq_false (show ¬ w.getD i 0 ≤ 1000 by omega)];simp
         · rw [decide_eq_false h2,cond_false,decide_eq_true (show w.getD i 0 ≤ 1000 by omega),wn i (by omega)]
           refine (ih (i + 1) (by omega) (by omega)).trans ?_
           simp
     · have e1:decide ((i:Int) < ((w.length:Nat):Int)) = false:=by simp;omega
       rw [e1,cond_false,List.drop_eq_nil_of_le (by omega)];rfl
 have h0:=this 2000 0 (by omega) (by omega)
 rw [List.drop_zero] at h0
 exact h0
end Go.Pv
namespace Go.Pv
def keyP:List Int→Int→Int | [],k=>k | a :: l,k=>keyP l (10 * k + a)
theorem key_loop (N:Nat) {C:Type} (k0:Int→Option C) (l:List Int) (hl:l.length ≤ 5) (hb:∀ t ∈ l,0 ≤ t∧t ≤ 9) :
   ∀ (F i:Nat) (k:Int),l.length - i < F→i ≤ l.length→0 ≤ k→k < 10 ^ i→g76L58f N F k0 l k (i:Int) = k0 (keyP (l.drop i) k)
 | 0,i,k,h,_,_,_=>by omega
 | F + 1,i,k,h,hi,h0,h1=>by
   rw [g76L58f_succ]
   unfold g76L58B
   by_cases hlt:i < l.length
   · have e1:decide ((i:Int) < (l.length:Int)) = true:=by simp;omega
     obtain ⟨b1,b2⟩:=hb _ (getD_mem hlt 0)
     have hp:(10:Int) ^ (i + 1) = 10 * 10 ^ i:=by rw [Int.pow_succ];omega
     have h5:(10:Int) ^ i ≤ 10 ^ 5:=by
       have h1:(10:Nat) ^ i ≤ 10 ^ 5:=Nat.pow_le_pow_right (by omega) (by omega)
       have h2:((10 ^ i:Nat):Int) ≤ ((10 ^ 5:Nat):Int):=Int.ofNat_le.2 h1
       simpa using h2
     have h6:(10:Int) ^ 5 = 100000:=by decide
     rw [e1,cond_true,if_pos (ix hlt),Int.toNat_natCast,wn i (by omega),w64 (x:=10 * k) (by omega) (by omega),w64 (x:=10 * k + l.getD i 0) (by omega) (by omega),getD_drop l i hlt]
     exact key_loop N k0 l hl hb F (i + 1) _ (by omega) (by omega) (by omega) (by omega)
   · have e1:decide ((i:Int) < (l.length:Int)) = false:=by simp;omega
     rw [e1,cond_false,List.drop_eq_nil_of_le (by omega)];rfl
theorem keyN_eq (N:Nat) (hN:100 < N) {l:List Int} (hl:l.length ≤ 5) (hb:∀ t ∈ l,0 ≤ t∧t ≤ 9):g76 N l = some (keyP l 0):=by
 unfold g76
 rw [g76L58_eq]
 have:=key_loop N (fun e1=>some e1) l hl hb N 0 0 (by omega) (by omega) (by omega) (by simp)
 simp only [Int.natCast_zero,List.drop_zero] at this
 exact this
theorem keyP_inj:∀ (a b:List Int) (j k:Int),a.length = b.length→(∀ t ∈ a,0 ≤ t∧t ≤ 9)→(∀ t ∈ b,0 ≤ t∧t ≤ 9)→keyP a j = keyP b k→j = k∧a = b
 | [],[],j,k,_,_,_,h=>⟨h,rfl⟩
 | x :: a,y :: b,j,k,hl,ha,hb,h=>by
   obtain ⟨h1,h2⟩:=keyP_inj a b (10 * j + x) (10 * k + y) (by simpa using hl) (fun t ht=>ha t (by simp [ht])) (fun t ht=>hb t (by simp [ht])) h
   have hx:=ha x (by simp)
   have hy:=hb y (by simp)
   have:j = k:=by omega
   subst this
   have:x = y:=by omega
   subst this
   exact ⟨rfl,by rw [h2]⟩
def KInv (n:Int) (known:List (Int×Int)) (L:List (List Int)):Prop:=∀ e:List Int,Crowd e n→mapFind (Ty.beq (.int .i64)) (keyP e 0) known = if e ∈ L then some (L.idxOf e:Int) else none
def rowL (L:List (List Int)) (ds:List (List Int)):List Int:=ds.map fun d=>(L.idxOf d:Int)
theorem idx_app {L T:List (List Int)} {e:List Int} (h:e ∈ L):(L ++ T).idxOf e = L.idxOf e:=by rw [List.idxOf_append,if_pos h]
theorem rowL_app {L T:List (List Int)} {ds:List (List Int)} (h:∀ d ∈ ds,d ∈ L):rowL (L ++ T) ds = rowL L ds:=by
 unfold rowL
 exact List.map_congr_left fun d hd=>by rw [idx_app (h d hd)]
theorem ref_loop (N:Nat) (hN:100 < N) {x:PP} (hx:PT x) {C:Type} (k0:Int→PP→List Int→List (List Int)→List Int→List (Int×Int)→List (List Int)→List Int→List (List Int)→List (List Int)→List Int→List (List Int)→Option C) (d:List Int) (hd:Crowd d x.1) (i:Nat) (u1:List (List Int)) (u2:List Int) (u3 u4:List (List Int)) (u5:List Int) (u6:List (List Int)) :
   ∀ (F k:Nat) (L:List (List Int)) (steps:List Int) (known:List (Int×Int)) (done:List (List Int)),x.2.2.2.1.length - k < F→k ≤ x.2.2.2.1.length→KInv x.1 known L→i < L.length→L.getD i [] = d→steps.length = L.length→L.length + (x.2.2.2.1.length - k) ≤ 10000→done.length ≤ k→(∀ e ∈ done,e ∈ L)→∃ known' steps',KInv x.1 known' ((((x.2.2.2.1.drop k).filter fun r=>canR r d).map fun r=>stepR r d).foldl addN L)∧steps'.length = ((((x.2.2.2.1.drop k).filter fun r=>canR r d).map fun r=>stepR r d).foldl addN L).length ∧
     g39L64074f N F k0 (i:Int) (k:Int) x (rowL L done) L steps known u1 u2 u3 u4 u5 u6 = k0 (i:Int) x (rowL ((((x.2.2.2.1.drop k).filter fun r=>canR r d).map fun r=>stepR r d).foldl addN L) (done ++ (((x.2.2.2.1.drop k).filter fun r=>canR r d).map fun r=>stepR r d))) ((((x.2.2.2.1.drop k).filter fun r=>canR r d).map fun r=>stepR r d).foldl addN L) steps' known' u1 u2 u3 u4 u5 u6
 | 0,k,L,steps,known,done,h,_,_,_,_,_,_,_,_=>by omega
 | F + 1,k,L,steps,known,done,h,hk,hI,hi,hLd,hst,hlen,hdl,hdone=>by
   rw [g39L64074f_succ]
   unfold g39L64074B
   have hr15:=hx.rules.1
   by_cases hlt:k < x.2.2.2.1.length
   · have e1:decide ((k:Int) < (x.2.2.2.1.length:Int)) = true:=by simp;omega
     have hro:=hx.rules.2.1 _ (getD_mem hlt (List.replicate 4 0))
     have hdrop:x.2.2.2.1.drop k = x.2.2.2.1.getD k (List.replicate 4 0) :: x.2.2.2.1.drop (k + 1):=by
       rw [List.drop_eq_getElem_cons hlt];simp [hlt]
     rw [e1,cond_true,if_pos (ix hi),Int.toNat_natCast,if_pos hi,hLd,meet42 N x hx d hd.len hd.bd]
     simp only [Option.bind_some]
     have hm:meetL x d (k:Int) = bif canR (x.2.2.2.1.getD k (List.replicate 4 0)) d then (stepR (x.2.2.2.1.getD k (List.replicate 4 0)) d,true,()) else (d,false,()):=by
       unfold meetL
       rw [if_pos ⟨by omega,by omega⟩,Int.toNat_natCast]
     rw [hm,wn k (by omega),hdrop,List.filter_cons]
     cases hcan:canR (x.2.2.2.1.getD k (List.replicate 4 0)) d with
     | false =>
       simp only [cond_false,Bool.not_false,cond_true,Bool.false_eq_true,if_false]
       exact ref_loop N hN hx k0 d hd i u1 u2 u3 u4 u5 u6 F (k + 1) L steps known done (by omega) (by omega) hI hi hLd hst (by omega) (by omega) hdone
     | true =>
       have hs:=hd.stepR hx hro hcan
       simp only [cond_false,Bool.not_true,cond_true,if_true,List.map_cons,List.foldl_cons]
       generalize stepR (x.2.2.2.1.getD k (List.replicate 4 0)) d = e at hs ⊢
       have hsl:=hs.len
       have hn:=hx.n
       rw [keyN_eq N hN (l:=e) (by omega) hs.le]
       simp only [Option.bind_some]
       rw [hI e hs]
       by_cases hmem:e ∈ L
       · have ea:addN L e = L:=by unfold addN;rw [if_pos hmem]
         rw [if_pos hmem,ea]
         simp only [Option.isSome_some,Bool.not_true,cond_false,Option.getD_some]
         rw [if_pos (by simp [rowL,maxCount];omega)]
         have er:rowL L done ++ [(L.idxOf e:Int)] = rowL L (done ++ [e]):=by simp [rowL]
         rw [er]
         have:=ref_loop N hN hx k0 d hd i u1 u2 u3 u4 u5 u6 F (k + 1) L steps known (done ++ [e]) (by omega) (by omega) hI hi hLd hst (by omega) (by simp;omega) (fun e' he'=>by
           rcases List.mem_append.1 he' with h1 | h1
           · exact hdone e' h1
           · obtain rfl:=List.mem_singleton.1 h1;exact hmem)
         simpa only [List.append_assoc,List.singleton_append] using this
       · have ea:addN L e = L ++ [e]:=by unfold addN;rw [if_neg hmem]
         rw [if_neg hmem,ea]
         simp only [Option.isSome_none,Bool.not_false,cond_true]
         rw [if_pos (by simp [maxCount];omega),if_pos (by rw [hst];exact ix hi),if_pos (by rw [hst];exact hi),if_pos (by simp [maxCount];omega),if_pos (by simp [rowL,maxCount];omega)]
         have hix:(L ++ [e]).idxOf e = L.length:=by
           rw [List.idxOf_append,if_neg hmem];simp
         have er:rowL L done ++ [((L.length:Nat):Int)] = rowL (L ++ [e]) (done ++ [e]):=by
           have:=rowL_app (T:=[e]) hdone
           unfold rowL at this ⊢
           rw [List.map_append,this]
           simp [hix]
         rw [er]
         have:=ref_loop N hN hx k0 d hd i u1 u2 u3 u4 u5 u6 F (k + 1) (L ++ [e]) (steps ++ [IntKind.wrap .i64 (steps.getD i 0 + 1)]) (mapPut (Ty.beq (.int .i64)) (keyP e 0) ((L.length:Nat):Int) known) (done ++ [e]) (by omega) (by omega) (fun e' he'=>by
           rw [find_put int_eq]
           by_cases hee:e' = e
           · subst hee
             rw [if_pos rfl,if_pos (by simp),hix]
           · have hp:¬ (keyP e' 0 = keyP e 0):=fun hp=>hee (keyP_inj e' e 0 0 (by have:=he'.len;omega) he'.le hs.le hp).2
             rw [if_neg hp,hI e' he']
             by_cases hm2:e' ∈ L
             · rw [if_pos hm2,if_pos (by simp [hm2]),idx_app hm2]
             · rw [if_neg hm2,if_neg (by simp [hm2,hee])]) (by simp;omega) (by rw [getD_app _ _ _ hi];exact hLd) (by simp [hst]) (by simp;omega) (by simp;omega) (fun e' he'=>by
           rcases List.mem_append.1 he' with h1 | h1
           · exact List.mem_append.2 (.inl (hdone e' h1))
           · exact List.mem_append.2 (.inr h1))
         simpa only [List.append_assoc,List.singleton_append] using this
   · have e1:decide ((k:Int) < (x.2.2.2.1.length:Int)) = false:=by simp;omega
     rw [e1,cond_false,List.drop_eq_nil_of_le (by omega)]
     exact ⟨known,steps,hI,hst,by simp⟩
def Rows39 (x:PP) (i:Nat) (L next:List (List Int)):Prop:=next.length = i∧∀ j,j < i→next.getD j [] = rowL L (nbr x (L.getD j []))
theorem ref39_loop (N:Nat) (hN:100 < N) {x:PP} (hx:PT x) {C:Type} (k0:PP→List (List Int)→List Int→List (Int×Int)→List (List Int)→List Int→List (List Int)→List (List Int)→List Int→List (List Int)→Option C) {c:List Int} (hc:Crowd c x.1) (u1:List (List Int)) (u2:List Int) (u3 u4:List (List Int)) (u5:List Int) :
   ∀ (F i:Nat) (L:List (List Int)) (steps:List Int) (known:List (Int×Int)) (next:List (List Int)),716 < F + i→BInv x c i L→KInv x.1 known L→steps.length = L.length→Rows39 x i L next→∃ known' steps' next',Rows39 x (bfs x F i L).length (bfs x F i L) next'∧steps'.length = (bfs x F i L).length∧g39L250f N F k0 (i:Int) x L steps known u1 u2 u3 u4 u5 next = k0 x (bfs x F i L) steps' known' u1 u2 u3 u4 u5 next'
 | 0,i,L,steps,known,next,hF,hB,hI,hst,hR=>by have:=hB.len hx hc;have:=hB.le;omega
 | F + 1,i,L,steps,known,next,hF,hB,hI,hst,hR=>by
   rw [g39L250f_succ]
   unfold g39L250B
   have hl:=hB.len hx hc
   have hr15:=hx.rules.1
   unfold bfs
   by_cases hlt:i < L.length
   · have e1:decide ((i:Int) < (L.length:Int)) = true:=by simp;omega
     have hm:=(hB.reach _ (getD_mem hlt [])).crowd hx hc
     rw [if_pos hlt,e1,cond_true,g39L64074_eq]
     obtain ⟨known1,steps1,h1,h2,h3⟩:=ref_loop N hN hx (fun e5 e6 e7 e8 e9 e10 e11 e12 e13 e14 e15 e16=>if List.length e16 + List.length [e7] ≤ maxCount then g39L250f N F k0 (IntKind.wrap .i64 (e5 + 1)) e6 e8 e9 e10 e11 e12 e13 e14 e15 (e16 ++ [e7]) else none) (L.getD i []) hm.1 i u1 u2 u3 u4 u5 next N 0 L steps known [] (by omega) (by omega) hI hlt rfl hst (by omega) (by simp) (fun e he=>by cases he)
     simp only [Int.natCast_zero,List.drop_zero,List.nil_append] at h1 h2 h3
     have hnb:(((x.2.2.2.1.filter fun r=>canR r (L.getD i [])).map fun r=>stepR r (L.getD i [])).foldl addN L) = rnd x L (L.getD i []):=rfl
     have hnb2:((x.2.2.2.1.filter fun r=>canR r (L.getD i [])).map fun r=>stepR r (L.getD i [])) = nbr x (L.getD i []):=rfl
     rw [hnb] at h1 h2 h3
     rw [hnb2] at h3
     have hB2:=hB.next hlt
     have hl2:=hB2.len hx hc
     obtain ⟨T,hT⟩:=fold_pre (ds:=nbr x (L.getD i [])) L
     have hT:rnd x L (L.getD i []) = L ++ T:=hT
     have hRl:=hR.1
     have hR2:Rows39 x (i + 1) (rnd x L (L.getD i [])) (next ++ [rowL (rnd x L (L.getD i [])) (nbr x (L.getD i []))]):=by
       refine ⟨by simp [hRl],fun j hj=>?_⟩
       by_cases hji:j = i
       · subst hji
         rw [List.getD_eq_getElem?_getD,List.getElem?_append_right (by omega),hRl,Nat.sub_self]
         have:(rnd x L (L.getD j [])).getD j [] = L.getD j []:=by rw [hT,getD_app _ _ _ hlt]
         rw [this];rfl
       · have:(rnd x L (L.getD i [])).getD j [] = L.getD j []:=by rw [hT,getD_app _ _ _ (by omega)]
         rw [this,getD_app _ _ _ (by omega),hR.2 j (by omega),hT,rowL_app (fun d hd=>hB.closed j (by omega) d hd)]
     obtain ⟨known2,steps2,next2,g1,g2,g3⟩:=ref39_loop N hN hx k0 hc u1 u2 u3 u4 u5 F (i + 1) (rnd x L (L.getD i [])) steps1 known1 _ (by omega) hB2 h1 h2 hR2
     refine ⟨known2,steps2,next2,g1,g2,?_⟩
     refine Eq.trans h3 ?_
     rw [if_pos (by simp [maxCount];omega),wn i (by omega)]
     exact g3
   · have e1:decide ((i:Int) < (L.length:Int)) = false:=by simp;omega
     have hi:i = L.length:=by have:=hB.le;omega
     rw [e1,cond_false,if_neg hlt]
     subst hi
     exact ⟨known,steps,next,hR,hst,rfl⟩
theorem ref39 {x:PP} (hx:PT x) {c:List Int} (hc:Crowd c x.1):∃ steps next,Rows39 x (allL x c).length (allL x c) next∧steps.length = (allL x c).length∧g39 2000 x c = some (allL x c,steps,next,()):=by
 unfold g39
 have hcl:=hc.len
 have hn:=hx.n
 rw [keyN_eq 2000 (by omega) (l:=c) (by omega) hc.le]
 simp only [Option.bind_some]
 rw [g39L250_eq]
 obtain ⟨known,steps,next,h1,h2,h3⟩:=ref39_loop 2000 (by omega) hx (fun e17 e18 e19 e20 e21 e22 e23 e24 e25 e26=>some ((e18,e19,e26,()):List (List Int)×List Int×List (List Int)×Unit)) hc [] [] [] [] [] 2000 0 [c] [0] (mapPut (Ty.beq (.int .i64)) (keyP c 0) 0 []) [] (by omega) (.start x c) (fun e he=>by
   rw [find_put int_eq]
   by_cases hee:e = c
   · subst hee;simp
   · have hp:¬ (keyP e 0 = keyP c 0):=fun hp=>hee (keyP_inj e c 0 0 (by have:=he.len;omega) he.le hc.le hp).2
     rw [if_neg hp]
     simp [mapFind,hee]) rfl ⟨rfl,fun j hj=>by omega⟩
 simp only [Int.natCast_zero] at h3
 exact ⟨steps,next,h1,h2,h3⟩
end Go.Pv
namespace Go.Pv
theorem awake_true:g29 2000 = some true:=by kernel_rfl
end Go.Pv
namespace Go.Pv
def wsum (w c:List Int):Nat→Int
 | 0=>0
 | i + 1=>wsum w c i + w.getD i 0 * c.getD i 0
theorem wsum_dot {w c:List Int} {n:Nat} (hn:n ≤ 5) (hw:w.length = n):wsum w c n = dot (fv w) (fv c):=by
 have h5:∀ k,wsum w c (n + k) = wsum w c n:=by
   intro k
   induction k with
   | zero=>rfl
   | succ k ih =>
     show wsum w c (n + k) + w.getD (n + k) 0 * c.getD (n + k) 0 = _
     have:w.getD (n + k) 0 = 0:=fv_ge (r:=w) hw (by omega)
     rw [this,Int.zero_mul,ih];omega
 have:=h5 (5 - n)
 rw [show n + (5 - n) = 5 by omega] at this
 rw [← this]
 unfold dot fv
 simp only [wsum]
 omega
theorem wsum_bd {w c:List Int} {n:Int} (hc:Crowd c n) (hw:Bdd 1000 (fv w)):∀ i:Nat,-(9000 * (i:Int)) ≤ wsum w c i∧wsum w c i ≤ 9000 * (i:Int)
 | 0=>by simp [wsum]
 | i + 1=>by
   have ih:=wsum_bd hc hw i
   have h1:=hw i
   have h2:-9 ≤ c.getD i 0∧c.getD i 0 ≤ 9:=by
     by_cases h:i < c.length
     · have:=hc.le _ (getD_mem h 0);omega
     · rw [List.getD_eq_getElem?_getD,List.getElem?_eq_none (by omega)];simp
   have:=mul_bd h1 h2 (by omega) (by omega)
   unfold fv at this
   simp only [wsum]
   omega
theorem mul_bd9 {w c:List Int} {n:Int} (hc:Crowd c n) (hw:Bdd 1000 (fv w)) (i:Nat):-9000 ≤ w.getD i 0 * c.getD i 0∧w.getD i 0 * c.getD i 0 ≤ 9000:=by
 have h1:=hw i
 have h2:-9 ≤ c.getD i 0∧c.getD i 0 ≤ 9:=by
   by_cases h:i < c.length
   · have:=hc.le _ (getD_mem h 0);omega
   · rw [List.getD_eq_getElem?_getD,List.getElem?_eq_none (by omega)];simp
 have:=mul_bd h1 h2 (by omega) (by omega)
 unfold fv at this
 omega
theorem weight80 {w c:List Int} {n:Int} (hc:Crowd c n) (hn:n ≤ 5) (hl:(w.length:Int) = n) (hw:Bdd 1000 (fv w)):g80 2000 (pad c) w = some (dot (fv w) (fv c)):=by
 unfold g80
 rw [g80L58_eq,← wsum_dot (n:=w.length) (by omega) rfl]
 have:∀ (F i:Nat),w.length - i < F→i ≤ w.length→g80L58f 2000 F (fun e1 e2=>some e1) (wsum w c i) w ((w.length:Nat):Int) (i:Int) (pad c) = some (wsum w c w.length):=by
   intro F
   induction F with
   | zero=>intro i h;omega
   | succ F ih =>
     intro i h hi
     rw [g80L58f_succ]
     unfold g80L58B
     by_cases hlt:i < w.length
     · have e1:decide ((i:Int) < ((w.length:Nat):Int)) = true:=by simp;omega
       have m1:=mul_bd9 hc hw i
       have m2:=wsum_bd hc hw i
       rw [e1,cond_true,if_pos (ix hlt),if_pos (ix (by omega)),Int.toNat_natCast,getD_pad,w64 (x:=w.getD i 0 * c.getD i 0) (by omega) (by omega),w64 (x:=wsum w c i + w.getD i 0 * c.getD i 0) (by omega) (by omega),wn i (by omega)]
       exact ih (i + 1) (by omega) (by omega)
     · have e1:decide ((i:Int) < ((w.length:Nat):Int)) = false:=by simp;omega
       have:i = w.length:=by omega
       rw [e1,cond_false,this]
 exact this 2000 0 (by omega) (by omega)
theorem weight46 {w c:List Int} {n:Int} (hc:Crowd c n) (hn:n ≤ 5) (hl:(w.length:Int) = n) (hw:Bdd 1000 (fv w)):g46 2000 w c = some (dot (fv w) (fv c)):=by
 unfold g46
 have hcl:=hc.len
 rw [g46L58_eq,← wsum_dot (n:=w.length) (by omega) rfl]
 have:∀ (F i:Nat),w.length - i < F→i ≤ w.length→g46L58f 2000 F (fun e1=>some e1) w c (wsum w c i) (i:Int) = some (wsum w c w.length):=by
   intro F
   induction F with
   | zero=>intro i h;omega
   | succ F ih =>
     intro i h hi
     rw [g46L58f_succ]
     unfold g46L58B
     by_cases hlt:i < w.length
     · have e1:decide ((i:Int) < ((c.length:Nat):Int)) = true:=by simp;omega
       have m1:=mul_bd9 hc hw i
       have m2:=wsum_bd hc hw i
       rw [e1,cond_true,if_pos (ix hlt),if_pos (ix (by omega)),Int.toNat_natCast,w64 (x:=w.getD i 0 * c.getD i 0) (by omega) (by omega),w64 (x:=wsum w c i + w.getD i 0 * c.getD i 0) (by omega) (by omega),wn i (by omega)]
       exact ih (i + 1) (by omega) (by omega)
     · have e1:decide ((i:Int) < ((c.length:Nat):Int)) = false:=by simp;omega
       have:i = w.length:=by omega
       rw [e1,cond_false,this]
 exact this 2000 0 (by omega) (by omega)
theorem dot_at1 (w:Vec) {p:Nat} (hp:p < 5):dot w (at1 p) = w p:=by
 unfold dot at1
 have:p = 0 ∨ p = 1 ∨ p = 2 ∨ p = 3 ∨ p = 4:=by omega
 rcases this with rfl | rfl | rfl | rfl | rfl <;> simp
theorem dot_chg (w:Vec) {n p q s t:Nat} (hn:n ≤ 5) (hp:p < n) (hq:q < n) (hs:s < n) (ht:t < n):dot w (fv (chg n [(p:Int),(q:Int),(s:Int),(t:Int)])) = w p + w q - w s - w t:=by
 have e:fv (chg n [(p:Int),(q:Int),(s:Int),(t:Int)]) = fun k=>at1 p k + at1 q k - at1 s k - at1 t k:=funext (fv_chg hp hq hs ht)
 have h1:=dot_at1 w (p:=p) (by omega)
 have h2:=dot_at1 w (p:=q) (by omega)
 have h3:=dot_at1 w (p:=s) (by omega)
 have h4:=dot_at1 w (p:=t) (by omega)
 rw [e,← h1,← h2,← h3,← h4]
 unfold dot
 grind
structure WK (x:PP) (w:List Int):Prop where
 len:(w.length:Int) = x.1
 bd:Bdd 512 (fv w)
 kept:∀ r ∈ x.2.2.2.1,dot (fv w) (fv (chg x.1.toNat r)) = 0
theorem wk_of {x:PP} (hx:PT x) {t:Stg} {R:Nat→Vec} {m:Nat} (hB:Bas x t R m) {f:Nat} (hf:f ∈ frees t x.1.toNat):WK x (wts x.1.toNat t R f):=by
 have hn:=hx.n
 obtain ⟨h1,h2⟩:=mem_frees.1 hf
 obtain ⟨a1,a2⟩:=hB.ok f h1 h2
 refine ⟨by omega,a2.bd (by omega) hB.rul hB.si hB.ab hB.pr hB.le h1 h2,fun r hr=>a2.kept (by omega) hB.si hB.pr h1 h2 ?_⟩
 unfold chgs
 exact List.mem_map.2 ⟨_,List.mem_map.2 ⟨r,hr,rfl⟩,rfl⟩
theorem WK.bd' {x:PP} {w:List Int} (h:WK x w):Bdd 1000 (fv w):=fun k=>by have:=h.bd k;omega
theorem WK.ok {x:PP} {w:List Int} (h:WK x w):wOk w = true:=by
 unfold wOk
 rw [List.all_eq_true]
 intro y hy
 obtain ⟨k,hk,rfl⟩:=List.getElem_of_mem hy
 have:=h.bd k
 unfold fv at this
 rw [List.getD_eq_getElem?_getD,List.getElem?_eq_getElem hk,Option.getD_some] at this
 simp;omega
theorem WK.all {x:PP} (hx:PT x) {w:List Int} (h:WK x w):x.2.2.2.1.all (okR w 0) = true:=by
 rw [List.all_eq_true]
 intro r hr
 have hk:=h.kept r hr
 have hn:=hx.n
 obtain ⟨p,q,s,t,rfl,hp,hq,hs,ht⟩:=rule_nat (hx.rules.2.1 r hr)
 rw [dot_chg _ (by omega) (by omega) (by omega) (by omega) (by omega)] at hk
 have bp:=h.bd p
 have bq:=h.bd q
 have bs:=h.bd s
 have bt:=h.bd t
 unfold okR dW
 rw [if_pos rfl]
 simp only [List.getD_cons_zero,List.getD_cons_succ,Int.toNat_natCast]
 unfold fv at hk bp bq bs bt
 rw [w64 (x:=w.getD p 0 + w.getD q 0) (by omega) (by omega),w64 (x:=w.getD p 0 + w.getD q 0 - w.getD s 0) (by omega) (by omega),w64 (by omega) (by omega)]
 exact decide_eq_true hk
theorem forbids44 {x:PP} (hx:PT x) {t:Stg} {R:Nat→Vec} {m:Nat} (hB:Bas x t R m) (hg:g67 2000 x = some ((frees t x.1.toNat).map (wts x.1.toNat t R))) {a b:List Int} (ha:Crowd a x.1) (hb:Crowd b x.1) :
   (∃ f,f ∈ frees t x.1.toNat∧dot (fv (wts x.1.toNat t R f)) (fv a) ≠ dot (fv (wts x.1.toNat t R f)) (fv b)∧g44 2000 x a b = some (wts x.1.toNat t R f,true,0,())) ∨
   ((∀ f ∈ frees t x.1.toNat,dot (fv (wts x.1.toNat t R f)) (fv a) = dot (fv (wts x.1.toNat t R f)) (fv b))∧g44 2000 x a b = some ([],false,0,())):=by
 have hn:=hx.n
 have hal:=ha.len
 have hbl:=hb.len
 have hfl:=frees_len (n:=x.1.toNat) hB.si.nodup hB.si.lt
 unfold g44
 rw [open_eq 2000 (by omega) hx (by simp) (fun d hd=>by
   rcases List.mem_cons.1 hd with h1 | h1
   · subst h1;exact ha
   · obtain rfl:=List.mem_singleton.1 h1;exact hb)]
 simp only [Option.bind_some,ieq_self,Bool.not_true,cond_false]
 rw [hg]
 simp only [Option.bind_some]
 rw [g44L58_eq]
 have loop:∀ (F i:Nat),(frees t x.1.toNat).length - i < F→i ≤ (frees t x.1.toNat).length→(∀ j,j < i→dot (fv (wts x.1.toNat t R ((frees t x.1.toNat).getD j 0))) (fv a) = dot (fv (wts x.1.toNat t R ((frees t x.1.toNat).getD j 0))) (fv b)) →
     (∃ f,f ∈ frees t x.1.toNat∧dot (fv (wts x.1.toNat t R f)) (fv a) ≠ dot (fv (wts x.1.toNat t R f)) (fv b)∧g44L58f 2000 F (fun e7 e8 e9=>some (e7,e8,e9,())) (some (([]:List Int),false,0,())) a b ((frees t x.1.toNat).map (wts x.1.toNat t R)) ((((frees t x.1.toNat).map (wts x.1.toNat t R)).length:Nat):Int) (i:Int) = some (wts x.1.toNat t R f,true,0,())) ∨
     ((∀ f ∈ frees t x.1.toNat,dot (fv (wts x.1.toNat t R f)) (fv a) = dot (fv (wts x.1.toNat t R f)) (fv b))∧g44L58f 2000 F (fun e7 e8 e9=>some (e7,e8,e9,())) (some (([]:List Int),false,0,())) a b ((frees t x.1.toNat).map (wts x.1.toNat t R)) ((((frees t x.1.toNat).map (wts x.1.toNat t R)).length:Nat):Int) (i:Int) = some ([],false,0,())):=by
   intro F
   induction F with
   | zero=>intro i h;omega
   | succ F ih =>
     intro i h hi hj
     rw [g44L58f_succ]
     unfold g44L58B
     by_cases hlt:i < (frees t x.1.toNat).length
     · have e1:decide ((i:Int) < ((((frees t x.1.toNat).map (wts x.1.toNat t R)).length:Nat):Int)) = true:=by simp;omega
       have hm:=getD_mem (l:=frees t x.1.toNat) hlt 0
       have hW:=wk_of hx hB hm
       rw [e1,cond_true,if_pos (ix (by simpa using hlt)),Int.toNat_natCast,map_getD _ _ _ 0 _ hlt,of72 2000 a (by omega),of72 2000 b (by omega)]
       simp only [Option.bind_some]
       rw [weight80 ha (by omega) hW.len hW.bd',weight80 hb (by omega) hW.len hW.bd']
       simp only [Option.bind_some]
       by_cases he:dot (fv (wts x.1.toNat t R ((frees t x.1.toNat).getD i 0))) (fv a) = dot (fv (wts x.1.toNat t R ((frees t x.1.toNat).getD i 0))) (fv b)
       · rw [he,ieq_self,Bool.not_true,cond_false,wn i (by omega)]
         refine ih (i + 1) (by omega) (by omega) (fun j hj'=>?_)
         by_cases hji:j = i
         · subst hji;exact he
         · exact hj j (by omega)
       · rw [show ieq (dot (fv (wts x.1.toNat t R ((frees t x.1.toNat).getD i 0))) (fv a)) (dot (fv (wts x.1.toNat t R ((frees t x.1.toNat).getD i 0))) (fv b)) = false from decide_eq_false he,Bool.not_false,cond_true]
         exact .inl ⟨_,hm,he,rfl⟩
     · have e1:decide ((i:Int) < ((((frees t x.1.toNat).map (wts x.1.toNat t R)).length:Nat):Int)) = false:=by simp;omega
       rw [e1,cond_false]
       refine .inr ⟨fun f hf=>?_,rfl⟩
       obtain ⟨j,hj',rfl⟩:=List.getElem_of_mem hf
       have:=hj j (by omega)
       rwa [List.getD_eq_getElem?_getD,List.getElem?_eq_getElem hj'] at this
 exact loop 2000 0 (by omega) (by omega) (fun j hj=>by omega)
theorem dot_dif {w a b:List Int} {n:Nat} (ha:a.length = n) (hb:b.length = n):dot (fv w) (fv (dif a b n)) = dot (fv w) (fv b) - dot (fv w) (fv a):=by
 have e:fv (dif a b n) = fun k=>fv b k - fv a k:=funext (dif_fv ha hb)
 rw [e];unfold dot;grind
theorem forbid_iff {x:PP} (hx:PT x) {t:Stg} {R:Nat→Vec} {m:Nat} (hB:Bas x t R m) {a b:List Int} (ha:Crowd a x.1) (hb:Crowd b x.1) :
   (∃ k,k < x.1.toNat∧app t.A (fv (dif a b x.1.toNat)) k ≠ 0) ↔ ∃ f,f ∈ frees t x.1.toNat∧dot (fv (wts x.1.toNat t R f)) (fv a) ≠ dot (fv (wts x.1.toNat t R f)) (fv b):=by
 have hn:=hx.n
 have hal:=ha.len
 have hbl:=hb.len
 have key:∀ f,f < x.1.toNat→f ∉ t.P→(dot (fv (wts x.1.toNat t R f)) (fv a) = dot (fv (wts x.1.toNat t R f)) (fv b) ↔ app t.A (fv (dif a b x.1.toNat)) f = 0):=fun f h1 h2=>by
   have:=(hB.ok f h1 h2).2.dot (by omega) hB.si hB.pr h1 h2 (fv (dif a b x.1.toNat))
   rw [dot_dif (by omega) (by omega)] at this
   rw [← this]
   omega
 constructor
 · rintro ⟨k,hk,hne⟩
   have hkP:k ∉ t.P:=fun h=>hne (hB.si.appP h _)
   exact ⟨k,mem_frees.2 ⟨hk,hkP⟩,fun h=>hne ((key k hk hkP).1 h)⟩
 · rintro ⟨f,hf,hne⟩
   obtain ⟨h1,h2⟩:=mem_frees.1 hf
   exact ⟨f,h1,fun h=>hne ((key f h1 h2).2 h)⟩
end Go.Pv
