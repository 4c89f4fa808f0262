/- Seat 09, plain: the law ProbeMoore. -/
import Derived.Test.YtiinfljjfceckaaDoorMg2
import Derived.Test.YtiinfljjfceckaaDoorPvAB
set_option linter.unusedVariables false
set_option linter.unusedSimpArgs false
namespace Go.Pv
open Bfs
theorem apart_n {x:MM} {k:Nat} (h:Pm x k) (N:Nat) (hN:1000 < N) (s t:Nat) (hs:s < x.1.length) (ht:t < x.1.length) :
   ∃ w b,g72 N x x ((s:Int),(t:Int),()) = some (w,b,())∧b = !decide (lst x k x.1.length s = lst x k x.1.length t)∧(b = true→w.length < x.1.length)∧w.length ≤ 1000:=by
 have n1:=h.n1
 have n6:=h.n6
 rcases apart_eq h h N hN (s:Int) (t:Int) ⟨by omega,by omega⟩ ⟨by omega,by omega⟩ with ⟨ws,hE,e⟩ | ⟨hE,e⟩
 · have hl:=hE.least
   have hne:¬ eqvA x k s t:=fun he=>hl.2.1 (he ws hl.1)
   have hd:lst x k x.1.length s ≠ lst x k x.1.length t:=fun e=>hne ((h.z4V hs ht).2 ((q6P x k _ s t).1 e))
   obtain ⟨v,v1,v2,v3⟩:∃ v:List Nat,(∀ i ∈ v,i < k)∧v.length ≤ x.1.length - 1∧sd x (wd v) s ≠ sd x (wd v) t:=by
     apply Classical.byContradiction
     intro hno
     refine hne (h.moore (r:=x.1.length - 1) (by omega) hs ht fun v hv hvl=>?_)
     apply Classical.byContradiction
     intro hsd
     exact hno ⟨v,hv,hvl,hsd⟩
   have hle:ws.length ≤ v.length:=by
     apply Classical.byContradiction
     intro hgt
     exact hl.2.2 v v1 (by omega) v3
   exact ⟨_,true,e,by rw [decide_eq_false hd];rfl,fun _=>by simp;omega,by simp;omega⟩
 · refine ⟨_,false,e,?_,fun h=>(by cases h),by simp⟩
   have he:eqvA x k s t:=fun w hw=>Classical.not_not.1 (hE.none w hw)
   rw [decide_eq_true ((q6P x k _ s t).2 (he.all _))];rfl
theorem g37_eq {x:MM} {k:Nat} (h:Pm x k) (N:Nat) (hN:1000 < N) (s t:Nat) (hs:s < x.1.length) (ht:t < x.1.length) {w:List Int} {b:Bool} (e:g72 N x x ((s:Int),(t:Int),()) = some (w,b,())):g37 N x (s:Int) (t:Int) = some (w,b,0,()):=by
 have o1:∀ q:Int,0 ≤ q→q < (x.1.length:Int)→g62 N [x] q [] = some 0:=fun q q0 q1=>by
   rw [open_eq N hN [x] k q [] (by simp) (by simp) (fun m hm=>by simp at hm;subst hm;exact h) q0 q1 (by simp)];rfl
 unfold g37
 rw [o1 s (by omega) (by omega)]
 simp only [Option.bind_some,q2K,Bool.not_true,cond_false]
 rw [o1 t (by omega) (by omega)]
 simp only [Option.bind_some,q2K,Bool.not_true,cond_false]
 rw [e];rfl
theorem z6G {x:MM} {k:Nat} (h:Pm x k) (N:Nat) (hN:1000 < N) {C:Type} (k0:Bool→Int→List Int→Bool→Int→MM→Option C) (k1:Int→List Int→Bool→Int→MM→Option C) (b:Bool) (s:Nat) (hs:s < x.1.length) :
   ∀ (F t:Nat),s - t < F→t ≤ s→z0D N F k0 k1 (x.1.length:Int) (clsA x k) b (s:Int) (t:Int) x = k1 (x.1.length:Int) (clsA x k) b (s:Int) x
 | 0,t,hF,_=>by omega
 | F + 1,t,hF,ht=>by
   have n6:=h.n6
   have hcl:(clsA x k).length = x.1.length:=by unfold clsA;simp
   rw [z9U]
   unfold q6T
   by_cases hlt:t < s
   · obtain ⟨w,bb,e,e2,e3,e4⟩:=apart_n h N hN s t hs (by omega)
     have hb:beqB bb (!ieq ((clsA x k).getD s 0) ((clsA x k).getD t 0)) = true:=by
       rw [q6N x k s hs,q6N x k t (by omega),e2]
       by_cases hh:lst x k x.1.length s = lst x k x.1.length t
       · rw [decide_eq_true hh,show ieq ((lst x k x.1.length s:Nat):Int) ((lst x k x.1.length t:Nat):Int) = true from decide_eq_true (by omega)];rfl
       · rw [decide_eq_false hh,show ieq ((lst x k x.1.length s:Nat):Int) ((lst x k x.1.length t:Nat):Int) = false from decide_eq_false (by omega)];rfl
     have ih:=z6G h N hN k0 k1 b s hs F (t + 1) (by omega) (by omega)
     rw [ltT hlt,cond_true,g37_eq h N hN s t hs (by omega) e]
     simp only [Option.bind_some,q2K,Bool.not_true,cond_false,Int.toNat_natCast,hb]
     rw [if_pos (show idx (s:Int) (clsA x k).length from ⟨by omega,by omega⟩),if_pos (show idx (t:Int) (clsA x k).length from ⟨by omega,by omega⟩),wn t (by omega)]
     cases bb with
     | true =>
       have:=e3 rfl
       rw [cond_true,decide_eq_false (by omega),cond_false]
       exact ih
     | false=>rw [cond_false];exact ih
   · rw [ltF hlt,cond_false]
noncomputable def unlk (x:MM) (k s:Nat):Bool:=allN s 0 fun t=>decide (lst x k x.1.length t = t)
theorem allN_snoc:∀ (m i:Nat) (f:Nat→Bool),allN (m + 1) i f = (allN m i f && f (i + m))
 | 0,i,f=>by simp [allN]
 | m + 1,i,f=>by
   rw [show allN (m + 1 + 1) i f = (f i && allN (m + 1) (i + 1) f) from rfl,allN_snoc m (i + 1) f,show allN (m + 1) i f = (f i && allN m (i + 1) f) from rfl,Bool.and_assoc,show i + 1 + m = i + (m + 1) by omega]
theorem j1Z {x:MM} {k:Nat} (h:Pm x k) (N:Nat) (hN:1000 < N) {C:Type} (k0:Bool→Int→Bool→MM→Option C) (k1:Int→Bool→MM→Option C) :
   ∀ (F s:Nat),x.1.length - s < F→s ≤ x.1.length→z0L N F k0 k1 (x.1.length:Int) (clsA x k) (unlk x k s) (s:Int) x = k1 (x.1.length:Int) (unlk x k x.1.length) x
 | 0,s,hF,_=>by omega
 | F + 1,s,hF,hs=>by
   have n6:=h.n6
   have hcl:(clsA x k).length = x.1.length:=by unfold clsA;simp
   rw [g7L2042f_succ]
   unfold z4W
   by_cases hlt:s < x.1.length
   · have hle:=(q1R x k x.1.length s).1
     have hc:=q6N x k s hlt
     have hi:idx (s:Int) (clsA x k).length:=⟨by omega,by omega⟩
     have ih:=j1Z h N hN k0 k1 F (s + 1) (by omega) (by omega)
     have hsn:unlk x k (s + 1) = (unlk x k s && decide (lst x k x.1.length s = s)):=by
       unfold unlk
       rw [allN_snoc,Nat.zero_add]
     rw [ltT hlt,cond_true,if_pos hi,Int.toNat_natCast,hc,decide_eq_false (by omega),cond_false,if_pos hi,decide_eq_false (by omega),cond_false]
     cases hb:unlk x k s with
     | true =>
       rw [hb,Bool.true_and] at hsn
       have hie:ieq ((lst x k x.1.length s:Nat):Int) (s:Int) = unlk x k (s + 1):=by
         rw [hsn]
         by_cases hh:lst x k x.1.length s = s
         · rw [decide_eq_true hh];exact decide_eq_true (by omega)
         · rw [decide_eq_false hh];exact decide_eq_false (by omega)
       rw [cond_true,if_pos hi,hie,z7P]
       refine Eq.trans (z6G h N hN (fun e6 e7 e8 e9 e10 e11=>k0 e6 e7 e9 e11) (fun e12 e13 e14 e15 e16=>z0L N F k0 k1 e12 e13 e14 (IntKind.wrap .i64 (e15 + 1)) e16) (unlk x k (s + 1)) s hlt N 0 (by omega) (by omega)) ?_
       rw [wn s (by omega)]
       exact ih
     | false =>
       rw [hb,Bool.false_and] at hsn
       rw [cond_false,z7P]
       refine Eq.trans (z6G h N hN (fun e17 e18 e19 e20 e21 e22=>k0 e17 e18 e20 e22) (fun e23 e24 e25 e26 e27=>z0L N F k0 k1 e23 e24 e25 (IntKind.wrap .i64 (e26 + 1)) e27) false s hlt N 0 (by omega) (by omega)) ?_
       rw [wn s (by omega)]
       rw [hsn] at ih
       exact ih
   · rw [ltF hlt,cond_false]
     have:s = x.1.length:=by omega
     subst this
     rfl
theorem iota_loop (N:Nat) {C:Type} (k0:Bool→Option C) (k1:Option C) (m:Nat) (hm:m ≤ 6):∀ (F i:Nat),m - i < F→i ≤ m→z0K N F k0 k1 (iota m) (i:Int) = k1
 | 0,i,hF,_=>by omega
 | F + 1,i,hF,hi=>by
   rw [z8Y]
   unfold q7C
   rw [z0P]
   by_cases hlt:i < m
   · rw [ltT hlt,cond_true,if_pos (idxT hlt),Int.toNat_natCast,z0A m i hlt,q2K,Bool.not_true,cond_false,wn i (by omega)]
     exact iota_loop N k0 k1 m hm F (i + 1) (by omega) (by omega)
   · rw [ltF hlt,cond_false]
theorem Pm.form_of {x:MM} {k:Nat} (h:Pm x k) (N:Nat) (hN:1000 < N) {res:List (List Int)×List (List Int)} (hf:Go.Pv.q6H (clsA x k) x k N 0 [0] [] [] = some res):g19 N x = some (fm res,0,()):=by
 have n1:=h.n1
 have hn:Num (q0S (Ty.beq (.int .i64)) 0 0 ([]:NM)) [0]:=by
   intro u
   rw [q2L _ beqI]
   by_cases hu:u = 0
   · subst hu;simp
   · rw [if_neg hu,if_neg (by simpa using hu)];rfl
 have hw:Wys [([]:List Int)] [0]:=⟨rfl,fun j hj=>by
   obtain rfl:j = 0:=by simpa using hj
   simp⟩
 obtain ⟨mp',l',ws',e⟩:=form60 h N (by omega) (fun e16 e17 e18 e19 e20 e21 e22 e23=>some ((e22,e23,()),e19,())) [] [] N 0 [0] _ [([]:List Int)] [] [] res (VL.zero n1) (by simp) rfl rfl hn hw hf
 have e60:g60 N x = some (fm res,ws',()):=by
   unfold g60
   rw [h.alike N hN]
   simp only [Option.bind_some]
   rw [j0T]
   exact e
 unfold g19
 rw [h.check N (by omega)]
 simp only [Option.bind_some,q2K,Bool.not_true,cond_false]
 rw [e60];rfl
theorem z9Q (N:Nat) (hN:1000 < N) {C:Type} (k0:Bool→Option C) (k1:Option C) (l:List (List Int)) (hl:l.length ≤ 6) (hr:∀ r ∈ l,r.length ≤ 1000) :
   ∀ (F i:Nat),l.length - i < F→i ≤ l.length→g61L58f N F k0 k1 l l (i:Int) = k1
 | 0,i,hF,_=>by omega
 | F + 1,i,hF,hi=>by
   rw [g61L58f_succ]
   unfold j0D
   by_cases hlt:i < l.length
   · rw [ltT hlt,cond_true,if_pos (idxT hlt),if_pos (idxT hlt),Int.toNat_natCast,ints_self N _ (hr _ (q0Q hlt [])) hN]
     simp only [Option.bind_some,Bool.not_true,cond_false]
     rw [wn i (by omega)]
     exact z9Q N hN k0 k1 l hl hr F (i + 1) (by omega) (by omega)
   · rw [ltF hlt,cond_false]
theorem z9B (N:Nat) (hN:1000 < N) (l:List (List Int)) (hl:l.length ≤ 6) (hr:∀ r ∈ l,r.length ≤ 1000):g61 N l l = some true:=by
 unfold g61
 rw [q2K,Bool.not_true,cond_false,g61L58_eq]
 exact z9Q N hN _ _ l hl hr N 0 (by omega) (by omega)
theorem Pm.equal_self {x:MM} {k:Nat} (h:Pm x k) (N:Nat) (hN:1000 < N):g22 N x x = some true:=by
 have n6:=h.n6
 have ho:=h.out
 have k3:=h.k3
 unfold g22
 rw [z9B N hN x.1 n6 fun r hr=>by have:=(h.rowN r hr).1;omega]
 simp only [Option.bind_some,cond_true]
 rw [z9B N hN x.2.1 (by omega) fun r hr=>by have:=(h.rowO r hr).1;omega]
 rfl
theorem home_tE (x:MM) (w:List Int) (h:Home x w):tE x w = true:=by
 unfold tE
 simp only [z0N]
 intro s _ hs t _ ht
 by_cases he:sd x w s = sd x w t
 · rw [decide_eq_true he,decide_eq_true (h s t (by omega) (by omega) he)];rfl
 · rw [decide_eq_false he];rfl
theorem awakeBig:g25v1 300000000 = some true:=by kernel_rfl
theorem moore_plain (a0:MM) (a1:Int):g7 300000000 a0 a1 = some true:=by
 unfold g7
 obtain ⟨k,hk,k1,k3⟩:=inputs_eq 300000000 a1
 obtain ⟨x,hx,h,h6⟩:=tame_eq 300000000 (by omega) a0 6 (by omega) (by omega) k k1 k3
 have n1:=h.n1
 have n6:=h.n6
 have gx:=h.given 300000000 (by omega)
 have chk:=h.check 300000000 (by omega)
 have cA:ieq (0:Int) 0 = true:=rfl
 have hcl:(clsA x k).length = x.1.length:=by unfold clsA;simp
 have a17:∀ (y:MM),Pm y k→g17 300000000 y = some (clsA y k,0,()):=fun y hy=>by
   unfold g17
   rw [hy.check 300000000 (by omega)]
   simp only [Option.bind_some,cA,Bool.not_true,cond_false]
   rw [hy.alike 300000000 (by omega)];rfl
 -- the form
 obtain ⟨L,res,hF,hf,hv,hr,hL1,hL0,hFL⟩:=h.formIs 300000000 (by omega)
 have hp:=hf.pm h hv hL1
 have f1:=h.form_of 300000000 (by omega) hF
 have hag:=hf.again h hv hr hL1 300000000 0 [0] [] [] hFL hF
 have f2:g19 300000000 (fm res) = some (fm res,0,()):=hp.form_of 300000000 (by omega) hag
 have f3:g17 300000000 (fm res) = some (iota L.length,0,()):=by rw [a17 _ hp,hf.cls h hv hr hL1]
 have f4:g23 300000000 (fm res) = some (fm res):=hp.own 300000000 (by omega)
 have f5:=hp.equal_self 300000000 (by omega)
 have hlm:(fm res).1.length = L.length:=hf.l1
 have f6:g40 300000000 x (fm res) = some ([],true,0,()):=by
   have e:g62 300000000 [x,fm res] 0 [] = some 0:=by
     rw [open_eq 300000000 (by omega) [x,fm res] k 0 [] (by simp) (by simp) (fun m hm=>by
       simp only [List.mem_cons,List.not_mem_nil,or_false] at hm
       rcases hm with rfl | rfl
       · exact h
       · exact hp) (by omega) (by show (0:Int) < (x.1.length:Int);omega) (by simp)];rfl
   have e2:g72 300000000 x (fm res) (0,0,()) = some ([],false,()):=by
     rcases apart_eq h hp 300000000 (by omega) 0 0 ⟨by omega,by omega⟩ ⟨by omega,by omega⟩ with ⟨ws,hE,e⟩ | ⟨hE,e⟩
     · have hl:=hE.least
       have hs:=hf.says h hv hL1 ws hl.1 0 (by omega)
       rw [hL0] at hs
       exact absurd hs.symm hl.2.1
     · exact e
   unfold g40
   rw [e]
   simp only [Option.bind_some,cA,Bool.not_true,cond_false]
   rw [e2];rfl
 have hL6:L.length ≤ 6:=by have:=hv.len n6;omega
 have f7:ieq (((iota L.length).length:Nat):Int) (((fm res).1.length:Nat):Int) = true:=decide_eq_true (by rw [z0P];omega)
 have f8:∀ (k0:Bool→Option Bool) (k1:Option Bool),z4A 300000000 k0 k1 (iota L.length) 0 = k1:=fun k0 k1=>by
   rw [g7L524282_eq]
   exact iota_loop 300000000 k0 k1 L.length (by omega) 300000000 0 (by omega) (by omega)
 -- the end
 have E:=prog_short h n6 300000000 (by omega) (fun (x2:GG×Unit)=>Option.bind (g65 300000000 x x2.1) fun y3=>some y3) (fun z=>allN x.1.length 0 (fun s=>allN s 0 (fun t=>!(decide (z.1.getD s 0 = z.1.getD t 0) && !decide (z.2.1.getD s 0 = z.2.1.getD t 0))))) (tE x) (fun z hz=>by simp only [h.tellsEnd 300000000 (by omega) z];rfl) (fun z w _ hg=>hg.end_same)
 have fE:∀ w is,g64 300000000 x (fun (x2:GG×Unit)=>Option.bind (g65 300000000 x x2.1) fun y3=>some y3) = some (w,is,())→g29 300000000 x = some (w,is,0,()):=fun w is e=>by
   unfold g29
   rw [chk]
   simp only [Option.bind_some,cA,Bool.not_true,cond_false]
   rw [e];rfl
 have hst:∀ (k0:Bool→Int→Bool→MM→Option Bool) (k1:Int→Bool→MM→Option Bool),g7L2042 300000000 k0 k1 (x.1.length:Int) (clsA x k) true 0 x = k1 (x.1.length:Int) (unlk x k x.1.length) x:=fun k0 k1=>by
   rw [g7L2042_eq]
   exact j1Z h 300000000 (by omega) k0 k1 300000000 0 (by omega) (by omega)
 have hlen:ieq (((clsA x k).length:Nat):Int) ((x.1.length:Nat):Int) = true:=decide_eq_true (by omega)
 simp only [hk,hx,gx,a17 x h,hlen,Option.bind_some,cA,Bool.not_true,cond_false,hst]
 cases hb:unlk x k x.1.length with
 | true =>
   have hun:∀ s t,s < x.1.length→t < x.1.length→eqvA x k s t→s = t:=fun s t hs ht he=>by
     have h1:=(z0N _ _ _).1 hb s (by omega) (by omega)
     have h2:=(z0N _ _ _).1 hb t (by omega) (by omega)
     have h1:lst x k x.1.length s = s:=of_decide_eq_true h1
     have h2:lst x k x.1.length t = t:=of_decide_eq_true h2
     have:=(q6P x k x.1.length s t).2 (he.all _)
     omega
   obtain ⟨v,v1,v2,v3⟩:=h.homes hun
   rcases E with ⟨ws,w1,w2,e1⟩ | ⟨w1,e1⟩
   · have hle:ws.length ≤ v.length:=by
       apply Classical.byContradiction
       intro hgt
       have:=w1.2.2 v v1 (by omega)
       rw [home_tE x _ v3] at this;cases this
     have hnn:x.1.length * (x.1.length - 1) ≤ 6 * 5:=Nat.mul_le_mul n6 (by omega)
     have hn1:((x.1.length - 1:Nat):Int) = (x.1.length:Int) - 1:=by omega
     have q1:IntKind.wrap .i64 ((x.1.length:Int) * IntKind.wrap .i64 ((x.1.length:Int) - 1)) = ((x.1.length * (x.1.length - 1):Nat):Int):=by
       rw [w64 (x:=(x.1.length:Int) - 1) (by omega) (by omega),← hn1,← Int.natCast_mul,w64 (by omega) (by omega)]
     have hwl:(wd ws).length = ws.length:=by simp
     have q2:IntKind.wrap .i64 (2 * (((wd ws).length:Nat):Int)) = 2 * (ws.length:Int):=by rw [hwl,w64 (by omega) (by omega)]
     have q3:decide (((x.1.length * (x.1.length - 1):Nat):Int) < 2 * (ws.length:Int)) = false:=decide_eq_false (by omega)
     simp only [cond_true,fE _ _ e1,Option.bind_some,cA,Bool.not_true,cond_false,q1,q2,q3,f1,f6,f2,f3,f4,f5,f7,f8,awakeBig]
   · have:=w1 v v1
     rw [home_tE x _ v3] at this;cases this
 | false =>
   rcases E with ⟨ws,w1,w2,e1⟩ | ⟨w1,e1⟩
   · simp only [cond_false,fE _ _ e1,Option.bind_some,cA,Bool.not_true,f1,f6,f2,f3,f4,f5,f7,f8,awakeBig]
   · simp only [cond_false,fE _ _ e1,Option.bind_some,cA,Bool.not_true,f1,f6,f2,f3,f4,f5,f7,f8,awakeBig]
abbrev MT:Ty:=.pair (.lst (.lst (.int .i64))) (.pair (.lst (.lst (.int .i64))) .unit)
theorem probeMoore_bnd (a:z0Z (List.map AS.d [MT,.int .i64])) (h:BndL [MT,.int .i64] a):g7 300000000 a.1 a.2.1 = some true :=
 moore_plain a.1 a.2.1
end Go.Pv
