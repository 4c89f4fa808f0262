/- Seat 05: AutoIsRound, plain. -/
import Derived.Test.YtcfhdpbebiibjaaDoorMg2
import Derived.Test.YtcfhdpbebiibjaaDoorPvAB
set_option linter.unusedVariables false
set_option linter.unusedSimpArgs false
namespace Go.Pv
theorem isr_eq {x:MM} (hx:Tame x) {q p:Nat} (hq:q ≤ 100) (hp:p ≤ 100):∃ b,g74 2000 x (q:Int) (p:Int) = some b∧g41 2000 x (q:Int) (p:Int) = some b∧(b = true ↔ ∀ m,sq x 0 (m + q) = sq x 0 (m + (q + p))):=by
 have hb:=hx.base
 obtain ⟨H,l,h1,h2,h3,h4,h5,h6,h7⟩:=every_one2 hx (c:=(q:Int)) (by omega) 2000 (by omega)
 obtain ⟨G,k,g1,g2,g3,g4,g5,g6,g7⟩:=every_one2 hx (c:=((q + p:Nat):Int)) (by omega) 2000 (by omega)
 have e:IntKind.wrap .i64 ((q:Int) + (p:Int)) = ((q + p:Nat):Int):=by rw [w64 (by omega) (by omega)];omega
 obtain ⟨E,E1,E2⟩:=few_pairs hx (by omega) (by omega) h3 h4 g3 g4
 obtain ⟨E',E1',E2'⟩:=few_pairs hx (by omega) (by omega) g3 g4 h3 h4
 obtain ⟨v,d,d1,d2⟩:=diff_gen h5 g5 (by rw [g6,h6]) 2000 (by omega) E1 (by omega) (by omega)
 obtain ⟨b,b1,b2⟩:=same48 g5 h5 (by rw [g6,h6]) E1' (by omega)
 have hd:d = false ↔ Same H G 0 0:=by
   rcases d2 with ⟨rfl,_,d3⟩ | ⟨rfl,w,w1,w2,_⟩
   · exact ⟨fun _=>d3,fun _=>rfl⟩
   · exact ⟨fun h=>(by cases h),fun h=>absurd (h w w1) w2⟩
 have hsym:Same G H 0 0 ↔ Same H G 0 0:=⟨fun h=>h.symm (by rw [g6,h6]),fun h=>h.symm (by rw [g6,h6])⟩
 obtain ⟨z1,q1⟩:=ev_seq hx (k:=1) (C:=200) (c:=q) (by omega) (by omega) 2000 (by omega) h3 h4 h5
 obtain ⟨z2,q2⟩:=ev_seq hx (k:=1) (C:=200) (c:=q + p) (by omega) (by omega) 2000 (by omega) g3 g4 g5
 have hseq:Same H G 0 0 ↔ ∀ m,sq x 0 (m + q) = sq x 0 (m + (q + p)):=by
   rw [same_sq h5 g5 (by omega) (by rw [g6,h6]) z1 z2 h5.many g5.many]
   constructor
   · intro h m
     have:=h m
     rw [q1,q2,Nat.one_mul] at this
     exact this
   · intro h m
     rw [q1,q2,Nat.one_mul]
     exact h m
 have hbd:b = !d:=by
   cases d with
   | false=>rw [Bool.not_false];exact b2.2 (hsym.2 (hd.1 rfl))
   | true =>
     cases b with
     | false=>rfl
     | true=>have:=hd.2 (hsym.1 (b2.1 rfl));cases this
 refine ⟨b,?_,?_,by rw [b2,hsym,hseq]⟩
 · unfold g74
   rw [e,h1]
   simp only [Option.bind_some]
   rw [g1]
   simp only [Option.bind_some]
   rw [d1]
   simp only [Option.bind_some]
   rw [hbd]
 · unfold g41
   rw [e,g2]
   simp only [Option.bind_some]
   rw [h2]
   simp only [Option.bind_some]
   rw [b1]
   simp only [Option.bind_some]
theorem isr_ok {x:MM} (hx:Tame x) {q p:Int} (hq:0 ≤ q∧q ≤ 100) (hp:1 ≤ p∧p ≤ 100):∃ b,g40 2000 x q p = some (b,0,())∧g41 2000 x q p = some b:=by
 obtain ⟨b,b1,b2,_⟩:=isr_eq hx (q:=q.toNat) (p:=p.toNat) (by omega) (by omega)
 rw [show ((q.toNat:Nat):Int) = q by omega,show ((p.toNat:Nat):Int) = p by omega] at b1 b2
 refine ⟨b,?_,b2⟩
 unfold g40
 rw [hx.check 2000 (by omega)]
 simp only [Option.bind_some]
 rw [not_ieq_self,cond_false,are_eq 2000 0 100 [q] (by simp) (by simp)]
 simp only [Option.bind_some]
 rw [show (List.all [q] fun x=>decide (0 ≤ x) && decide (x ≤ 100)) = true by simp;omega,Bool.not_true,cond_false,are_eq 2000 1 100 [p] (by simp) (by simp)]
 simp only [Option.bind_some]
 rw [show (List.all [p] fun x=>decide (1 ≤ x) && decide (x ≤ 100)) = true by simp;omega,Bool.not_true,cond_false,b1]
 rfl
theorem isr_bad {x:MM} (hx:Tame x) {q p:Int} (h:q < 0 ∨ 100 < q ∨ p < 1 ∨ 100 < p):g40 2000 x q p = some (false,1,()):=by
 unfold g40
 rw [hx.check 2000 (by omega)]
 simp only [Option.bind_some]
 rw [not_ieq_self,cond_false,are_eq 2000 0 100 [q] (by simp) (by simp)]
 simp only [Option.bind_some]
 by_cases hq:0 ≤ q∧q ≤ 100
 · rw [show (List.all [q] fun x=>decide (0 ≤ x) && decide (x ≤ 100)) = true by simp;omega,Bool.not_true,cond_false,are_eq 2000 1 100 [p] (by simp) (by simp)]
   simp only [Option.bind_some]
   rw [show (List.all [p] fun x=>decide (1 ≤ x) && decide (x ≤ 100)) = false by
     cases hh:(List.all [p] fun x=>decide (1 ≤ x) && decide (x ≤ 100)) with
     | false=>rfl
     | true=>simp at hh;omega]
   rfl
 · rw [show (List.all [q] fun x=>decide (0 ≤ x) && decide (x ≤ 100)) = false by
     cases hh:(List.all [q] fun x=>decide (0 ≤ x) && decide (x ≤ 100)) with
     | false=>rfl
     | true=>simp at hh;omega]
   rfl
theorem at_two {x F:MM} (hx:Tame x) (hF:Tame F) (hs:∀ n,sq F 0 n = sq x 0 n) {n:Nat} (hn:n < 1000):g70 2000 F 0 (n:Int) = some (sq x 0 n)∧g36 2000 x 0 (n:Int) = some (sq x 0 n):=by
 have h1:=g70_sq hF 2000 (by omega) 0 n hF.many.1 (by omega)
 have h2:=g70_sq hx 2000 (by omega) 0 n hx.many.1 (by omega)
 simp only [Int.natCast_zero] at h1 h2
 exact ⟨by rw [h1,hs],by rw [ref_at,h2]⟩
theorem down_loop {x F:MM} (hx:Tame x) (hF:Tame F) (hs:∀ n,sq F 0 n = sq x 0 n) {C D:Type} (k0:Int→Int→MM→Option C) (k1:Int→Int→MM→Option D) {p:Nat} (hp:p ≤ 30) :
   ∀ (f q:Nat),q < f→q ≤ 60→∃ r:Int,g42L31308f 2000 f k0 (p:Int) (q:Int) F = k0 (p:Int) r F∧g43L6732f 2000 f k1 (p:Int) (q:Int) x = k1 (p:Int) r x
 | 0,q,h,_=>by omega
 | f + 1,q,h,hq=>by
   rw [g42L31308f_succ,g43L6732f_succ]
   unfold g42L31308B g43L6732B
   cases q with
   | zero =>
     rw [decide_eq_false (show ¬ (0:Int) < ((0:Nat):Int) by omega),cond_false,cond_false]
     exact ⟨_,rfl,rfl⟩
   | succ q =>
     have e1:IntKind.wrap .i64 (((q + 1:Nat):Int) - 1) = (q:Int):=by rw [w64 (by omega) (by omega)];omega
     have e2:IntKind.wrap .i64 ((q:Int) + (p:Int)) = ((q + p:Nat):Int):=by rw [w64 (by omega) (by omega)];omega
     obtain ⟨a1,a2⟩:=at_two hx hF hs (n:=q) (by omega)
     obtain ⟨b1,b2⟩:=at_two hx hF hs (n:=q + p) (by omega)
     rw [decide_eq_true (show (0:Int) < ((q + 1:Nat):Int) by omega),cond_true,cond_true,e1,e2,a1,a2]
     simp only [Option.bind_some]
     rw [b1,b2]
     simp only [Option.bind_some]
     cases ieq (sq x 0 q) (sq x 0 (q + p)) with
     | true =>
       rw [cond_true,cond_true]
       exact down_loop hx hF hs k0 k1 hp f q (by omega) (by omega)
     | false=>exact ⟨_,rfl,rfl⟩
theorem find_loop {x F:MM} (hx:Tame x) (hF:Tame F) (hs:∀ n,sq F 0 n = sq x 0 n) :
   ∀ (f p:Nat),31 - p < f→p ≤ 31→∃ (u v:Int) (b:Bool),g42L122f 2000 f (fun e9 e10 e11 e12 e13=>some (e9,e10,e11,e12,())) (fun e14=>some (0,0,false,0,())) (p:Int) F = some (u,v,b,0,())∧g43L26f 2000 f (fun e7 e8 e9 e10=>some (e7,e8,e9,())) (fun e11=>some (0,0,false,())) (p:Int) x = some (u,v,b,())
 | 0,p,h,_=>by omega
 | f + 1,p,h,hp=>by
   rw [g42L122f_succ,g43L26f_succ]
   unfold g42L122B g43L26B
   by_cases hlt:p ≤ 30
   · obtain ⟨b,b1,_,b3⟩:=isr_eq hF (q:=60) (p:=p) (by omega) (by omega)
     obtain ⟨c,_,c2,c3⟩:=isr_eq hx (q:=60) (p:=p) (by omega) (by omega)
     have hbc:c = b:=by
       have:(c = true) ↔ (b = true):=by rw [c3,b3];simp only [hs]
       cases b <;> cases c <;> simp_all
     subst hbc
     rw [show ((60:Nat):Int) = 60 from rfl] at b1 c2
     rw [decide_eq_true (show (p:Int) ≤ 30 by omega),cond_true,cond_true,b1,c2]
     simp only [Option.bind_some]
     cases c with
     | false =>
       rw [Bool.not_false,cond_true,cond_true,wn p (by omega)]
       exact find_loop hx hF hs f (p + 1) (by omega) (by omega)
     | true =>
       rw [Bool.not_true,cond_false,cond_false,g42L31308_eq,g43L6732_eq]
       obtain ⟨r,r1,r2⟩:=down_loop hx hF hs (C:=Int×Int×Bool×Int×Unit) (D:=Int×Int×Bool×Unit) (fun e6 e7 e8=>some (e7,e6,true,0,())) (fun e4 e5 e6=>some (e5,e4,true,())) hlt 2000 60 (by omega) (by omega)
       exact ⟨r,(p:Int),true,r1,r2⟩
   · rw [decide_eq_false (show ¬ (p:Int) ≤ 30 by omega),cond_false,cond_false]
     exact ⟨0,0,false,rfl,rfl⟩
theorem find_two {x:MM} (hx:Tame x):∃ (u v:Int) (b:Bool),g42 2000 x = some (u,v,b,0,())∧g43 2000 x = some (u,v,b,()):=by
 have hm:=hx.many;have hb:=hx.base
 obtain ⟨F,f1,_,fb,f,fs,fl,fe⟩:=forms_one hx.wm (by omega) 2000 (by omega) (by omega)
 have hz:=Zed.of f.toWM hx.wm fb hx.zed fe
 have hT:Tame F:=f.tame (by omega) (by omega) hz
 have hs:∀ n,sq F 0 n = sq x 0 n:=(same_sq f.toWM hx.wm (by omega) fb.symm hz hx.zed f.toWM.many hx.many.1).1 fs
 obtain ⟨u,v,b,e1,e2⟩:=find_loop hx hT hs 2000 1 (by omega) (by omega)
 refine ⟨u,v,b,?_,?_⟩
 · unfold g42
   rw [hx.check 2000 (by omega)]
   simp only [Option.bind_some]
   rw [not_ieq_self,cond_false,f1]
   simp only [Option.bind_some]
   rw [g42L122_eq]
   exact e1
 · unfold g43
   rw [g43L26_eq]
   exact e2
theorem dig_loop3 {C:Type} (k0:List Int→Option C) (l:List Int) :
   ∀ (F i:Nat) (o:List Int),3 - i < F→i ≤ 3→o.length = i→(∀ v ∈ o,0 ≤ v∧v ≤ 9)→∃ r,g23L58f 2000 F k0 l 3 (i:Int) o = k0 r∧r.length ≤ 3∧∀ v ∈ r,0 ≤ v∧v ≤ 9
 | 0,i,o,hF,_,_,_=>by omega
 | F + 1,i,o,hF,hi,ho,hr=>by
   rw [g23L58f_succ]
   unfold g23L58B
   by_cases hlt:i < l.length
   · have e1:decide ((i:Int) < (l.length:Int)) = true:=by rw [decide_eq_true_iff];omega
     have e2:idx (i:Int) l.length:=⟨by omega,by omega⟩
     rw [e1,cond_true]
     by_cases h3:i < 3
     · obtain ⟨r,er,r1,r2⟩:=low (x:=l.getD (Int.toNat (i:Int)) 0) (m:=10) (by omega) (by omega)
       rw [decide_eq_true (show (i:Int) < 3 by omega),cond_true,if_pos e2,if_pos (by simp only [List.length_cons,List.length_nil,maxCount];omega),wn i (by omega),er]
       exact dig_loop3 k0 l F (i + 1) _ (by omega) (by omega) (by simp [ho]) (fun v hv=>by
         rcases List.mem_append.1 hv with hv | hv
         · exact hr v hv
         · simp only [List.mem_cons,List.not_mem_nil,or_false] at hv;omega)
     · rw [decide_eq_false (show ¬ (i:Int) < 3 by omega),cond_false]
       exact ⟨o,rfl,by omega,hr⟩
   · have e1:decide ((i:Int) < (l.length:Int)) = false:=by rw [decide_eq_false_iff_not];omega
     rw [e1,cond_false]
     exact ⟨o,rfl,by omega,hr⟩
theorem dig3 (l:List Int):∃ r,g23 2000 l 3 = some r∧r.length ≤ 3∧∀ v ∈ r,0 ≤ v∧v ≤ 9:=by
 unfold g23
 rw [g23L58_eq]
 have:=dig_loop3 (fun e1=>some e1) l 2000 0 [] (by omega) (by omega) rfl (by simp)
 simpa using this
theorem red_zero2 (hd rd:List Int):redN hd rd 0 = 0:=by
 unfold redN
 split
 · rfl
 · rename_i h
   have:(hd.length:Int) = 0:=by omega
   rw [this];simp
theorem ref_round {b:Int} {hd rd:List Int} (h:RoOk b hd rd):∃ H,g21 2000 b hd rd = some H∧WM H∧H.1 = b∧H.2.1.length ≤ 1600∧Zed H:=by
 have hb:=h.base
 have eb:((b.toNat:Nat):Int) = b:=by omega
 obtain ⟨l,outs,rows,e,hdc,hl⟩:=bfs_disc (0,0,()) idK (roOut hd rd) (roStep b hd rd) b.toNat (RoP hd rd) (fun t ht r hr=>ro_close h ht (by omega)) 1600 (fun t=>t.1 * 40 + t.2.1) (ro_bnd h) (ro_inj h) 2000 (by omega) (roA hd rd) (roA_ok h)
 have hwm:=hdc.wm (by omega) (fun t ht=>out_rng h (hl t ht))
 have hn:l.length ≤ 1600:=pigeon_num (P:=RoP hd rd) idK (fun t:PP=>t.1 * 40 + t.2.1) (ro_inj h) (ro_bnd h) hl hdc.nodup
 have ho:outs = l.map (roOut hd rd):=hdc.out
 rw [eb] at hwm hdc
 refine ⟨_,?_,hwm,rfl,by rw [ho];simpa using hn,fun s hs=>?_⟩
 · have:=ref_round_loop 2000 h (by omega) (fun e21 e22 e23 e24 e25 e26 e27 e28=>some (e22,e27,e28,())) 0 b [] [] 2000 0 [roA hd rd] [] [] l _ _ e (by intro t ht;simp only [List.mem_cons,List.not_mem_nil,or_false] at ht;subst ht;exact roA_ok h) (by simp) (by simp) rfl rfl
   have e1:[roA hd rd].map arrP = [[redN hd rd 1,0]]:=by simp [arrP,roA,red_zero2]
   rw [e1] at this
   unfold g21
   rw [red_ref h 2000 (by omega),Option.bind_some,set_pair,if_pos (⟨by omega,by simp⟩:idx 0 _),if_pos (by simp),g21L506_eq]
   exact this
 · have hs':s < l.length:=by rw [ho,List.length_map] at hs;exact hs
   obtain ⟨j,j1,j2,j3⟩:=hdc.way s 0 hs' (by omega)
   have hj:dM (b,outs,rows,()) s 0 = j:=by unfold dM;rw [j1];simp
   rw [hj]
   have og:∀ i,i < l.length→oM (b,outs,rows,()) i = roOut hd rd (l.getD i (0,0,())):=fun i hi=>by
     unfold oM
     show outs.getD i 0 = _
     rw [ho,getD_of (by simpa using hi),List.getElem_map,getD_of hi]
   rw [og j j2,og s hs']
   have j3:l.getD j (0,0,()) = roStep b hd rd (l.getD s (0,0,())) 0:=j3
   rw [j3]
   have hv:=(hl _ (getD_mem hs' (0,0,()))).v
   have hlr:=h.lr
   have:(roStep b hd rd (l.getD s (0,0,())) 0).2.1 = (l.getD s (0,0,())).2.1:=by
     show redN hd rd ((l.getD s (0,0,())).2.1 + ((0:Nat):Int) * (l.getD s (0,0,())).1) = _
     rw [Int.natCast_zero,Int.zero_mul,Int.add_zero]
     unfold redN
     split
     · rfl
     · rw [Int.emod_eq_of_lt (by omega) (by omega)];omega
   unfold roOut
   rw [this]
theorem round_form {b:Int} {hd rd:List Int} (h:RoOk b hd rd):∃ H F,g21 2000 b hd rd = some H∧g34 2000 H = some F∧(F.2.1.length ≤ 12→Tame F∧F.1 = b):=by
 have hb:=h.base
 obtain ⟨H,h1,h2,h3,h4,h5⟩:=ref_round h
 obtain ⟨F,f1,f2,f3,f4,f5,f6⟩:=ref_form h2 (by omega) 2000 (by omega) (by omega)
 exact ⟨H,F,h1,f1,fun hl=>⟨f3.tame (by omega) hl (Zed.of f3.toWM h2 f2 h5 f6),by rw [f2,h3]⟩⟩
theorem isround_round {x:MM} (hx:Tame x) {a c:List Int} (ha:a.length ≤ 3∧∀ v ∈ a,0 ≤ v∧v ≤ 9) (hc:1 ≤ c.length∧c.length ≤ 3∧∀ v ∈ c,0 ≤ v∧v ≤ 9) {C:Type} (rec:List Int→List Int→Int→List Int→MM→Option C) (k0:Bool→List Int→MM→Option C) (k1:List Int→MM→Option C) (i:Int) (hi:i < 2) (p:List Int) :
   ∃ p' x',Tame x'∧g8L250B 2000 rec k0 k1 a c i p x = rec a c (IntKind.wrap .i64 (i + 1)) p' x':=by
 have hb:=hx.base
 obtain ⟨H,F,h1,h2,h3⟩:=round_form (b:=x.1) (hd:=a) (rd:=c) ⟨hb,by omega,by omega,ha.2,hc.2.2⟩
 obtain ⟨u,v,b,f1,f2⟩:=find_two hx
 have i0:idx 0 2:=⟨by omega,by omega⟩
 have i1:idx 1 2:=⟨by omega,by omega⟩
 refine ⟨List.set (List.set (List.replicate 2 0) 0 (IntKind.wrap .i64 (Int.tmod (IntKind.wrap .u64 (List.getD p (Int.toNat 0) 0)) 6))) 1 (IntKind.wrap .i64 (1 + (IntKind.wrap .i64 (Int.tmod (IntKind.wrap .u64 (List.getD p (Int.toNat 1) 0)) 6)))),if F.2.1.length ≤ 12 then F else x,by split;exact (h3 (by assumption)).1;exact hx,?_⟩
 have hfin:∀ {D:Type} (P Q:D),(bif decide (((F.2.1.length:Nat):Int) ≤ 12) then P else Q) = if F.2.1.length ≤ 12 then P else Q:=fun P Q=>by
   by_cases hl:F.2.1.length ≤ 12
   · rw [if_pos hl,decide_eq_true (show ((F.2.1.length:Nat):Int) ≤ 12 by omega),cond_true]
   · rw [if_neg hl,decide_eq_false (show ¬ ((F.2.1.length:Nat):Int) ≤ 12 by omega),cond_false]
 unfold g8L250B
 rw [decide_eq_true hi,cond_true,hx.given 2000 (by omega)]
 simp only [Option.bind_some,if_pos i0,if_pos i1]
 by_cases hl:F.2.1.length ≤ 12
 · have hdec:decide (((F.2.1.length:Nat):Int) ≤ 12) = true:=decide_eq_true (by omega)
   rw [if_pos hl]
   by_cases q1:p.getD (Int.toNat 0) 0 < 0
   · simp only [isr_bad hx (.inl q1),decide_eq_true q1,Option.bind_some,cond_true,cond_false,not_ieq_self,f1,f2,beqB,BEq.rfl,Bool.not_true,h1,h2,hdec]
   · by_cases q2:100 < p.getD (Int.toNat 0) 0
     · simp only [isr_bad hx (.inr (.inl q2)),decide_eq_false q1,decide_eq_true q2,Option.bind_some,cond_true,cond_false,not_ieq_self,f1,f2,beqB,BEq.rfl,Bool.not_true,h1,h2,hdec]
     · by_cases q3:p.getD (Int.toNat 1) 0 < 1
       · simp only [isr_bad hx (.inr (.inr (.inl q3))),decide_eq_false q1,decide_eq_false q2,decide_eq_true q3,Option.bind_some,cond_true,cond_false,not_ieq_self,f1,f2,beqB,BEq.rfl,Bool.not_true,h1,h2,hdec]
       · by_cases q4:100 < p.getD (Int.toNat 1) 0
         · simp only [isr_bad hx (.inr (.inr (.inr q4))),decide_eq_false q1,decide_eq_false q2,decide_eq_false q3,decide_eq_true q4,Option.bind_some,cond_true,cond_false,not_ieq_self,f1,f2,beqB,BEq.rfl,Bool.not_true,h1,h2,hdec]
         · obtain ⟨t,t1,t2⟩:=isr_ok hx (q:=p.getD (Int.toNat 0) 0) (p:=p.getD (Int.toNat 1) 0) (by omega) (by omega)
           simp only [t1,t2,decide_eq_false q1,decide_eq_false q2,decide_eq_false q3,decide_eq_false q4,Option.bind_some,cond_true,cond_false,not_ieq_self,f1,f2,beqB,BEq.rfl,Bool.not_true,h1,h2,hdec]
 · have hdec:decide (((F.2.1.length:Nat):Int) ≤ 12) = false:=decide_eq_false (by omega)
   rw [if_neg hl]
   by_cases q1:p.getD (Int.toNat 0) 0 < 0
   · simp only [isr_bad hx (.inl q1),decide_eq_true q1,Option.bind_some,cond_true,cond_false,not_ieq_self,f1,f2,beqB,BEq.rfl,Bool.not_true,h1,h2,hdec]
   · by_cases q2:100 < p.getD (Int.toNat 0) 0
     · simp only [isr_bad hx (.inr (.inl q2)),decide_eq_false q1,decide_eq_true q2,Option.bind_some,cond_true,cond_false,not_ieq_self,f1,f2,beqB,BEq.rfl,Bool.not_true,h1,h2,hdec]
     · by_cases q3:p.getD (Int.toNat 1) 0 < 1
       · simp only [isr_bad hx (.inr (.inr (.inl q3))),decide_eq_false q1,decide_eq_false q2,decide_eq_true q3,Option.bind_some,cond_true,cond_false,not_ieq_self,f1,f2,beqB,BEq.rfl,Bool.not_true,h1,h2,hdec]
       · by_cases q4:100 < p.getD (Int.toNat 1) 0
         · simp only [isr_bad hx (.inr (.inr (.inr q4))),decide_eq_false q1,decide_eq_false q2,decide_eq_false q3,decide_eq_true q4,Option.bind_some,cond_true,cond_false,not_ieq_self,f1,f2,beqB,BEq.rfl,Bool.not_true,h1,h2,hdec]
         · obtain ⟨t,t1,t2⟩:=isr_ok hx (q:=p.getD (Int.toNat 0) 0) (p:=p.getD (Int.toNat 1) 0) (by omega) (by omega)
           simp only [t1,t2,decide_eq_false q1,decide_eq_false q2,decide_eq_false q3,decide_eq_false q4,Option.bind_some,cond_true,cond_false,not_ieq_self,f1,f2,beqB,BEq.rfl,Bool.not_true,h1,h2,hdec]
theorem isround_awake:g24 2000 = some true:=by kernel_rfl
theorem isround_two {x:MM} (hx:Tame x) {a c:List Int} (ha:a.length ≤ 3∧∀ v ∈ a,0 ≤ v∧v ≤ 9) (hc:1 ≤ c.length∧c.length ≤ 3∧∀ v ∈ c,0 ≤ v∧v ≤ 9) (p:List Int):∀ F:Nat,g8L250f 2000 (F + 3) (fun e28 e29 e30=>some e28) (fun e31 e32=>Option.bind (g24 2000) fun r33=>some r33) a c 0 p x = some true:=by
 intro F
 rw [show F + 3 = (F + 2) + 1 from rfl,g8L250f_succ]
 obtain ⟨p1,x1,t1,q1⟩:=isround_round hx ha hc (fun t8 t9 t10 o5 o7=>g8L250f 2000 (F + 2) (fun e28 e29 e30=>some e28) (fun e31 e32=>Option.bind (g24 2000) fun r33=>some r33) t8 t9 t10 o5 o7) (fun e28 e29 e30=>some e28) (fun e31 e32=>Option.bind (g24 2000) fun r33=>some r33) 0 (by omega) p
 refine q1.trans ?_
 rw [w64 (by omega) (by omega),show F + 2 = (F + 1) + 1 from rfl,g8L250f_succ]
 obtain ⟨p2,x2,t2,q2⟩:=isround_round t1 ha hc (fun t8 t9 t10 o5 o7=>g8L250f 2000 (F + 1) (fun e28 e29 e30=>some e28) (fun e31 e32=>Option.bind (g24 2000) fun r33=>some r33) t8 t9 t10 o5 o7) (fun e28 e29 e30=>some e28) (fun e31 e32=>Option.bind (g24 2000) fun r33=>some r33) (0 + 1) (by omega) p1
 refine q2.trans ?_
 rw [w64 (by omega) (by omega),g8L250f_succ]
 unfold g8L250B
 rw [show decide ((0 + 1 + 1:Int) < 2) = false by simp,cond_false,isround_awake];rfl
theorem isround_plain (m:MM) (t:Int×List Int×List Int×Unit) (p:List Int):g8 2000 m t p = some true:=by
 obtain ⟨b,e1,hb1,hb2⟩:=base_eq 2000 t.1
 obtain ⟨x,e2,hx,hxb,hxn⟩:=tame_eq 2000 (by omega) m b 6 ⟨hb1,hb2⟩ ⟨by omega,by omega⟩
 obtain ⟨a,a1,a2,a3⟩:=dig3 t.2.1
 obtain ⟨c,c1,c2,c3⟩:=dig3 t.2.2.1
 unfold g8
 rw [e1,Option.bind_some,e2,Option.bind_some,a1,Option.bind_some,c1,Option.bind_some]
 by_cases h0:c.length = 0
 · rw [show ieq ((List.length c:Nat):Int) 0 = true by simp only [ieq,decide_eq_true_eq];omega,cond_true,g8L250_eq]
   exact isround_two hx ⟨a2,a3⟩ (c:=[1]) ⟨by simp,by simp,fun v hv=>by simp only [List.mem_cons,List.not_mem_nil,or_false] at hv;omega⟩ p 1997
 · rw [show ieq ((List.length c:Nat):Int) 0 = false by simp only [ieq,decide_eq_false_iff_not];omega,cond_false,g8L250_eq]
   exact isround_two hx ⟨a2,a3⟩ ⟨by omega,c2,c3⟩ p 1997
theorem autoIsRound_bnd (a:ProdT (List.map AS.d [MT,.pair (.int .i64) (.pair (.lst (.int .i64)) (.pair (.lst (.int .i64)) .unit)),.arr 2 (.int .i64)])) (h:BndL [MT,.pair (.int .i64) (.pair (.lst (.int .i64)) (.pair (.lst (.int .i64)) .unit)),.arr 2 (.int .i64)] a):g8 2000 a.1 a.2.1 a.2.2.1 = some true:=isround_plain a.1 a.2.1 a.2.2.1
end Go.Pv
