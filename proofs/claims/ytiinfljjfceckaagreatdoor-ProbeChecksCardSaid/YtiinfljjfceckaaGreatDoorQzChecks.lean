/- Seat 09 (ProbeChecks), plain: the law ProbeChecks. -/
import Derived.Test.YtiinfljjfceckaaGreatDoorMg1
import Derived.Test.YtiinfljjfceckaaGreatDoorPvAB
set_option linter.unusedVariables false
set_option linter.unusedSimpArgs false
namespace Go.Pv
theorem open_bad (N:Nat) {C:Type} (k0:List MM→Int→List (List Int)→Int→Option C) (k1:List MM→Int→List (List Int)→Option C) (l:List MM) (s:Int) (ws:List (List Int)) (hl:l.length ≤ 10) (b:Nat) (hb:b < l.length) (h90:g8 N (l.getD b ([],[],())) = some 90) (h0:∀ j,j < b→g8 N (l.getD j ([],[],())) = some 0) :
   ∀ (F i:Nat),l.length - i < F→i ≤ b→g31L26f N F k0 k1 l s ws l (l.length:Int) (i:Int) = k0 l s ws 90
 | 0,i,hF,_=>by omega
 | F + 1,i,hF,hi=>by
   rw [g31L26f_succ]
   unfold g31L26B
   have hlt:i < l.length:=by omega
   rw [ltT hlt,cond_true,if_pos (idxT hlt),Int.toNat_natCast]
   by_cases h:i = b
   · subst h
     rw [h90]
     rfl
   · rw [h0 i (by omega)]
     simp only [Option.bind_some,ieq_self,Bool.not_true,cond_false]
     rw [wn i (by omega)]
     exact open_bad N k0 k1 l s ws hl b hb h90 h0 F (i + 1) (by omega) (by omega)
theorem open90 (N:Nat) (hN:20 < N) (l:List MM) (s:Int) (ws:List (List Int)) (hl:l.length ≤ 10) (b:Nat) (hb:b < l.length) (h90:g8 N (l.getD b ([],[],())) = some 90) (h0:∀ j,j < b→g8 N (l.getD j ([],[],())) = some 0):g31 N l s ws = some 90:=by
 unfold g31
 rw [g31L26_eq]
 exact open_bad N _ _ l s ws hl b hb h90 h0 N 0 (by omega) (by omega)
theorem open_out (N:Nat) (hN:1000 < N) (x:MM) (k:Nat) (h:Pm x k) (s:Int) (ws:List (List Int)) (hs:s < 0 ∨ (x.1.length:Int) ≤ s):g31 N [x] s ws = some 1:=by
 have h0:=h.inputs N
 have hn:=h.n6
 unfold g31
 rw [g31L26_eq,open_checks0 N (by omega) _ _ [x] s ws (by simp) (fun m hm=>by simp at hm;subst hm;exact ⟨k,h⟩)]
 rw [g31L58_eq,open_inputs0 N (by omega) _ _ [x] k s ws (by simp) (by simp) h0 (fun _=>(k:Int)) (fun m hm=>by simp at hm;subst hm;exact h0)]
 simp only [ieq_self,List.all_cons,List.all_nil,Bool.and_true,cond_true]
 rw [if_pos ⟨by omega,by simp⟩]
 have e1:g37 N ([x].getD (Int.toNat 0) ([],[],())) = some (x.1.length:Int):=rfl
 rw [e1]
 simp only [Option.bind_some]
 rw [w64 (by omega) (by omega),are1 N (by omega)]
 have:(decide (0 ≤ s) && decide (s ≤ (x.1.length:Int) - 1)) = false:=by
   rcases hs with hs | hs
   · rw [decide_eq_false (by omega)];rfl
   · rw [decide_eq_false (show ¬ s ≤ (x.1.length:Int) - 1 by omega),Bool.and_false]
 rw [this]
 rfl
theorem open_word (N:Nat) (hN:1000 < N) (x:MM) (k:Nat) (h:Pm x k) (s:Int) (w:List Int) (hw:wordB k w = false):g31 N [x] s [w] = some 1:=by
 by_cases hs:s < 0 ∨ (x.1.length:Int) ≤ s
 · exact open_out N hN x k h s [w] hs
 · rw [open_eq N hN [x] k s [w] (by simp) (by simp) (fun m hm=>by simp at hm;subst hm;exact h) (by omega) (by show s < (x.1.length:Int);omega) (by simp)]
   simp only [List.all_cons,List.all_nil,Bool.and_true,hw,cond_false]
abbrev oneM:MM:=([[0]],[[0]],())
theorem one_pm:Pm oneM 1:=⟨by decide,by decide,by decide,by decide,by decide,by decide,by decide⟩
theorem checks_plain (a0:MM) (a1:Int) (a2:List Int):g3v1 2000 a0 a1 a2 = some true:=by
 -- the tables,their copies
 obtain ⟨x,hx⟩:∃ x:MM,x = ((a0.1.take 7).map (fun r=>r.take 4),(a0.2.1.take 7).map (fun r=>r.take 4),()):=⟨_,rfl⟩
 have h4:g4 2000 a0 = some x:=by
   unfold g4
   rw [rows_eq 2000 (by omega),rows_eq 2000 (by omega),hx];rfl
 have h5:g5 2000 x = some x:=by
   unfold g5
   rw [rows_eq 2000 (by omega),rows_eq 2000 (by omega),hx]
   simp only [Option.bind_some]
   rw [rows_again,rows_again]
 have hn:x.1.length ≤ 7:=by rw [hx];simp;omega
 have hr:∀ r ∈ x.1,r.length ≤ 4:=by
   rw [hx]
   intro r hr
   obtain ⟨q,_,rfl⟩:=List.mem_map.1 hr
   simp;omega
 have hr2:∀ r ∈ x.2.1,r.length ≤ 4:=by
   rw [hx]
   intro r hr
   obtain ⟨q,_,rfl⟩:=List.mem_map.1 hr
   simp;omega
 clear hx
 obtain ⟨w,hw⟩:∃ w,w = a2.take 101:=⟨_,rfl⟩
 have hwl:w.length ≤ 101:=by rw [hw];simp;omega
 have h6:g6 2000 a2 101 = some w:=by rw [few_eq 2000 a2 101 (by omega) (by omega),hw];rfl
 clear hw
 have h7:=check7 2000 (by omega) x hr
 have h8:=check8 2000 (by omega) x hn hr hr2
 unfold g3v1
 rw [h4]
 simp only [Option.bind_some]
 rw [h5,h6,h7]
 simp only [Option.bind_some]
 cases hc:chk x with
 | false =>
   rw [hc] at h8
   have h8:g8 2000 x = some 90:=h8
   have h31:∀ (s:Int) (ws:List (List Int)),g31 2000 [x] s ws = some 90:=fun s ws=>open90 2000 (by omega) [x] s ws (by simp) 0 (by simp) h8 (fun j hj=>by omega)
   have one8:g8 2000 oneM = some 0:=one_pm.check 2000 (by omega)
   have h31a:g31 2000 [oneM,x] 0 [] = some 90:=open90 2000 (by omega) [oneM,x] 0 [] (by simp) 1 (by simp) h8 (fun j hj=>by
     have hj0:j = 0:=by omega
     subst hj0
     exact one8)
   have h31b:g31 2000 [x,oneM] 0 [] = some 90:=open90 2000 (by omega) [x,oneM] 0 [] (by simp) 0 (by simp) h8 (fun j hj=>by omega)
   have f9:g9 2000 x = some ([],90,()):=by unfold g9;rw [h8];rfl
   have f10:g10 2000 x = some (([],[],()),90,()):=by unfold g10;rw [h8];rfl
   have f11:g11 2000 oneM x = some ([],false,90,()):=by unfold g11;rw [h31a];rfl
   have f12:g12 2000 x = some ([],false,90,()):=by unfold g12;rw [h8];rfl
   have f13:g13 2000 x = some ([],false,90,()):=by unfold g13;rw [h8];rfl
   have f14:g14v1 2000 x = some ((false,0,0,[],()),false,90,()):=by unfold g14v1;rw [h8];rfl
   have f15:g15v1 2000 x 0 (false,0,0,[],()) = some (false,90,()):=by unfold g15v1;rw [h8];rfl
   have f16:g16 2000 x = some ([],90,()):=by unfold g16;rw [h8];rfl
   have f17:g17 2000 x oneM [] = some (0,false,90,()):=by unfold g17;rw [h31b];rfl
   have f19:g19 2000 x w = some (false,90,()):=by unfold g19;rw [h31];rfl
   have f20:g20 2000 x w = some (false,90,()):=by unfold g20;rw [h31];rfl
   have f22:g22 2000 x a1 w = some ([],0,90,()):=by unfold g22;rw [h31];rfl
   have f23:g23 2000 x a1 w = some (false,90,()):=by unfold g23;rw [h31];rfl
   have f24:g24 2000 x a1 0 = some ([],false,90,()):=by unfold g24;rw [h31];rfl
   have f25:g25 2000 x a1 = some ([],false,90,()):=by unfold g25;rw [h31];rfl
   simp only [h8,f9,f10,f11,f12,f13,f14,f15,f16,f17,f19,f20,f22,f23,f24,f25,Option.bind_some,awake_eq]
   rfl
 | true =>
   have hp:=chk_pm hc
   generalize (x.1.getD 0 []).length = k at hp
   rw [hc] at h8
   have h8:g8 2000 x = some 0:=h8
   have f18:=hp.word39 2000 (by omega) w (by omega)
   have i1:ieq (1:Int) 1 = true:=rfl
   have i10:ieq (1:Int) 0 = false:=rfl
   have i00:ieq (0:Int) 0 = true:=rfl
   have sum0:IntKind.wrap .i64 (0 + ((([]:List Int).length:Nat):Int)) = 0:=rfl
   have sum1:IntKind.wrap .i64 (((([]:List Int).length:Nat):Int) + ((([]:List Int).length:Nat):Int)) = 0:=rfl
   -- a state that is none
   have out:a1 < 0 ∨ (x.1.length:Int) ≤ a1→g22 2000 x a1 w = some ([],0,1,())∧g23 2000 x a1 w = some (false,1,())∧g24 2000 x a1 0 = some ([],false,1,())∧g25 2000 x a1 = some ([],false,1,()):=fun hs=>by
     have e:=fun ws=>open_out 2000 (by omega) x k hp a1 ws hs
     refine ⟨?_,?_,?_,?_⟩
     · unfold g22;rw [e];rfl
     · unfold g23;rw [e];rfl
     · unfold g24;rw [e];rfl
     · unfold g25;rw [e];rfl
   have neg:a1 < 0→decide (a1 < 0) = true∧decide ((0:Int) ≤ a1) = false:=fun h=>⟨decide_eq_true h,decide_eq_false (by omega)⟩
   simp only [Bool.not_true,cond_false,f18,Option.bind_some,h8,i00]
   cases hwb:wordB k w with
   | false =>
     have e:=fun s=>open_word 2000 (by omega) x k hp s w hwb
     have f19:g19 2000 x w = some (false,1,()):=by unfold g19;rw [e];rfl
     have f20:g20 2000 x w = some (false,1,()):=by unfold g20;rw [e];rfl
     have f22:g22 2000 x a1 w = some ([],0,1,()):=by unfold g22;rw [e];rfl
     have f23:g23 2000 x a1 w = some (false,1,()):=by unfold g23;rw [e];rfl
     simp only [f19,f20,f22,f23,Option.bind_some,i1,i10,Bool.not_true,Bool.not_false,cond_true,cond_false,sum0,i00]
     by_cases h1:0 ≤ a1
     · by_cases h2:a1 < (x.1.length:Int)
       · simp only [decide_eq_true h1,decide_eq_true h2,cond_true,awake_eq,Option.bind_some]
       · obtain ⟨_,_,f24,f25⟩:=out (.inr (by omega))
         simp only [decide_eq_true h1,decide_eq_false h2,cond_true,cond_false,f24,f25,Option.bind_some,awake_eq,i1,Bool.not_false,sum1,i00]
     · obtain ⟨_,_,f24,f25⟩:=out (.inl (by omega))
       simp only [decide_eq_false h1,cond_true,cond_false,f24,f25,Option.bind_some,awake_eq,i1,Bool.not_false,sum1,i00]
   | true =>
     simp only [Bool.not_true,cond_false]
     by_cases h1:a1 < 0
     · obtain ⟨f22,f23,f24,f25⟩:=out (.inl h1)
       simp only [decide_eq_true h1,decide_eq_false (show ¬ 0 ≤ a1 by omega),f22,f23,f24,f25,Option.bind_some,i1,i10,i00,Bool.not_true,Bool.not_false,cond_true,cond_false,sum0,sum1,awake_eq]
     · by_cases h2:(x.1.length:Int) ≤ a1
       · obtain ⟨f22,f23,f24,f25⟩:=out (.inr h2)
         simp only [decide_eq_false h1,decide_eq_true h2,decide_eq_true (show 0 ≤ a1 by omega),decide_eq_false (show ¬ a1 < (x.1.length:Int) by omega),f22,f23,f24,f25,Option.bind_some,i1,i10,i00,Bool.not_true,Bool.not_false,cond_true,cond_false,sum0,sum1,awake_eq]
       · simp only [decide_eq_false h1,decide_eq_false h2,i00,i10,Bool.not_true,Bool.not_false,cond_true,cond_false,awake_eq,Option.bind_some]
abbrev MT:Ty:=.pair (.lst (.lst (.int .i64))) (.pair (.lst (.lst (.int .i64))) .unit)
theorem probeChecks_bnd (a:ProdT (List.map AS.d [MT,.int .i64,.lst (.int .i64)])) (h:BndL [MT,.int .i64,.lst (.int .i64)] a):g3v1 2000 a.1 a.2.1 a.2.2.1 = some true :=
 checks_plain a.1 a.2.1 a.2.2.1
end Go.Pv
