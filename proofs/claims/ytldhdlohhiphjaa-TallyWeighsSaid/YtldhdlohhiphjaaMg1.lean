/- Plain texts, merged: QaA, QaB, QaL1, QaL2, QaL3, QaL4, QaC, QaD, QaM, QaOp, QaL5, QaL6, QaL7, QaL8. -/
import Derived.Test.YtldhdlohhiphjaaPvL06
/- Seat 06, plain: lists in ranges, sums, copies, the question. -/
set_option linter.unusedVariables false
set_option linter.unusedSimpArgs false
namespace Go.Pv
abbrev PP:=Int×List Int×List Int×List (List Int)×Unit
theorem w64 {x:Int} (h1:-9223372036854775808 ≤ x) (h2:x < 9223372036854775808):IntKind.wrap .i64 x = x:=by rw [IntKind.wrap_i64];omega
theorem wu64 (x:Int):IntKind.wrap .u64 x = x % 18446744073709551616:=by simp only [IntKind.wrap,IntKind.signed,IntKind.bits];simp
theorem wu64n {x:Int} (h1:0 ≤ x) (h2:x < 18446744073709551616):IntKind.wrap .u64 x = x:=by rw [wu64];omega
theorem wn (i:Nat) (h:i < 1000000):IntKind.wrap .i64 ((i:Int) + 1) = ((i + 1:Nat):Int):=by rw [w64 (by omega) (by omega)];simp
@[simp] theorem ieq_self (x:Int):ieq x x = true:=by simp only [ieq,decide_true]
theorem low (x:Int) {m:Int} (hm:0 < m) (hm2:m < 1000000):∃ r:Int,IntKind.wrap .i64 (Int.tmod (IntKind.wrap .u64 x) m) = r∧0 ≤ r∧r < m:=by
 refine ⟨(x % 18446744073709551616) % m,?_,Int.emod_nonneg _ (by omega),Int.emod_lt_of_pos _ hm⟩
 rw [wu64,Int.tmod_eq_emod_of_nonneg (Int.emod_nonneg _ (by decide))]
 have h1:=Int.emod_nonneg (x % 18446744073709551616) (show m ≠ 0 by omega)
 have h2:=Int.emod_lt_of_pos (x % 18446744073709551616) hm
 exact w64 (by omega) (by omega)
theorem getD_mem {α:Type} {l:List α} {i:Nat} (h:i < l.length) (d:α):l.getD i d ∈ l:=by
 rw [List.getD_eq_getElem?_getD,List.getElem?_eq_getElem h];simp
theorem getD_drop (l:List Int) (i:Nat) (h:i < l.length):l.drop i = l.getD i 0 :: l.drop (i + 1):=by
 rw [List.drop_eq_getElem_cons h];simp [h]
theorem any_loop (N:Nat) {C:Type} (k0:Int→Option C) (k1:Option C) (l:List Int) (f:(Int×Unit)→Option Bool) (p:Int→Bool) (hf:∀ x,f (x,()) = some (p x)) (hl:l.length < 4611686018427387904) :
   ∀ (F i:Nat),l.length - i < F→i ≤ l.length→((l.drop i).any p = true∧∃ j:Nat,g90L26f N F k0 k1 l f (l.length:Int) (i:Int) = k0 j) ∨ ((l.drop i).any p = false∧g90L26f N F k0 k1 l f (l.length:Int) (i:Int) = k1)
 | 0,i,h,_=>by omega
 | F + 1,i,h,hi=>by
   rw [g90L26f_succ]
   unfold g90L26B
   by_cases hlt:i < l.length
   · have e1:decide ((i:Int) < (l.length:Int)) = true:=by simp;omega
     have e2:idx (i:Int) l.length:=⟨by omega,by omega⟩
     rw [e1,cond_true,if_pos e2,Int.toNat_natCast,hf]
     simp only [Option.bind_some]
     rw [getD_drop l i hlt,List.any_cons]
     cases hp:p (l.getD i 0) with
     | true=>exact .inl ⟨by simp,i,rfl⟩
     | false =>
       simp only [cond_false,Bool.false_or]
       have e3:IntKind.wrap .i64 ((i:Int) + 1) = ((i + 1:Nat):Int):=by rw [w64 (by omega) (by omega)];simp
       rw [e3]
       exact any_loop N k0 k1 l f p hf hl F (i + 1) (by omega) (by omega)
   · have e1:decide ((i:Int) < (l.length:Int)) = false:=by simp;omega
     rw [e1,cond_false,List.drop_eq_nil_of_le (by omega)]
     exact .inr ⟨rfl,rfl⟩
theorem are_eq (N:Nat) (lo hi:Int) (l:List Int) (hN:l.length < N) (hl:l.length < 4611686018427387904):g60 N lo hi l = some (l.all fun x=>decide (lo ≤ x) && decide (x ≤ hi)):=by
 unfold g60 g86 g90
 rw [g90L26_eq]
 have:=any_loop N (fun e2=>some e2) (some (-1)) l (fun (x1:(Int)×(Unit))=>Option.bind (g87 N x1.1 lo hi) fun y2=>some y2) (fun x=>decide (x < lo) || decide (hi < x))
   (fun x=>by
     simp only [g87]
     cases h:decide (x < lo) <;> simp) hl N 0 (by omega) (by omega)
 simp only [Int.natCast_zero,List.drop_zero] at this
 have hx:(l.all fun x=>decide (lo ≤ x) && decide (x ≤ hi)) = !(l.any fun x=>decide (x < lo) || decide (hi < x)):=by
   rw [List.not_any_eq_all_not]
   congr 1
   funext x
   by_cases h1:x < lo <;> by_cases h2:hi < x <;> simp [h1,h2] <;> omega
 rcases this with ⟨h1,j,h2⟩ | ⟨h1,h2⟩
 · rw [h2,hx,h1]
   simp
 · rw [h2,hx,h1]
   simp
theorem few_eq (N:Nat) (l:List Int) (k:Int) (h0:0 ≤ k) (hk:k ≤ 1000):g17 N l k = some (l.take k.toNat):=by
 unfold g17
 have e:imin (l.length:Int) k = ((min l.length k.toNat:Nat):Int):=by simp only [imin];split <;> omega
 rw [e,if_pos ⟨by omega,by omega,by omega⟩]
 have:List.take (min l.length k.toNat) l = l.take k.toNat:=by
   rcases Nat.le_total l.length k.toNat with h | h
   · rw [Nat.min_eq_left h,List.take_of_length_le h,List.take_length]
   · rw [Nat.min_eq_right h]
 simp [this,maxCount]
 omega
theorem sum88_loop (N:Nat) {C:Type} (k0:Int→Option C) (l:List Int) (hl:l.length ≤ 100) (hb:∀ x ∈ l,-1000000 ≤ x∧x ≤ 1000000) :
   ∀ (F i:Nat) (s:Int),l.length - i < F→i ≤ l.length→-1000000 * (i:Int) ≤ s→s ≤ 1000000 * (i:Int)→g88L58f N F k0 s l (l.length:Int) (i:Int) = k0 (s + (l.drop i).sum)
 | 0,i,s,h,_,_,_=>by omega
 | F + 1,i,s,h,hi,h1,h2=>by
   rw [g88L58f_succ]
   unfold g88L58B
   by_cases hlt:i < l.length
   · have e1:decide ((i:Int) < (l.length:Int)) = true:=by simp;omega
     have e2:idx (i:Int) l.length:=⟨by omega,by omega⟩
     obtain ⟨b1,b2⟩:=hb _ (getD_mem hlt 0)
     rw [e1,cond_true,if_pos e2,Int.toNat_natCast,wn i (by omega),w64 (by omega) (by omega)]
     dsimp only
     rw [sum88_loop N k0 l hl hb F (i + 1) (s + l.getD i 0) (by omega) (by omega) (by omega) (by omega),getD_drop l i hlt,List.sum_cons]
     congr 1;omega
   · have e1:decide ((i:Int) < (l.length:Int)) = false:=by simp;omega
     rw [e1,cond_false,List.drop_eq_nil_of_le (by omega)];simp
theorem sum88 (N:Nat) (l:List Int) (hl:l.length ≤ 100) (hN:100 < N) (hb:∀ x ∈ l,-1000000 ≤ x∧x ≤ 1000000):g88 N l = some l.sum:=by
 unfold g88
 rw [g88L58_eq]
 have:=sum88_loop N (fun e1=>some e1) l hl hb N 0 0 (by omega) (by omega) (by omega) (by omega)
 simp only [Int.natCast_zero,List.drop_zero,Int.zero_add] at this
 exact this
def crowdB (l:List Int) (many:Int):Bool:=decide ((l.length:Int) = many) && ((l.all fun x=>decide (0 ≤ x) && decide (x ≤ 9)) && (decide (1 ≤ l.sum) && decide (l.sum ≤ 9)))
theorem isCrowd_eq (N:Nat) (l:List Int) (many:Int) (hl:l.length ≤ 100) (hN:100 < N):g62 N l many = some (crowdB l many):=by
 unfold g62 crowdB
 rw [are_eq N 0 9 l (by omega) (by omega)]
 by_cases h1:(l.length:Int) = many
 · simp only [ieq,h1,decide_true,cond_true,Option.bind_some,Bool.true_and]
   cases h2:l.all fun x=>decide (0 ≤ x) && decide (x ≤ 9) with
   | false=>rfl
   | true =>
     rw [List.all_eq_true] at h2
     have hb:∀ x ∈ l,-1000000 ≤ x∧x ≤ 1000000:=fun x hx=>by
       have:=h2 x hx
       simp only [Bool.and_eq_true,decide_eq_true_eq] at this
       omega
     rw [cond_true,sum88 N l hl hN hb]
     simp only [Option.bind_some]
     rw [are_eq N 1 9 _ (by simp;omega) (by simp)]
     simp
 · simp [ieq,h1]
end Go.Pv
namespace Go.Pv
def RLt (r s:List Int):Prop:=r.getD 0 0 < s.getD 0 0 ∨ r.getD 0 0 = s.getD 0 0∧r.getD 1 0 < s.getD 1 0
def RuleOk (n:Int) (r:List Int):Prop:=r.length = 4∧(∀ t ∈ r,0 ≤ t∧t < n)∧r.getD 0 0 ≤ r.getD 1 0
structure PT (x:PP):Prop where
 n:1 ≤ x.1∧x.1 ≤ 5
 out:(x.2.1.length:Int) = x.1∧∀ o ∈ x.2.1,0 ≤ o∧o ≤ 1
 start:1 ≤ x.2.2.1.length∧x.2.2.1.length ≤ 2∧∀ s ∈ x.2.2.1,0 ≤ s∧s < x.1
 rules:x.2.2.2.1.length ≤ 15∧(∀ r ∈ x.2.2.2.1,RuleOk x.1 r)∧x.2.2.2.1.Pairwise RLt
theorem cmp97 (N:Nat) (a b:Int):g97 N a b = some (if a < b then -1 else if b < a then 1 else 0):=by
 have h99:∀ x:Int,g99 N x = some false:=fun x=>by simp [g99]
 unfold g97
 rw [h99,h99]
 simp only [Option.bind_some,cond_false]
 by_cases h:a < b
 · simp [h]
 · by_cases h2:b < a <;> simp [h,h2]
theorem compare_lt (N:Nat) (hN:5 < N) (a b c d:Int) (h:a < c ∨ a = c∧b < d):g85 N [a,b] [c,d] = some (-1):=by
 unfold g85
 rw [g85L26_eq]
 obtain ⟨M,rfl⟩:∃ M,N = M + 3:=⟨N - 3,by omega⟩
 rw [show M + 3 = (M + 2) + 1 from rfl,g85L26f_succ]
 unfold g85L26B
 have q0:idx (0:Int) 2:=by decide
 have q1:idx (1:Int) 2:=by decide
 rcases h with h | ⟨rfl,h⟩
 · simp [cmp97,h,idx,ieq]
 · have hab:¬ (a < a):=by omega
   have e1:IntKind.wrap .i64 1 = 1:=by decide
   simp [cmp97,idx,ieq,hab,e1]
   rw [show M + 2 = (M + 1) + 1 from rfl,g85L26f_succ]
   unfold g85L26B
   simp [cmp97,idx,ieq,h,e1]
theorem PT.check_loop {x:PP} (h:PT x) (N:Nat) (hN:20 < N) {C:Type} (k0:Int→PP→Option C) (k1:PP→Option C) :
   ∀ (F i:Nat),x.2.2.2.1.length - i < F→i ≤ x.2.2.2.1.length→g59L122f N F k0 k1 x.1 x.2.2.2.1 (x.2.2.2.1.length:Int) (i:Int) x = k1 x
 | 0,i,hF,_=>by omega
 | F + 1,i,hF,hi=>by
   rw [g59L122f_succ]
   unfold g59L122B
   obtain ⟨hn1,hn2⟩:=h.n
   obtain ⟨hr1,hr2,hr3⟩:=h.rules
   by_cases hlt:i < x.2.2.2.1.length
   · have e1:decide ((i:Int) < (x.2.2.2.1.length:Int)) = true:=by simp;omega
     have e2:idx (i:Int) x.2.2.2.1.length:=⟨by omega,by omega⟩
     obtain ⟨r1,r2,r3⟩:=hr2 _ (getD_mem hlt (List.replicate 4 0))
     have ih:=h.check_loop N hN k0 k1 F (i + 1) (by omega) (by omega)
     have hprev:0 < i→RLt (x.2.2.2.1.getD (i - 1) (List.replicate 4 0)) (x.2.2.2.1.getD i (List.replicate 4 0)):=fun hp=>by
       have:=List.pairwise_iff_getElem.1 hr3 (i - 1) i (by omega) hlt (by omega)
       rw [List.getD_eq_getElem?_getD,List.getD_eq_getElem?_getD,List.getElem?_eq_getElem (show i - 1 < _ by omega),List.getElem?_eq_getElem hlt]
       exact this
     have hprev2:0 < i→RuleOk x.1 (x.2.2.2.1.getD (i - 1) (List.replicate 4 0)):=fun hp=>hr2 _ (getD_mem (by omega) _)
     rw [e1,cond_true,if_pos e2,if_pos (by decide),Int.toNat_natCast]
     generalize hq:x.2.2.2.1.getD i (List.replicate 4 0) = q at r1 r2 r3 hprev
     match q,r1 with
     | [a,b,c,d],_ =>
       have e5:g60 N 0 (IntKind.wrap .i64 (x.1 - 1)) [a,b,c,d] = some true:=by
         rw [are_eq N _ _ _ (by simp;omega) (by simp),w64 (by omega) (by omega)]
         congr 1
         rw [List.all_eq_true]
         intro t ht
         obtain ⟨a1,a2⟩:=r2 t ht
         simp;omega
       have e6:decide (b < a) = false:=by simp at r3;simp;omega
       rw [if_pos (by decide),if_pos (by decide)]
       simp only [show Int.toNat 4 = 4 from rfl,show Int.toNat 0 = 0 from rfl,show Int.toNat 1 = 1 from rfl,List.take,List.drop,e5,Option.bind_some,Bool.not_true,cond_false,List.getD_cons_zero,List.getD_cons_succ,e6]
       by_cases hp:0 < i
       · have e7:decide ((0:Int) < (i:Int)) = true:=by simp;omega
         have e8:IntKind.wrap .i64 ((i:Int) - 1) = ((i - 1:Nat):Int):=by rw [w64 (by omega) (by omega)];omega
         have e9:idx ((i - 1:Nat):Int) x.2.2.2.1.length:=⟨by omega,by omega⟩
         rw [e7,cond_true,e8,if_pos e9,if_pos (by decide),if_pos (by decide),Int.toNat_natCast]
         have hx:=hprev hp
         obtain ⟨p1,p2,p3⟩:=hprev2 hp
         generalize hq2:x.2.2.2.1.getD (i - 1) (List.replicate 4 0) = q2 at p1 p2 p3 hx
         match q2,p1 with
         | [a',b',c',d'],_ =>
           simp only [RLt,List.getD_cons_zero,List.getD_cons_succ] at hx
           simp only [show Int.toNat 2 = 2 from rfl,List.take,List.drop]
           rw [compare_lt N (by omega) a' b' a b hx]
           simp only [Option.bind_some]
           rw [show decide ((0:Int) ≤ -1) = false from rfl,cond_false,wn i (by omega)]
           exact ih
       · have e7:decide ((0:Int) < (i:Int)) = false:=by simp;omega
         rw [e7,cond_false,wn i (by omega)]
         exact ih
   · have e1:decide ((i:Int) < (x.2.2.2.1.length:Int)) = false:=by simp;omega
     rw [e1,cond_false]
theorem PT.check {x:PP} (h:PT x) (N:Nat) (hN:20 < N):g59 N x = some 0:=by
 obtain ⟨hn1,hn2⟩:=h.n
 obtain ⟨ho1,ho2⟩:=h.out
 obtain ⟨hs1,hs2,hs3⟩:=h.start
 obtain ⟨hr1,hr2,hr3⟩:=h.rules
 unfold g59
 have e1:g60 N 1 5 [x.1] = some true:=by
   rw [are_eq N _ _ _ (by simp;omega) (by simp)];simp;omega
 have e2:ieq ((List.length x.2.1:Nat):Int) x.1 = true:=by simp only [ieq,decide_eq_true_eq];exact ho1
 have e3:g60 N 0 1 x.2.1 = some true:=by
   rw [are_eq N _ _ _ (by omega) (by omega)]
   congr 1
   rw [List.all_eq_true]
   intro t ht
   have:=ho2 t ht
   simp;omega
 have e4:g60 N 1 2 [((List.length x.2.2.1:Nat):Int)] = some true:=by
   rw [are_eq N _ _ _ (by simp;omega) (by simp)];simp;omega
 have e5:g60 N 0 (IntKind.wrap .i64 (x.1 - 1)) x.2.2.1 = some true:=by
   rw [are_eq N _ _ _ (by omega) (by omega),w64 (by omega) (by omega)]
   congr 1
   rw [List.all_eq_true]
   intro t ht
   have:=hs3 t ht
   simp;omega
 have e6:decide ((15:Int) < ((List.length x.2.2.2.1:Nat):Int)) = false:=by simp;omega
 rw [e1,e2,e3,e4,e5,e6]
 simp only [Option.bind_some,Bool.not_true,cond_false]
 rw [g59L122_eq]
 have:=h.check_loop N hN (fun e7 e8=>some e7) (fun e9=>some (0:Int)) N 0 (by omega) (by omega)
 simp only [Int.natCast_zero] at this
 exact this
theorem PT.given {x:PP} (h:PT x) (N:Nat):g26 N x = some x:=by
 unfold g26
 obtain ⟨hn1,hn2⟩:=h.n
 obtain ⟨ho1,ho2⟩:=h.out
 obtain ⟨hs1,hs2,hs3⟩:=h.start
 rw [few_eq N _ 6 (by omega) (by omega),few_eq N _ 3 (by omega) (by omega)]
 simp only [Option.bind_some,show Int.toNat 6 = 6 from rfl,show Int.toNat 3 = 3 from rfl]
 rw [List.take_of_length_le (by omega),List.take_of_length_le (by omega)]
 have:=h.rules.1
 simp [maxCount];omega
end Go.Pv
namespace Go.Pv
abbrev Vec:=Nat→Int
abbrev Mx:=Nat→Nat→Int
def dot (a b:Vec):Int:=a 0 * b 0 + a 1 * b 1 + a 2 * b 2 + a 3 * b 3 + a 4 * b 4
def app (A:Mx) (v:Vec):Vec:=fun k=>dot (A k) v
def idM:Mx:=fun k l=>if k = l then 1 else 0
def updM (A:Mx) (r:Vec) (c:Nat):Mx:=fun k l=>r c * A k l - r k * A c l
theorem app_upd (A:Mx) (r v:Vec) (c k:Nat):app (updM A r c) v k = r c * app A v k - r k * app A v c:=by
 unfold app dot updM;grind
def Par (r s:Vec):Prop:=∃ p q:Int,p ≠ 0∧q ≠ 0∧∀ k,p * r k = q * s k
theorem Par.refl (r:Vec):Par r r:=⟨1,1,by decide,by decide,fun _=>rfl⟩
theorem Par.zero {r s:Vec} (h:Par r s) (k:Nat):r k = 0 ↔ s k = 0:=by
 obtain ⟨p,q,hp,hq,e⟩:=h
 have:=e k
 constructor
 · intro h0
   rw [h0,Int.mul_zero] at this
   exact (Int.mul_eq_zero.1 this.symm).resolve_left hq
 · intro h0
   rw [h0,Int.mul_zero] at this
   exact (Int.mul_eq_zero.1 this).resolve_left hp
theorem mul_ne {a b:Int} (ha:a ≠ 0) (hb:b ≠ 0):a * b ≠ 0:=fun h=>by
 rcases Int.mul_eq_zero.1 h with h | h
 · exact ha h
 · exact hb h
theorem Par.step {r s o t:Vec} (h1:Par r s) (h2:Par o t) {r':Vec} {g:Int} (hg:g ≠ 0) (c:Nat) (h:∀ k,g * r' k = r k * o c - o k * r c):Par r' (fun k=>s k * t c - t k * s c):=by
 obtain ⟨p,q,hp,hq,e⟩:=h1
 obtain ⟨p2,q2,hp2,hq2,e2⟩:=h2
 refine ⟨p * p2 * g,q * q2,mul_ne (mul_ne hp hp2) hg,mul_ne hq hq2,fun k=>?_⟩
 have a:=h k
 have b1:=e k
 have b2:=e c
 have b3:=e2 k
 have b4:=e2 c
 calc p * p2 * g * r' k = p * p2 * (g * r' k):=by grind
   _ = p * p2 * (r k * o c - o k * r c):=by rw [a]
   _ = (p * r k) * (p2 * o c) - (p2 * o k) * (p * r c):=by grind
   _ = (q * s k) * (q2 * t c) - (q2 * t k) * (q * s c):=by rw [b1,b2,b3,b4]
   _ = q * q2 * (s k * t c - t k * s c):=by grind
structure Stg where
 A:Mx
 P:List Nat
 V:List Vec
def takeS (c i:Nat) (s:Stg):Stg:=⟨updM s.A (app s.A (s.V.getD i (fun _=>0))) c,s.P ++ [c],(s.V.set i (s.V.getD 0 (fun _=>0))).tail⟩
def FirstAt (c i:Nat) (s:Stg):Prop:=i < s.V.length∧app s.A (s.V.getD i (fun _=>0)) c ≠ 0∧∀ j,j < i→app s.A (s.V.getD j (fun _=>0)) c = 0
def NoneAt (c:Nat) (s:Stg):Prop:=∀ v ∈ s.V,app s.A v c = 0
inductive Elim:Nat→Nat→Stg→Stg→Prop
 | done (c s):Elim c c s s
 | none {c d s t}:NoneAt c s→Elim (c + 1) d s t→Elim c d s t
 | take {c d i s t}:FirstAt c i s→Elim (c + 1) d (takeS c i s) t→Elim c d s t
theorem mem_take {s:Stg} {c i:Nat} (hi:i < s.V.length) {v:Vec} (hv:v ∈ (takeS c i s).V):v ∈ s.V:=by
 unfold takeS at hv
 have:=List.mem_of_mem_tail hv
 rcases List.mem_or_eq_of_mem_set this with h | h
 · exact h
 · rw [h];exact getD_mem (by omega) _
theorem mem_take2 {s:Stg} {c i:Nat} (hi:i < s.V.length) {v:Vec} (hv:v ∈ s.V):v ∈ (takeS c i s).V ∨ v = s.V.getD i (fun _=>0):=by
 obtain ⟨j,hj,rfl⟩:=List.getElem_of_mem hv
 unfold takeS
 rw [List.getD_eq_getElem?_getD,List.getElem?_eq_getElem hi,Option.getD_some]
 by_cases hji:j = i
 · subst hji;exact .inr rfl
 · refine .inl ?_
   show s.V[j] ∈ (s.V.set i (s.V.getD 0 (fun _=>0))).tail
   by_cases hj0:j = 0
   · subst hj0
     have hi0:0 < i:=by omega
     rw [List.getD_eq_getElem?_getD,List.getElem?_eq_getElem (by omega),Option.getD_some]
     refine List.mem_iff_getElem.2 ⟨i - 1,by simp;omega,?_⟩
     rw [List.getElem_tail,List.getElem_set]
     rw [if_pos (by omega)]
   · refine List.mem_iff_getElem.2 ⟨j - 1,by simp;omega,?_⟩
     rw [List.getElem_tail,List.getElem_set]
     rw [if_neg (by omega)]
     congr 1
     omega
theorem len_take (s:Stg) (c i:Nat):(takeS c i s).V.length = s.V.length - 1:=by simp [takeS]
theorem get_take {s:Stg} {c i j:Nat} (hj:j + 1 < s.V.length):(takeS c i s).V.getD j (fun _=>0) = if j + 1 = i then s.V.getD 0 (fun _=>0) else s.V.getD (j + 1) (fun _=>0):=by
 unfold takeS
 simp only [List.getD_eq_getElem?_getD]
 rw [List.getElem?_tail,List.getElem?_set]
 by_cases h:i = j + 1
 · rw [if_pos h,if_pos h.symm,if_pos (by omega)];rfl
 · rw [if_neg h,if_neg (fun h2=>h h2.symm)]
structure SI (n c:Nat) (V0:List Vec) (s:Stg):Prop where
 free:∃ L:Int,L ≠ 0∧∀ f,f ∉ s.P→∀ k,s.A k f = if k = f then L else 0
 piv:∀ p ∈ s.P,∀ l,s.A p l = 0
 zero:∀ v ∈ s.V,∀ d,d < c→app s.A v d = 0
 all:∀ v ∈ V0,v ∈ s.V ∨ ∀ k,app s.A v k = 0
 lt:∀ p ∈ s.P,p < c
 nodup:s.P.Nodup
 sub:∀ v ∈ s.V,v ∈ V0
 len:s.P.length + s.V.length = V0.length
 le:s.P.length ≤ c
theorem SI.start (n:Nat) (V0:List Vec):SI n 0 V0 ⟨idM,[],V0⟩ :=
 ⟨⟨1,by decide,fun f _ k=>rfl⟩,fun p h=>(by cases h),fun v _ d h=>(by omega),fun v h=>.inl h,fun p h=>(by cases h),List.nodup_nil,fun v h=>h,(by simp),(by simp)⟩
theorem SI.skip {n c:Nat} {V0:List Vec} {s:Stg} (h:SI n c V0 s) (hn:NoneAt c s):SI n (c + 1) V0 s :=
 ⟨h.free,h.piv,fun v hv d hd=>by
   by_cases hdc:d = c
   · subst hdc;exact hn v hv
   · exact h.zero v hv d (by omega),h.all,fun p hp=>by have:=h.lt p hp;omega,h.nodup,h.sub,h.len,by have:=h.le;omega⟩
theorem SI.appP {n c:Nat} {V0:List Vec} {s:Stg} (h:SI n c V0 s) {p:Nat} (hp:p ∈ s.P) (v:Vec):app s.A v p = 0:=by
 unfold app dot
 simp only [h.piv p hp,Int.zero_mul,Int.add_zero]
theorem SI.take {n c i:Nat} {V0:List Vec} {s:Stg} (h:SI n c V0 s) (hf:FirstAt c i s):SI n (c + 1) V0 (takeS c i s):=by
 obtain ⟨hi,hne,hb⟩:=hf
 have hcP:c ∉ s.P:=fun hc=>by have:=h.lt c hc;omega
 obtain ⟨L,hL,hfree⟩:=h.free
 have hA:(takeS c i s).A = updM s.A (app s.A (s.V.getD i (fun _=>0))) c:=rfl
 have hP:(takeS c i s).P = s.P ++ [c]:=rfl
 have hmi:s.V.getD i (fun _=>0) ∈ s.V:=getD_mem hi _
 refine ⟨⟨app s.A (s.V.getD i (fun _=>0)) c * L,mul_ne hne hL,fun f hf k=>?_⟩,fun p hp l=>?_,fun v hv d hd=>?_,fun v hv=>?_,fun p hp=>?_,?_,fun v hv=>h.sub v (mem_take hi hv),?_,?_⟩
 · rw [hP] at hf
   simp only [List.mem_append,List.mem_singleton,not_or] at hf
   have h1:=hfree f hf.1 k
   have h2:=hfree f hf.1 c
   rw [if_neg (fun h=>hf.2 h.symm)] at h2
   rw [hA]
   unfold updM
   rw [h1,h2]
   split <;> simp
 · rw [hA]
   unfold updM
   rw [hP] at hp
   rcases List.mem_append.1 hp with h1 | h1
   · rw [h.piv p h1 l,h.appP h1];simp
   · obtain rfl:=List.mem_singleton.1 h1
     omega
 · rw [hA,app_upd]
   have hv':=mem_take hi hv
   by_cases hdc:d = c
   · subst hdc
     have:=Int.mul_comm (app s.A (s.V.getD i (fun _=>0)) d) (app s.A v d)
     omega
   · rw [h.zero v hv' d (by omega),h.zero _ hmi d (by omega)];simp
 · rcases h.all v hv with h1 | h1
   · rcases mem_take2 (c:=c) hi h1 with h2 | h2
     · exact .inl h2
     · refine .inr fun k=>?_
       rw [hA,app_upd,h2]
       have:=Int.mul_comm (app s.A (s.V.getD i (fun _=>0)) c) (app s.A (s.V.getD i (fun _=>0)) k)
       omega
   · refine .inr fun k=>?_
     rw [hA,app_upd,h1 k,h1 c];simp
 · rw [hP] at hp
   rcases List.mem_append.1 hp with h1 | h1
   · have:=h.lt p h1;omega
   · obtain rfl:=List.mem_singleton.1 h1;omega
 · rw [hP,List.nodup_append]
   refine ⟨h.nodup,by simp,fun a ha b hb=>?_⟩
   obtain rfl:=List.mem_singleton.1 hb
   exact fun e=>hcP (e ▸ ha)
 · rw [len_take,hP]
   have:=h.len
   simp
   omega
 · rw [hP];have:=h.le;simp;omega
theorem Elim.si {n c d:Nat} {V0:List Vec} {s t:Stg} (h:Elim c d s t):SI n c V0 s→SI n d V0 t:=by
 induction h with
 | done=>exact fun h=>h
 | none hn _ ih=>exact fun h=>ih (h.skip hn)
 | take hf _ ih=>exact fun h=>ih (h.take hf)
end Go.Pv
namespace Go.Pv
theorem Elim.le {c d:Nat} {s t:Stg} (h:Elim c d s t):c ≤ d:=by
 induction h with
 | done=>exact Nat.le_refl _
 | none _ _ ih=>omega
 | take _ _ ih=>omega
theorem FirstAt.uniq {c i j:Nat} {s:Stg} (h1:FirstAt c i s) (h2:FirstAt c j s):i = j:=by
 rcases Nat.lt_trichotomy i j with h | h | h
 · exact absurd (h2.2.2 i h) h1.2.1
 · exact h
 · exact absurd (h1.2.2 j h) h2.2.1
theorem FirstAt.not_none {c i:Nat} {s:Stg} (h1:FirstAt c i s) (h2:NoneAt c s):False:=h1.2.1 (h2 _ (getD_mem h1.1 _))
theorem Elim.uniq {c d:Nat} {s t:Stg} (h:Elim c d s t):∀ {u:Stg},Elim c d s u→t = u:=by
 induction h with
 | done c s =>
   intro u h2
   cases h2 with
   | done=>rfl
   | none _ h=>have:=h.le;omega
   | take _ h=>have:=h.le;omega
 | none hn hd ih =>
   intro u h2
   cases h2 with
   | done=>have:=hd.le;omega
   | none _ h=>exact ih h
   | take hf h=>exact (hf.not_none hn).elim
 | take hf hd ih =>
   intro u h2
   cases h2 with
   | done=>have:=hd.le;omega
   | none hn h=>exact (hf.not_none hn).elim
   | take hf2 h =>
     obtain rfl:=hf.uniq hf2
     exact ih h
inductive Spn (A:Mx) (V:List Vec):Vec→Prop
 | zero {x}:(∀ k,x k = 0)→Spn A V x
 | add {x y v:Vec} {p q a:Int}:Spn A V y→v ∈ V→p ≠ 0→(∀ k,p * x k = q * y k + a * app A v k)→Spn A V x
theorem take_A (s:Stg) (c i:Nat):(takeS c i s).A = updM s.A (app s.A (s.V.getD i (fun _=>0))) c:=rfl
end Go.Pv
namespace Go.Pv
def sum5 (v:Vec):Int:=v 0 + v 1 + v 2 + v 3 + v 4
def Bdd (b:Int) (v:Vec):Prop:=∀ k,-b ≤ v k∧v k ≤ b
theorem mul_bd {a b x y:Int} (hx:-a ≤ x∧x ≤ a) (hy:-b ≤ y∧y ≤ b) (ha:0 ≤ a) (hb:0 ≤ b):-(a * b) ≤ x * y∧x * y ≤ a * b:=by
 have h1:(x * y).natAbs ≤ (a * b).natAbs:=by
   rw [Int.natAbs_mul,Int.natAbs_mul]
   exact Nat.mul_le_mul (by omega) (by omega)
 have h2:=Int.mul_nonneg ha hb
 omega
structure Rul (n:Nat) (v:Vec):Prop where
 b:Bdd 2 v
 l1:(v 0).natAbs + (v 1).natAbs + (v 2).natAbs + (v 3).natAbs + (v 4).natAbs ≤ 4
 s:sum5 v = 0
 z:∀ k,n ≤ k→v k = 0
theorem app_id {n:Nat} (hn:n ≤ 5) {v:Vec} (h:Rul n v):app idM v = v:=by
 funext k
 unfold app dot idM
 by_cases h0:k = 0
 · subst h0;simp
 by_cases h1:k = 1
 · subst h1;simp
 by_cases h2:k = 2
 · subst h2;simp
 by_cases h3:k = 3
 · subst h3;simp
 by_cases h4:k = 4
 · subst h4;simp
 rw [h.z k (by omega),if_neg h0,if_neg h1,if_neg h2,if_neg h3,if_neg h4];simp
theorem dot_bd {n:Nat} {v:Vec} (h:Rul n v) {b:Int} (hb:0 ≤ b) {a:Vec} (ha:Bdd b a):-(4 * b) ≤ dot a v∧dot a v ≤ 4 * b:=by
 have t:∀ k,-(b * ((v k).natAbs:Int)) ≤ a k * v k∧a k * v k ≤ b * ((v k).natAbs:Int):=fun k=>mul_bd (ha k) (by omega) hb (by omega)
 have h1:=h.l1
 obtain ⟨m,hm⟩:∃ m:Int,m = ((v 0).natAbs:Int) + (v 1).natAbs + (v 2).natAbs + (v 3).natAbs + (v 4).natAbs:=⟨_,rfl⟩
 have e:b * m = b * ((v 0).natAbs:Int) + b * ((v 1).natAbs:Int) + b * ((v 2).natAbs:Int) + b * ((v 3).natAbs:Int) + b * ((v 4).natAbs:Int):=by rw [hm];grind
 have hle:b * m ≤ b * 4:=Int.mul_le_mul_of_nonneg_left (by omega) hb
 have t0:=t 0
 have t1:=t 1
 have t2:=t 2
 have t3:=t 3
 have t4:=t 4
 unfold dot
 omega
structure AB (V0:List Vec) (s:Stg):Prop where
 l0:s.P.length = 0→s.A = idM
 l1:s.P.length = 1→∃ v0 ∈ V0,∃ c,s.P = [c]∧v0 c ≠ 0∧s.A = updM idM v0 c
 l2:s.P.length = 2→∃ (g:Int) (B:Mx),g ≠ 0∧(∀ k l,s.A k l = g * B k l)∧∀ k,Bdd 8 (B k)
 l3:s.P.length = 3→∃ (g:Int) (B:Mx),g ≠ 0∧(∀ k l,s.A k l = g * B k l)∧∀ k,Bdd 512 (B k)
theorem AB.start (V0:List Vec):AB V0 ⟨idM,[],V0⟩:=⟨fun _=>rfl,fun h=>(by cases h),fun h=>(by cases h),fun h=>(by cases h)⟩
theorem AB.take {n c i:Nat} {V0:List Vec} {s:Stg} (hn:n ≤ 5) (hV:∀ v ∈ V0,Rul n v) (hs:SI n c V0 s) (h:AB V0 s) (hf:FirstAt c i s):AB V0 (takeS c i s):=by
 have hl:(takeS c i s).P.length = s.P.length + 1:=by simp [takeS]
 have hv:=hV _ (hs.sub _ (getD_mem hf.1 (fun _=>0)))
 have hin:=hs.sub _ (getD_mem hf.1 (fun _=>0))
 have hne:=hf.2.1
 have hs2:=hs.take (n:=n) hf
 refine ⟨fun h0=>by omega,fun h0=>?_,fun h0=>?_,fun h0=>?_⟩
 · have hp:s.P.length = 0:=by omega
   have hA:=h.l0 hp
   have hP:s.P = []:=List.length_eq_zero_iff.1 hp
   rw [hA,app_id hn hv] at hne
   exact ⟨_,hin,c,by simp [takeS,hP],hne,by rw [take_A,hA,app_id hn hv]⟩
 · obtain ⟨v0,hv0,c0,hP,hne0,hA⟩:=h.l1 (by omega)
   have hc0:=hs.lt c0 (by rw [hP];simp)
   have r0:=hV _ hv0
   generalize hv1:s.V.getD i (fun _=>0) = v1 at hv hne
   have er:∀ k,app s.A v1 k = v0 c0 * v1 k - v0 k * v1 c0:=fun k=>by
     rw [hA,app_upd,app_id hn hv]
   refine ⟨v0 c0,fun k l=>if k = c0 ∨ k = c then 0 else (if k = l then app s.A v1 c else 0) - (if c = l then app s.A v1 k else 0) + (if c0 = l then v1 k * v0 c - v1 c * v0 k else 0),hne0,fun k l=>?_,fun k l=>?_⟩
   · by_cases hk:k = c0 ∨ k = c
     · simp only [if_pos hk,Int.mul_zero]
       exact hs2.piv k (by simp only [takeS,hP,List.mem_append,List.mem_singleton,List.cons_append,List.nil_append,List.mem_cons,List.not_mem_nil,or_false];exact hk) l
     · simp only [if_neg hk]
       rw [take_A,hv1]
       have e1:=er c
       have e2:=er k
       show app s.A v1 c * s.A k l - app s.A v1 k * s.A c l = _
       rw [e1,e2,hA]
       unfold updM idM
       have q1:¬ (c = k):=fun h=>hk (.inr h.symm)
       have q2:¬ (c0 = k):=fun h=>hk (.inl h.symm)
       have q3:¬ (c0 = c):=by omega
       have q4:¬ (c = c0):=by omega
       have q5:¬ (k = c):=fun h=>q1 h.symm
       have q6:¬ (k = c0):=fun h=>q2 h.symm
       by_cases h1:k = l
       · subst h1
         simp only [q1,q2,if_true,if_false]
         grind
       · by_cases h2:c = l
         · subst h2
           simp only [q3,q5,if_true,if_false]
           grind
         · by_cases h3:c0 = l
           · subst h3
             simp only [q4,q6,if_true,if_false]
             grind
           · simp only [h1,h2,h3,if_false]
             grind
   · have m:∀ a b a' b':Int,-2 ≤ a∧a ≤ 2→-2 ≤ b∧b ≤ 2→-2 ≤ a'∧a' ≤ 2→-2 ≤ b'∧b' ≤ 2→-8 ≤ a * b - a' * b'∧a * b - a' * b' ≤ 8:=fun a b a' b' h1 h2 h3 h4=>by
       have:=mul_bd h1 h2 (by omega) (by omega)
       have:=mul_bd h3 h4 (by omega) (by omega)
       omega
     dsimp only
     by_cases hk:k = c0 ∨ k = c
     · rw [if_pos hk];omega
     · rw [if_neg hk,er c,er k]
       have b1:=m _ _ _ _ (r0.b c0) (hv.b c) (r0.b c) (hv.b c0)
       have b2:=m _ _ _ _ (r0.b c0) (hv.b k) (r0.b k) (hv.b c0)
       have b3:=m _ _ _ _ (hv.b k) (r0.b c) (hv.b c) (r0.b k)
       have q1:¬ (c = k):=fun h=>hk (.inr h.symm)
       have q2:¬ (c0 = k):=fun h=>hk (.inl h.symm)
       have q3:¬ (c0 = c):=by omega
       have q5:¬ (k = c):=fun h=>q1 h.symm
       by_cases h1:k = l
       · subst h1
         simp only [q1,q2,if_true,if_false]
         omega
       · by_cases h2:c = l
         · subst h2
           simp only [q3,q5,if_true,if_false]
           omega
         · simp only [h1,h2,if_false]
           split <;> omega
 · obtain ⟨g,B,hg,hA,hB⟩:=h.l2 (by omega)
   generalize hv1:s.V.getD i (fun _=>0) = v1 at hv hne
   have er:∀ k,app s.A v1 k = g * dot (B k) v1:=fun k=>by
     unfold app dot
     rw [hA k 0,hA k 1,hA k 2,hA k 3,hA k 4]
     grind
   refine ⟨g * g,fun k l=>dot (B c) v1 * B k l - dot (B k) v1 * B c l,mul_ne hg hg,fun k l=>?_,fun k l=>?_⟩
   · rw [take_A,hv1]
     show app s.A v1 c * s.A k l - app s.A v1 k * s.A c l = _
     rw [er c,er k,hA,hA]
     grind
   · have b1:=dot_bd hv (b:=8) (by omega) (hB c)
     have b2:=dot_bd hv (b:=8) (by omega) (hB k)
     have m1:=mul_bd (a:=32) (b:=8) (x:=dot (B c) v1) (y:=B k l) (by omega) (hB k l) (by omega) (by omega)
     have m2:=mul_bd (a:=32) (b:=8) (x:=dot (B k) v1) (y:=B c l) (by omega) (hB c l) (by omega) (by omega)
     dsimp only
     omega
theorem AB.fin {n:Nat} {V0:List Vec} {s:Stg} (hV:∀ v ∈ V0,Rul n v) (h:AB V0 s) (hl:s.P.length ≤ 3):∃ (g:Int) (B:Mx),g ≠ 0∧(∀ k l,s.A k l = g * B k l)∧∀ k,Bdd 512 (B k):=by
 have h4:s.P.length = 0 ∨ s.P.length = 1 ∨ s.P.length = 2 ∨ s.P.length = 3:=by omega
 rcases h4 with h4 | h4 | h4 | h4
 · refine ⟨1,idM,by decide,fun k l=>by rw [h.l0 h4,Int.one_mul],fun k l=>?_⟩
   unfold idM;split <;> omega
 · obtain ⟨v0,hv0,c0,hP,hne0,hA⟩:=h.l1 h4
   have hb:=(hV _ hv0).b
   refine ⟨1,updM idM v0 c0,by decide,fun k l=>by rw [hA,Int.one_mul],fun k l=>?_⟩
   have b1:=hb c0
   have b2:=hb k
   unfold updM idM
   split <;> split <;> omega
 · obtain ⟨g,B,hg,hA,hB⟩:=h.l2 h4
   exact ⟨g,B,hg,hA,fun k l=>by have:=hB k l;omega⟩
 · exact h.l3 h4
def bnd:Nat→Int
 | 0=>2
 | j + 1=>2 * (bnd j * bnd j)
structure PR (n:Nat) (s:Stg) (m:Nat) (R:Nat→Vec):Prop where
 len:m = s.P.length + s.V.length
 low:∀ i,i < s.V.length→Par (R (s.P.length + i)) (app s.A (s.V.getD i (fun _=>0)))
 piv:∀ j,j < s.P.length→(∀ k,k < 5→app s.A (R j) k = 0)∧R j (s.P.getD j 0) ≠ 0∧(∀ l,l < s.P.length→l ≠ j→R j (s.P.getD l 0) = 0)∧∀ l,l < s.P.getD j 0→R j l = 0
 sum:∀ j,j < m→sum5 (R j) = 0
 bd:∀ j,j < m→Bdd (bnd s.P.length) (R j)
theorem free_mul {A:Mx} {P:List Nat} {L:Int} (hfree:∀ f,f ∉ P→∀ k,A k f = if k = f then L else 0) {r:Vec} (hr:∀ p ∈ P,r p = 0) (k l:Nat):A k l * r l = if k = l then L * r l else 0:=by
 by_cases hl:l ∈ P
 · rw [hr l hl];split <;> simp
 · rw [hfree l hl k];split <;> simp
theorem app_free {A:Mx} {P:List Nat} {L:Int} (hfree:∀ f,f ∉ P→∀ k,A k f = if k = f then L else 0) {r:Vec} (hr:∀ p ∈ P,r p = 0) {k:Nat} (hk:k < 5):app A r k = L * r k:=by
 unfold app dot
 simp only [free_mul hfree hr]
 have:k = 0 ∨ k = 1 ∨ k = 2 ∨ k = 3 ∨ k = 4:=by omega
 rcases this with rfl | rfl | rfl | rfl | rfl <;> simp
theorem app_lin (A:Mx) {g p q:Int} {x r o:Vec} (h:∀ k,g * x k = r k * p - o k * q) (k:Nat):g * app A x k = app A r k * p - app A o k * q:=by
 unfold app
 have h0:=h 0
 have h1:=h 1
 have h2:=h 2
 have h3:=h 3
 have h4:=h 4
 calc g * dot (A k) x = A k 0 * (g * x 0) + A k 1 * (g * x 1) + A k 2 * (g * x 2) + A k 3 * (g * x 3) + A k 4 * (g * x 4):=by unfold dot;grind
   _ = _:=by rw [h0,h1,h2,h3,h4];unfold dot;grind
theorem PR.take {n c i m:Nat} {V0:List Vec} {s:Stg} {R R1 R2:Nat→Vec} (hs:SI n c V0 s) (h:PR n s m R) (hc5:c < 5) (hf:FirstAt c i s)
   (h1:∀ j,R1 j = if j = s.P.length then R (s.P.length + i) else if j = s.P.length + i then R s.P.length else R j) (ho:R2 s.P.length = R1 s.P.length)
   (hr:∀ j,j < m→j ≠ s.P.length→∃ g:Int,g ≠ 0∧∀ k,g * R2 j k = R1 j k * R1 s.P.length c - R1 s.P.length k * R1 j c) (hb:∀ j,j < m→Bdd (bnd (s.P.length + 1)) (R2 j)):PR n (takeS c i s) m R2:=by
 have hi:=hf.1
 have hne:=hf.2.1
 have hPl:(takeS c i s).P.length = s.P.length + 1:=by simp [takeS]
 have hVl:=len_take s c i
 have hm:=h.len
 have e0:R1 s.P.length = R (s.P.length + i):=by rw [h1,if_pos rfl]
 have hown:Par (R1 s.P.length) (app s.A (s.V.getD i (fun _=>0))):=by rw [e0];exact h.low i hi
 have hoc:R1 s.P.length c ≠ 0:=fun h0=>hne ((hown.zero c).1 h0)
 have hop:∀ p ∈ s.P,R1 s.P.length p = 0:=fun p hp=>(hown.zero p).2 (hs.appP hp _)
 obtain ⟨L,hL,hfree⟩:=hs.free
 have e1:∀ j,j < s.P.length→R1 j = R j:=fun j hj=>by rw [h1,if_neg (by omega),if_neg (by omega)]
 have hsum1:∀ j,j < m→sum5 (R1 j) = 0:=fun j hj=>by
   rw [h1]
   split
   · exact h.sum _ (by omega)
   · split
     · exact h.sum _ (by omega)
     · exact h.sum _ hj
 have hg1:∀ j,j < s.P.length→(takeS c i s).P.getD j 0 = s.P.getD j 0:=fun j hj=>by
   simp only [takeS,List.getD_eq_getElem?_getD,List.getElem?_append,hj,if_true]
 have hg2:(takeS c i s).P.getD s.P.length 0 = c:=by
   simp only [takeS,List.getD_eq_getElem?_getD]
   rw [List.getElem?_append_right (Nat.le_refl _),Nat.sub_self];rfl
 have hoA:∀ k,k < 5→app (takeS c i s).A (R1 s.P.length) k = 0:=fun k hk=>by
   rw [take_A,app_upd,app_free hfree hop hk,app_free hfree hop hc5]
   obtain ⟨p,q,hp,hq,he⟩:=hown
   have h1:=he k
   have h2:=he c
   refine (Int.mul_eq_zero.1 (?_:p * _ = 0)).resolve_left hp
   calc p * (app s.A (s.V.getD i (fun _=>0)) c * (L * R1 s.P.length k) - app s.A (s.V.getD i (fun _=>0)) k * (L * R1 s.P.length c)) = L * app s.A (s.V.getD i (fun _=>0)) c * (p * R1 s.P.length k) - L * app s.A (s.V.getD i (fun _=>0)) k * (p * R1 s.P.length c):=by grind
     _ = 0:=by rw [h1,h2];grind
 refine ⟨by rw [hPl,hVl];omega,fun j hj=>?_,fun j hj=>?_,fun j hj=>?_,fun j hj=>by rw [hPl];exact hb j hj⟩
 · rw [hVl] at hj
   rw [hPl,get_take (by omega),take_A]
   obtain ⟨g,hg,he⟩:=hr (s.P.length + 1 + j) (by omega) (by omega)
   have hpar:Par (R1 (s.P.length + 1 + j)) (app s.A (if j + 1 = i then s.V.getD 0 (fun _=>0) else s.V.getD (j + 1) (fun _=>0))):=by
     rw [h1,if_neg (by omega)]
     by_cases hji:j + 1 = i
     · rw [if_pos (by omega),if_pos hji]
       exact h.low 0 (by omega)
     · rw [if_neg (by omega),if_neg hji]
       have:=h.low (j + 1) (by omega)
       rwa [show s.P.length + (j + 1) = s.P.length + 1 + j by omega] at this
   have hst:=hpar.step hown hg c he
   have ef:app (updM s.A (app s.A (s.V.getD i (fun _=>0))) c) (if j + 1 = i then s.V.getD 0 (fun _=>0) else s.V.getD (j + 1) (fun _=>0)) = fun k=>app s.A (if j + 1 = i then s.V.getD 0 (fun _=>0) else s.V.getD (j + 1) (fun _=>0)) k * app s.A (s.V.getD i (fun _=>0)) c - app s.A (s.V.getD i (fun _=>0)) k * app s.A (if j + 1 = i then s.V.getD 0 (fun _=>0) else s.V.getD (j + 1) (fun _=>0)) c:=by
     funext k
     rw [app_upd,Int.mul_comm (app s.A (s.V.getD i (fun _=>0)) c)]
   rw [ef]
   exact hst
 · rw [hPl] at hj
   by_cases hjd:j = s.P.length
   · subst hjd
     rw [hg2,ho]
     refine ⟨hoA,hoc,fun l hl hne=>?_,fun l hl=>(hown.zero l).2 (hs.zero _ (getD_mem hi _) l hl)⟩
     rw [hPl] at hl
     rw [hg1 l (by omega)]
     exact hop _ (getD_mem (by omega) 0)
   · have hjl:j < s.P.length:=by omega
     obtain ⟨a1,a2,a3,a4⟩:=h.piv j hjl
     obtain ⟨g,hg,he⟩:=hr j (by omega) hjd
     have ej:=e1 j hjl
     have can:∀ x:Int,g * x = 0→x = 0:=fun x hx=>(Int.mul_eq_zero.1 hx).resolve_left hg
     refine ⟨fun k hk=>can _ ?_,?_,fun l hl hne=>can _ ?_,fun l hl=>can _ ?_⟩
     · rw [app_lin _ he k,hoA k hk,ej]
       rw [take_A,app_upd,a1 k hk,a1 c hc5];simp
     · rw [hg1 j hjl]
       intro h0
       have:=he (s.P.getD j 0)
       rw [h0,hop _ (getD_mem hjl 0),ej,Int.mul_zero,Int.zero_mul,Int.sub_zero] at this
       exact mul_ne a2 hoc this.symm
     · rw [hPl] at hl
       rw [he]
       by_cases hll:l < s.P.length
       · rw [hg1 l hll,hop _ (getD_mem hll 0),ej,a3 l hll hne];simp
       · have:l = s.P.length:=by omega
         subst this
         rw [hg2]
         have:=Int.mul_comm (R1 j c) (R1 s.P.length c)
         omega
     · rw [hg1 j hjl] at hl
       have hpc:=hs.lt _ (getD_mem hjl 0)
       rw [he,ej,a4 l hl,(hown.zero l).2 (hs.zero _ (getD_mem hi _) l (by omega))];simp
 · by_cases hjd:j = s.P.length
   · subst hjd;rw [ho];exact hsum1 _ hj
   · obtain ⟨g,hg,he⟩:=hr j hj hjd
     refine (Int.mul_eq_zero.1 (?_:g * _ = 0)).resolve_left hg
     have s1:=hsum1 j hj
     have s2:=hsum1 s.P.length (by omega)
     unfold sum5 at s1 s2 ⊢
     have k0:=he 0
     have k1:=he 1
     have k2:=he 2
     have k3:=he 3
     have k4:=he 4
     calc g * (R2 j 0 + R2 j 1 + R2 j 2 + R2 j 3 + R2 j 4) = g * R2 j 0 + g * R2 j 1 + g * R2 j 2 + g * R2 j 3 + g * R2 j 4:=by grind
       _ = (R1 j 0 + R1 j 1 + R1 j 2 + R1 j 3 + R1 j 4) * R1 s.P.length c - (R1 s.P.length 0 + R1 s.P.length 1 + R1 s.P.length 2 + R1 s.P.length 3 + R1 s.P.length 4) * R1 j c:=by rw [k0,k1,k2,k3,k4];grind
       _ = 0:=by rw [s1,s2];simp
theorem PR.last {n c i m:Nat} {V0:List Vec} {s:Stg} {R:Nat→Vec} (hs:SI n c V0 s) (h:PR n s m R) (hc5:c < 5) (hf:FirstAt c i s):c < 4:=by
 rcases Nat.lt_or_ge c 4 with h4 | h4
 · exact h4
 · exfalso
   have hi:=hf.1
   have hc:c = 4:=by omega
   subst hc
   have hp:=h.low i hi
   have hz:∀ d,d < 4→R (s.P.length + i) d = 0:=fun d hd=>(hp.zero d).2 (hs.zero _ (getD_mem hi _) d hd)
   have hsm:=h.sum (s.P.length + i) (by have:=h.len;omega)
   unfold sum5 at hsm
   have z0:=hz 0 (by omega)
   have z1:=hz 1 (by omega)
   have z2:=hz 2 (by omega)
   have z3:=hz 3 (by omega)
   exact hf.2.1 ((hp.zero 4).1 (by omega))
end Go.Pv
namespace Go.Pv
theorem dot_two {a b:Vec} {f p:Nat} (hf:f < 5) (hp:p < 5) (hne:f ≠ p) (hz:∀ l,l ≠ f→l ≠ p→a l * b l = 0):dot a b = a f * b f + a p * b p:=by
 unfold dot
 have z:∀ l,a l * b l = if l = f then a f * b f else if l = p then a p * b p else 0:=fun l=>by
   by_cases h1:l = f
   · subst h1;rw [if_pos rfl]
   · rw [if_neg h1]
     by_cases h2:l = p
     · subst h2;rw [if_pos rfl]
     · rw [if_neg h2];exact hz l h1 h2
 rw [z 0,z 1,z 2,z 3,z 4]
 generalize a f * b f = x
 generalize a p * b p = y
 have hf5:f = 0 ∨ f = 1 ∨ f = 2 ∨ f = 3 ∨ f = 4:=by omega
 have hp5:p = 0 ∨ p = 1 ∨ p = 2 ∨ p = 3 ∨ p = 4:=by omega
 rcases hf5 with rfl | rfl | rfl | rfl | rfl <;> rcases hp5 with rfl | rfl | rfl | rfl | rfl <;> simp at hne ⊢ <;> omega
theorem nodup_nat:∀ {L M:List Nat},L.Nodup→(∀ d ∈ L,d ∈ M)→L.length ≤ M.length
 | [],M,_,_=>by simp
 | a :: L,M,h,hs=>by
   have h1:=List.nodup_cons.1 h
   have ha:a ∈ M:=hs a (by simp)
   have ih:=nodup_nat (L:=L) (M:=M.erase a) h1.2 (fun d hd=>by
     have hne:d ≠ a:=fun e=>h1.1 (e ▸ hd)
     exact (List.mem_erase_of_ne hne).2 (hs d (by simp [hd])))
   have hl:=List.length_erase_of_mem ha
   have hp:=List.length_pos_of_mem ha
   simp only [List.length_cons]
   omega
def den (x y:Int):Nat:=x.natAbs / Nat.gcd x.natAbs y.natAbs
theorem den_dvd {x y a b:Int} (hx:x ≠ 0) (h:x * a + y * b = 0):den x y ∣ b.natAbs:=by
 have hx':0 < x.natAbs:=by omega
 have hg:0 < Nat.gcd x.natAbs y.natAbs:=Nat.gcd_pos_of_pos_left _ hx'
 have h1:x.natAbs * a.natAbs = y.natAbs * b.natAbs:=by
   rw [← Int.natAbs_mul,← Int.natAbs_mul];omega
 have e1:x.natAbs = Nat.gcd x.natAbs y.natAbs * (x.natAbs / Nat.gcd x.natAbs y.natAbs):=(Nat.mul_div_cancel' (Nat.gcd_dvd_left _ _)).symm
 have e2:y.natAbs = Nat.gcd x.natAbs y.natAbs * (y.natAbs / Nat.gcd x.natAbs y.natAbs):=(Nat.mul_div_cancel' (Nat.gcd_dvd_right _ _)).symm
 have hc:Nat.Coprime (x.natAbs / Nat.gcd x.natAbs y.natAbs) (y.natAbs / Nat.gcd x.natAbs y.natAbs):=Nat.coprime_div_gcd_div_gcd hg
 unfold den
 refine hc.dvd_of_dvd_mul_left ⟨a.natAbs,?_⟩
 refine Nat.eq_of_mul_eq_mul_left hg ?_
 rw [← Nat.mul_assoc,← Nat.mul_assoc,← e1,← e2]
 exact h1.symm
structure WT (n:Nat) (t:Stg) (R:Nat→Vec) (f:Nat) (w:Vec):Prop where
 other:∀ k,k ∉ t.P→k ≠ f→w k = 0
 pos:0 < w f
 eq:∀ j,j < t.P.length→w (t.P.getD j 0) * R j (t.P.getD j 0) = -(R j f) * w f
 least:∀ m:Nat,(∀ j,j < t.P.length→R j f ≠ 0→den (R j (t.P.getD j 0)) (R j f) ∣ m)→(w f).natAbs ∣ m
section
variable {n m:Nat} {V0:List Vec} {t:Stg} {R:Nat→Vec} {f:Nat} {w:Vec}
theorem row_two (hn:n ≤ 5) (hs:SI n n V0 t) (hR:PR n t m R) (hf:f < n) (hfP:f ∉ t.P) {j:Nat} (hj:j < t.P.length):t.A f f * R j f + t.A f (t.P.getD j 0) * R j (t.P.getD j 0) = 0:=by
 obtain ⟨a1,a2,a3,_⟩:=hR.piv j hj
 have hpm:=getD_mem hj 0
 have hpl:=hs.lt _ hpm
 obtain ⟨L,hL,hfree⟩:=hs.free
 rw [← a1 f (by omega)]
 refine (dot_two (a:=t.A f) (b:=R j) (by omega) (by omega) (fun e=>hfP (by rw [e];exact hpm)) fun l h1 h2=>?_).symm
 by_cases hl:l ∈ t.P
 · obtain ⟨i,hi,rfl⟩:=List.getElem_of_mem hl
   have e:t.P.getD i 0 = t.P[i]:=by rw [List.getD_eq_getElem?_getD,List.getElem?_eq_getElem hi];rfl
   rw [← e,a3 i hi (fun hij=>h2 (by rw [← e,hij])),Int.mul_zero]
 · rw [hfree l hl f,if_neg (fun h=>h1 h.symm),Int.zero_mul]
theorem WT.mul (hn:n ≤ 5) (hs:SI n n V0 t) (hR:PR n t m R) (hf:f < n) (hfP:f ∉ t.P) (h:WT n t R f w) (k:Nat):t.A f f * w k = w f * t.A f k:=by
 by_cases hk:k ∈ t.P
 · obtain ⟨j,hj,rfl⟩:=List.getElem_of_mem hk
   have e:t.P.getD j 0 = t.P[j]:=by rw [List.getD_eq_getElem?_getD,List.getElem?_eq_getElem hj];rfl
   rw [← e]
   have h1:=row_two hn hs hR hf hfP hj
   have h2:=h.eq j hj
   have h3:=(hR.piv j hj).2.1
   refine Int.eq_of_mul_eq_mul_right h3 ?_
   calc t.A f f * w (t.P.getD j 0) * R j (t.P.getD j 0) = t.A f f * (w (t.P.getD j 0) * R j (t.P.getD j 0)):=by grind
     _ = t.A f f * (-(R j f) * w f):=by rw [h2]
     _ = -(t.A f f * R j f) * w f:=by grind
     _ = (t.A f (t.P.getD j 0) * R j (t.P.getD j 0)) * w f:=by rw [show -(t.A f f * R j f) = t.A f (t.P.getD j 0) * R j (t.P.getD j 0) by omega]
     _ = w f * t.A f (t.P.getD j 0) * R j (t.P.getD j 0):=by grind
 · by_cases hkf:k = f
   · subst hkf;exact Int.mul_comm _ _
   · obtain ⟨L,hL,hfree⟩:=hs.free
     rw [h.other k hk hkf,hfree k hk f,if_neg (fun e=>hkf e.symm)];simp
theorem A_ne (hs:SI n n V0 t) (hfP:f ∉ t.P):t.A f f ≠ 0:=by
 obtain ⟨L,hL,hfree⟩:=hs.free
 rw [hfree f hfP f,if_pos rfl];exact hL
theorem WT.dot (hn:n ≤ 5) (hs:SI n n V0 t) (hR:PR n t m R) (hf:f < n) (hfP:f ∉ t.P) (h:WT n t R f w) (d:Vec):dot w d = 0 ↔ app t.A d f = 0:=by
 have hm:=h.mul hn hs hR hf hfP
 have e:t.A f f * Go.Pv.dot w d = w f * app t.A d f:=by
   unfold app
   have m0:=hm 0
   have m1:=hm 1
   have m2:=hm 2
   have m3:=hm 3
   have m4:=hm 4
   calc t.A f f * Go.Pv.dot w d = (t.A f f * w 0) * d 0 + (t.A f f * w 1) * d 1 + (t.A f f * w 2) * d 2 + (t.A f f * w 3) * d 3 + (t.A f f * w 4) * d 4:=by unfold Go.Pv.dot;grind
     _ = _:=by rw [m0,m1,m2,m3,m4];unfold Go.Pv.dot;grind
 have hA:=A_ne hs hfP
 have hp:=h.pos
 constructor
 · intro h0
   rw [h0,Int.mul_zero] at e
   exact (Int.mul_eq_zero.1 e.symm).resolve_left (by omega)
 · intro h0
   rw [h0,Int.mul_zero] at e
   exact (Int.mul_eq_zero.1 e).resolve_left hA
theorem WT.kept (hn:n ≤ 5) (hs:SI n n V0 t) (hR:PR n t m R) (hf:f < n) (hfP:f ∉ t.P) (h:WT n t R f w) {v:Vec} (hv:v ∈ V0):Go.Pv.dot w v = 0:=by
 rw [h.dot hn hs hR hf hfP]
 rcases hs.all v hv with h1 | h1
 · exact hs.zero v h1 f hf
 · exact h1 f
theorem bnd_pos:∀ j,1 ≤ bnd j
 | 0=>by decide
 | j + 1=>by
   have:=bnd_pos j
   have:=Int.mul_le_mul this this (by omega) (by omega)
   unfold bnd
   omega
theorem WT.bd (hn:n ≤ 5) (hV:∀ v ∈ V0,Rul n v) (hs:SI n n V0 t) (ha:AB V0 t) (hR:PR n t m R) (hP:t.P.length ≤ 4) (hf:f < n) (hfP:f ∉ t.P) (h:WT n t R f w):Bdd 512 w:=by
 intro k
 have hpos:=h.pos
 by_cases h3:t.P.length ≤ 3
 · obtain ⟨g,B,hg,hA,hB⟩:=ha.fin hV h3
   have hm:=h.mul hn hs hR hf hfP k
   rw [hA,hA] at hm
   have hm2:B f f * w k = w f * B f k:=by
     refine Int.eq_of_mul_eq_mul_left hg ?_
     calc g * (B f f * w k) = g * B f f * w k:=by grind
       _ = w f * (g * B f k):=hm
       _ = g * (w f * B f k):=by grind
   have hd:(w f).natAbs ∣ (B f f).natAbs:=h.least _ fun j hj hne=>by
     have h1:=row_two hn hs hR hf hfP hj
     rw [hA,hA] at h1
     refine den_dvd (hR.piv j hj).2.1 (a:=B f (t.P.getD j 0)) ?_
     refine (Int.mul_eq_zero.1 (?_:g * _ = 0)).resolve_left hg
     calc g * (R j (t.P.getD j 0) * B f (t.P.getD j 0) + R j f * B f f) = g * B f f * R j f + g * B f (t.P.getD j 0) * R j (t.P.getD j 0):=by grind
       _ = 0:=h1
   obtain ⟨q,hq⟩:=hd
   have hff:B f f ≠ 0:=fun h0=>A_ne hs hfP (by rw [hA,h0,Int.mul_zero])
   have hq0:1 ≤ q:=by
     rcases Nat.eq_zero_or_pos q with h0 | h0
     · rw [h0,Nat.mul_zero] at hq;omega
     · exact h0
   have h5:(w f).natAbs * q * (w k).natAbs = (w f).natAbs * (B f k).natAbs:=by
     rw [← hq,← Int.natAbs_mul,← Int.natAbs_mul,hm2]
   have h6:q * (w k).natAbs = (B f k).natAbs:=by
     rw [Nat.mul_assoc] at h5
     exact Nat.eq_of_mul_eq_mul_left (by omega) h5
   have h7:(w k).natAbs ≤ q * (w k).natAbs:=Nat.le_mul_of_pos_left _ hq0
   have:=hB f k
   omega
 · have h4:t.P.length = 4:=by omega
   have hin:∀ l,l < 5→l ≠ f→l ∈ t.P:=fun l hl hlf=>by
     rcases Decidable.em (l ∈ t.P) with h1 | h1
     · exact h1
     · exfalso
       have:=nodup_nat (L:=l :: f :: t.P) (M:=List.range 5) (by
         rw [List.nodup_cons,List.nodup_cons]
         exact ⟨by simp [h1,hlf],hfP,hs.nodup⟩) (fun d hd=>by
         rw [List.mem_range]
         rcases List.mem_cons.1 hd with rfl | hd
         · exact hl
         · rcases List.mem_cons.1 hd with rfl | hd
           · omega
           · have:=hs.lt d hd;omega)
       simp at this
       omega
   have hrow:∀ j,j < t.P.length→R j f = -R j (t.P.getD j 0):=fun j hj=>by
     obtain ⟨a1,a2,a3,_⟩:=hR.piv j hj
     have hpm:=getD_mem hj 0
     have hpl:=hs.lt _ hpm
     have hsm:=hR.sum j (by have:=hR.len;omega)
     have e:sum5 (R j) = Go.Pv.dot (fun _=>1) (R j):=by unfold sum5 Go.Pv.dot;grind
     rw [e] at hsm
     have z5:∀ l,l ≠ f→l ≠ t.P.getD j 0→(if l < 5 then 1 else 0:Int) * R j l = 0:=fun l h1 h2=>by
       by_cases hl5:l < 5
       · have hl:=hin l hl5 h1
         obtain ⟨i,hi,rfl⟩:=List.getElem_of_mem hl
         have e:t.P.getD i 0 = t.P[i]:=by rw [List.getD_eq_getElem?_getD,List.getElem?_eq_getElem hi];rfl
         rw [← e,a3 i hi (fun hij=>h2 (by rw [← e,hij])),Int.mul_zero]
       · rw [if_neg hl5,Int.zero_mul]
     have:=dot_two (a:=fun l=>if l < 5 then 1 else 0) (b:=R j) (f:=f) (p:=t.P.getD j 0) (by omega) (by omega) (fun e=>hfP (e ▸ hpm)) z5
     have e2:Go.Pv.dot (fun l=>if l < 5 then 1 else 0) (R j) = Go.Pv.dot (fun _=>1) (R j):=rfl
     rw [e2,hsm] at this
     rw [if_pos (show f < 5 by omega),if_pos (show t.P.getD j 0 < 5 by omega)] at this
     omega
   have hw1:w f = 1:=by
     have:=h.least 1 fun j hj hne=>by
       have:=hrow j hj
       have hx:=(hR.piv j hj).2.1
       unfold den
       rw [this,Int.natAbs_neg,Nat.gcd_self,Nat.div_self (by omega)]
       exact Nat.dvd_refl _
     have:=Nat.dvd_one.1 this
     omega
   by_cases hk:k ∈ t.P
   · obtain ⟨j,hj,rfl⟩:=List.getElem_of_mem hk
     have e:t.P.getD j 0 = t.P[j]:=by rw [List.getD_eq_getElem?_getD,List.getElem?_eq_getElem hj];rfl
     have h1:=h.eq j hj
     have h2:=hrow j hj
     have hx:=(hR.piv j hj).2.1
     rw [hw1,h2,Int.neg_neg,Int.mul_one] at h1
     have:w (t.P.getD j 0) = 1:=Int.eq_of_mul_eq_mul_right hx (by rw [h1,Int.one_mul])
     rw [e] at this
     omega
   · by_cases hkf:k = f
     · subst hkf;omega
     · rw [h.other k hk hkf];omega
end
end Go.Pv
namespace Go.Pv
theorem tame_out (N:Nat) {C:Type} (k0:Int→PP→Int→Int→List Int→List Int→List (List Int)→List Int→List Int→List (List Int)→Option C) (n:Nat) (hn:n ≤ 5) (x:PP) (a b:Int) (c d:List Int) (e:List (List Int)) (s:List Int) (r:List (List Int)) :
   ∀ (F i:Nat) (o:List Int),n - i < F→i ≤ n→o.length = i→(∀ t ∈ o,0 ≤ t∧t ≤ 1)→∃ o':List Int,o'.length = n∧(∀ t ∈ o',0 ≤ t∧t ≤ 1)∧g18L122f N F k0 (n:Int) (i:Int) x a b c d e o s r = k0 (n:Int) x a b c d e o' s r
 | 0,i,o,h,_,_,_=>by omega
 | F + 1,i,o,h,hi,ho,hb=>by
   rw [g18L122f_succ]
   unfold g18L122B
   by_cases hlt:i < n
   · have e1:decide ((i:Int) < (n:Int)) = true:=by simp;omega
     have add:∀ v:Int,0 ≤ v→v ≤ 1→∃ o':List Int,o'.length = n∧(∀ t ∈ o',0 ≤ t∧t ≤ 1)∧g18L122f N F k0 (n:Int) ((i + 1:Nat):Int) x a b c d e (o ++ [v]) s r = k0 (n:Int) x a b c d e o' s r:=fun v h1 h2 =>
       tame_out N k0 n hn x a b c d e s r F (i + 1) (o ++ [v]) (by omega) (by omega) (by simp [ho]) (fun t ht=>by
         rcases List.mem_append.1 ht with ht | ht
         · exact hb t ht
         · obtain rfl:=List.mem_singleton.1 ht;exact ⟨h1,h2⟩)
     rw [e1,cond_true,wn i (by omega)]
     have hmax:∀ v:Int,o.length + [v].length ≤ maxCount:=fun v=>by simp [maxCount];omega
     have hmax0:o.length + List.length ([0]:List Nat) ≤ maxCount:=by simp [maxCount];omega
     by_cases h2:i < x.2.1.length
     · have e2:decide ((i:Int) < (x.2.1.length:Int)) = true:=by simp;omega
       obtain ⟨v,ev,v1,v2⟩:=low (x.2.1.getD i 0) (m:=2) (by omega) (by omega)
       rw [e2,cond_true,if_pos ⟨by omega,by omega⟩,Int.toNat_natCast,ev,if_pos (hmax v)]
       exact add v v1 (by omega)
     · have e2:decide ((i:Int) < (x.2.1.length:Int)) = false:=by simp;omega
       rw [e2,cond_false,if_pos hmax0]
       exact add 0 (by omega) (by omega)
   · have e1:decide ((i:Int) < (n:Int)) = false:=by simp;omega
     rw [e1,cond_false]
     exact ⟨o,by omega,hb,rfl⟩
theorem tame_start (N:Nat) {C:Type} (k0:Int→PP→Int→Int→List Int→List Int→List (List Int)→List Int→List Int→List (List Int)→Option C) (n:Nat) (hn0:1 ≤ n) (hn:n ≤ 5) (x:PP) (a b:Int) (c d:List Int) (e:List (List Int)) (o:List Int) (r:List (List Int)) :
   ∀ (F i:Nat) (s:List Int),2 - i < F→i ≤ 2→s.length = i→(∀ t ∈ s,0 ≤ t∧t < (n:Int))→∃ s':List Int,1 ≤ s'.length∧s'.length ≤ 2∧(∀ t ∈ s',0 ≤ t∧t < (n:Int))∧g18L250f N F k0 (n:Int) (i:Int) x a b c d e o s r = k0 (n:Int) x a b c d e o s' r
 | 0,i,o,h,_,_,_=>by omega
 | F + 1,i,s,h,hi,ho,hb=>by
   rw [g18L250f_succ]
   unfold g18L250B
   have add:i < 2→∀ v:Int,0 ≤ v→v < (n:Int)→∃ s':List Int,1 ≤ s'.length∧s'.length ≤ 2∧(∀ t ∈ s',0 ≤ t∧t < (n:Int))∧g18L250f N F k0 (n:Int) ((i + 1:Nat):Int) x a b c d e o (s ++ [v]) r = k0 (n:Int) x a b c d e o s' r:=fun hi2 v h1 h2 =>
       tame_start N k0 n hn0 hn x a b c d e o r F (i + 1) (s ++ [v]) (by omega) (by omega) (by simp [ho]) (fun t ht=>by
         rcases List.mem_append.1 ht with ht | ht
         · exact hb t ht
         · obtain rfl:=List.mem_singleton.1 ht;exact ⟨h1,h2⟩)
   have hmax:∀ v:Int,s.length + [v].length ≤ maxCount:=fun v=>by simp [maxCount];omega
   have hmax0:s.length + List.length ([0]:List Nat) ≤ maxCount:=by simp [maxCount];omega
   have hw:IntKind.wrap .u64 (n:Int) = (n:Int):=wu64n (by omega) (by omega)
   have hz:¬ ((n:Int) = 0):=by omega
   obtain ⟨v,ev,v1,v2⟩:=low (x.2.2.1.getD i 0) (m:=(n:Int)) (by omega) (by omega)
   rw [wn i (by omega),hw]
   by_cases h1:i < 1
   · have e1:decide ((i:Int) < 1) = true:=by simp;omega
     rw [e1,cond_true]
     by_cases h2:i < x.2.2.1.length
     · have e2:decide ((i:Int) < (x.2.2.1.length:Int)) = true:=by simp;omega
       rw [e2,cond_true,if_pos ⟨by omega,by omega⟩,if_neg hz,Int.toNat_natCast,ev,if_pos (hmax v)]
       exact add (by omega) v v1 v2
     · have e2:decide ((i:Int) < (x.2.2.1.length:Int)) = false:=by simp;omega
       rw [e2,cond_false,if_pos hmax0]
       exact add (by omega) 0 (by omega) (by omega)
   · have e1:decide ((i:Int) < 1) = false:=by simp;omega
     rw [e1,cond_false]
     by_cases h2:i < x.2.2.1.length
     · have e2:decide ((i:Int) < (x.2.2.1.length:Int)) = true:=by simp;omega
       rw [e2,cond_true]
       by_cases h3:i < 2
       · have e3:decide ((i:Int) < 2) = true:=by simp;omega
         rw [e3,cond_true,cond_true,if_pos ⟨by omega,by omega⟩,if_neg hz,Int.toNat_natCast,ev,if_pos (hmax v)]
         exact add (by omega) v v1 v2
       · have e3:decide ((i:Int) < 2) = false:=by simp;omega
         rw [e3,cond_false]
         exact ⟨s,by omega,by omega,hb,rfl⟩
     · have e2:decide ((i:Int) < (x.2.2.1.length:Int)) = false:=by simp;omega
       rw [e2,cond_false]
       exact ⟨s,by omega,by omega,hb,rfl⟩
def AddR (n:Nat) (a b:Nat) (R R':List (List Int)):Prop:=R' = R ∨ ∃ c d:Int,0 ≤ c∧c < (n:Int)∧0 ≤ d∧d < (n:Int)∧R' = R ++ [[(a:Int),(b:Int),c,d]]
theorem tame_rule (N:Nat) {C:Type} (k0:Int→Int→Int→PP→Int→Int→List Int→List Int→List (List Int)→List Int→List Int→List (List Int)→Option C) (n:Nat) (hn0:1 ≤ n) (hn:n ≤ 5) (p q:Nat) (x:PP) (a b:Int) (c d:List Int) (e:List (List Int)) (o s:List Int) (R:List (List Int)) (hR:R.length ≤ 100) :
   ∀ (F i:Nat),41 - i < F→i ≤ 40→∃ R':List (List Int),AddR n p q R R'∧g18L2073746f N F k0 (n:Int) (p:Int) (q:Int) (i:Int) x a b c d e o s R = k0 (n:Int) (p:Int) (q:Int) x a b c d e o s R'
 | 0,i,h,_=>by omega
 | F + 1,i,h,hi=>by
   rw [g18L2073746f_succ]
   unfold g18L2073746B
   have hw:IntKind.wrap .u64 (n:Int) = (n:Int):=wu64n (by omega) (by omega)
   have hz:¬ ((n:Int) = 0):=by omega
   by_cases h1:i < x.2.2.2.1.length
   · have e1:decide ((i:Int) < (x.2.2.2.1.length:Int)) = true:=by simp;omega
     rw [e1,cond_true]
     by_cases h2:i < 40
     · have e2:decide ((i:Int) < 40) = true:=by simp;omega
       have ih:=tame_rule N k0 n hn0 hn p q x a b c d e o s R hR F (i + 1) (by omega) (by omega)
       rw [e2,cond_true,if_pos ⟨by omega,by omega⟩,if_pos (by decide),hw,if_neg hz,if_pos (by decide),if_neg hz,wn i (by omega),if_pos (by decide),if_neg hz,if_pos (by decide),if_neg hz]
       cases hc:ieq (imin (IntKind.wrap .i64 (Int.tmod (IntKind.wrap .u64 ((x.2.2.2.1.getD (Int.toNat (i:Int)) (List.replicate 4 0)).getD (Int.toNat 0) 0)) (n:Int))) (IntKind.wrap .i64 (Int.tmod (IntKind.wrap .u64 ((x.2.2.2.1.getD (Int.toNat (i:Int)) (List.replicate 4 0)).getD (Int.toNat 1) 0)) (n:Int)))) (p:Int) with
       | false=>exact ih
       | true =>
         cases hd:ieq (imax (IntKind.wrap .i64 (Int.tmod (IntKind.wrap .u64 ((x.2.2.2.1.getD (Int.toNat (i:Int)) (List.replicate 4 0)).getD (Int.toNat 0) 0)) (n:Int))) (IntKind.wrap .i64 (Int.tmod (IntKind.wrap .u64 ((x.2.2.2.1.getD (Int.toNat (i:Int)) (List.replicate 4 0)).getD (Int.toNat 1) 0)) (n:Int)))) (q:Int) with
         | false=>exact ih
         | true =>
           obtain ⟨v,ev,v1,v2⟩:=low ((x.2.2.2.1.getD (Int.toNat (i:Int)) (List.replicate 4 0)).getD (Int.toNat 2) 0) (m:=(n:Int)) (by omega) (by omega)
           obtain ⟨w,ew,w1,w2⟩:=low ((x.2.2.2.1.getD (Int.toNat (i:Int)) (List.replicate 4 0)).getD (Int.toNat 3) 0) (m:=(n:Int)) (by omega) (by omega)
           simp only [Bool.not_true,cond_false]
           rw [ev,ew,if_pos (by simp [maxCount];omega)]
           exact ⟨_,.inr ⟨v,w,v1,v2,w1,w2,rfl⟩,rfl⟩
     · have e2:decide ((i:Int) < 40) = false:=by simp;omega
       rw [e2,cond_false]
       exact ⟨R,.inl rfl,rfl⟩
   · have e1:decide ((i:Int) < (x.2.2.2.1.length:Int)) = false:=by simp;omega
     rw [e1,cond_false]
     exact ⟨R,.inl rfl,rfl⟩
def cn (n:Nat):Nat→Nat | 0=>0 | a + 1=>cn n a + (n - a)
theorem cn_le (n:Nat):∀ a,cn n a ≤ n * a
 | 0=>by simp [cn]
 | a + 1=>by have:=cn_le n a;simp only [cn,Nat.mul_succ];omega
structure RInv (n a b:Nat) (R:List (List Int)):Prop where
 ok:∀ r ∈ R,RuleOk (n:Int) r∧(r.getD 0 0 < (a:Int) ∨ r.getD 0 0 = (a:Int)∧r.getD 1 0 < (b:Int))
 sorted:R.Pairwise RLt
 few:R.length ≤ cn n a + (b - a)
theorem RInv.add {n a b:Nat} {R R':List (List Int)} (h:RInv n a b R) (hab:a ≤ b) (hb:b < n) (ha:AddR n a b R R'):RInv n a (b + 1) R':=by
 rcases ha with rfl | ⟨c,d,c1,c2,d1,d2,rfl⟩
 · refine ⟨fun r hr=>?_,h.sorted,by have:=h.few;omega⟩
   obtain ⟨h1,h2⟩:=h.ok r hr
   exact ⟨h1,by omega⟩
 · refine ⟨fun r hr=>?_,?_,by have:=h.few;simp;omega⟩
   · rcases List.mem_append.1 hr with hr | hr
     · obtain ⟨h1,h2⟩:=h.ok r hr
       exact ⟨h1,by omega⟩
     · obtain rfl:=List.mem_singleton.1 hr
       refine ⟨⟨rfl,fun t ht=>?_,by simp;omega⟩,by simp;omega⟩
       simp only [List.mem_cons,List.not_mem_nil,or_false] at ht
       rcases ht with rfl | rfl | rfl | rfl <;> constructor <;> omega
   · rw [List.pairwise_append]
     refine ⟨h.sorted,List.pairwise_singleton _ _,fun r hr s hs=>?_⟩
     obtain rfl:=List.mem_singleton.1 hs
     exact (h.ok r hr).2
theorem tame_b (N:Nat) (hN:100 < N) {C:Type} (k0:Int→Int→PP→Int→Int→List Int→List Int→List (List Int)→List Int→List Int→List (List Int)→Option C) (n:Nat) (hn0:1 ≤ n) (hn:n ≤ 5) (p:Nat) (hp:p < n) (x:PP) (a b:Int) (c d:List Int) (e:List (List Int)) (o s:List Int) :
   ∀ (F q:Nat) (R:List (List Int)),n - q < F→p ≤ q→q ≤ n→RInv n p q R→∃ R':List (List Int),RInv n p n R'∧g18L32402f N F k0 (n:Int) (p:Int) (q:Int) x a b c d e o s R = k0 (n:Int) (p:Int) x a b c d e o s R'
 | 0,q,R,h,_,_,_=>by omega
 | F + 1,q,R,h,hq,hqn,hR=>by
   rw [g18L32402f_succ]
   unfold g18L32402B
   by_cases hlt:q < n
   · have e1:decide ((q:Int) < (n:Int)) = true:=by simp;omega
     have hc:R.length ≤ 100:=by
       have h1:=hR.few
       have h2:=cn_le n p
       have h3:n * p ≤ 5 * 5:=Nat.mul_le_mul hn (by omega)
       omega
     rw [e1,cond_true,g18L2073746_eq]
     obtain ⟨R1,ha,he⟩:=tame_rule N (fun e21 e22 e23 e24 e25 e26 e27 e28 e29 e30 e31 e32=>g18L32402f N F k0 e21 e22 (IntKind.wrap .i64 (e23 + 1)) e24 e25 e26 e27 e28 e29 e30 e31 e32) n hn0 hn p q x a b c d e o s R hc N 0 (by omega) (by omega)
     obtain ⟨R2,hi,he2⟩:=tame_b N hN k0 n hn0 hn p hp x a b c d e o s F (q + 1) R1 (by omega) (by omega) (by omega) (hR.add hq hlt ha)
     refine ⟨R2,hi,?_⟩
     simp only [Int.natCast_zero] at he
     refine he.trans ?_
     rw [wn q (by omega)]
     exact he2
   · have e1:decide ((q:Int) < (n:Int)) = false:=by simp;omega
     rw [e1,cond_false]
     obtain rfl:q = n:=by omega
     exact ⟨R,hR,rfl⟩
theorem RInv.next {n a:Nat} {R:List (List Int)} (h:RInv n a n R) (ha:a < n):RInv n (a + 1) (a + 1) R:=by
 refine ⟨fun r hr=>?_,h.sorted,by have:=h.few;simp only [cn];omega⟩
 obtain ⟨h1,h2⟩:=h.ok r hr
 exact ⟨h1,.inl (by omega)⟩
theorem tame_a (N:Nat) (hN:100 < N) {C:Type} (k0:PP→Int→Int→List Int→List Int→List (List Int)→List Int→List Int→List (List Int)→Option C) (n:Nat) (hn0:1 ≤ n) (hn:n ≤ 5) (x:PP) (a b:Int) (c d:List Int) (e:List (List Int)) (o s:List Int) :
   ∀ (F p:Nat) (R:List (List Int)),n - p < F→p ≤ n→RInv n p p R→∃ R':List (List Int),RInv n n n R'∧g18L506f N F k0 (n:Int) (p:Int) x a b c d e o s R = k0 x a b c d e o s R'
 | 0,p,R,h,_,_=>by omega
 | F + 1,p,R,h,hp,hR=>by
   rw [g18L506f_succ]
   unfold g18L506B
   by_cases hlt:p < n
   · have e1:decide ((p:Int) < (n:Int)) = true:=by simp;omega
     rw [e1,cond_true,g18L32402_eq]
     obtain ⟨R1,hi,he⟩:=tame_b N hN (fun e33 e34 e35 e36 e37 e38 e39 e40 e41 e42 e43=>g18L506f N F k0 e33 (IntKind.wrap .i64 (e34 + 1)) e35 e36 e37 e38 e39 e40 e41 e42 e43) n hn0 hn p hlt x a b c d e o s N p R (by omega) (by omega) (by omega) hR
     obtain ⟨R2,hi2,he2⟩:=tame_a N hN k0 n hn0 hn x a b c d e o s F (p + 1) R1 (by omega) (by omega) (hi.next hlt)
     refine ⟨R2,hi2,he.trans ?_⟩
     rw [wn p (by omega)]
     exact he2
   · have e1:decide ((p:Int) < (n:Int)) = false:=by simp;omega
     rw [e1,cond_false]
     obtain rfl:p = n:=by omega
     exact ⟨R,hR,rfl⟩
theorem tame_eq (N:Nat) (hN:100 < N) (x:PP) (most:Int) (h1:1 ≤ most) (h2:most ≤ 5):∃ y:PP,g18 N x most = some y∧PT y∧y.1 ≤ most:=by
 unfold g18
 rw [wu64n (x:=most) (by omega) (by omega),if_neg (by omega)]
 obtain ⟨r,er,r1,r2⟩:=low x.1 (m:=most) (by omega) (by omega)
 rw [er,w64 (x:=1 + r) (by omega) (by omega)]
 obtain ⟨n,hn⟩:∃ n:Nat,1 + r = (n:Int):=⟨(1 + r).toNat,by omega⟩
 rw [hn,g18L122_eq]
 have hn0:1 ≤ n:=by omega
 have hn5:n ≤ 5:=by omega
 obtain ⟨o,o1,o2,oe⟩:=tame_out N (fun e1 e2 e3 e4 e5 e6 e7 e8 e9 e10=>g18L250 N (fun e11 e12 e13 e14 e15 e16 e17 e18 e19 e20=>g18L506 N (fun e44 e45 e46 e47 e48 e49 e50 e51 e52=>some ((e46,e50,e51,e52,()):PP)) e11 0 e12 e13 e14 e15 e16 e17 e18 e19 e20) e1 0 e2 e3 e4 e5 e6 e7 e8 e9 e10)
   n hn5 x 0 (n:Int) [] [] [] [] [] N 0 [] (by omega) (by omega) rfl (fun t ht=>by cases ht)
 simp only [Int.natCast_zero] at oe
 obtain ⟨s,s1,s2,s3,se⟩:=tame_start N (fun e11 e12 e13 e14 e15 e16 e17 e18 e19 e20=>g18L506 N (fun e44 e45 e46 e47 e48 e49 e50 e51 e52=>some ((e46,e50,e51,e52,()):PP)) e11 0 e12 e13 e14 e15 e16 e17 e18 e19 e20)
   n hn0 hn5 x 0 (n:Int) [] [] [] o [] N 0 [] (by omega) (by omega) rfl (fun t ht=>by cases ht)
 simp only [Int.natCast_zero] at se
 obtain ⟨R,hR,re⟩:=tame_a N hN (fun e44 e45 e46 e47 e48 e49 e50 e51 e52=>some ((e46,e50,e51,e52,()):PP)) n hn0 hn5 x 0 (n:Int) [] [] [] o s N 0 [] (by omega) (by omega) ⟨fun r hr=>(List.not_mem_nil hr).elim,List.Pairwise.nil,by simp⟩
 simp only [Int.natCast_zero] at re
 refine ⟨((n:Int),o,s,R,()),?_,⟨⟨by simp;omega,by simp;omega⟩,⟨by simp [o1],o2⟩,⟨s1,s2,s3⟩,?_,fun r hr=>(hR.ok r hr).1,hR.sorted⟩,by simp;omega⟩
 · rw [oe,g18L250_eq,se,g18L506_eq,re]
 · have:=hR.few
   have h15:cn n n ≤ 15:=by
     have:n = 1 ∨ n = 2 ∨ n = 3 ∨ n = 4 ∨ n = 5:=by omega
     rcases this with rfl | rfl | rfl | rfl | rfl <;> decide
   simp only [Nat.sub_self,Nat.add_zero] at this
   exact Nat.le_trans this h15
end Go.Pv
namespace Go.Pv
theorem sum_nonneg:∀ l:List Int,(∀ t ∈ l,0 ≤ t)→0 ≤ l.sum
 | [],_=>by simp
 | a :: l,h=>by
   have h1:=h a (by simp)
   have h2:=sum_nonneg l (fun t ht=>h t (by simp [ht]))
   simp only [List.sum_cons];omega
theorem mem_le_sum:∀ l:List Int,(∀ t ∈ l,0 ≤ t)→∀ t ∈ l,t ≤ l.sum
 | [],_,t,ht=>by cases ht
 | a :: l,h,t,ht=>by
   have h1:=h a (by simp)
   have h2:=sum_nonneg l (fun t ht=>h t (by simp [ht]))
   simp only [List.sum_cons]
   rcases List.mem_cons.1 ht with rfl | ht
   · omega
   · have:=mem_le_sum l (fun t ht=>h t (by simp [ht])) t ht
     omega
theorem set_sum:∀ (l:List Int) (i:Nat) (v:Int),i < l.length→(l.set i v).sum = l.sum - l.getD i 0 + v
 | [],i,v,h=>by simp at h
 | a :: l,0,v,h=>by simp;omega
 | a :: l,i + 1,v,h=>by
   have:=set_sum l i v (by simpa using h)
   simp only [List.set_cons_succ,List.sum_cons,List.getD_cons_succ,this];omega
structure Crowd (l:List Int) (n:Int):Prop where
 len:(l.length:Int) = n
 pos:∀ t ∈ l,0 ≤ t
 sum:1 ≤ l.sum∧l.sum ≤ 9
theorem Crowd.le {l:List Int} {n:Int} (h:Crowd l n):∀ t ∈ l,0 ≤ t∧t ≤ 9:=fun t ht=>by
 have:=mem_le_sum l h.pos t ht
 have:=h.pos t ht
 have:=h.sum.2
 omega
theorem Crowd.b {l:List Int} {n:Int} (h:Crowd l n):crowdB l n = true:=by
 unfold crowdB
 simp only [Bool.and_eq_true,decide_eq_true_eq]
 refine ⟨h.len,?_,h.sum⟩
 rw [List.all_eq_true]
 intro t ht
 have:=h.le t ht
 simp;omega
theorem gathered_loop (N:Nat) {C:Type} (k0:Int→Int→List Int→Option C) (l:List Int) (n:Nat) (hn:n ≤ 5) (most:Int) (hm:0 ≤ most∧most ≤ 9) :
   ∀ (F i:Nat) (left:Int) (c:List Int),n - i < F→i ≤ n→c.length = i→(∀ t ∈ c,0 ≤ t)→c.sum + left = most→0 ≤ left→∃ (left':Int) (c':List Int),c'.length = n∧(∀ t ∈ c',0 ≤ t)∧c'.sum + left' = most∧0 ≤ left'∧g24L122f N F k0 l (n:Int) most left (i:Int) c = k0 most left' c'
 | 0,i,left,c,h,_,_,_,_,_=>by omega
 | F + 1,i,left,c,h,hi,hc,hp,hs,hl=>by
   rw [g24L122f_succ]
   unfold g24L122B
   have h0:=sum_nonneg c hp
   by_cases hlt:i < n
   · have e1:decide ((i:Int) < (n:Int)) = true:=by simp;omega
     rw [e1,cond_true,wn i (by omega)]
     have hmax:∀ v:Int,c.length + [v].length ≤ maxCount:=fun v=>by simp [maxCount];omega
     have hmax0:c.length + List.length ([0]:List Nat) ≤ maxCount:=by simp [maxCount];omega
     have add:∀ v:Int,0 ≤ v→v ≤ left→_:=fun v h1 h2=>gathered_loop N k0 l n hn most hm F (i + 1) (left - v) (c ++ [v]) (by omega) (by omega) (by simp [hc]) (fun t ht=>by
         rcases List.mem_append.1 ht with ht | ht
         · exact hp t ht
         · obtain rfl:=List.mem_singleton.1 ht;exact h1) (by simp;omega) (by omega)
     by_cases h2:i < l.length
     · have e2:decide ((i:Int) < (l.length:Int)) = true:=by simp;omega
       obtain ⟨v,ev,v1,v2⟩:=low (l.getD i 0) (m:=left + 1) (by omega) (by omega)
       rw [e2,cond_true,if_pos ⟨by omega,by omega⟩,w64 (x:=left + 1) (by omega) (by omega),wu64n (x:=left + 1) (by omega) (by omega),if_neg (by omega),Int.toNat_natCast,ev,if_pos (hmax v),w64 (x:=left - v) (by omega) (by omega)]
       exact add v v1 (by omega)
     · have e2:decide ((i:Int) < (l.length:Int)) = false:=by simp;omega
       rw [e2,cond_false,if_pos hmax0,w64 (x:=left - 0) (by omega) (by omega)]
       exact add 0 (by omega) (by omega)
   · have e1:decide ((i:Int) < (n:Int)) = false:=by simp;omega
     rw [e1,cond_false]
     exact ⟨left,c,by omega,hp,hs,hl,rfl⟩
theorem gathered_eq (N:Nat) (hN:100 < N) (l:List Int) (n:Int) (h1:1 ≤ n) (h2:n ≤ 5) (most:Int) (hm:1 ≤ most) (hm2:most ≤ 9):∃ c,g24 N l n most = some c∧Crowd c n∧c.sum ≤ most:=by
 obtain ⟨m,rfl⟩:∃ m:Nat,n = (m:Int):=⟨n.toNat,by omega⟩
 unfold g24
 rw [g24L122_eq]
 obtain ⟨left,c,c1,c2,c3,c4,c5⟩:=gathered_loop N (fun e1 e2 e3=>bif (ieq e2 e1) then if idx 0 (List.length e3) then if (Int.toNat 0) < List.length e3 then some (List.set e3 (Int.toNat 0) 1) else none else none else some e3) l m (by omega) most ⟨by omega,by omega⟩ N 0 most [] (by omega) (by omega) rfl (fun t ht=>by cases ht) (by simp) (by omega)
 simp only [Int.natCast_zero] at c5
 rw [c5]
 have h0:=sum_nonneg c c2
 by_cases he:left = most
 · have e1:ieq left most = true:=by simp [ieq,he]
   have hc:0 < c.length:=by omega
   rw [e1,cond_true,if_pos ⟨by omega,by omega⟩,if_pos (by simpa using hc)]
   have hg:=mem_le_sum c c2 _ (getD_mem hc 0)
   have hg2:=c2 _ (getD_mem hc 0)
   have hs:=set_sum c 0 1 hc
   refine ⟨_,rfl,⟨by simp [c1],fun t ht=>?_,?_⟩,?_⟩
   · rcases List.mem_or_eq_of_mem_set ht with ht | rfl
     · exact c2 t ht
     · omega
   · simp only [show Int.toNat 0 = 0 from rfl];rw [hs];omega
   · simp only [show Int.toNat 0 = 0 from rfl];rw [hs];omega
 · have e1:ieq left most = false:=by simp [ieq,he]
   rw [e1,cond_false]
   exact ⟨_,rfl,⟨by omega,c2,by omega⟩,by omega⟩
end Go.Pv
namespace Go.Pv
def dec (c:List Int) (i:Nat):List Int:=c.set i (c.getD i 0 - 1)
def inc (c:List Int) (i:Nat):List Int:=c.set i (c.getD i 0 + 1)
theorem dec_len (c:List Int) (i:Nat):(dec c i).length = c.length:=by simp [dec]
theorem inc_len (c:List Int) (i:Nat):(inc c i).length = c.length:=by simp [inc]
theorem getD_set (c:List Int) (i j:Nat) (v:Int):(c.set i v).getD j 0 = if i = j∧i < c.length then v else c.getD j 0:=by
 simp only [List.getD_eq_getElem?_getD,List.getElem?_set]
 by_cases h:i = j
 · subst h
   by_cases h2:i < c.length
   · simp [h2]
   · simp [h2]
 · simp [h]
def Bd (k:Int) (c:List Int):Prop:=∀ j,-k ≤ c.getD j 0∧c.getD j 0 ≤ k
theorem Bd.dec {k:Int} {c:List Int} (h:Bd k c) (i:Nat):Bd (k + 1) (dec c i):=fun j=>by
 have h1:=h j
 have h2:=h i
 unfold Go.Pv.dec
 rw [getD_set]
 split <;> omega
theorem Bd.inc {k:Int} {c:List Int} (h:Bd k c) (i:Nat):Bd (k + 1) (inc c i):=fun j=>by
 have h1:=h j
 have h2:=h i
 unfold Go.Pv.inc
 rw [getD_set]
 split <;> omega
theorem wdec {k:Int} {c:List Int} (h:Bd k c) (hk:k ≤ 100) (i:Nat):c.set i (IntKind.wrap .i64 (c.getD i 0 - 1)) = dec c i:=by
 have:=h i
 rw [w64 (by omega) (by omega)];rfl
theorem winc {k:Int} {c:List Int} (h:Bd k c) (hk:k ≤ 100) (i:Nat):c.set i (IntKind.wrap .i64 (c.getD i 0 + 1)) = inc c i:=by
 have:=h i
 rw [w64 (by omega) (by omega)];rfl
def canL (p q:Nat) (c:List Int):Bool:=decide (0 ≤ (dec (dec c p) q).getD p 0) && decide (0 ≤ (dec (dec c p) q).getD q 0)
def stepL (p q s t:Nat) (c:List Int):List Int:=inc (inc (dec (dec c p) q) s) t
def canR (r:List Int) (c:List Int):Bool:=canL (r.getD 0 0).toNat (r.getD 1 0).toNat c
def stepR (r:List Int) (c:List Int):List Int:=stepL (r.getD 0 0).toNat (r.getD 1 0).toNat (r.getD 2 0).toNat (r.getD 3 0).toNat c
theorem rule_nat {n:Int} {r:List Int} (h:RuleOk n r):∃ p q s t:Nat,r = [(p:Int),(q:Int),(s:Int),(t:Int)]∧(p:Int) < n∧(q:Int) < n∧(s:Int) < n∧(t:Int) < n:=by
 obtain ⟨h1,h2,_⟩:=h
 match r,h1 with
 | [a,b,c,d],_ =>
   have ha:=h2 a (by simp)
   have hb:=h2 b (by simp)
   have hc:=h2 c (by simp)
   have hd:=h2 d (by simp)
   refine ⟨a.toNat,b.toNat,c.toNat,d.toNat,?_,by omega,by omega,by omega,by omega⟩
   rw [Int.toNat_of_nonneg ha.1,Int.toNat_of_nonneg hb.1,Int.toNat_of_nonneg hc.1,Int.toNat_of_nonneg hd.1]
theorem ix {p n:Nat} (h:p < n):idx (p:Int) n:=⟨by omega,by omega⟩
theorem can77 (N:Nat) (p q s t:Nat) (hp:p < 5) (hq:q < 5) (c:List Int) (hc:Bd 50 c):g77 N [(p:Int),(q:Int),(s:Int),(t:Int)] c = some (canL p q c):=by
 unfold g77 canL
 have h0:idx 0 4:=by decide
 have h1:idx 1 4:=by decide
 have w1:=wdec hc (by omega) p
 have w2:=wdec (hc.dec p) (by omega) q
 simp only [show Int.toNat 0 = 0 from rfl,show Int.toNat 1 = 1 from rfl,List.getD_cons_zero,List.getD_cons_succ,Int.toNat_natCast,if_pos h0,if_pos h1,if_pos (ix hp),if_pos (ix hq),w1,w2]
 cases decide (0 ≤ (dec (dec c p) q).getD p 0) <;> rfl
theorem after78 (N:Nat) (p q s t:Nat) (hp:p < 5) (hq:q < 5) (hs:s < 5) (ht:t < 5) (c:List Int) (hc:Bd 50 c):g78 N [(p:Int),(q:Int),(s:Int),(t:Int)] c = some (stepL p q s t c):=by
 unfold g78 stepL
 have h0:idx 0 4:=by decide
 have h1:idx 1 4:=by decide
 have h2:idx 2 4:=by decide
 have h3:idx 3 4:=by decide
 have w1:=wdec hc (by omega) p
 have w2:=wdec (hc.dec p) (by omega) q
 have w3:=winc ((hc.dec p).dec q) (by omega) s
 have w4:=winc (((hc.dec p).dec q).inc s) (by omega) t
 simp only [show Int.toNat 0 = 0 from rfl,show Int.toNat 1 = 1 from rfl,show Int.toNat 2 = 2 from rfl,show Int.toNat 3 = 3 from rfl,List.getD_cons_zero,List.getD_cons_succ,Int.toNat_natCast,if_pos h0,if_pos h1,if_pos h2,if_pos h3,if_pos (ix hp),if_pos (ix hq),if_pos (ix hs),if_pos (ix ht),w1,w2,w3,w4]
def meetL (x:PP) (c:List Int) (r:Int):List Int×Bool×Unit :=
 if 0 ≤ r∧r < (x.2.2.2.1.length:Int) then bif canR (x.2.2.2.1.getD r.toNat (List.replicate 4 0)) c then (stepR (x.2.2.2.1.getD r.toNat (List.replicate 4 0)) c,true,()) else (c,false,()) else (c,false,())
theorem meet42 (N:Nat) (x:PP) (hx:PT x) (c:List Int) (hc:(c.length:Int) = x.1) (hb:Bd 50 c) (r:Int):g42 N x c r = some (meetL x c r):=by
 unfold g42 meetL
 by_cases h1:r < 0
 · have e1:decide (r < 0) = true:=by simpa using h1
   rw [e1,cond_true,if_neg (by omega)]
 · have e1:decide (r < 0) = false:=by simpa using h1
   rw [e1,cond_false]
   by_cases h2:(x.2.2.2.1.length:Int) ≤ r
   · have e2:decide (((List.length x.2.2.2.1:Nat):Int) ≤ r) = true:=by simpa using h2
     rw [e2,cond_true,if_neg (by omega)]
   · have e2:decide (((List.length x.2.2.2.1:Nat):Int) ≤ r) = false:=by simpa using h2
     have hr:r.toNat < x.2.2.2.1.length:=by omega
     obtain ⟨p,q,s,t,hR,hp,hq,hs,ht⟩:=rule_nat (hx.rules.2.1 _ (getD_mem hr (List.replicate 4 0)))
     have hn:=hx.n
     have hp:p < c.length:=by omega
     have hq:q < c.length:=by omega
     have hs:s < c.length:=by omega
     have ht:t < c.length:=by omega
     rw [e2,cond_false,if_pos ⟨by omega,by omega⟩,if_pos (by simp [maxCount];omega),if_pos (show 0 ≤ r∧r < (x.2.2.2.1.length:Int) from ⟨by omega,by omega⟩),hR]
     have h0:idx 0 4:=by decide
     have h1:idx 1 4:=by decide
     have h2:idx 2 4:=by decide
     have h3:idx 3 4:=by decide
     have w1:=wdec hb (by omega) p
     have w2:=wdec (hb.dec p) (by omega) q
     have w3:=winc ((hb.dec p).dec q) (by omega) s
     have w4:=winc (((hb.dec p).dec q).inc s) (by omega) t
     simp only [canR,stepR,canL,stepL,show Int.toNat 0 = 0 from rfl,show Int.toNat 1 = 1 from rfl,show Int.toNat 2 = 2 from rfl,show Int.toNat 3 = 3 from rfl,List.getD_cons_zero,List.getD_cons_succ,Int.toNat_natCast,List.nil_append,dec_len,inc_len,if_pos h0,if_pos h1,if_pos h2,if_pos h3,if_pos (ix hp),if_pos (ix hq),if_pos (ix hs),if_pos (ix ht),if_pos hp,if_pos hq,if_pos hs,if_pos ht,w1,w2,w3,w4]
     by_cases k1:(dec (dec c p) q).getD p 0 < 0
     · have k1':¬ (0 ≤ (dec (dec c p) q).getD p 0):=by omega
       simp only [k1,k1',decide_true,decide_false,cond_true,cond_false,Bool.false_and]
     · have k1':0 ≤ (dec (dec c p) q).getD p 0:=by omega
       by_cases k2:(dec (dec c p) q).getD q 0 < 0
       · have k2':¬ (0 ≤ (dec (dec c p) q).getD q 0):=by omega
         simp only [k1,k1',k2,k2',decide_true,decide_false,cond_true,cond_false,Bool.false_and,Bool.and_false]
       · have k2':0 ≤ (dec (dec c p) q).getD q 0:=by omega
         simp only [k1,k1',k2,k2',decide_true,decide_false,cond_true,cond_false,Bool.and_true,Bool.true_and]
theorem getD_pos {c:List Int} (h:∀ t ∈ c,0 ≤ t) (j:Nat):0 ≤ c.getD j 0:=by
 by_cases hj:j < c.length
 · exact h _ (getD_mem hj 0)
 · rw [List.getD_eq_getElem?_getD,List.getElem?_eq_none (by omega)];simp
theorem pos_of_getD {c:List Int} (h:∀ j,0 ≤ c.getD j 0):∀ t ∈ c,0 ≤ t:=fun t ht=>by
 obtain ⟨j,hj,rfl⟩:=List.getElem_of_mem ht
 have:=h j
 rw [List.getD_eq_getElem?_getD,List.getElem?_eq_getElem hj] at this
 exact this
theorem Crowd.bd {c:List Int} {n:Int} (h:Crowd c n):Bd 50 c:=fun j=>by
 by_cases hj:j < c.length
 · have:=h.le _ (getD_mem hj 0);omega
 · rw [List.getD_eq_getElem?_getD,List.getElem?_eq_none (by omega)];simp
theorem stepL_sum {c:List Int} {p q s t:Nat} (hp:p < c.length) (hq:q < c.length) (hs:s < c.length) (ht:t < c.length):(stepL p q s t c).sum = c.sum:=by
 have s1:(dec c p).sum = c.sum - 1:=by unfold dec;rw [set_sum _ _ _ hp];omega
 have s2:(dec (dec c p) q).sum = c.sum - 2:=by
   have:=set_sum (dec c p) q ((dec c p).getD q 0 - 1) (by rw [dec_len];exact hq)
   show ((dec c p).set q _).sum = _
   omega
 have s3:(inc (dec (dec c p) q) s).sum = c.sum - 1:=by
   have:=set_sum (dec (dec c p) q) s ((dec (dec c p) q).getD s 0 + 1) (by rw [dec_len,dec_len];exact hs)
   show ((dec (dec c p) q).set s _).sum = _
   omega
 have:=set_sum (inc (dec (dec c p) q) s) t ((inc (dec (dec c p) q) s).getD t 0 + 1) (by rw [inc_len,dec_len,dec_len];exact ht)
 show ((inc (dec (dec c p) q) s).set t _).sum = _
 omega
theorem Crowd.step {c:List Int} {n:Int} (h:Crowd c n) {p q s t:Nat} (hp:p < c.length) (hq:q < c.length) (hs:s < c.length) (ht:t < c.length) (hcan:canL p q c = true):Crowd (stepL p q s t c) n:=by
 unfold canL at hcan
 simp only [Bool.and_eq_true,decide_eq_true_eq] at hcan
 have s4:=stepL_sum hp hq hs ht
 have p1:∀ j,0 ≤ (dec (dec c p) q).getD j 0:=fun j=>by
   by_cases h1:j = p
   · subst h1;exact hcan.1
   · by_cases h2:j = q
     · subst h2;exact hcan.2
     · have:=getD_pos h.pos j
       unfold dec
       rw [getD_set,if_neg (by omega),getD_set,if_neg (by omega)]
       exact this
 have p2:∀ j,0 ≤ (inc (dec (dec c p) q) s).getD j 0:=fun j=>by
   have h1:=p1 j
   have h2:=p1 s
   unfold inc
   rw [getD_set]
   split <;> omega
 have p3:∀ j,0 ≤ (stepL p q s t c).getD j 0:=fun j=>by
   have h1:=p2 j
   have h2:=p2 t
   show 0 ≤ ((inc (dec (dec c p) q) s).set t _).getD j 0
   rw [getD_set]
   split <;> omega
 refine ⟨?_,pos_of_getD p3,by rw [s4];exact h.sum⟩
 rw [← h.len]
 simp only [stepL,inc_len,dec_len]
theorem Crowd.stepR {x:PP} (hx:PT x) {c:List Int} (h:Crowd c x.1) {r:List Int} (hr:RuleOk x.1 r) (hcan:canR r c = true):Crowd (stepR r c) x.1:=by
 obtain ⟨p,q,s,t,rfl,hp,hq,hs,ht⟩:=rule_nat hr
 have:=h.len
 exact h.step (p:=p) (q:=q) (s:=s) (t:=t) (by omega) (by omega) (by omega) (by omega) hcan
def pad (c:List Int):List Int:=c ++ List.replicate (5 - c.length) 0
theorem getD_pad (c:List Int) (j:Nat):(pad c).getD j 0 = c.getD j 0:=by
 unfold pad
 simp only [List.getD_eq_getElem?_getD,List.getElem?_append,List.getElem?_replicate]
 split
 · rfl
 · rename_i h
   rw [List.getElem?_eq_none (by omega)]
   split <;> rfl
theorem pad_set (c:List Int) (i:Nat) (v:Int) (h:i < c.length):(pad c).set i v = pad (c.set i v):=by
 unfold pad
 rw [List.set_append_left _ _ h,List.length_set]
theorem pad_dec (c:List Int) (i:Nat) (h:i < c.length):dec (pad c) i = pad (dec c i):=by unfold dec;rw [getD_pad,pad_set _ _ _ h]
theorem pad_inc (c:List Int) (i:Nat) (h:i < c.length):inc (pad c) i = pad (inc c i):=by unfold inc;rw [getD_pad,pad_set _ _ _ h]
theorem pad_bd {k:Int} {c:List Int} (h:Bd k c):Bd k (pad c):=fun j=>by rw [getD_pad];exact h j
theorem pad_can (p q:Nat) (c:List Int) (hp:p < c.length) (hq:q < c.length):canL p q (pad c) = canL p q c:=by
 unfold canL
 rw [pad_dec c p hp,pad_dec _ q (by rw [dec_len];exact hq),getD_pad,getD_pad]
theorem pad_step (p q s t:Nat) (c:List Int) (hp:p < c.length) (hq:q < c.length) (hs:s < c.length) (ht:t < c.length):stepL p q s t (pad c) = pad (stepL p q s t c):=by
 unfold stepL
 rw [pad_dec c p hp,pad_dec _ q (by rw [dec_len];exact hq),pad_inc _ s (by rw [dec_len,dec_len];exact hs),pad_inc _ t (by rw [inc_len,dec_len,dec_len];exact ht)]
theorem pad_take (c:List Int):(pad c).take c.length = c:=by unfold pad;rw [List.take_left'];rfl
theorem of72 (N:Nat) (c:List Int) (h:c.length ≤ 5):g72 N c = some (pad c):=by
 unfold g72 copyP pad
 rw [List.take_of_length_le h,List.drop_replicate]
theorem can_pad (N:Nat) {x:PP} (hx:PT x) {c:List Int} (hc:Crowd c x.1) {r:List Int} (hr:RuleOk x.1 r):g77 N r (pad c) = some (canR r c):=by
 obtain ⟨p,q,s,t,rfl,hp,hq,hs,ht⟩:=rule_nat hr
 have:=hc.len
 have:=hx.n
 rw [can77 N p q s t (by omega) (by omega) _ (pad_bd hc.bd),pad_can p q c (by omega) (by omega)]
 rfl
theorem after_pad (N:Nat) {x:PP} (hx:PT x) {c:List Int} (hc:Crowd c x.1) {r:List Int} (hr:RuleOk x.1 r):g78 N r (pad c) = some (pad (stepR r c)):=by
 obtain ⟨p,q,s,t,rfl,hp,hq,hs,ht⟩:=rule_nat hr
 have:=hc.len
 have:=hx.n
 rw [after78 N p q s t (by omega) (by omega) (by omega) (by omega) _ (pad_bd hc.bd),pad_step p q s t c (by omega) (by omega) (by omega) (by omega)]
 rfl
end Go.Pv
namespace Go.Pv
theorem open_eq (N:Nat) (hN:100 < N) {x:PP} (hx:PT x):∀ {cs:List (List Int)},cs.length ≤ 10→(∀ c ∈ cs,Crowd c x.1)→g70 N x cs = some 0:=by
 intro cs hl hcs
 have hn:=hx.n
 unfold g70
 rw [hx.check N (by omega)]
 simp only [Option.bind_some,ieq_self,Bool.not_true,cond_false]
 rw [g70L58_eq]
 have:∀ (F i:Nat),cs.length - i < F→i ≤ cs.length→g70L58f N F (fun e3 e4=>some e3) (fun e5=>some (0:Int)) cs (cs.length:Int) (i:Int) x = some 0:=by
   intro F
   induction F with
   | zero=>intro i h _;omega
   | succ F ih =>
     intro i h hi
     rw [g70L58f_succ]
     unfold g70L58B
     by_cases hlt:i < cs.length
     · have e1:decide ((i:Int) < (cs.length:Int)) = true:=by simp;omega
       have hc:=hcs _ (getD_mem hlt [])
       have:=hc.len
       rw [e1,cond_true,if_pos (ix hlt),Int.toNat_natCast,isCrowd_eq N _ _ (by omega) hN,hc.b]
       simp only [Option.bind_some,Bool.not_true,cond_false]
       rw [wn i (by omega)]
       exact ih (i + 1) (by omega) (by omega)
     · have e1:decide ((i:Int) < (cs.length:Int)) = false:=by simp;omega
       rw [e1,cond_false]
 have h0:=this N 0 (by omega) (by omega)
 simp only [Int.natCast_zero] at h0
 exact h0
end Go.Pv
namespace Go.Pv
structure GR (ids:List Nat) (rows:List (Option (List Int))) (M:List (List Int)):Prop where
 len:ids.length = M.length
 get:∀ i,i < M.length→rowOf rows (ids.getD i 0) = some (M.getD i [])
 nodup:ids.Nodup
theorem rowOf_lt {rows:List (Option (List Int))} {k:Nat} {r:List Int} (h:rowOf rows k = some r):k < rows.length:=by
 unfold rowOf at h
 rcases Nat.lt_or_ge k rows.length with h1 | h1
 · exact h1
 · rw [List.getElem?_eq_none h1] at h;cases h
theorem rowOf_set {rows:List (Option (List Int))} {k l:Nat} (r:List Int) (hk:k < rows.length):rowOf (rows.set k (some r)) l = if l = k then some r else rowOf rows l:=by
 unfold rowOf
 rw [List.getElem?_set]
 by_cases h:k = l
 · subst h;rw [if_pos rfl,if_pos hk,if_pos rfl]
 · rw [if_neg h,if_neg (fun e=>h e.symm)]
theorem rowOf_app {rows:List (Option (List Int))} {l:Nat} (r:List Int) (h:l < rows.length):rowOf (rows ++ [some r]) l = rowOf rows l:=by
 unfold rowOf
 rw [List.getElem?_append_left h]
theorem rowOf_new (rows:List (Option (List Int))) (r:List Int):rowOf (rows ++ [some r]) rows.length = some r:=by
 unfold rowOf
 rw [List.getElem?_append_right (Nat.le_refl _),Nat.sub_self];rfl
theorem inj_getD {ids:List Nat} (hn:ids.Nodup) {i j:Nat} (hi:i < ids.length) (hj:j < ids.length) (h:ids.getD i 0 = ids.getD j 0):i = j:=by
 have ei:ids.getD i 0 = ids[i]:=by rw [List.getD_eq_getElem?_getD,List.getElem?_eq_getElem hi];rfl
 have ej:ids.getD j 0 = ids[j]:=by rw [List.getD_eq_getElem?_getD,List.getElem?_eq_getElem hj];rfl
 rw [ei,ej] at h
 have hp:=List.pairwise_iff_getElem.1 hn
 rcases Nat.lt_trichotomy i j with h3 | h3 | h3
 · exact absurd h (hp _ _ hi hj h3)
 · exact h3
 · exact absurd h.symm (hp _ _ hj hi h3)
theorem setD {α:Type} (l:List α) (i j:Nat) (v d:α) (h:i < l.length):(l.set i v).getD j d = if j = i then v else l.getD j d:=by
 simp only [List.getD_eq_getElem?_getD,List.getElem?_set]
 by_cases e:i = j
 · subst e;rw [if_pos rfl,if_pos h,if_pos rfl];rfl
 · rw [if_neg e,if_neg (fun h=>e h.symm)]
namespace GR
variable {ids:List Nat} {rows:List (Option (List Int))} {M:List (List Int)}
theorem lt (h:GR ids rows M) {i:Nat} (hi:i < M.length):ids.getD i 0 < rows.length:=rowOf_lt (h.get i hi)
theorem id (h:GR ids rows M) {i:Nat} (hi:i < M.length):idAt ids rows i = some (ids.getD i 0):=by
 have hl:i < ids.length:=by rw [h.len];exact hi
 have hg:=h.get i hi
 have e:ids.getD i 0 = ids[i]:=by rw [List.getD_eq_getElem?_getD,List.getElem?_eq_getElem hl];rfl
 rw [e] at hg ⊢
 unfold idAt
 rw [List.getElem?_eq_getElem hl]
 simp only
 rw [hg]
theorem set (h:GR ids rows M) {i:Nat} (hi:i < M.length) (r:List Int):GR ids (rows.set (ids.getD i 0) (some r)) (M.set i r):=by
 refine ⟨by rw [h.len];simp,fun j hj=>?_,h.nodup⟩
 rw [List.length_set] at hj
 rw [rowOf_set r (h.lt hi),setD _ _ _ _ _ hi]
 by_cases e:j = i
 · subst e;rw [if_pos rfl,if_pos rfl]
 · rw [if_neg e,if_neg (fun h2=>e (inj_getD h.nodup (by rw [h.len];exact hj) (by rw [h.len];exact hi) h2)),h.get j hj]
theorem swap (h:GR ids rows M) {i j:Nat} (hi:i < M.length) (hj:j < M.length):GR ((ids.set i (ids.getD j 0)).set j (ids.getD i 0)) rows ((M.set i (M.getD j [])).set j (M.getD i [])):=by
 have hi':i < ids.length:=by rw [h.len];exact hi
 have hj':j < ids.length:=by rw [h.len];exact hj
 refine ⟨by simp [h.len],fun k hk=>?_,?_⟩
 · simp only [List.length_set] at hk
   rw [setD _ _ _ _ _ (by simp;omega),setD _ _ _ _ _ hi',setD _ _ _ _ _ (by simp;omega),setD _ _ _ _ _ hi]
   split
   · exact h.get i hi
   · split
     · exact h.get j hj
     · exact h.get k hk
 · rw [List.Nodup,List.pairwise_iff_getElem]
   intro a b ha hb hab
   simp only [List.length_set] at ha hb
   have g:∀ k,k < ids.length→∀ hk2,((ids.set i (ids.getD j 0)).set j (ids.getD i 0))[k]'hk2 = ids.getD (if k = j then i else if k = i then j else k) 0:=fun k hk hk2=>by
     have e:((ids.set i (ids.getD j 0)).set j (ids.getD i 0)).getD k 0 = ((ids.set i (ids.getD j 0)).set j (ids.getD i 0))[k]:=by rw [List.getD_eq_getElem?_getD,List.getElem?_eq_getElem hk2];rfl
     rw [← e,setD _ _ _ _ _ (by simp;omega),setD _ _ _ _ _ hi']
     split
     · rfl
     · split <;> rfl
   rw [g a ha,g b hb]
   intro e
   have:=inj_getD h.nodup (by split <;> (try split) <;> omega) (by split <;> (try split) <;> omega) e
   split at this <;> split at this <;> (try split at this) <;> (try split at this) <;> omega
theorem snoc (h:GR ids rows M) (r:List Int):GR (ids ++ [rows.length]) (rows ++ [some r]) (M ++ [r]):=by
 have hin:∀ x ∈ ids,x < rows.length:=fun x hx=>by
   obtain ⟨i,hi,rfl⟩:=List.getElem_of_mem hx
   have:=h.lt (i:=i) (by rw [← h.len];exact hi)
   rwa [List.getD_eq_getElem?_getD,List.getElem?_eq_getElem hi] at this
 refine ⟨by simp [h.len],fun i hi=>?_,?_⟩
 · simp only [List.length_append,List.length_singleton] at hi
   by_cases e:i = M.length
   · subst e
     have e1:(ids ++ [rows.length]).getD M.length 0 = rows.length:=by
       rw [List.getD_eq_getElem?_getD,List.getElem?_append_right (by rw [h.len];exact Nat.le_refl _),h.len,Nat.sub_self];rfl
     have e2:(M ++ [r]).getD M.length [] = r:=by
       rw [List.getD_eq_getElem?_getD,List.getElem?_append_right (Nat.le_refl _),Nat.sub_self];rfl
     rw [e1,e2,rowOf_new]
   · have hi':i < M.length:=by omega
     have e1:(ids ++ [rows.length]).getD i 0 = ids.getD i 0:=by
       simp only [List.getD_eq_getElem?_getD,List.getElem?_append,show i < ids.length by rw [h.len];exact hi',if_true]
     have e2:(M ++ [r]).getD i [] = M.getD i []:=by
       simp only [List.getD_eq_getElem?_getD,List.getElem?_append,hi',if_true]
     rw [e1,e2,rowOf_app r (h.lt hi'),h.get i hi']
 · rw [List.nodup_append]
   refine ⟨h.nodup,by simp,fun a ha b hb=>?_⟩
   obtain rfl:=List.mem_singleton.1 hb
   have:=hin a ha
   omega
theorem allGR (h:GR ids rows M):gridAll rows ids = some M:=by
 have key:∀ (l:List Nat) (m:List (List Int)),l.length = m.length→(∀ i,i < m.length→rowOf rows (l.getD i 0) = some (m.getD i []))→gridAll rows l = some m:=by
   intro l
   induction l with
   | nil=>intro m hl _;cases m with
     | nil=>rfl
     | cons _ _=>cases hl
   | cons a l ih =>
     intro m hl hg
     cases m with
     | nil=>cases hl
     | cons r m =>
       have h0:=hg 0 (by simp)
       simp only [List.getD_cons_zero] at h0
       unfold gridAll
       rw [h0,Option.bind_some,ih m (by simpa using hl) (fun i hi=>by have:=hg (i + 1) (by simpa using hi);simpa using this),Option.bind_some]
 exact key ids M h.len h.get
theorem take (h:GR ids rows M) (d:Nat):GR (ids.take d) rows (M.take d):=by
 refine ⟨by simp [h.len],fun i hi=>?_,h.nodup.sublist (List.take_sublist _ _)⟩
 have hi2:i < d∧i < M.length:=by simp at hi;omega
 have e1:(ids.take d).getD i 0 = ids.getD i 0:=by simp [List.getD_eq_getElem?_getD,List.getElem?_take,hi2.1]
 have e2:(M.take d).getD i [] = M.getD i []:=by simp [List.getD_eq_getElem?_getD,List.getElem?_take,hi2.1]
 rw [e1,e2,h.get i hi2.2]
end GR
theorem gcd_loop (N:Nat) {C:Type} (k0:Int→List Int→Int→Int→Option C) (l:List Int) (u v:Int):∀ (k F:Nat) (a b:Int),2 * k + 1 < F→b.natAbs < 2 ^ k→∃ r:Int,r.natAbs = Nat.gcd a.natAbs b.natAbs∧g92L7474f N F k0 a b l u v = k0 r l u v:=by
 have zero:∀ (F:Nat) (a:Int),0 < F→g92L7474f N F k0 a 0 l u v = k0 a l u v:=by
   intro F a h
   obtain ⟨F,rfl⟩:∃ G,F = G + 1:=⟨F - 1,by omega⟩
   rw [g92L7474f_succ]
   unfold g92L7474B
   rw [ieq_self,Bool.not_true,cond_false]
 have step:∀ (F:Nat) (a b:Int),b ≠ 0→g92L7474f N (F + 1) k0 a b l u v = g92L7474f N F k0 b (Int.tmod a b) l u v:=by
   intro F a b hb
   rw [g92L7474f_succ]
   unfold g92L7474B
   rw [show ieq b 0 = false from decide_eq_false hb,Bool.not_false,cond_true,if_neg hb]
 intro k
 induction k with
 | zero =>
   intro F a b hF hb
   have:b = 0:=by simp at hb;omega
   subst this
   exact ⟨a,by simp,zero F a (by omega)⟩
 | succ k ih =>
   intro F a b hF hb
   by_cases hb0:b = 0
   · subst hb0
     exact ⟨a,by simp,zero F a (by omega)⟩
   · obtain ⟨F,rfl⟩:∃ G,F = G + 1:=⟨F - 1,by omega⟩
     rw [step F a b hb0]
     have g1:Nat.gcd a.natAbs b.natAbs = Nat.gcd b.natAbs (Int.tmod a b).natAbs:=by
       rw [Int.natAbs_tmod,Nat.gcd_comm a.natAbs,Nat.gcd_rec,Nat.gcd_comm]
     by_cases hr0:Int.tmod a b = 0
     · rw [hr0,zero F b (by omega)]
       exact ⟨b,by rw [g1,hr0];simp,rfl⟩
     · obtain ⟨F,rfl⟩:∃ G,F = G + 1:=⟨F - 1,by omega⟩
       rw [step F b (Int.tmod a b) hr0]
       have hlt:(Int.tmod a b).natAbs < b.natAbs:=by rw [Int.natAbs_tmod];exact Nat.mod_lt _ (by omega)
       have hhalf:(Int.tmod b (Int.tmod a b)).natAbs < 2 ^ k:=by
         rw [Int.natAbs_tmod]
         have h1:=Nat.mod_lt b.natAbs (show 0 < (Int.tmod a b).natAbs by omega)
         have h2:=Nat.mod_add_div b.natAbs (Int.tmod a b).natAbs
         have h3:0 < b.natAbs / (Int.tmod a b).natAbs:=Nat.div_pos (by omega) (by omega)
         have h4:=Nat.le_mul_of_pos_right (Int.tmod a b).natAbs h3
         rw [Nat.pow_succ] at hb
         omega
       obtain ⟨r,h1,h2⟩:=ih F (Int.tmod a b) (Int.tmod b (Int.tmod a b)) (by omega) hhalf
       refine ⟨r,?_,h2⟩
       rw [h1,g1,Int.natAbs_tmod b,Nat.gcd_comm b.natAbs,Nat.gcd_rec (Int.tmod a b).natAbs b.natAbs,Nat.gcd_comm (b.natAbs % (Int.tmod a b).natAbs)]
def gcdL:Nat→List Int→Nat
 | g,[]=>g
 | g,x :: l=>gcdL (Nat.gcd g x.natAbs) l
theorem gcdL_dvd:∀ (l:List Int) (g:Nat),gcdL g l ∣ g∧∀ x ∈ l,gcdL g l ∣ x.natAbs
 | [],g=>⟨Nat.dvd_refl _,fun x h=>by cases h⟩
 | y :: l,g=>by
   obtain ⟨h1,h2⟩:=gcdL_dvd l (Nat.gcd g y.natAbs)
   refine ⟨Nat.dvd_trans h1 (Nat.gcd_dvd_left _ _),fun x hx=>?_⟩
   rcases List.mem_cons.1 hx with rfl | hx
   · exact Nat.dvd_trans h1 (Nat.gcd_dvd_right _ _)
   · exact h2 x hx
theorem divisor_loop {C:Type} (k0:Int→Option C) (l:List Int) (hl:l.length ≤ 1000) (hb:∀ x ∈ l,x.natAbs < 2 ^ 63):∀ (F i:Nat) (a:Int),l.length - i < F→i ≤ l.length→∃ r:Int,r.natAbs = gcdL a.natAbs (l.drop i)∧g92L58f 2000 F k0 a l (l.length:Int) (i:Int) = k0 r
 | 0,i,a,h,_=>by omega
 | F + 1,i,a,h,hi=>by
   rw [g92L58f_succ]
   unfold g92L58B
   by_cases hlt:i < l.length
   · have e1:decide ((i:Int) < (l.length:Int)) = true:=by simp;omega
     rw [e1,cond_true,if_pos (ix hlt),Int.toNat_natCast,g92L7474_eq]
     obtain ⟨r,h1,h2⟩:=gcd_loop 2000 (fun e1 e2 e3 e4=>g92L58f 2000 F k0 e1 e2 e3 (IntKind.wrap .i64 (e4 + 1))) l (l.length:Int) (i:Int) 63 2000 a (l.getD i 0) (by omega) (hb _ (getD_mem hlt 0))
     obtain ⟨r2,h3,h4⟩:=divisor_loop k0 l hl hb F (i + 1) r (by omega) (by omega)
     refine ⟨r2,?_,?_⟩
     · rw [getD_drop l i hlt,h3,h1];rfl
     · refine h2.trans ?_
       rw [wn i (by omega)]
       exact h4
   · have e1:decide ((i:Int) < (l.length:Int)) = false:=by simp;omega
     rw [e1,cond_false,List.drop_eq_nil_of_le (by omega)]
     exact ⟨a,rfl,rfl⟩
theorem gcdL_lt {l:List Int} (hb:∀ x ∈ l,x.natAbs < 2 ^ 62):gcdL 0 l < 2 ^ 62:=by
 by_cases h:gcdL 0 l = 0
 · rw [h];decide
 · cases l with
   | nil=>decide
   | cons x l =>
     by_cases hall:∀ y ∈ x :: l,y.natAbs = 0
     · exfalso
       apply h
       have:∀ (l:List Int),(∀ y ∈ l,y.natAbs = 0)→gcdL 0 l = 0:=by
         intro l
         induction l with
         | nil=>intro _;rfl
         | cons z l ih=>intro hz;unfold gcdL;rw [hz z (by simp),Nat.gcd_self];exact ih fun y hy=>hz y (by simp [hy])
       exact this _ hall
     · have:∃ y,y ∈ x :: l∧y.natAbs ≠ 0:=by
         rcases Classical.em (∃ y,y ∈ x :: l∧y.natAbs ≠ 0) with h1 | h1
         · exact h1
         · exact absurd (fun y hy=>Classical.byContradiction fun hn=>h1 ⟨y,hy,hn⟩) hall
       obtain ⟨y,hy,hne⟩:=this
       have:=Nat.le_of_dvd (by omega) ((gcdL_dvd (x :: l) 0).2 y hy)
       have:=hb y hy
       omega
theorem g92_eq {l:List Int} (hl:l.length ≤ 1000) (hb:∀ x ∈ l,x.natAbs < 2 ^ 62):g92 2000 l = some (gcdL 0 l:Int):=by
 unfold g92
 rw [g92L58_eq]
 obtain ⟨r,h1,h2⟩:=divisor_loop (fun e5=>some (imax e5 (IntKind.wrap .i64 (ineg e5)))) l hl (fun x hx=>by have:=hb x hx;omega) 2000 0 0 (by omega) (by omega)
 simp only [Int.natCast_zero,List.drop_zero] at h1 h2
 refine h2.trans ?_
 have:=gcdL_lt hb
 have h1:r.natAbs = gcdL 0 l:=h1
 have e:(2:Nat) ^ 62 = 4611686018427387904:=by decide
 rw [e] at this
 rw [show ineg r = -r from Int.zero_sub r,w64 (by omega) (by omega)]
 congr 1
 simp only [imax]
 split <;> omega
end Go.Pv
namespace Go.Pv
def fv (r:List Int):Vec:=fun k=>r.getD k 0
theorem fv_ge {r:List Int} {n k:Nat} (h:r.length = n) (hk:n ≤ k):fv r k = 0:=by
 unfold fv
 rw [List.getD_eq_getElem?_getD,List.getElem?_eq_none (by omega)];rfl
theorem fv_set {r:List Int} {i k:Nat} (x:Int) (h:i < r.length):fv (r.set i x) k = if k = i then x else fv r k:=by
 unfold fv
 exact setD r i k x 0 h
theorem mul_fit {B x y:Int} (h0:0 ≤ B) (h1:B ≤ 1000000000) (hx:-B ≤ x∧x ≤ B) (hy:-B ≤ y∧y ≤ B):-(B * B) ≤ x * y∧x * y ≤ B * B∧B * B ≤ 1000000000000000000:=by
 obtain ⟨a,b⟩:=mul_bd hx hy h0 h0
 exact ⟨a,b,Int.mul_le_mul h1 h1 h0 (by omega)⟩
theorem tnlt {i n:Nat} (h:i < n):Int.toNat (i:Int) < n:=by rw [Int.toNat_natCast];exact h
theorem row_loop {C:Type} (k0:Int→Int→Nat→Nat→Int→Int→Int→Int→List Nat→List (Option (List Int))→Option C) {n:Nat} (hn:n ≤ 5) {ids:List Nat} {M:List (List Int)} {d j:Nat} (hd:d < M.length) (hj:j < M.length) (hdj:d ≠ j) (hln:(M.getD d []).length = n) {r:List Int} (hrn:r.length = n) {a b B:Int} (hB0:0 ≤ B) (hB:B ≤ 1000000000) (hr:Bdd B (fv r)) (ho:Bdd B (fv (M.getD d []))) (ha:-B ≤ a∧a ≤ B) (hb:-B ≤ b∧b ≤ B) (x3 x4 t20 t21 t64 t65:Int) :
   ∀ (F i:Nat) (rows:List (Option (List Int))) (cur:List Int),n - i < F→i ≤ n→GR ids rows (M.set j cur)→cur.length = n→(∀ k,k < i→fv cur k = fv r k * a - fv (M.getD d []) k * b)→(∀ k,i ≤ k→fv cur k = fv r k) →
     ∃ rows' cur',GR ids rows' (M.set j cur')∧cur'.length = n∧(∀ k,fv cur' k = fv r k * a - fv (M.getD d []) k * b)∧g89xL4107260730f 2000 F k0 x3 x4 (ids.getD d 0) (ids.getD j 0) a b t20 t21 t64 t65 (n:Int) (i:Int) ids rows = k0 x3 x4 (ids.getD d 0) (ids.getD j 0) t20 t21 t64 t65 ids rows'
 | 0,i,rows,cur,h,_,_,_,_,_=>by omega
 | F + 1,i,rows,cur,h,hi,hG,hc,h1,h2=>by
   rw [g89xL4107260730f_succ]
   unfold g89xL4107260730B
   by_cases hlt:i < n
   · have e1:decide ((i:Int) < (n:Int)) = true:=by simp;omega
     have gj:rowOf rows (ids.getD j 0) = some cur:=by
       rw [hG.get j (by simp;exact hj),setD _ _ _ _ _ hj,if_pos rfl]
     have gd:rowOf rows (ids.getD d 0) = some (M.getD d []):=by
       rw [hG.get d (by simp;exact hd),setD _ _ _ _ _ hj,if_neg hdj]
     rw [e1,cond_true,gj,gd]
     simp only [Option.bind_some]
     rw [if_pos (ix (by omega)),if_pos (tnlt (by omega)),if_pos (ix (by omega)),if_pos (tnlt (by omega)),if_pos (ix (by omega)),if_pos (tnlt (by omega)),Int.toNat_natCast,wn i (by omega)]
     have m1:=mul_fit hB0 hB (hr i) ha
     have m2:=mul_fit hB0 hB (ho i) hb
     have ec:cur.getD i 0 = fv r i:=h2 i (Nat.le_refl _)
     have eo:(M.getD d []).getD i 0 = fv (M.getD d []) i:=rfl
     rw [ec,eo,w64 (x:=fv r i * a) (by omega) (by omega),w64 (x:=fv (M.getD d []) i * b) (by omega) (by omega),w64 (x:=fv r i * a - fv (M.getD d []) i * b) (by omega) (by omega)]
     have hG2:=hG.set (i:=j) (by simp;exact hj) (cur.set i (fv r i * a - fv (M.getD d []) i * b))
     rw [List.set_set] at hG2
     exact row_loop k0 hn hd hj hdj hln hrn hB0 hB hr ho ha hb x3 x4 t20 t21 t64 t65 F (i + 1) _ _ (by omega) (by omega) hG2 (by simp [hc]) (fun k hk=>by
       rw [fv_set _ (by omega)]
       by_cases hki:k = i
       · subst hki;rw [if_pos rfl]
       · rw [if_neg hki];exact h1 k (by omega)) (fun k hk=>by
       rw [fv_set _ (by omega),if_neg (by omega)]
       exact h2 k (by omega))
   · have e1:decide ((i:Int) < (n:Int)) = false:=by simp;omega
     rw [e1,cond_false]
     refine ⟨rows,cur,hG,hc,fun k=>?_,rfl⟩
     by_cases hk:k < i
     · exact h1 k hk
     · rw [fv_ge hc (by omega),fv_ge hrn (by omega),fv_ge hln (by omega)];simp
theorem div_loop {C:Type} (k0:Int→Int→Nat→Int→Int→Int→Int→List Nat→List (Option (List Int))→Option C) {n:Nat} (hn:n ≤ 5) {ids:List Nat} {M:List (List Int)} {j:Nat} (hj:j < M.length) {r:List Int} (hrn:r.length = n) {g:Int} (hg:0 < g) (hdv:∀ k,g ∣ fv r k) {B:Int} (hB:B ≤ 2000000000000000000) (hr:Bdd B (fv r)) (x3 x4:Int) (x6:Nat) (t20 t21 t64 t65:Int) :
   ∀ (F i:Nat) (rows:List (Option (List Int))) (cur:List Int),n - i < F→i ≤ n→GR ids rows (M.set j cur)→cur.length = n→(∀ k,k < i→g * fv cur k = fv r k)→(∀ k,i ≤ k→fv cur k = fv r k) →
     ∃ rows' cur',GR ids rows' (M.set j cur')∧cur'.length = n∧(∀ k,g * fv cur' k = fv r k)∧g89xL32858085882f 2000 F k0 x3 x4 x6 (ids.getD j 0) g t20 t21 t64 t65 (n:Int) (i:Int) ids rows = k0 x3 x4 x6 t20 t21 t64 t65 ids rows'
 | 0,i,rows,cur,h,_,_,_,_,_=>by omega
 | F + 1,i,rows,cur,h,hi,hG,hc,h1,h2=>by
   rw [g89xL32858085882f_succ]
   unfold g89xL32858085882B
   by_cases hlt:i < n
   · have e1:decide ((i:Int) < (n:Int)) = true:=by simp;omega
     have gj:rowOf rows (ids.getD j 0) = some cur:=by
       rw [hG.get j (by simp;exact hj),setD _ _ _ _ _ hj,if_pos rfl]
     rw [e1,cond_true,gj]
     simp only [Option.bind_some]
     have ec:cur.getD i 0 = fv r i:=h2 i (Nat.le_refl _)
     obtain ⟨q,hq⟩:=hdv i
     have et:Int.tdiv (fv r i) g = q:=by rw [hq];exact Int.mul_tdiv_cancel_left q (by omega)
     have hqb:-B ≤ q∧q ≤ B:=by
       have:=hr i
       have h5:(fv r i).natAbs = g.natAbs * q.natAbs:=by rw [hq,Int.natAbs_mul]
       have h6:q.natAbs ≤ g.natAbs * q.natAbs:=Nat.le_mul_of_pos_left _ (by omega)
       omega
     rw [if_pos (ix (by omega)),if_pos (tnlt (by omega)),if_neg (by omega),if_pos (ix (by omega)),if_pos (tnlt (by omega)),Int.toNat_natCast,wn i (by omega),ec,et,w64 (x:=q) (by omega) (by omega)]
     have hG2:=hG.set (i:=j) (by simp;exact hj) (cur.set i q)
     rw [List.set_set] at hG2
     exact div_loop k0 hn hj hrn hg hdv hB hr x3 x4 x6 t20 t21 t64 t65 F (i + 1) _ _ (by omega) (by omega) hG2 (by simp [hc]) (fun k hk=>by
       rw [fv_set _ (by omega)]
       by_cases hki:k = i
       · subst hki;rw [if_pos rfl,hq]
       · rw [if_neg hki];exact h1 k (by omega)) (fun k hk=>by
       rw [fv_set _ (by omega),if_neg (by omega)]
       exact h2 k (by omega))
   · have e1:decide ((i:Int) < (n:Int)) = false:=by simp;omega
     rw [e1,cond_false]
     refine ⟨rows,cur,hG,hc,fun k=>?_,rfl⟩
     by_cases hk:k < i
     · exact h1 k hk
     · rw [fv_ge hc (by omega),fv_ge hrn (by omega)];simp
def RowRel (own:List Int) (c:Nat) (B:Int) (r r':List Int):Prop:=(∃ g:Int,g ≠ 0∧∀ k,g * fv r' k = fv r k * fv own c - fv own k * fv r c)∧Bdd (2 * (B * B)) (fv r')
theorem rows_loop {C:Type} (k0:Int→Int→Int→List Nat→List (Option (List Int))→Option C) {n:Nat} (hn:n ≤ 5) {ids:List Nat} {M1:List (List Int)} {m d c:Nat} (hm:M1.length = m) (hm2:m ≤ 1000) (hd:d < m) (hc:c < n) (hlen:∀ j,j < m→(M1.getD j []).length = n) {B:Int} (hB1:1 ≤ B) (hB:B ≤ 100000) (hb:∀ j,j < m→Bdd B (fv (M1.getD j []))) (hoc:fv (M1.getD d []) c ≠ 0) (t20 t21:Int) :
   ∀ (F i:Nat) (rows:List (Option (List Int))) (M':List (List Int)),m - i < F→i ≤ m→GR ids rows M'→M'.length = m→(∀ j,j < m→(M'.getD j []).length = n)→M'.getD d [] = M1.getD d []→(∀ j,j < i→j ≠ d→RowRel (M1.getD d []) c B (M1.getD j []) (M'.getD j []))→(∀ j,i ≤ j→M'.getD j [] = M1.getD j []) →
     ∃ rows' M'',GR ids rows' M''∧M''.length = m∧(∀ j,j < m→(M''.getD j []).length = n)∧M''.getD d [] = M1.getD d []∧(∀ j,j < m→j ≠ d→RowRel (M1.getD d []) c B (M1.getD j []) (M''.getD j []))∧g89xL2005498f 2000 F k0 (d:Int) (c:Int) (ids.getD d 0) t20 t21 (m:Int) (i:Int) ids rows = k0 (d:Int) t20 t21 ids rows'
 | 0,i,rows,M',h,_,_,_,_,_,_,_=>by omega
 | F + 1,i,rows,M',h,hi,hG,hl,hln,hod,h1,h2=>by
   rw [g89xL2005498f_succ]
   unfold g89xL2005498B
   have hBB:B ≤ B * B:=by
     have:=Int.mul_le_mul_of_nonneg_left hB1 (show 0 ≤ B by omega)
     omega
   by_cases hlt:i < m
   · have e1:decide ((i:Int) < (m:Int)) = true:=by simp;omega
     have idl:ids.length = m:=by rw [hG.len];exact hl
     rw [e1,cond_true,if_pos (ix (by omega)),Int.toNat_natCast,hG.id (by omega)]
     simp only [Option.bind_some]
     rw [wn i (by omega)]
     by_cases hid:i = d
     · subst hid
       rw [ieq_self,cond_true]
       exact rows_loop k0 hn hm hm2 hd hc hlen hB1 hB hb hoc t20 t21 F (i + 1) rows M' (by omega) (by omega) hG hl hln hod (fun j hj hne=>h1 j (by omega) hne) (fun j hj=>h2 j (by omega))
     · have gi:rowOf rows (ids.getD i 0) = some (M1.getD i []):=by rw [hG.get i (by omega),h2 i (Nat.le_refl _)]
       have gd:rowOf rows (ids.getD d 0) = some (M1.getD d []):=by rw [hG.get d (by omega),hod]
       have li:=hlen i hlt
       have ld:=hlen d hd
       rw [show ieq (i:Int) (d:Int) = false from decide_eq_false (by omega),cond_false,gi]
       simp only [Option.bind_some]
       rw [if_pos (ix (by omega)),if_pos (tnlt (by omega)),Int.toNat_natCast]
       by_cases hz:fv (M1.getD i []) c = 0
       · rw [show ieq ((M1.getD i []).getD c 0) 0 = true from decide_eq_true hz,cond_true]
         exact rows_loop k0 hn hm hm2 hd hc hlen hB1 hB hb hoc t20 t21 F (i + 1) rows M' (by omega) (by omega) hG hl hln hod (fun j hj hne=>by
           by_cases hji:j = i
           · subst hji
             rw [h2 j (Nat.le_refl _)]
             refine ⟨⟨fv (M1.getD d []) c,hoc,fun k=>by rw [hz,Int.mul_zero,Int.sub_zero,Int.mul_comm]⟩,fun k=>?_⟩
             have:=hb j hlt k
             omega
           · exact h1 j (by omega) hne) (fun j hj=>h2 j (by omega))
       · rw [show ieq ((M1.getD i []).getD c 0) 0 = false from decide_eq_false hz,cond_false,gd]
         simp only [Option.bind_some]
         rw [if_pos (ix (by omega)),if_pos (show c < (M1.getD d []).length by omega),if_pos (ix (by omega)),if_pos (show c < (M1.getD i []).length by omega),g89xL4107260730_eq,li]
         have hGs:GR ids rows (M'.set i (M1.getD i [])):=by
           have:M'.set i (M1.getD i []) = M':=by
             rw [← h2 i (Nat.le_refl _),List.getD_eq_getElem?_getD,List.getElem?_eq_getElem (by omega),Option.getD_some,List.set_getElem_self]
           rw [this];exact hG
         have hod':(M'.getD d []) = M1.getD d []:=hod
         obtain ⟨rows1,cur1,a1,a2,a3,a4⟩:=row_loop (fun e31 e32 e33 e34 e35 e36 e37 e38 e39 e40=>Option.bind (rowOf e40 e34) fun r41=>Option.bind (g92 2000 r41) fun r42=>bif (decide ((1:Int) < r42)) then Option.bind (rowOf e40 e34) fun r43=>g89xL32858085882 2000 (fun e48 e49 e50 e51 e52 e53 e54 e55 e56=>g89xL2005498f 2000 F k0 e48 e49 e50 e51 e52 e53 (IntKind.wrap .i64 (e54 + 1)) e55 e56) e31 e32 e33 e34 r42 e35 e36 e37 e38 ((List.length r43:Nat):Int) 0 e39 e40 else g89xL2005498f 2000 F k0 e31 e32 e33 e35 e36 e37 (IntKind.wrap .i64 (e38 + 1)) e39 e40)
           hn (ids:=ids) (M:=M') (d:=d) (j:=i) (by omega) (by omega) (fun e=>hid e.symm) (by rw [hod'];exact ld) (r:=M1.getD i []) li (a:=fv (M1.getD d []) c) (b:=fv (M1.getD i []) c) (B:=B) (by omega) (by omega) (hb i hlt) (by rw [hod'];exact hb d hd) (hb d hd c) (hb i hlt c) (d:Int) (c:Int) t20 t21 (m:Int) (i:Int) 2000 0 rows (M1.getD i []) (by omega) (by omega) hGs li (fun k hk=>by omega) (fun k hk=>rfl)
         rw [hod'] at a3
         have bcur:Bdd (2 * (B * B)) (fv cur1):=fun k=>by
           rw [a3 k]
           have m1:=mul_fit (by omega) (by omega) (hb i hlt k) (hb d hd c)
           have m2:=mul_fit (by omega) (by omega) (hb d hd k) (hb i hlt c)
           omega
         have hBm:B * B ≤ 10000000000:=Int.mul_le_mul hB hB (by omega) (by omega)
         have gc:rowOf rows1 (ids.getD i 0) = some cur1:=by
           rw [a1.get i (by simp;omega),setD _ _ _ _ _ (by omega),if_pos rfl]
         have hB62:∀ x ∈ cur1,x.natAbs < 2 ^ 62:=fun x hx=>by
           obtain ⟨k,hk,rfl⟩:=List.getElem_of_mem hx
           have:=bcur k
           have e:fv cur1 k = cur1[k]:=by unfold fv;rw [List.getD_eq_getElem?_getD,List.getElem?_eq_getElem hk];rfl
           rw [e] at this
           have e2:(2:Nat) ^ 62 = 4611686018427387904:=by decide
           omega
         have hg92:=g92_eq (l:=cur1) (by omega) hB62
         have hset:∀ x,(M'.set i x).getD d [] = M1.getD d []:=fun x=>by rw [setD _ _ _ _ _ (by omega),if_neg (fun e=>hid e.symm)];exact hod
         have fin:∀ (rows2:List (Option (List Int))) (cur2:List Int),GR ids rows2 (M'.set i cur2)→cur2.length = n→RowRel (M1.getD d []) c B (M1.getD i []) cur2→∃ rows' M'',GR ids rows' M''∧M''.length = m∧(∀ j,j < m→(M''.getD j []).length = n)∧M''.getD d [] = M1.getD d []∧(∀ j,j < m→j ≠ d→RowRel (M1.getD d []) c B (M1.getD j []) (M''.getD j []))∧g89xL2005498f 2000 F k0 (d:Int) (c:Int) (ids.getD d 0) t20 t21 (m:Int) ((i + 1:Nat):Int) ids rows2 = k0 (d:Int) t20 t21 ids rows':=fun rows2 cur2 hG2 hc2 hrel=>by
           refine rows_loop k0 hn hm hm2 hd hc hlen hB1 hB hb hoc t20 t21 F (i + 1) rows2 (M'.set i cur2) (by omega) (by omega) hG2 (by simp [hl]) (fun j hj=>?_) (hset _) (fun j hj hne=>?_) (fun j hj=>?_)
           · rw [setD _ _ _ _ _ (by omega)]
             split
             · exact hc2
             · exact hln j hj
           · rw [setD _ _ _ _ _ (by omega)]
             by_cases hji:j = i
             · subst hji;rw [if_pos rfl];exact hrel
             · rw [if_neg hji];exact h1 j (by omega) hne
           · rw [setD _ _ _ _ _ (by omega),if_neg (by omega)]
             exact h2 j (by omega)
         by_cases hgt:1 < (gcdL 0 cur1:Int)
         · have hgd:∀ k,(gcdL 0 cur1:Int) ∣ fv cur1 k:=fun k=>by
             by_cases hk:k < n
             · have e:fv cur1 k = cur1[k]'(by omega):=by unfold fv;rw [List.getD_eq_getElem?_getD,List.getElem?_eq_getElem (by omega)];rfl
               rw [e]
               exact Int.ofNat_dvd_left.2 ((gcdL_dvd cur1 0).2 _ (List.getElem_mem (by omega)))
             · rw [fv_ge a2 (by omega)];exact Int.dvd_zero _
           obtain ⟨rows2,cur2,b1,b2,b3,b4⟩:=div_loop (fun e48 e49 e50 e51 e52 e53 e54 e55 e56=>g89xL2005498f 2000 F k0 e48 e49 e50 e51 e52 e53 (IntKind.wrap .i64 (e54 + 1)) e55 e56) hn (ids:=ids) (M:=M') (j:=i) (by omega) (r:=cur1) a2 (g:=(gcdL 0 cur1:Int)) (by omega) hgd (B:=2 * (B * B)) (by omega) bcur (d:Int) (c:Int) (ids.getD d 0) t20 t21 (m:Int) (i:Int) 2000 0 rows1 cur1 (by omega) (by omega) a1 a2 (fun k hk=>by omega) (fun k hk=>rfl)
           obtain ⟨rows3,M3,c1,c2,c3,c4,c5,c6⟩:=fin rows2 cur2 b1 b2 ⟨⟨(gcdL 0 cur1:Int),by omega,fun k=>by rw [b3 k,a3 k]⟩,fun k=>by
             have h5:(fv cur1 k).natAbs = (gcdL 0 cur1:Int).natAbs * (fv cur2 k).natAbs:=by rw [← b3 k,Int.natAbs_mul]
             have h6:(fv cur2 k).natAbs ≤ (gcdL 0 cur1:Int).natAbs * (fv cur2 k).natAbs:=Nat.le_mul_of_pos_left _ (by omega)
             have:=bcur k
             omega⟩
           refine ⟨rows3,M3,c1,c2,c3,c4,c5,?_⟩
           simp only [Int.natCast_zero] at a4 b4
           refine a4.trans ?_
           rw [gc]
           simp only [Option.bind_some]
           rw [hg92]
           simp only [Option.bind_some]
           rw [decide_eq_true hgt,cond_true,a2,g89xL32858085882_eq]
           refine b4.trans ?_
           rw [wn i (by omega)]
           exact c6
         · obtain ⟨rows3,M3,c1,c2,c3,c4,c5,c6⟩:=fin rows1 cur1 a1 a2 ⟨⟨1,by decide,fun k=>by rw [a3 k,Int.one_mul]⟩,bcur⟩
           refine ⟨rows3,M3,c1,c2,c3,c4,c5,?_⟩
           simp only [Int.natCast_zero] at a4
           refine a4.trans ?_
           rw [gc]
           simp only [Option.bind_some]
           rw [hg92]
           simp only [Option.bind_some]
           rw [decide_eq_false hgt,cond_false,wn i (by omega)]
           exact c6
   · have e1:decide ((i:Int) < (m:Int)) = false:=by simp;omega
     rw [e1,cond_false]
     exact ⟨rows,M',hG,hl,hln,hod,fun j hj hne=>h1 j (by omega) hne,rfl⟩
theorem find_loop {C:Type} (k0:Int→Int→Int→Int→Int→List Nat→List (Option (List Int))→Option C) {n:Nat} {ids:List Nat} {rows:List (Option (List Int))} {M:List (List Int)} {m c:Nat} (hG:GR ids rows M) (hm:M.length = m) (hm2:m ≤ 1000) (hc:c < n) (hlen:∀ j,j < m→(M.getD j []).length = n) (t3 t20 t21:Int) :
   ∀ (F i:Nat),m - i < F→i ≤ m→∃ q,i ≤ q∧q ≤ m∧(∀ j,i ≤ j→j < q→fv (M.getD j []) c = 0)∧(q < m→fv (M.getD q []) c ≠ 0)∧g89xL62668f 2000 F k0 t3 (c:Int) (i:Int) t20 t21 ids rows = k0 t3 (c:Int) (q:Int) t20 t21 ids rows
 | 0,i,h,_=>by omega
 | F + 1,i,h,hi=>by
   rw [g89xL62668f_succ]
   unfold g89xL62668B
   have hil:=hG.len
   by_cases hlt:i < m
   · have e1:decide ((i:Int) < ((ids.length:Nat):Int)) = true:=by simp;omega
     have li:=hlen i hlt
     rw [e1,cond_true,if_pos (ix (by omega)),Int.toNat_natCast,hG.id (by omega)]
     simp only [Option.bind_some]
     rw [hG.get i (by omega)]
     simp only [Option.bind_some]
     rw [if_pos (ix (by omega)),if_pos (tnlt (by omega)),Int.toNat_natCast]
     by_cases hz:fv (M.getD i []) c = 0
     · rw [show ieq ((M.getD i []).getD c 0) 0 = true from decide_eq_true hz,cond_true,wn i (by omega)]
       obtain ⟨q,a1,a2,a3,a4,a5⟩:=find_loop k0 hG hm hm2 hc hlen t3 t20 t21 F (i + 1) (by omega) (by omega)
       exact ⟨q,by omega,a2,fun j hj hjq=>by
         by_cases hji:j = i
         · subst hji;exact hz
         · exact a3 j (by omega) hjq,a4,a5⟩
     · rw [show ieq ((M.getD i []).getD c 0) 0 = false from decide_eq_false hz,cond_false]
       exact ⟨i,Nat.le_refl _,hi,fun j hj hjq=>by omega,fun _=>hz,rfl⟩
   · have e1:decide ((i:Int) < ((ids.length:Nat):Int)) = false:=by simp;omega
     rw [e1,cond_false]
     exact ⟨i,Nat.le_refl _,hi,fun j hj hjq=>by omega,fun h=>by omega,rfl⟩
end Go.Pv
namespace Go.Pv
theorem bnd_le:∀ j,j ≤ 3→bnd j ≤ 32768
 | 0,_=>by decide
 | 1,_=>by decide
 | 2,_=>by decide
 | 3,_=>by decide
 | j + 4,h=>by omega
theorem reduce_loop {C:Type} (k0:Int→List Nat→List (Option (List Int))→Option C) {n:Nat} (hn:n ≤ 5) {V0:List Vec} (hV:∀ v ∈ V0,Rul n v) {m:Nat} (hm2:m ≤ 1000) :
   ∀ (F c:Nat) (s:Stg) (ids:List Nat) (rows:List (Option (List Int))) (M:List (List Int)),n - c < F→c ≤ n→SI n c V0 s→AB V0 s→PR n s m (fun j=>fv (M.getD j []))→s.P.length ≤ 4→GR ids rows M→M.length = m→(∀ j,j < m→(M.getD j []).length = n) →
     ∃ t ids' rows' M',Elim c n s t∧SI n n V0 t∧AB V0 t∧PR n t m (fun j=>fv (M'.getD j []))∧t.P.length ≤ 4∧GR ids' rows' M'∧M'.length = m∧(∀ j,j < m→(M'.getD j []).length = n)∧g89xL122f 2000 F k0 (s.P.length:Int) (n:Int) (c:Int) ids rows = k0 (t.P.length:Int) ids' rows'
 | 0,c,s,ids,rows,M,h,_,_,_,_,_,_,_,_=>by omega
 | F + 1,c,s,ids,rows,M,h,hc,hS,hA,hR,hP,hG,hm,hlen=>by
   rw [g89xL122f_succ]
   unfold g89xL122B
   by_cases hlt:c < n
   · have e1:decide ((c:Int) < (n:Int)) = true:=by simp;omega
     have hil:ids.length = m:=by rw [hG.len];exact hm
     have hPm:=hR.len
     rw [e1,cond_true,g89xL62668_eq]
     obtain ⟨q,q1,q2,q3,q4,q5⟩:=find_loop (fun e7 e8 e9 e10 e11 e12 e13=>bif (ieq e9 ((List.length e12:Nat):Int)) then (g89xL122f 2000 F k0 e7 e10 (IntKind.wrap .i64 (e11 + 1)) e12 e13) else if idx e9 (List.length e12) then Option.bind (idAt e12 e13 (Int.toNat e9)) fun r14=>if idx e7 (List.length e12) then Option.bind (idAt e12 e13 (Int.toNat e7)) fun r15=>if idx e7 (List.length e12) then Option.bind (rowOf e13 r14) fun _=>if (Int.toNat e7) < List.length e12 then if idx e9 (List.length (List.set e12 (Int.toNat e7) r14)) then Option.bind (rowOf e13 r15) fun _=>if (Int.toNat e9) < List.length (List.set e12 (Int.toNat e7) r14) then if idx e7 (List.length (List.set (List.set e12 (Int.toNat e7) r14) (Int.toNat e9) r15)) then Option.bind (idAt (List.set (List.set e12 (Int.toNat e7) r14) (Int.toNat e9) r15) e13 (Int.toNat e7)) fun r16=>g89xL2005498 2000 (fun e57 e58 e59 e60 e61=>(g89xL122f 2000 F k0 (IntKind.wrap .i64 (e57 + 1)) e58 (IntKind.wrap .i64 (e59 + 1)) e60 e61)) e7 e8 r16 e10 e11 ((List.length (List.set (List.set e12 (Int.toNat e7) r14) (Int.toNat e9) r15):Nat):Int) 0 (List.set (List.set e12 (Int.toNat e7) r14) (Int.toNat e9) r15) e13 else none else none else none else none else none else none else none)
       hG hm hm2 hlt hlen (s.P.length:Int) (n:Int) (c:Int) 2000 s.P.length (by omega) (by omega)
     rw [q5,hil]
     by_cases hqm:q = m
     · have hnone:NoneAt c s:=fun v hv=>by
         obtain ⟨i,hi,rfl⟩:=List.getElem_of_mem hv
         have e:s.V.getD i (fun _=>0) = s.V[i]:=by rw [List.getD_eq_getElem?_getD,List.getElem?_eq_getElem hi];rfl
         rw [← e]
         exact ((hR.low i hi).zero c).1 (q3 _ (by omega) (by omega))
       rw [hqm,ieq_self,cond_true,wn c (by omega)]
       obtain ⟨t,ids',rows',M',a1,a2⟩:=reduce_loop k0 hn hV hm2 F (c + 1) s ids rows M (by omega) (by omega) (hS.skip hnone) hA hR hP hG hm hlen
       exact ⟨t,ids',rows',M',.none hnone a1,a2⟩
     · have hqlt:q < m:=by omega
       obtain ⟨i,rfl⟩:∃ i,q = s.P.length + i:=⟨q - s.P.length,by omega⟩
       have hfirst:FirstAt c i s:=by
         refine ⟨by omega,fun h0=>?_,fun j hj=>?_⟩
         · exact q4 hqlt (((hR.low i (by omega)).zero c).2 h0)
         · exact ((hR.low j (by omega)).zero c).1 (q3 _ (by omega) (by omega))
       have hc4:=hR.last hS (by omega) hfirst
       have hP3:s.P.length ≤ 3:=by have:=hS.le;omega
       have hd:s.P.length < m:=by omega
       have hG1:=hG.swap (i:=s.P.length) (j:=s.P.length + i) (by omega) (by omega)
       have hids1:(List.set (List.set ids s.P.length (ids.getD (s.P.length + i) 0)) (s.P.length + i) (ids.getD s.P.length 0)).length = m:=by simp [hil]
       have hM1:∀ j,(List.set (List.set M s.P.length (M.getD (s.P.length + i) [])) (s.P.length + i) (M.getD s.P.length [])).getD j [] = if j = s.P.length then M.getD (s.P.length + i) [] else if j = s.P.length + i then M.getD s.P.length [] else M.getD j []:=fun j=>by
         rw [setD _ _ _ _ _ (by simp;omega),setD _ _ _ _ _ (by omega)]
         by_cases e1:j = s.P.length + i
         · rw [if_pos e1]
           by_cases e2:j = s.P.length
           · rw [if_pos e2];have:i = 0:=by omega
             subst this;rfl
           · rw [if_neg e2,if_pos e1]
         · rw [if_neg e1,if_neg e1]
       have hlen1:∀ j,j < m→((List.set (List.set M s.P.length (M.getD (s.P.length + i) [])) (s.P.length + i) (M.getD s.P.length [])).getD j []).length = n:=fun j hj=>by
         rw [hM1]
         split
         · exact hlen _ hqlt
         · split
           · exact hlen _ hd
           · exact hlen j hj
       have hbd1:∀ j,j < m→Bdd (bnd s.P.length) (fv ((List.set (List.set M s.P.length (M.getD (s.P.length + i) [])) (s.P.length + i) (M.getD s.P.length [])).getD j [])):=fun j hj=>by
         rw [hM1]
         split
         · exact hR.bd _ hqlt
         · split
           · exact hR.bd _ hd
           · exact hR.bd j hj
       have hbn:=bnd_le _ hP3
       have hbp:=bnd_pos s.P.length
       obtain ⟨rows2,M2,b1,b2,b3,b4,b5,b6⟩:=rows_loop (fun e57 e58 e59 e60 e61=>(g89xL122f 2000 F k0 (IntKind.wrap .i64 (e57 + 1)) e58 (IntKind.wrap .i64 (e59 + 1)) e60 e61)) hn (m:=m) (c:=c) (by simp [hm]) hm2 hd hlt hlen1 hbp (by omega) hbd1 (by rw [hM1,if_pos rfl];exact q4 hqlt) (n:Int) (c:Int) 2000 0 rows _ (by omega) (by omega) hG1 (by simp [hm]) hlen1 rfl (fun j hj=>by omega) (fun j hj=>rfl)
       have hR2:=PR.take (R1:=fun j=>fv ((List.set (List.set M s.P.length (M.getD (s.P.length + i) [])) (s.P.length + i) (M.getD s.P.length [])).getD j [])) (R2:=fun j=>fv (M2.getD j [])) hS hR (by omega) hfirst (fun j=>by
         rw [hM1]
         split
         · rfl
         · split <;> rfl) (by rw [b4]) (fun j hj hne=>(b5 j hj hne).1) (fun j hj=>by
         by_cases hjd:j = s.P.length
         · subst hjd
           rw [b4]
           intro k
           have:=hbd1 _ hd k
           have hBB:=Int.mul_le_mul_of_nonneg_left hbp (show 0 ≤ bnd s.P.length by omega)
           show -(2 * (bnd s.P.length * bnd s.P.length)) ≤ _∧_ ≤ 2 * (bnd s.P.length * bnd s.P.length)
           omega
         · exact (b5 j hj hjd).2)
       have hPl:(takeS c i s).P.length = s.P.length + 1:=by simp [takeS]
       obtain ⟨t,ids',rows',M',a1,a2,a3,a4,a5,a6,a7,a8,a9⟩:=reduce_loop k0 hn hV hm2 F (c + 1) (takeS c i s) _ rows2 M2 (by omega) (by omega) (hS.take hfirst) (hA.take hn hV hS hfirst) hR2 (by omega) b1 b2 b3
       refine ⟨t,ids',rows',M',.take hfirst a1,a2,a3,a4,a5,a6,a7,a8,?_⟩
       rw [show ieq ((s.P.length + i:Nat):Int) ((m:Nat):Int) = false from decide_eq_false (by omega),cond_false,if_pos (ix hqlt),Int.toNat_natCast,hG.id (by omega)]
       simp only [Option.bind_some]
       rw [if_pos (ix hd),Int.toNat_natCast,hG.id (by omega)]
       simp only [Option.bind_some]
       rw [if_pos (ix hd),hG.get (s.P.length + i) (by omega)]
       simp only [Option.bind_some]
       rw [if_pos hd,if_pos (ix (by simp [hil];omega)),hG.get s.P.length (by omega)]
       simp only [Option.bind_some]
       rw [if_pos (by simp [hil];omega),hids1,if_pos (ix hd),hG1.id (by simp;omega)]
       simp only [Option.bind_some]
       rw [g89xL2005498_eq]
       simp only [Int.natCast_zero] at b6
       refine b6.trans ?_
       rw [wn s.P.length (by omega),wn c (by omega)]
       rw [hPl] at a9
       exact a9
   · have e1:decide ((c:Int) < (n:Int)) = false:=by simp;omega
     have:c = n:=by omega
     subst this
     rw [e1,cond_false]
     exact ⟨s,ids,rows,M,.done _ _,hS,hA,hR,hP,hG,hm,hlen,rfl⟩
theorem reduced89 {n:Nat} (h1:1 ≤ n) (hn:n ≤ 5) {ids:List Nat} {rows:List (Option (List Int))} {M:List (List Int)} (hm:M.length ≤ 1000) (hG:GR ids rows M) (hlen:∀ r ∈ M,r.length = n) (hV:∀ r ∈ M,Rul n (fv r)) :
   ∃ (t:Stg) (M':List (List Int)),Elim 0 n ⟨idM,[],M.map fv⟩ t∧SI n n (M.map fv) t∧AB (M.map fv) t∧PR n t M.length (fun j=>fv (M'.getD j []))∧t.P.length ≤ 4∧M'.length = M.length∧(∀ j,j < M.length→(M'.getD j []).length = n)∧g89x 2000 ids rows = some ((M'.take t.P.length,()),((),(),()),(())):=by
 have hS:=SI.start n (M.map fv)
 have hlen':∀ j,j < M.length→(M.getD j []).length = n:=fun j hj=>hlen _ (getD_mem hj [])
 have hV':∀ v ∈ M.map fv,Rul n v:=fun v hv=>by
   obtain ⟨r,hr,rfl⟩:=List.mem_map.1 hv
   exact hV r hr
 have hR:PR n ⟨idM,[],M.map fv⟩ M.length (fun j=>fv (M.getD j [])):=by
   refine ⟨by simp,fun i hi=>?_,fun j hj=>(by simp at hj),fun j hj=>(hV _ (getD_mem hj [])).s,fun j hj=>(hV _ (getD_mem hj [])).b⟩
   simp only [List.length_map] at hi
   have e:(M.map fv).getD i (fun _=>0) = fv (M.getD i []):=by
     simp only [List.getD_eq_getElem?_getD,List.getElem?_map,List.getElem?_eq_getElem hi,Option.map_some,Option.getD_some]
   simp only [List.length_nil,Nat.zero_add]
   rw [e,app_id hn (hV _ (getD_mem hi []))]
   exact .refl _
 unfold g89x
 have hil:=hG.len
 by_cases hz:M.length = 0
 · have hM:M = []:=List.length_eq_zero_iff.1 hz
   subst hM
   have hi0:ids = []:=List.length_eq_zero_iff.1 hil
   subst hi0
   refine ⟨⟨idM,[],[]⟩,[],?_,?_⟩
   · have:∀ k c,c + k = n→Elim c n ⟨idM,[],[]⟩ ⟨idM,[],[]⟩:=by
       intro k
       induction k with
       | zero=>intro c h;obtain rfl:c = n:=h;exact .done _ _
       | succ k ih=>intro c h;exact .none (fun v hv=>by cases hv) (ih (c + 1) (by omega))
     exact this n 0 (by omega)
   · refine ⟨?_,AB.start [],hR,by simp,rfl,hlen',rfl⟩
     have hsk:∀ k c,c + k = n→SI n c [] ⟨idM,[],[]⟩→SI n n [] ⟨idM,[],[]⟩:=by
       intro k
       induction k with
       | zero=>intro c h hs;obtain rfl:c = n:=h;exact hs
       | succ k ih=>intro c h hs;exact ih (c + 1) (by omega) (hs.skip fun v hv=>by cases hv)
     exact hsk n 0 (by omega) hS
 · rw [show ieq ((List.length ids:Nat):Int) 0 = false from decide_eq_false (by omega),cond_false,if_pos ⟨by omega,by omega⟩,show Int.toNat 0 = 0 from rfl,hG.id (by omega)]
   simp only [Option.bind_some]
   rw [hG.get 0 (by omega)]
   simp only [Option.bind_some]
   rw [hlen' 0 (by omega),g89xL122_eq]
   obtain ⟨t,ids',rows',M',a1,a2,a3,a4,a5,a6,a7,a8,a9⟩:=reduce_loop (fun e62 e63 e64=>if 0 ≤ (0:Int)∧(0:Int) ≤ e62∧(e62:Int) ≤ ((List.length e63:Nat):Int) then Option.bind (gridAll e64 (List.drop (Int.toNat 0) (List.take (Int.toNat e62) e63))) fun r65=>some (((r65,()),((),(),()),(())):(g89xS).R) else none) hn hV' hm 2000 0 ⟨idM,[],M.map fv⟩ ids rows M (by omega) (by omega) hS (AB.start _) hR (by simp) hG rfl hlen'
   refine ⟨t,M',a1,a2,a3,a4,a5,a7,a8,?_⟩
   simp only [List.length_nil,Int.natCast_zero] at a9
   refine a9.trans ?_
   have hl2:=a6.len
   have hPm:=a4.len
   rw [if_pos ⟨by omega,by omega,by omega⟩,Int.toNat_natCast,show Int.toNat 0 = 0 from rfl,List.drop_zero,(a6.take t.P.length).allGR]
   rfl
end Go.Pv
namespace Go.Pv
def chg (n:Nat) (r:List Int):List Int:=dec (dec (inc (inc (List.replicate n 0) (r.getD 0 0).toNat) (r.getD 1 0).toNat) (r.getD 2 0).toNat) (r.getD 3 0).toNat
theorem chg_len (n:Nat) (r:List Int):(chg n r).length = n:=by unfold chg;rw [dec_len,dec_len,inc_len,inc_len,List.length_replicate]
def at1 (p k:Nat):Int:=if k = p then 1 else 0
theorem fv_inc {c:List Int} {i:Nat} (h:i < c.length) (k:Nat):fv (inc c i) k = fv c k + at1 i k:=by
 unfold inc at1
 rw [fv_set _ h]
 split
 · rename_i e;subst e;rfl
 · omega
theorem fv_dec {c:List Int} {i:Nat} (h:i < c.length) (k:Nat):fv (dec c i) k = fv c k - at1 i k:=by
 unfold dec at1
 rw [fv_set _ h]
 split
 · rename_i e;subst e;rfl
 · omega
theorem fv_rep (n k:Nat):fv (List.replicate n 0) k = 0:=by
 unfold fv
 rw [List.getD_eq_getElem?_getD,List.getElem?_replicate]
 split <;> rfl
theorem fv_chg {n p q s t:Nat} (hp:p < n) (hq:q < n) (hs:s < n) (ht:t < n) (k:Nat):fv (chg n [(p:Int),(q:Int),(s:Int),(t:Int)]) k = at1 p k + at1 q k - at1 s k - at1 t k:=by
 unfold chg
 simp only [List.getD_cons_zero,List.getD_cons_succ,Int.toNat_natCast]
 rw [fv_dec (by rw [dec_len,inc_len,inc_len,List.length_replicate];exact ht),fv_dec (by rw [inc_len,inc_len,List.length_replicate];exact hs),fv_inc (by rw [inc_len,List.length_replicate];exact hq),fv_inc (by rw [List.length_replicate];exact hp),fv_rep]
 omega
theorem fv_step {c:List Int} {p q s t:Nat} (hp:p < c.length) (hq:q < c.length) (hs:s < c.length) (ht:t < c.length) (k:Nat):fv (stepR [(p:Int),(q:Int),(s:Int),(t:Int)] c) k = fv c k - at1 p k - at1 q k + at1 s k + at1 t k:=by
 unfold stepR stepL
 simp only [List.getD_cons_zero,List.getD_cons_succ,Int.toNat_natCast]
 rw [fv_inc (by rw [inc_len,dec_len,dec_len];exact ht),fv_inc (by rw [dec_len,dec_len];exact hs),fv_dec (by rw [dec_len];exact hq),fv_dec hp]
theorem at1_sum {p:Nat} (hp:p < 5):at1 p 0 + at1 p 1 + at1 p 2 + at1 p 3 + at1 p 4 = 1:=by
 unfold at1
 have:p = 0 ∨ p = 1 ∨ p = 2 ∨ p = 3 ∨ p = 4:=by omega
 rcases this with rfl | rfl | rfl | rfl | rfl <;> decide
theorem at1_bd (p k:Nat):0 ≤ at1 p k∧at1 p k ≤ 1:=by unfold at1;split <;> omega
theorem rul_chg {n:Nat} (hn:n ≤ 5) {r:List Int} (h:RuleOk (n:Int) r):Rul n (fv (chg n r)):=by
 obtain ⟨p,q,s,t,rfl,hp,hq,hs,ht⟩:=rule_nat h
 have hp:p < n:=by omega
 have hq:q < n:=by omega
 have hs:s < n:=by omega
 have ht:t < n:=by omega
 have e:=fv_chg hp hq hs ht
 have sp:=at1_sum (p:=p) (by omega)
 have sq:=at1_sum (p:=q) (by omega)
 have ss:=at1_sum (p:=s) (by omega)
 have st:=at1_sum (p:=t) (by omega)
 refine ⟨fun k=>?_,?_,?_,fun k hk=>fv_ge (chg_len _ _) hk⟩
 · rw [e]
   have:=at1_bd p k
   have:=at1_bd q k
   have:=at1_bd s k
   have:=at1_bd t k
   omega
 · rw [e,e,e,e,e]
   have b:∀ k,(at1 p k + at1 q k - at1 s k - at1 t k).natAbs ≤ (at1 p k + at1 q k + at1 s k + at1 t k).toNat:=fun k=>by
     have:=at1_bd p k
     have:=at1_bd q k
     have:=at1_bd s k
     have:=at1_bd t k
     omega
   have c:∀ k,((at1 p k + at1 q k + at1 s k + at1 t k).toNat:Int) = at1 p k + at1 q k + at1 s k + at1 t k:=fun k=>by
     have:=at1_bd p k
     have:=at1_bd q k
     have:=at1_bd s k
     have:=at1_bd t k
     omega
   have b0:=b 0
   have b1:=b 1
   have b2:=b 2
   have b3:=b 3
   have b4:=b 4
   have c0:=c 0
   have c1:=c 1
   have c2:=c 2
   have c3:=c 3
   have c4:=c 4
   omega
 · unfold sum5
   rw [e,e,e,e,e]
   omega
theorem mkOk_n {n:Nat} (h:n ≤ 5):mkOk (n:Int) (n:Int):=⟨by omega,by omega,by omega⟩
def chgs (x:PP):List (List Int):=x.2.2.2.1.map (chg x.1.toNat)
theorem take_succ {α:Type} (l:List α) (i:Nat) (d:α) (h:i < l.length):l.take (i + 1) = l.take i ++ [l.getD i d]:=by
 rw [List.take_add_one,List.getD_eq_getElem?_getD,List.getElem?_eq_getElem h];rfl
theorem rows67 {C:Type} (k0:PP→List Nat→List (Option (List Int))→Option C) {x:PP} (hx:PT x) :
   ∀ (F i:Nat) (ids:List Nat) (rows:List (Option (List Int))),x.2.2.2.1.length - i < F→i ≤ x.2.2.2.1.length→GR ids rows ((x.2.2.2.1.take i).map (chg x.1.toNat))→∃ ids' rows',GR ids' rows' (chgs x)∧g67L58f 2000 F k0 x.2.2.2.1 (x.2.2.2.1.length:Int) (i:Int) x ids rows = k0 x ids' rows'
 | 0,i,ids,rows,h,_,_=>by omega
 | F + 1,i,ids,rows,h,hi,hG=>by
   rw [g67L58f_succ]
   unfold g67L58B
   have hr15:=hx.rules.1
   obtain ⟨hn1,hn2⟩:=hx.n
   obtain ⟨n,hn⟩:∃ n:Nat,x.1 = (n:Int):=⟨x.1.toNat,by omega⟩
   have hn5:n ≤ 5:=by omega
   by_cases hlt:i < x.2.2.2.1.length
   · have e1:decide ((i:Int) < (x.2.2.2.1.length:Int)) = true:=by simp;omega
     have hro:=hx.rules.2.1 _ (getD_mem hlt (List.replicate 4 0))
     have hil:=hG.len
     rw [List.length_map,List.length_take] at hil
     have hadd:=hG.snoc (chg x.1.toNat (x.2.2.2.1.getD i (List.replicate 4 0)))
     have et:((x.2.2.2.1.take (i + 1)).map (chg x.1.toNat)) = ((x.2.2.2.1.take i).map (chg x.1.toNat)) ++ [chg x.1.toNat (x.2.2.2.1.getD i (List.replicate 4 0))]:=by
       rw [take_succ _ _ (List.replicate 4 0) hlt,List.map_append];rfl
     rw [← et] at hadd
     rw [e1,cond_true,if_pos (ix hlt),Int.toNat_natCast]
     generalize x.2.2.2.1.getD i (List.replicate 4 0) = r at hro hadd
     obtain ⟨p,q,s,t,rfl,hp,hq,hs,ht⟩:=rule_nat hro
     rw [hn] at hp hq hs ht
     have hp:p < n:=by omega
     have hq:q < n:=by omega
     have hs:s < n:=by omega
     have ht:t < n:=by omega
     have h0:idx 0 4:=by decide
     have h1:idx 1 4:=by decide
     have h2:idx 2 4:=by decide
     have h3:idx 3 4:=by decide
     have hb:Bd 0 (List.replicate n 0):=fun j=>by
       have:=fv_rep n j
       unfold fv at this
       omega
     have w1:=winc hb (by omega) p
     have w2:=winc (hb.inc p) (by omega) q
     have w3:=wdec ((hb.inc p).inc q) (by omega) s
     have w4:=wdec (((hb.inc p).inc q).dec s) (by omega) t
     have sh:shiftIds rows.length [0] = [rows.length]:=rfl
     have hmx:ids.length + List.length ([0]:List Nat) ≤ maxCount:=by simp [maxCount];omega
     have ec:chg n [(p:Int),(q:Int),(s:Int),(t:Int)] = dec (dec (inc (inc (List.replicate n 0) p) q) s) t:=rfl
     rw [hn,Int.toNat_natCast] at hadd
     rw [ec] at hadd
     simp only [hn,Int.toNat_natCast,if_pos (mkOk_n hn5),show Int.toNat 0 = 0 from rfl,show Int.toNat 1 = 1 from rfl,show Int.toNat 2 = 2 from rfl,show Int.toNat 3 = 3 from rfl,List.getD_cons_zero,List.getD_cons_succ,if_pos h0,if_pos h1,if_pos h2,if_pos h3,List.length_replicate,if_pos (ix hp),if_pos hp,w1,inc_len,if_pos (ix hq),if_pos hq,w2,if_pos (ix hs),if_pos hs,w3,dec_len,if_pos (ix ht),if_pos ht,w4,if_pos hmx,sh,wn i (by omega)]
     have hn':x.1.toNat = n:=by omega
     rw [← hn'] at hadd
     obtain ⟨ids',rows',a1,a2⟩:=rows67 k0 hx F (i + 1) _ _ (by omega) (by omega) hadd
     rw [hn'] at a2
     exact ⟨ids',rows',a1,a2⟩
   · have e1:decide ((i:Int) < (x.2.2.2.1.length:Int)) = false:=by simp;omega
     rw [e1,cond_false]
     rw [List.take_of_length_le (by omega)] at hG
     exact ⟨ids,rows,hG,rfl⟩
end Go.Pv
