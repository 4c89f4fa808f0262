/- Plain texts, merged: PlA, PlB, PlM, PlP, PlS, PlT, PlU, PlV, PlW, PlC, PlX, PlY, PlB96, PlD, PlEv, PlAt0. -/
import Derived.Test.YtcfhdpbebiibjaaDoorPvL05
import Derived.Test.YtcfhdpbebiibjaaDoorPlF
set_option linter.unusedSectionVars false
/- Seat 05, plain: what the functions compute: lists in ranges, copies, machines that are tame, the check, the numbers of a sequence. -/
set_option linter.unusedVariables false
set_option linter.unusedSimpArgs false
namespace Go.Pv
abbrev MM:=Int×List Int×List (List Int)×Unit
theorem w64 {x:Int} (h1:-9223372036854775808 ≤ x) (h2:x < 9223372036854775808):IntKind.wrap .i64 x = x:=by rw [IntKind.wrap_i64];omega
theorem wu64 (x:Int):IntKind.wrap .u64 x = x % 18446744073709551616:=by rw [IntKind.wrap_u64]
theorem low {x m:Int} (hm:0 < m) (hm2:m < 1000000):∃ r:Int,IntKind.wrap .i64 (Int.tmod (IntKind.wrap .u64 x) m) = r∧0 ≤ r∧r < m:=by
 refine ⟨(x % 18446744073709551616) % m,?_,Int.emod_nonneg _ (by omega),Int.emod_lt_of_pos _ hm⟩
 rw [wu64,Int.tmod_eq_emod_of_nonneg (Int.emod_nonneg _ (by decide))]
 have h1:=Int.emod_nonneg (x % 18446744073709551616) (show m ≠ 0 by omega)
 have h2:=Int.emod_lt_of_pos (x % 18446744073709551616) hm
 exact w64 (by omega) (by omega)
theorem getD_mem {α:Type} {l:List α} {i:Nat} (h:i < l.length) (d:α):l.getD i d ∈ l:=by
 rw [List.getD_eq_getElem?_getD,List.getElem?_eq_getElem h];simp
theorem getD_drop (l:List Int) (i:Nat) (h:i < l.length):l.drop i = l.getD i 0 :: l.drop (i + 1):=by
 rw [List.drop_eq_getElem_cons h];simp [h]
theorem any_loop (N:Nat) {C:Type} (k0:Int→Option C) (k1:Option C) (l:List Int) (f:(Int×Unit)→Option Bool) (p:Int→Bool) (hf:∀ x,f (x,()) = some (p x)) (hl:l.length < 4611686018427387904) :
   ∀ (F i:Nat),l.length - i < F→i ≤ l.length→((l.drop i).any p = true∧∃ j:Nat,g100L26f N F k0 k1 l f (l.length:Int) (i:Int) = k0 j) ∨ ((l.drop i).any p = false∧g100L26f N F k0 k1 l f (l.length:Int) (i:Int) = k1)
 | 0,i,h,_=>by omega
 | F + 1,i,h,hi=>by
   rw [g100L26f_succ]
   unfold g100L26B
   by_cases hlt:i < l.length
   · have e1:decide ((i:Int) < (l.length:Int)) = true:=by simp;omega
     have e2:idx (i:Int) l.length:=⟨by omega,by omega⟩
     rw [e1,cond_true,if_pos e2,Int.toNat_natCast,hf]
     simp only [Option.bind_some]
     rw [getD_drop l i hlt,List.any_cons]
     cases hp:p (l.getD i 0) with
     | true=>exact .inl ⟨by simp,i,rfl⟩
     | false =>
       simp only [cond_false,Bool.false_or]
       have e3:IntKind.wrap .i64 ((i:Int) + 1) = ((i + 1:Nat):Int):=by rw [w64 (by omega) (by omega)];simp
       rw [e3]
       exact any_loop N k0 k1 l f p hf hl F (i + 1) (by omega) (by omega)
   · have e1:decide ((i:Int) < (l.length:Int)) = false:=by simp;omega
     rw [e1,cond_false,List.drop_eq_nil_of_le (by omega)]
     exact .inr ⟨rfl,rfl⟩
theorem are_eq (N:Nat) (lo hi:Int) (l:List Int) (hN:l.length < N) (hl:l.length < 4611686018427387904):g57 N lo hi l = some (l.all fun x=>decide (lo ≤ x) && decide (x ≤ hi)):=by
 unfold g57 g89 g100
 rw [g100L26_eq]
 have:=any_loop N (fun e2=>some e2) (some (-1)) l (fun (x1:(Int)×(Unit))=>Option.bind (g90 N x1.1 lo hi) fun y2=>some y2) (fun x=>decide (x < lo) || decide (hi < x))
   (fun x=>by
     simp only [g90]
     cases h:decide (x < lo) <;> simp) hl N 0 (by omega) (by omega)
 simp only [Int.natCast_zero,List.drop_zero] at this
 have hx:(l.all fun x=>decide (lo ≤ x) && decide (x ≤ hi)) = !(l.any fun x=>decide (x < lo) || decide (hi < x)):=by
   rw [List.not_any_eq_all_not]
   congr 1
   funext x
   by_cases h1:x < lo <;> by_cases h2:hi < x <;> simp [h1,h2] <;> omega
 rcases this with ⟨h1,j,h2⟩ | ⟨h1,h2⟩
 · rw [h2,hx,h1]
   simp
 · rw [h2,hx,h1]
   simp
theorem few_eq (N:Nat) (l:List Int) (k:Int) (h:(l.length:Int) ≤ k) (h2:l.length ≤ 1000):g17 N l k = some l:=by
 have e:imin (l.length:Int) k = l.length:=by simp only [imin];split <;> omega
 unfold g17
 rw [e,if_pos ⟨by omega,by omega,by omega⟩]
 simp [maxCount]
 omega
theorem copy_loop (N:Nat) {C:Type} (k0:MM→Int→Int→List Int→List Int→List (List Int)→List (List Int)→Option C) (x:MM) (a b:Int) (c d:List Int) (e:List (List Int)) (hn:x.2.2.1.length ≤ 13) (hr:∀ r ∈ x.2.2.1,r.length ≤ 26) :
   ∀ (F i:Nat),x.2.2.1.length - i < F→i ≤ x.2.2.1.length→g27L58f N F k0 (i:Int) x a b c d e (x.2.2.1.take i) = k0 x a b c d e x.2.2.1
 | 0,i,h,_=>by omega
 | F + 1,i,h,hi=>by
   rw [g27L58f_succ]
   unfold g27L58B
   by_cases hlt:i < x.2.2.1.length
   · have e1:decide ((i:Int) < (x.2.2.1.length:Int)) = true:=by simp;omega
     have e2:decide ((i:Int) ≤ 12) = true:=by simp;omega
     have e3:idx (i:Int) x.2.2.1.length:=⟨by omega,by omega⟩
     have e4:IntKind.wrap .i64 ((i:Int) + 1) = ((i + 1:Nat):Int):=by rw [w64 (by omega) (by omega)];simp
     have hm:x.2.2.1.getD i [] ∈ x.2.2.1:=by simp [hlt]
     have:=hr _ hm
     rw [e1,e2,cond_true,cond_true,if_pos e3,Int.toNat_natCast,few_eq N _ 26 (by omega) (by omega)]
     simp only [Option.bind_some]
     rw [if_pos (by simp [maxCount];omega),e4]
     have:x.2.2.1.take i ++ [x.2.2.1.getD i []] = x.2.2.1.take (i + 1):=by
       rw [List.take_add_one];simp [hlt]
     rw [this]
     exact copy_loop N k0 x a b c d e hn hr F (i + 1) (by omega) (by omega)
   · have e1:decide ((i:Int) < (x.2.2.1.length:Int)) = false:=by simp;omega
     rw [e1,cond_false,List.take_of_length_le (by omega)]
theorem given_eq (N:Nat) (x:MM) (hN:13 < N) (ho:x.2.1.length ≤ 13) (hn:x.2.2.1.length ≤ 13) (hr:∀ r ∈ x.2.2.1,r.length ≤ 26):g27 N x = some x:=by
 unfold g27
 rw [few_eq N _ 13 (by omega) (by omega)]
 simp only [Option.bind_some]
 rw [g27L58_eq]
 have:=copy_loop N (fun e3 e4 e5 e6 e7 e8 e9=>some (e5,e6,e9,())) x 0 x.1 x.2.1 [] [] hn hr N 0 (by omega) (by omega)
 simp only [Int.natCast_zero,List.take_zero] at this
 rw [this]
structure Tame (x:MM):Prop where
 base:2 ≤ x.1∧x.1 ≤ 5
 many:1 ≤ x.2.1.length∧x.2.1.length ≤ 12
 out:∀ o ∈ x.2.1,0 ≤ o∧o ≤ 9
 next:x.2.2.1.length = x.2.1.length
 row:∀ r ∈ x.2.2.1,(r.length:Int) = x.1∧∀ t ∈ r,0 ≤ t∧t < (x.2.1.length:Int)
 zero:∀ s,s < x.2.1.length→x.2.1.getD ((x.2.2.1.getD s []).getD 0 0).toNat 0 = x.2.1.getD s 0
theorem Tame.rowAt {x:MM} (h:Tame x) {s:Nat} (hs:s < x.2.1.length):((x.2.2.1.getD s []).length:Int) = x.1∧∀ j:Nat,(j:Int) < x.1→0 ≤ (x.2.2.1.getD s []).getD j 0∧(x.2.2.1.getD s []).getD j 0 < (x.2.1.length:Int):=by
 have hm:x.2.2.1.getD s [] ∈ x.2.2.1:=by simp [h.next,hs]
 obtain ⟨h1,h2⟩:=h.row _ hm
 refine ⟨h1,fun j hj=>h2 _ ?_⟩
 have:j < (x.2.2.1.getD s []).length:=by omega
 exact getD_mem this 0
theorem at_total {x:MM} (h:Tame x):∀ (F:Nat) (n s:Int),0 ≤ s→s < (x.2.1.length:Int)→n < 2 ^ F→0 ≤ n→F ≤ 63→∃ sf,atP x.2.2.1 x.1 (F + 1) n s = some sf∧0 ≤ sf∧sf < (x.2.1.length:Int)
 | 0,n,s,h1,h2,h3,h4,_=>by
   refine ⟨s,?_,h1,h2⟩
   simp only [atP]
   rw [if_neg (by simp at h3;omega)]
 | F + 1,n,s,h1,h2,h3,h4,hF=>by
   rw [atP]
   by_cases hn:0 < n
   · rw [if_pos hn]
     obtain ⟨hb1,hb2⟩:=h.base
     have hs:s.toNat < x.2.1.length:=by omega
     obtain ⟨r1,r2⟩:=h.rowAt hs
     have hmod:Int.tmod n x.1 = n % x.1:=Int.tmod_eq_emod_of_nonneg h4
     have m1:=Int.emod_nonneg n (show x.1 ≠ 0 by omega)
     have m2:=Int.emod_lt_of_pos n (show 0 < x.1 by omega)
     have e1:atStep x.2.2.1 x.1 n s = some ((x.2.2.1.getD s.toNat []).getD (n % x.1).toNat 0):=by
       unfold atStep
       rw [if_neg (by omega),if_pos ⟨h1,by rw [h.next];exact h2⟩,hmod,if_pos ⟨m1,by omega⟩]
     rw [e1]
     simp only
     obtain ⟨t1,t2⟩:=r2 (n % x.1).toNat (by omega)
     have hdiv:Int.tdiv n x.1 = n / x.1:=Int.tdiv_eq_ediv_of_nonneg h4
     have d1:0 ≤ n / x.1:=Int.ediv_nonneg h4 (by omega)
     have d2:n / x.1 ≤ n / 2:=by
       have q1:=Int.mul_ediv_add_emod n x.1
       have q2:2 * (n / x.1) ≤ x.1 * (n / x.1):=Int.mul_le_mul_of_nonneg_right hb1 d1
       omega
     have hp:(2:Int) ^ (F + 1) = 2 * 2 ^ F:=by rw [Int.pow_succ];omega
     have d3:n / 2 < 2 ^ F:=by omega
     have hp2:(2:Int) ^ F ≤ 4611686018427387904:=by
       have h1:(2:Nat) ^ F ≤ 2 ^ 62:=Nat.pow_le_pow_right (by omega) (by omega)
       have h2:((2 ^ F:Nat):Int) ≤ ((2 ^ 62:Nat):Int):=Int.ofNat_le.2 h1
       simpa using h2
     have hw:IntKind.wrap .i64 (Int.tdiv n x.1) = n / x.1:=by
       rw [hdiv]
       exact w64 (by omega) (by omega)
     rw [hw]
     exact at_total h F _ _ t1 t2 (by omega) d1 (by omega)
   · exact ⟨s,by rw [if_neg hn],h1,h2⟩
theorem atP_more (nx:List (List Int)) (b:Int):∀ (F k:Nat) (n s sf:Int),atP nx b F n s = some sf→atP nx b (F + k) n s = some sf
 | 0,k,n,s,sf,h=>by simp [atP] at h
 | F + 1,k,n,s,sf,h=>by
   rw [show F + 1 + k = (F + k) + 1 by omega]
   simp only [atP] at h ⊢
   by_cases hn:0 < n
   · rw [if_pos hn] at h ⊢
     cases hs:atStep nx b n s with
     | none=>rw [hs] at h;simp at h
     | some s'=>rw [hs] at h;exact atP_more nx b F k _ _ _ h
   · rw [if_neg hn] at h ⊢;exact h
@[simp] theorem ieq_self (x:Int):ieq x x = true:=by simp only [ieq,decide_true]
end Go.Pv
namespace Go.Pv
theorem wn (i:Nat) (h:i < 1000000):IntKind.wrap .i64 ((i:Int) + 1) = ((i + 1:Nat):Int):=by rw [w64 (by omega) (by omega)];simp
theorem Tame.check_loop {x:MM} (h:Tame x) (N:Nat) (hN:20 < N) {C:Type} (k0:Int→MM→Option C) (k1:MM→Option C) :
   ∀ (F i:Nat),x.2.1.length - i < F→i ≤ x.2.1.length→g56L122f N F k0 k1 (x.2.1.length:Int) x.2.2.1 (x.2.1.length:Int) (i:Int) x = k1 x
 | 0,i,hF,_=>by omega
 | F + 1,i,hF,hi=>by
   rw [g56L122f_succ]
   unfold g56L122B
   obtain ⟨hm1,hm2⟩:=h.many
   by_cases hlt:i < x.2.1.length
   · obtain ⟨hb1,hb2⟩:=h.base
     obtain ⟨r1,r2⟩:=h.rowAt hlt
     have hrl:(x.2.2.1.getD i []).length ≤ 5:=by omega
     have e1:decide ((i:Int) < (x.2.1.length:Int)) = true:=by simp;omega
     have e2:idx (i:Int) x.2.2.1.length:=⟨by omega,by rw [h.next];omega⟩
     have e3:idx (i:Int) x.2.1.length:=⟨by omega,by omega⟩
     have e4:ieq (((x.2.2.1.getD i []).length:Nat):Int) x.1 = true:=by simp only [ieq,decide_eq_true_eq];exact r1
     obtain ⟨t1,t2⟩:=r2 0 (by omega)
     have e5:g57 N 0 (IntKind.wrap .i64 ((x.2.1.length:Int) - 1)) (x.2.2.1.getD i []) = some true:=by
       rw [are_eq N _ _ _ (by omega) (by omega),w64 (by omega) (by omega)]
       congr 1
       rw [List.all_eq_true]
       intro t ht
       have hm:x.2.2.1.getD i [] ∈ x.2.2.1:=getD_mem (by rw [h.next];exact hlt) []
       obtain ⟨a1,a2⟩:=(h.row _ hm).2 t ht
       simp;omega
     have e6:ieq (x.2.1.getD ((x.2.2.1.getD i []).getD 0 0).toNat 0) (x.2.1.getD i 0) = true:=by simp only [ieq,decide_eq_true_eq];exact h.zero i hlt
     rw [e1,cond_true,if_pos e2,Int.toNat_natCast,e4,Bool.not_true,cond_false,e5]
     simp only [Option.bind_some,Bool.not_true,cond_false]
     rw [if_pos ⟨by omega,by omega⟩]
     simp only [show Int.toNat 0 = 0 from rfl]
     rw [if_pos ⟨t1,t2⟩,if_pos e3,e6,Bool.not_true,cond_false,wn i (by omega)]
     exact h.check_loop N hN k0 k1 F (i + 1) (by omega) (by omega)
   · have e1:decide ((i:Int) < (x.2.1.length:Int)) = false:=by simp;omega
     rw [e1,cond_false]
theorem Tame.check {x:MM} (h:Tame x) (N:Nat) (hN:20 < N):g56 N x = some 0:=by
 obtain ⟨hm1,hm2⟩:=h.many
 obtain ⟨hb1,hb2⟩:=h.base
 unfold g56
 have e1:g57 N 2 5 [x.1] = some true:=by
   rw [are_eq N _ _ _ (by simp;omega) (by simp)];simp;omega
 have e2:g57 N 1 12 [((List.length x.2.1:Nat):Int)] = some true:=by
   rw [are_eq N _ _ _ (by simp;omega) (by simp)];simp;omega
 have e3:ieq ((List.length x.2.2.1:Nat):Int) ((List.length x.2.1:Nat):Int) = true:=by simp [h.next]
 have e4:g57 N 0 9 x.2.1 = some true:=by
   rw [are_eq N _ _ _ (by omega) (by omega)]
   congr 1
   rw [List.all_eq_true]
   intro t ht
   obtain ⟨a1,a2⟩:=h.out t ht
   simp;omega
 rw [e1];simp only [Option.bind_some,Bool.not_true,cond_false]
 rw [e2];simp only [Option.bind_some,Bool.not_true,cond_false]
 rw [e3];simp only [Bool.not_true,cond_false]
 rw [e4];simp only [Option.bind_some,Bool.not_true,cond_false]
 rw [g56L122_eq,h.next]
 exact h.check_loop N hN _ _ N 0 (by omega) (by omega)
theorem Tame.given {x:MM} (h:Tame x) (N:Nat) (hN:20 < N):g27 N x = some x:=by
 obtain ⟨hm1,hm2⟩:=h.many
 refine given_eq N x (by omega) (by omega) (by rw [h.next];omega) fun r hr=>?_
 have:=(h.row r hr).1
 have:=h.base.2
 omega
theorem base_eq (N:Nat) (k:Int):∃ r,g22 N k = some r∧2 ≤ r∧r ≤ 5:=by
 obtain ⟨r,e,h1,h2⟩:=low (x:=k) (m:=4) (by omega) (by omega)
 refine ⟨2 + r,?_,by omega,by omega⟩
 unfold g22
 rw [e,w64 (by omega) (by omega)]
theorem outs_loop (N:Nat) {C:Type} (k0:Int→Int→MM→Int→Int→List Int→List (List Int)→List Int→List (List Int)→Option C) (b:Int) (n:Nat) (hn:n ≤ 12) (a:MM) (p q:Int) (l1:List Int) (l2 l3:List (List Int)) :
   ∀ (F i:Nat) (outs:List Int),n - i < F→i ≤ n→outs.length = i→(∀ o ∈ outs,0 ≤ o∧o ≤ 9) →
     ∃ outs':List Int,outs'.length = n∧(∀ o ∈ outs',0 ≤ o∧o ≤ 9)∧g25L122f N F k0 b (n:Int) (i:Int) a p q l1 l2 outs l3 = k0 b (n:Int) a p q l1 l2 outs' l3
 | 0,i,outs,hF,_,_,_=>by omega
 | F + 1,i,outs,hF,hi,hl,ho=>by
   rw [g25L122f_succ]
   unfold g25L122B
   by_cases hlt:i < n
   · have e1:decide ((i:Int) < (n:Int)) = true:=by simp;omega
     rw [e1,cond_true,wn i (by omega)]
     by_cases hla:i < a.2.1.length
     · have e2:decide ((i:Int) < ((List.length a.2.1:Nat):Int)) = true:=by simp;omega
       have e3:idx (i:Int) a.2.1.length:=⟨by omega,by omega⟩
       obtain ⟨r,e4,r1,r2⟩:=low (x:=a.2.1.getD i 0) (m:=10) (by omega) (by omega)
       rw [e2,cond_true,if_pos e3,Int.toNat_natCast,e4,if_pos (by simp [maxCount];omega)]
       exact outs_loop N k0 b n hn a p q l1 l2 l3 F (i + 1) _ (by omega) (by omega) (by simp [hl]) (fun o h=>by
         rcases List.mem_append.1 h with h | h
         · exact ho o h
         · simp at h;omega)
     · have e2:decide ((i:Int) < ((List.length a.2.1:Nat):Int)) = false:=by simp;omega
       rw [e2,cond_false,if_pos (by simp [maxCount];omega)]
       exact outs_loop N k0 b n hn a p q l1 l2 l3 F (i + 1) _ (by omega) (by omega) (by simp [hl]) (fun o h=>by
         rcases List.mem_append.1 h with h | h
         · exact ho o h
         · simp at h;omega)
   · have e1:decide ((i:Int) < (n:Int)) = false:=by simp;omega
     rw [e1,cond_false]
     exact ⟨outs,by omega,ho,rfl⟩
structure RowP (b:Int) (n:Nat) (outs:List Int) (s:Nat) (row:List Int):Prop where
 rng:∀ t ∈ row,0 ≤ t∧t < (n:Int)
 zero:row ≠ []→outs.getD (row.getD 0 0).toNat 0 = outs.getD s 0
theorem RowP.push {b:Int} {n:Nat} {outs:List Int} {s:Nat} {row:List Int} (h:RowP b n outs s row) {t:Int} (h1:0 ≤ t) (h2:t < (n:Int)) (h3:row = []→outs.getD t.toNat 0 = outs.getD s 0):RowP b n outs s (row ++ [t]):=by
 refine ⟨fun u hu=>?_,fun _=>?_⟩
 · rcases List.mem_append.1 hu with hu | hu
   · exact h.rng u hu
   · simp at hu;omega
 · cases row with
   | nil=>simpa using h3 rfl
   | cons a r=>simpa using h.zero (by simp)
theorem row_loop (N:Nat) {C:Type} (k0:Int→Int→Int→MM→Int→Int→List Int→List Int→List (List Int)→List Int→List (List Int)→Option C) (b:Nat) (hb:b ≤ 5) (n:Nat) (hn0:0 < n) (hn:n ≤ 12) (s:Nat) (hs:s < n) (a:MM) (p q:Int)
   (l1:List Int) (l2:List (List Int)) (outs:List Int) (l3:List (List Int)) (ho:outs.length = n) :
   ∀ (F r:Nat) (row:List Int),b - r < F→r ≤ b→row.length = r→RowP b n outs s row →
     ∃ row':List Int,row'.length = b∧RowP b n outs s row'∧g25L64074f N F k0 (b:Int) (n:Int) (s:Int) (r:Int) a p q row l1 l2 outs l3 = k0 (b:Int) (n:Int) (s:Int) a p q row' l1 l2 outs l3
 | 0,r,row,hF,_,_,_=>by omega
 | F + 1,r,row,hF,hr,hl,hrow=>by
   rw [g25L64074f_succ]
   unfold g25L64074B
   have ih:=row_loop N k0 b hb n hn0 hn s hs a p q l1 l2 outs l3 ho F (r + 1)
   by_cases hlt:r < b
   · have e1:decide ((r:Int) < (b:Int)) = true:=by simp;omega
     have eu:IntKind.wrap .u64 (n:Int) = (n:Int):=by rw [wu64];omega
     have enz:¬ ((n:Int) = 0):=by omega
     have es:idx (s:Int) outs.length:=⟨by omega,by omega⟩
     have es2:s < outs.length:=by omega
     rw [e1,cond_true,wn r (by omega),eu]
     have rec_s:∃ row':List Int,row'.length = b∧RowP b n outs s row'∧g25L64074f N F k0 (b:Int) (n:Int) (s:Int) ((r + 1:Nat):Int) a p q (row ++ [(s:Int)]) l1 l2 outs l3 = k0 (b:Int) (n:Int) (s:Int) a p q row' l1 l2 outs l3 :=
       ih _ (by omega) (by omega) (by simp [hl]) (hrow.push (by omega) (by omega) (fun _=>by simp))
     have room:∀ t:Int,row.length + [t].length ≤ maxCount:=fun t=>by simp [maxCount];omega
     by_cases h1:s < a.2.2.1.length
     · have e2:decide ((s:Int) < ((List.length a.2.2.1:Nat):Int)) = true:=by simp;omega
       have e3:idx (s:Int) a.2.2.1.length:=⟨by omega,by omega⟩
       rw [e2,cond_true,if_pos e3,Int.toNat_natCast]
       by_cases h2:r < (a.2.2.1.getD s []).length
       · have e4:decide ((r:Int) < ((List.length (a.2.2.1.getD s []):Nat):Int)) = true:=by simp at h2 ⊢;omega
         have e5:idx (r:Int) (a.2.2.1.getD s []).length:=⟨by omega,by omega⟩
         obtain ⟨t,et,t1,t2⟩:=low (x:=(a.2.2.1.getD s []).getD r 0) (m:=(n:Int)) (by omega) (by omega)
         rw [e4,cond_true,if_pos e3,if_pos e5,if_neg enz,Int.toNat_natCast,et]
         by_cases h3:r = 0
         · have e6:ieq (r:Int) 0 = true:=by simp [h3]
           have e7:idx t outs.length:=⟨t1,by omega⟩
           have e8:t.toNat < outs.length:=by omega
           rw [e6,cond_true,if_pos e7,if_pos e8,if_pos es,if_pos es2]
           by_cases h4:outs.getD t.toNat 0 = outs.getD s 0
           · have e9:ieq (outs.getD t.toNat 0) (outs.getD s 0) = true:=by simp only [ieq,decide_eq_true_eq];exact h4
             rw [e9,Bool.not_true,cond_false,if_pos (room t)]
             exact ih _ (by omega) (by omega) (by simp [hl]) (hrow.push t1 t2 (fun _=>h4))
           · have e9:ieq (outs.getD t.toNat 0) (outs.getD s 0) = false:=by simp only [ieq,decide_eq_false_iff_not];exact h4
             rw [e9,Bool.not_false,cond_true,if_pos (room _)]
             exact rec_s
         · have e6:ieq (r:Int) 0 = false:=by simp only [ieq,decide_eq_false_iff_not];omega
           rw [e6,cond_false,if_pos (room t)]
           refine ih _ (by omega) (by omega) (by simp [hl]) (hrow.push t1 t2 (fun h=>?_))
           subst h;simp at hl;omega
       · have e4:decide ((r:Int) < ((List.length (a.2.2.1.getD s []):Nat):Int)) = false:=by simp at h2 ⊢;omega
         rw [e4,cond_false]
         by_cases h3:r = 0
         · have e6:ieq (r:Int) 0 = true:=by simp [h3]
           have e9:ieq (outs.getD s 0) (outs.getD s 0) = true:=by simp
           rw [e6,cond_true,if_pos es,if_pos es2,if_pos es,if_pos es2,e9,Bool.not_true,cond_false,if_pos (room _)]
           exact rec_s
         · have e6:ieq (r:Int) 0 = false:=by simp only [ieq,decide_eq_false_iff_not];omega
           rw [e6,cond_false,if_pos (room _)]
           exact rec_s
     · have e2:decide ((s:Int) < ((List.length a.2.2.1:Nat):Int)) = false:=by simp;omega
       rw [e2,cond_false]
       by_cases h3:r = 0
       · have e6:ieq (r:Int) 0 = true:=by simp [h3]
         have e9:ieq (outs.getD s 0) (outs.getD s 0) = true:=by simp
         rw [e6,cond_true,Int.toNat_natCast,if_pos es,if_pos es2,if_pos es,if_pos es2,e9,Bool.not_true,cond_false,if_pos (room _)]
         exact rec_s
       · have e6:ieq (r:Int) 0 = false:=by simp only [ieq,decide_eq_false_iff_not];omega
         rw [e6,cond_false,if_pos (room _)]
         exact rec_s
   · have e1:decide ((r:Int) < (b:Int)) = false:=by simp;omega
     rw [e1,cond_false]
     exact ⟨row,by omega,hrow,rfl⟩
theorem rows_loop (N:Nat) (hN:20 < N) {C:Type} (k0:MM→Int→Int→List Int→List (List Int)→List Int→List (List Int)→Option C) (b:Nat) (hb:b ≤ 5) (n:Nat) (hn0:0 < n) (hn:n ≤ 12) (a:MM) (p q:Int) (l1:List Int) (l2:List (List Int)) (outs:List Int) (ho:outs.length = n) :
   ∀ (F s:Nat) (rows:List (List Int)),n - s < F→s ≤ n→rows.length = s→(∀ i,i < s→(rows.getD i []).length = b∧RowP b n outs i (rows.getD i [])) →
     ∃ rows':List (List Int),rows'.length = n∧(∀ i,i < n→(rows'.getD i []).length = b∧RowP b n outs i (rows'.getD i []))∧g25L250f N F k0 (b:Int) (n:Int) (s:Int) a p q l1 l2 outs rows = k0 a p q l1 l2 outs rows'
 | 0,s,rows,hF,_,_,_=>by omega
 | F + 1,s,rows,hF,hs,hl,hr=>by
   rw [g25L250f_succ]
   unfold g25L250B
   by_cases hlt:s < n
   · have e1:decide ((s:Int) < (n:Int)) = true:=by simp;omega
     rw [e1,cond_true,g25L64074_eq]
     obtain ⟨row,h1,h2,h3⟩:=row_loop N (fun e10 e11 e12 e13 e14 e15 e16 e17 e18 e19 e20=>if List.length e20 + List.length [e16] ≤ maxCount then (g25L250f N F k0 e10 e11 (IntKind.wrap .i64 (e12 + 1)) e13 e14 e15 e17 e18 e19 (e20 ++ [e16])) else none) b hb n hn0 hn s hlt a p q l1 l2 outs rows ho N 0 [] (by omega) (by omega) rfl ⟨by simp,by simp⟩
     simp only [Int.natCast_zero] at h3
     rw [h3,if_pos (by simp [maxCount];omega),wn s (by omega)]
     refine rows_loop N hN k0 b hb n hn0 hn a p q l1 l2 outs ho F (s + 1) _ (by omega) (by omega) (by simp [hl]) fun i hi=>?_
     by_cases hi2:i < s
     · have:(rows ++ [row]).getD i [] = rows.getD i []:=by simp [List.getD_eq_getElem?_getD,List.getElem?_append_left (show i < rows.length by omega)]
       rw [this];exact hr i hi2
     · have hi3:i = s:=by omega
       subst hi3
       have:(rows ++ [row]).getD i [] = row:=by simp [List.getD_eq_getElem?_getD,← hl]
       rw [this];exact ⟨h1,h2⟩
   · have e1:decide ((s:Int) < (n:Int)) = false:=by simp;omega
     rw [e1,cond_false]
     have:s = n:=by omega
     subst this
     exact ⟨rows,hl,hr,rfl⟩
theorem tame_eq (N:Nat) (hN:20 < N) (a:MM) (b most:Int) (hb:2 ≤ b∧b ≤ 5) (hm:1 ≤ most∧most ≤ 12):∃ x,g25 N a b most = some x∧Tame x∧x.1 = b∧(x.2.1.length:Int) ≤ most:=by
 obtain ⟨n,hn,h1,h2⟩:∃ n:Nat,imax 1 (imin ((List.length a.2.1:Nat):Int) most) = (n:Int)∧1 ≤ n∧(n:Int) ≤ most:=by
   simp only [imax,imin]
   refine ⟨(if (if most < (a.2.1.length:Int) then most else (a.2.1.length:Int)) > 1 then (if most < (a.2.1.length:Int) then most else (a.2.1.length:Int)) else 1).toNat,?_,?_,?_⟩ <;> (repeat' split) <;> omega
 obtain ⟨b',rfl⟩:∃ b':Nat,b = (b':Int):=⟨b.toNat,by omega⟩
 unfold g25
 rw [hn,g25L122_eq]
 obtain ⟨outs,o1,o2,o3⟩:=outs_loop N (fun e1 e2 e3 e4 e5 e6 e7 e8 e9=>g25L250 N (fun e21 e22 e23 e24 e25 e26 e27=>some (e23,e26,e27,())) e1 e2 0 e3 e4 e5 e6 e7 e8 e9) (b':Int) n (by omega) a 0 (b':Int) [] [] [] N 0 [] (by omega) (by omega) rfl (by simp)
 simp only [Int.natCast_zero] at o3
 rw [o3,g25L250_eq]
 obtain ⟨rows,r1,r2,r3⟩:=rows_loop N hN (fun e21 e22 e23 e24 e25 e26 e27=>some (e23,e26,e27,())) b' (by omega) n (by omega) (by omega) a 0 (b':Int) [] [] outs o1 N 0 [] (by omega) (by omega) rfl (fun i hi=>by omega)
 simp only [Int.natCast_zero] at r3
 rw [r3]
 refine ⟨_,rfl,⟨hb,⟨by simp only;omega,by simp only;omega⟩,o2,by simp only;omega,fun r hr=>?_,fun s hs=>?_⟩,rfl,by simp only;omega⟩
 · obtain ⟨i,hi,rfl⟩:=List.getElem_of_mem hr
   have:=r2 i (by simp only at hi;omega)
   have e:rows.getD i [] = rows[i]:=by simp [List.getD_eq_getElem?_getD,hi]
   rw [e] at this
   simp only
   exact ⟨by omega,fun t ht=>by have:=this.2.rng t ht;omega⟩
 · have hs:s < n:=by simp only at hs;omega
   obtain ⟨q1,q2⟩:=r2 s hs
   exact q2.zero (by intro h;rw [h] at q1;simp at q1;omega)
end Go.Pv
namespace Go.Pv
def oM (x:MM) (s:Nat):Int:=x.2.1.getD s 0
def dM (x:MM) (s r:Nat):Nat:=((x.2.2.1.getD s []).getD r 0).toNat
def beh (x:MM):Nat→List Nat→Int
 | s,[]=>oM x s
 | s,r :: w=>beh x (dM x s r) w
def Same (x y:MM) (s t:Nat):Prop:=∀ w:List Nat,(∀ r ∈ w,(r:Int) < x.1)→beh x s w = beh y t w
structure WM (x:MM):Prop where
 base:1 ≤ x.1∧x.1 ≤ 1000
 many:1 ≤ x.2.1.length
 out:∀ o ∈ x.2.1,0 ≤ o∧o ≤ 9
 next:x.2.2.1.length = x.2.1.length
 row:∀ s,s < x.2.1.length→((x.2.2.1.getD s []).length:Int) = x.1
 rng:∀ s,s < x.2.1.length→∀ t ∈ x.2.2.1.getD s [],0 ≤ t∧t < (x.2.1.length:Int)
theorem WM.at {x:MM} (h:WM x) {s r:Nat} (hs:s < x.2.1.length) (hr:(r:Int) < x.1):(x.2.2.1.getD s []).getD r 0 = (dM x s r:Int)∧dM x s r < x.2.1.length:=by
 have hl:r < (x.2.2.1.getD s []).length:=by have:=h.row s hs;omega
 have:=h.rng s hs _ (getD_mem hl 0)
 unfold dM
 omega
theorem Tame.wm {x:MM} (h:Tame x):WM x :=
 ⟨⟨by have:=h.base;omega,by have:=h.base;omega⟩,h.many.1,h.out,h.next,fun s hs=>(h.rowAt hs).1,fun s hs=>(h.row _ (getD_mem (by rw [h.next];exact hs) [])).2⟩
theorem Same.step {x y:MM} {s t:Nat} (h:Same x y s t) {r:Nat} (hr:(r:Int) < x.1):Same x y (dM x s r) (dM y t r):=fun w hw=>h (r :: w) (by
 intro q hq
 rcases List.mem_cons.1 hq with rfl | hq
 · exact hr
 · exact hw q hq)
theorem Same.out {x y:MM} {s t:Nat} (h:Same x y s t):oM x s = oM y t:=h [] (by simp)
theorem Same.trans {x y z:MM} {s t u:Nat} (h:Same x y s t) (hb:y.1 = x.1) (k:Same y z t u):Same x z s u:=fun w hw=>(h w hw).trans (k w (by rw [hb];exact hw))
theorem Same.symm {x y:MM} {s t:Nat} (h:Same x y s t) (hb:y.1 = x.1):Same y x t s:=fun w hw=>(h w (by rw [← hb];exact hw)).symm
def scanRow:List Int→Nat→Option Nat
 | [],c=>some c
 | t :: r,c=>if t.toNat < c then scanRow r c else if t.toNat = c then scanRow r (c + 1) else none
def scanRows:List (List Int)→Nat→Nat→Bool
 | [],s,c=>decide (s = c)
 | row :: rs,s,c=>if s < c then (match scanRow row c with | some c'=>scanRows rs (s + 1) c' | none=>false) else false
structure Form (x:MM):Prop extends WM x where
 red:∀ s t,s < x.2.1.length→t < x.2.1.length→Same x x s t→s = t
 order:scanRows x.2.2.1 0 1 = true
section
variable {F G:MM} (hb:G.1 = F.1) (RF:∀ s t,s < F.2.1.length→t < F.2.1.length→Same F F s t→s = t) (RG:∀ s t,s < G.2.1.length→t < G.2.1.length→Same G G s t→s = t)
include hb RF RG
theorem row_same:∀ (rF rG:List Int) (c cF cG:Nat),rF.length = rG.length→(∀ i,i < c→i < F.2.1.length∧i < G.2.1.length∧Same F G i i) →
   (∀ j,j < rF.length→0 ≤ rF.getD j 0∧rF.getD j 0 < (F.2.1.length:Int)∧0 ≤ rG.getD j 0∧rG.getD j 0 < (G.2.1.length:Int)∧Same F G (rF.getD j 0).toNat (rG.getD j 0).toNat) →
   scanRow rF c = some cF→scanRow rG c = some cG→rF = rG∧cF = cG∧(∀ i,i < cF→i < F.2.1.length∧i < G.2.1.length∧Same F G i i)
 | [],[],c,cF,cG,_,hc,_,h1,h2=>by
   simp only [scanRow,Option.some.injEq] at h1 h2
   subst h1 h2
   exact ⟨rfl,rfl,hc⟩
 | [],_ :: _,_,_,_,hl,_,_,_,_=>by simp at hl
 | _ :: _,[],_,_,_,hl,_,_,_,_=>by simp at hl
 | t :: rF,u :: rG,c,cF,cG,hl,hc,hj,h1,h2=>by
   have h0:=hj 0 (by simp)
   simp only [List.getD_cons_zero] at h0
   obtain ⟨t1,t2,u1,u2,hs⟩:=h0
   have hj':∀ j,j < rF.length→0 ≤ rF.getD j 0∧rF.getD j 0 < (F.2.1.length:Int)∧0 ≤ rG.getD j 0∧rG.getD j 0 < (G.2.1.length:Int)∧Same F G (rF.getD j 0).toNat (rG.getD j 0).toNat:=fun j h=>by
     have:=hj (j + 1) (by simp;omega)
     simpa using this
   have hl':rF.length = rG.length:=by simpa using hl
   simp only [scanRow] at h1 h2
   by_cases ht:t.toNat < c
   · rw [if_pos ht] at h1
     obtain ⟨_,g2,g3⟩:=hc _ ht
     have:t.toNat = u.toNat:=RG _ _ g2 (by omega) ((g3.symm hb).trans hb.symm hs)
     rw [if_pos (by omega)] at h2
     obtain ⟨q1,q2,q3⟩:=row_same rF rG c cF cG hl' hc hj' h1 h2
     exact ⟨by rw [q1,show t = u by omega],q2,q3⟩
   · rw [if_neg ht] at h1
     by_cases htc:t.toNat = c
     · rw [if_pos htc] at h1
       have hu:¬ u.toNat < c:=by
         intro hu
         obtain ⟨g1,g2,g3⟩:=hc _ hu
         have:u.toNat = t.toNat:=RF _ _ g1 (by omega) (g3.trans hb (hs.symm hb))
         omega
       rw [if_neg hu] at h2
       by_cases huc:u.toNat = c
       · rw [if_pos huc] at h2
         have hc':∀ i,i < c + 1→i < F.2.1.length∧i < G.2.1.length∧Same F G i i:=fun i hi=>by
           by_cases hic:i < c
           · exact hc i hic
           · have:i = c:=by omega
             subst this
             refine ⟨by omega,by omega,?_⟩
             rw [htc,huc] at hs;exact hs
         obtain ⟨q1,q2,q3⟩:=row_same rF rG (c + 1) cF cG hl' hc' hj' h1 h2
         exact ⟨by rw [q1,show t = u by omega],q2,q3⟩
       · rw [if_neg huc] at h2;simp at h2
     · rw [if_neg htc] at h1;simp at h1
theorem rows_same (wF:WM F) (wG:WM G):∀ (rF rG:List (List Int)) (s c:Nat),F.2.2.1.drop s = rF→G.2.2.1.drop s = rG→(∀ i,i < c→i < F.2.1.length∧i < G.2.1.length∧Same F G i i) →
   scanRows rF s c = true→scanRows rG s c = true→rF = rG∧∀ i,i < s + rF.length→Same F G i i
 | [],[],s,c,_,_,hc,h1,h2=>by
   simp only [scanRows,decide_eq_true_eq] at h1
   refine ⟨rfl,fun i hi=>(hc i ?_).2.2⟩
   simp at hi;omega
 | [],_ :: _,s,c,_,_,hc,h1,h2=>by
   simp only [scanRows,decide_eq_true_eq] at h1 h2
   rw [if_neg (by omega)] at h2
   simp at h2
 | _ :: _,[],s,c,_,_,hc,h1,h2=>by
   simp only [scanRows,decide_eq_true_eq] at h1 h2
   rw [if_neg (by omega)] at h1
   simp at h1
 | a :: rF,b :: rG,s,c,hF,hG,hc,h1,h2=>by
   simp only [scanRows] at h1 h2
   by_cases hs:s < c
   · rw [if_pos hs] at h1 h2
     cases hA:scanRow a c with
     | none=>rw [hA] at h1;simp at h1
     | some cF =>
       cases hB:scanRow b c with
       | none=>rw [hB] at h2;simp at h2
       | some cG =>
         rw [hA] at h1;rw [hB] at h2
         simp only at h1 h2
         obtain ⟨g1,g2,g3⟩:=hc s hs
         have ea:F.2.2.1.getD s [] = a:=by
           have:(F.2.2.1.drop s)[0]? = some a:=by rw [hF];rfl
           rw [List.getElem?_drop] at this
           rw [List.getD_eq_getElem?_getD];simp at this;simp [this]
         have eb:G.2.2.1.getD s [] = b:=by
           have:(G.2.2.1.drop s)[0]? = some b:=by rw [hG];rfl
           rw [List.getElem?_drop] at this
           rw [List.getD_eq_getElem?_getD];simp at this;simp [this]
         have la:=wF.row s g1
         have lb:=wG.row s g2
         rw [ea] at la
         rw [eb] at lb
         obtain ⟨q1,q2,q3⟩:=row_same hb RF RG a b c cF cG (by omega) hc (fun j hj=>by
           have hjF:(j:Int) < F.1:=by omega
           obtain ⟨a1,a2⟩:=wF.at g1 hjF
           obtain ⟨b1,b2⟩:=wG.at g2 (show (j:Int) < G.1 by omega)
           rw [ea] at a1
           rw [eb] at b1
           rw [a1,b1]
           refine ⟨by omega,by omega,by omega,by omega,?_⟩
           simpa using g3.step hjF) hA hB
         subst q2
         obtain ⟨p1,p2⟩:=rows_same wF wG rF rG (s + 1) cF (by
           have:F.2.2.1.drop (s + 1) = (F.2.2.1.drop s).drop 1:=by rw [List.drop_drop]
           rw [this,hF];rfl) (by
           have:G.2.2.1.drop (s + 1) = (G.2.2.1.drop s).drop 1:=by rw [List.drop_drop]
           rw [this,hG];rfl) q3 h1 h2
         exact ⟨by rw [q1,p1],fun i hi=>p2 i (by simp at hi;omega)⟩
   · rw [if_neg hs] at h1;simp at h1
end
theorem Form.uniq {F G:MM} (hF:Form F) (hG:Form G) (hb:G.1 = F.1) (h:Same F G 0 0):F = G:=by
 have hc:∀ i,i < 1→i < F.2.1.length∧i < G.2.1.length∧Same F G i i:=fun i hi=>by
   have:i = 0:=by omega
   subst this
   exact ⟨hF.many,hG.many,h⟩
 obtain ⟨h1,h2⟩:=rows_same hb hF.red hG.red hF.toWM hG.toWM F.2.2.1 G.2.2.1 0 1 (by simp) (by simp) hc hF.order hG.order
 have hn:F.2.1.length = G.2.1.length:=by rw [← hF.next,← hG.next,h1]
 have ho:F.2.1 = G.2.1:=by
   apply List.ext_getElem hn
   intro i hi hi'
   have:=(h2 i (by rw [hF.next];omega)).out
   unfold oM at this
   simpa [List.getD_eq_getElem?_getD,hi,hi'] using this
 obtain ⟨b1,o1,n1,u1⟩:=F
 obtain ⟨b2,o2,n2,u2⟩:=G
 simp only at hb h1 ho
 rw [hb,ho,h1]
structure Made (x F:MM) (c:Nat→Int) (l:List Nat):Prop where
 base:F.1 = x.1
 some1:1 ≤ l.length
 lt:∀ i,i < l.length→l.getD i 0 < x.2.1.length
 apart:∀ i j,i < l.length→j < l.length→c (l.getD i 0) = c (l.getD j 0)→i = j
 first:c (l.getD 0 0) = c 0
 out:F.2.1 = l.map (oM x)
 next:F.2.2.1.length = l.length
 rowl:∀ i,i < l.length→((F.2.2.1.getD i []).length:Int) = x.1
 way:∀ (i r:Nat),i < l.length→(r:Int) < x.1→∃ j:Nat,(F.2.2.1.getD i []).getD r 0 = (j:Int)∧j < l.length∧c (l.getD j 0) = c (dM x (l.getD i 0) r)
 order:scanRows F.2.2.1 0 1 = true
theorem Made.form {x F:MM} {c:Nat→Int} {l:List Nat} (h:Made x F c l) (hx:WM x) (hc:∀ s t,s < x.2.1.length→t < x.2.1.length→(c s = c t ↔ Same x x s t)):Form F∧Same F x 0 0:=by
 have hlen:F.2.1.length = l.length:=by rw [h.out];simp
 have hF:WM F:=by
   refine ⟨by rw [h.base];exact hx.base,by rw [hlen];exact h.some1,fun o ho=>?_,by rw [h.next,hlen],fun s hs=>?_,fun s hs t ht=>?_⟩
   · rw [h.out] at ho
     obtain ⟨s,hs,rfl⟩:=List.mem_map.1 ho
     obtain ⟨i,hi,rfl⟩:=List.getElem_of_mem hs
     have:=h.lt i hi
     have e:l.getD i 0 = l[i]:=by simp [List.getD_eq_getElem?_getD,hi]
     rw [e] at this
     exact hx.out _ (getD_mem this 0)
   · rw [hlen] at hs
     rw [h.base];exact h.rowl s hs
   · rw [hlen] at hs ⊢
     obtain ⟨r,hr,rfl⟩:=List.getElem_of_mem ht
     have hl:=h.rowl s hs
     obtain ⟨j,h1,h2,_⟩:=h.way s r hs (by omega)
     have e:(F.2.2.1.getD s []).getD r 0 = (F.2.2.1.getD s [])[r]:=by rw [List.getD_eq_getElem?_getD,List.getElem?_eq_getElem hr];rfl
     rw [← e,h1];omega
 -- what F says is what x says
 have key:∀ (w:List Nat) (i:Nat),i < l.length→(∀ r ∈ w,(r:Int) < x.1)→beh F i w = beh x (l.getD i 0) w:=by
   intro w
   induction w with
   | nil =>
     intro i hi _
     show oM F i = oM x (l.getD i 0)
     unfold oM
     rw [h.out]
     simp [List.getD_eq_getElem?_getD,hi,oM]
   | cons r w ih =>
     intro i hi hw
     have hr:(r:Int) < x.1:=hw r (by simp)
     obtain ⟨j,h1,h2,h3⟩:=h.way i r hi hr
     have hd:dM F i r = j:=by unfold dM;rw [h1];simp
     show beh F (dM F i r) w = beh x (dM x (l.getD i 0) r) w
     rw [hd,ih j h2 (fun q hq=>hw q (by simp [hq]))]
     exact (hc _ _ (h.lt j h2) (hx.at (h.lt i hi) hr).2).1 h3 w (fun q hq=>hw q (by simp [hq]))
 refine ⟨⟨hF,fun s t hs ht hst=>?_,h.order⟩,fun w hw=>?_⟩
 · rw [hlen] at hs ht
   refine h.apart s t hs ht ((hc _ _ (h.lt s hs) (h.lt t ht)).2 fun w hw=>?_)
   rw [← key w s hs hw,← key w t ht hw]
   exact hst w (by rw [h.base];exact hw)
 · rw [h.base] at hw
   rw [key w 0 h.some1 hw]
   exact (hc _ _ (h.lt 0 h.some1) hx.many).1 h.first w hw
theorem Made.each {x F:MM} {c:Nat→Int} {l:List Nat} (h:Made x F c l) (hx:WM x) (hc:∀ s t,s < x.2.1.length→t < x.2.1.length→(c s = c t ↔ Same x x s t)):∀ i,i < F.2.1.length→∃ t,t < x.2.1.length∧Same F x i t:=by
 have key:∀ (w:List Nat) (i:Nat),i < l.length→(∀ r ∈ w,(r:Int) < x.1)→beh F i w = beh x (l.getD i 0) w:=by
   intro w
   induction w with
   | nil =>
     intro i hi _
     show oM F i = oM x (l.getD i 0)
     unfold oM
     rw [h.out]
     simp [List.getD_eq_getElem?_getD,hi,oM]
   | cons r w ih =>
     intro i hi hw
     have hr:(r:Int) < x.1:=hw r (by simp)
     obtain ⟨j,h1,h2,h3⟩:=h.way i r hi hr
     have hd:dM F i r = j:=by unfold dM;rw [h1];simp
     show beh F (dM F i r) w = beh x (dM x (l.getD i 0) r) w
     rw [hd,ih j h2 (fun q hq=>hw q (by simp [hq]))]
     exact (hc _ _ (h.lt j h2) (hx.at (h.lt i hi) hr).2).1 h3 w (fun q hq=>hw q (by simp [hq]))
 intro i hi
 rw [h.out,List.length_map] at hi
 exact ⟨_,h.lt i hi,fun w hw=>key w i hi (by rw [← h.base];exact hw)⟩
end Go.Pv
namespace Go.Pv
section
variable {K:Type} [DecidableEq K]
def mpairs:Nat→List K→List (K×Int)
 | _,[]=>[]
 | i,k :: r=>(k,(i:Int)) :: mpairs (i + 1) r
theorem mpairs_len:∀ (i:Nat) (D:List K),(mpairs i D).length = D.length
 | _,[]=>rfl
 | i,k :: r=>by simp [mpairs,mpairs_len (i + 1) r]
theorem mpairs_snoc:∀ (i:Nat) (D:List K) (k:K),mpairs i (D ++ [k]) = mpairs i D ++ [(k,((i + D.length:Nat):Int))]
 | i,[],k=>by simp [mpairs]
 | i,x :: r,k=>by
   simp only [List.cons_append,mpairs,mpairs_snoc (i + 1) r k,List.length_cons]
   rw [show i + 1 + r.length = i + (r.length + 1) by omega]
variable {eq:K→K→Bool} (he:∀ a b,eq a b = true ↔ a = b)
include he
theorem find_mpairs (k:K):∀ (i:Nat) (D:List K),mapFind eq k (mpairs i D) = if k ∈ D then some ((i + posOf k D:Nat):Int) else none
 | _,[]=>by simp [mpairs,mapFind]
 | i,x :: r=>by
   simp only [mpairs,mapFind,posOf]
   by_cases h:x = k
   · subst h
     rw [if_pos ((he x x).2 rfl)];simp
   · have:eq k x = false:=by
       cases hq:eq k x with
       | false=>rfl
       | true=>exact absurd ((he k x).1 hq).symm h
     rw [if_neg (by rw [this];simp),find_mpairs k (i + 1) r,if_neg h]
     by_cases hm:k ∈ r
     · rw [if_pos hm,if_pos (by simp [hm])];congr 2;omega
     · rw [if_neg hm,if_neg (by simp [hm];exact fun e=>h e.symm)]
theorem put_mpairs (k:K) (v:Int):∀ (i:Nat) (D:List K),k ∉ D→mapPut eq k v (mpairs i D) = mpairs i D ++ [(k,v)]
 | _,[],_=>by simp [mpairs,mapPut]
 | i,x :: r,h=>by
   simp only [List.mem_cons,not_or] at h
   have:eq k x = false:=by
     cases hq:eq k x with
     | false=>rfl
     | true=>exact absurd ((he k x).1 hq) h.1
   simp only [mpairs,mapPut,this,Bool.false_eq_true,if_false,put_mpairs k v (i + 1) r h.2,List.cons_append]
end
theorem str_eq (a b:List UInt8):Ty.beq .str a b = true ↔ a = b:=by simp [Ty.beq]
theorem int_eq (k:IntKind) (a b:Int):Ty.beq (.int k) a b = true ↔ a = b:=by simp [Ty.beq]
theorem flat_inj {β:Type} {enc:Int→List β} {L:Nat} (hl:∀ v,(enc v).length = L) (hi:∀ v w,0 ≤ v→v < 65536→0 ≤ w→w < 65536→enc v = enc w→v = w) :
   ∀ (l l':List Int),l.length = l'.length→(∀ v ∈ l,0 ≤ v∧v < 65536)→(∀ v ∈ l',0 ≤ v∧v < 65536)→l.flatMap enc = l'.flatMap enc→l = l'
 | [],[],_,_,_,_=>rfl
 | [],_ :: _,h,_,_,_=>by simp at h
 | _ :: _,[],h,_,_,_=>by simp at h
 | v :: l,w :: l',h,h1,h2,he=>by
   simp only [List.flatMap_cons] at he
   obtain ⟨e1,e2⟩:=List.append_inj he (by rw [hl,hl])
   have a:=h1 v (by simp)
   have b:=h2 w (by simp)
   rw [hi v w a.1 a.2 b.1 b.2 e1,flat_inj hl hi l l' (by simpa using h) (fun u hu=>h1 u (by simp [hu])) (fun u hu=>h2 u (by simp [hu])) e2]
theorem u8_inj {a b:Int} (ha:0 ≤ a) (ha2:a < 256) (hb:0 ≤ b) (hb2:b < 256) (h:a.toNat.toUInt8 = b.toNat.toUInt8):a = b:=by
 have h1:=congrArg UInt8.toNat h
 simp only [Nat.toUInt8,UInt8.toNat_ofNat'] at h1
 omega
theorem wu8 (x:Int):IntKind.wrap .u8 x = x % 256:=by rw [IntKind.wrap_u8]
def enc2 (v:Int):List Int:=[IntKind.wrap .u8 (Int.fdiv v (2 ^ 8)),IntKind.wrap .u8 v]
def enc2b (v:Int):List UInt8:=(enc2 v).map fun n:Int=>n.toNat.toUInt8
theorem enc2b_inj (v w:Int) (hv:0 ≤ v) (hv2:v < 65536) (hw:0 ≤ w) (hw2:w < 65536) (h:enc2b v = enc2b w):v = w:=by
 simp only [enc2b,enc2,List.map_cons,List.map_nil,List.cons.injEq,and_true,wu8] at h
 obtain ⟨h1,h2⟩:=h
 have e1:Int.fdiv v (2 ^ 8) = v / 256:=by rw [show (2:Int) ^ 8 = 256 by decide];exact Int.fdiv_eq_ediv_of_nonneg v (by omega)
 have e2:Int.fdiv w (2 ^ 8) = w / 256:=by rw [show (2:Int) ^ 8 = 256 by decide];exact Int.fdiv_eq_ediv_of_nonneg w (by omega)
 rw [e1,e2] at h1
 have a:=u8_inj (by omega) (by omega) (by omega) (by omega) h1
 have b:=u8_inj (by omega) (by omega) (by omega) (by omega) h2
 omega
def enc3 (v:Int):List UInt8:=List.map (fun n:Int=>n.toNat.toUInt8) [(IntKind.wrap .u8 (Int.tmod v 256)),(IntKind.wrap .u8 (IntKind.wrap .i64 (Int.tdiv v 256))),44]
theorem enc3_inj (v w:Int) (hv:0 ≤ v) (hv2:v < 65536) (hw:0 ≤ w) (hw2:w < 65536) (h:enc3 v = enc3 w):v = w:=by
 simp only [enc3,List.map_cons,List.map_nil,List.cons.injEq,and_true,wu8] at h
 obtain ⟨h1,h2⟩:=h
 rw [Int.tmod_eq_emod_of_nonneg hv,Int.tmod_eq_emod_of_nonneg hw] at h1
 rw [Int.tdiv_eq_ediv_of_nonneg hv,Int.tdiv_eq_ediv_of_nonneg hw,w64 (by omega) (by omega),w64 (by omega) (by omega)] at h2
 have a:=u8_inj (by omega) (by omega) (by omega) (by omega) h1
 have b:=u8_inj (by omega) (by omega) (by omega) (by omega) h2
 omega
def around (x:MM) (cl:List Int) (s:Nat):List Int:=cl.getD s 0 :: (x.2.2.1.getD s []).map fun t=>cl.getD t.toNat 0
theorem around_iff {x:MM} (hx:WM x) (cl:List Int) {s t:Nat} (hs:s < x.2.1.length) (ht:t < x.2.1.length) :
   around x cl s = around x cl t ↔ cl.getD s 0 = cl.getD t 0∧∀ r:Nat,(r:Int) < x.1→cl.getD (dM x s r) 0 = cl.getD (dM x t r) 0:=by
 have ls:=hx.row s hs
 have lt:=hx.row t ht
 unfold around
 rw [List.cons.injEq]
 have gd:∀ (l:List Int) (r:Nat) (h:r < l.length),l.getD r 0 = l[r]:=fun l r h=>by rw [List.getD_eq_getElem?_getD,List.getElem?_eq_getElem h];rfl
 constructor
 · rintro ⟨h1,h2⟩
   refine ⟨h1,fun r hr=>?_⟩
   have rs:r < (x.2.2.1.getD s []).length:=by omega
   have rt:r < (x.2.2.1.getD t []).length:=by omega
   have:=congrArg (fun l=>l[r]?) h2
   rw [List.getElem?_map,List.getElem?_map,List.getElem?_eq_getElem rs,List.getElem?_eq_getElem rt,Option.map_some,Option.map_some,Option.some.injEq] at this
   unfold dM
   rw [gd _ _ rs,gd _ _ rt];exact this
 · rintro ⟨h1,h2⟩
   refine ⟨h1,?_⟩
   apply List.ext_getElem (by rw [List.length_map,List.length_map];omega)
   intro r hr hr'
   have rs:r < (x.2.2.1.getD s []).length:=by rw [List.length_map] at hr;exact hr
   have rt:r < (x.2.2.1.getD t []).length:=by rw [List.length_map] at hr';exact hr'
   have:=h2 r (by omega)
   unfold dM at this
   rw [gd _ _ rs,gd _ _ rt] at this
   rw [List.getElem_map,List.getElem_map];exact this
structure Numb (n:Nat) (key:Nat→List UInt8) (D:List (List UInt8)) (cl:List Int):Prop where
 len:cl.length = n
 d:D = numD ((List.range n).map key) []
 val:∀ s,s < n→cl.getD s 0 = (posOf (key s) D:Int)
theorem Numb.mem {n:Nat} {key:Nat→List UInt8} {D:List (List UInt8)} {cl:List Int} (h:Numb n key D cl) {s:Nat} (hs:s < n):key s ∈ D:=by
 rw [h.d]
 exact numD_mem _ _ _ (.inr (List.mem_map.2 ⟨s,List.mem_range.2 hs,rfl⟩))
theorem Numb.iff {n:Nat} {key:Nat→List UInt8} {D:List (List UInt8)} {cl:List Int} (h:Numb n key D cl) {s t:Nat} (hs:s < n) (ht:t < n):cl.getD s 0 = cl.getD t 0 ↔ key s = key t:=by
 rw [h.val s hs,h.val t ht]
 constructor
 · intro e;exact posOf_inj (h.mem hs) (h.mem ht) (by omega)
 · intro e;rw [e]
theorem Numb.small {n:Nat} {key:Nat→List UInt8} {D:List (List UInt8)} {cl:List Int} (h:Numb n key D cl):D.length ≤ n:=by
 rw [h.d]
 have:=numD_le ((List.range n).map key) []
 simpa using this
theorem Numb.rng {n:Nat} {key:Nat→List UInt8} {D:List (List UInt8)} {cl:List Int} (h:Numb n key D cl) {s:Nat} (hs:s < n):0 ≤ cl.getD s 0∧cl.getD s 0 < (D.length:Int):=by
 rw [h.val s hs]
 have:=posOf_lt (h.mem hs)
 omega
theorem Numb.more {n:Nat} {k1 k2:Nat→List UInt8} {D E:List (List UInt8)} {c1 c2:List Int} (h:Numb n k1 D c1) (g:Numb n k2 E c2) (hf:∀ s t,s < n→t < n→k2 s = k2 t→k1 s = k1 t):D.length ≤ E.length:=by
 have:=num_mono ((List.range n).map fun s=>(k1 s,k2 s)) [] [] [] ⟨by simp,by simp,by simp⟩ (by
   intro p hp q hq he
   simp only [List.nil_append,List.mem_map,List.mem_range] at hp hq
   obtain ⟨s,hs,rfl⟩:=hp
   obtain ⟨t,ht,rfl⟩:=hq
   exact hf s t hs ht he)
 simp only [List.map_map,List.length_nil,Nat.add_zero] at this
 rw [h.d,g.d];exact this
theorem Numb.same {n:Nat} {k1 k2:Nat→List UInt8} {D E:List (List UInt8)} {c1 c2:List Int} (h:Numb n k1 D c1) (g:Numb n k2 E c2) (hf:∀ s t,s < n→t < n→k2 s = k2 t→k1 s = k1 t) (hl:D.length = E.length) :
   ∀ s,s < n→c1.getD s 0 = c2.getD s 0:=by
 intro s hs
 have:=num_same ((List.range n).map fun s=>(k1 s,k2 s)) [] [] [] ⟨by simp,by simp,by simp⟩ (by
   intro p hp q hq he
   simp only [List.nil_append,List.mem_map,List.mem_range] at hp hq
   obtain ⟨s,hs,rfl⟩:=hp
   obtain ⟨t,ht,rfl⟩:=hq
   exact hf s t hs ht he) rfl (by simp) (by
     simp only [List.map_map]
     have e1:=h.d;have e2:=g.d
     have:(numD ((List.range n).map k1) []).length = (numD ((List.range n).map k2) []).length:=by rw [← e1,← e2];exact hl
     exact this) (k1 s,k2 s) (by simp;exact ⟨s,hs,rfl,rfl⟩)
 simp only [List.map_map] at this
 rw [h.val s hs,g.val s hs,h.d,g.d]
 exact congrArg Int.ofNat this
structure Part (x:MM) (cl:List Int):Prop where
 keeps:∀ s t,s < x.2.1.length→t < x.2.1.length→Same x x s t→cl.getD s 0 = cl.getD t 0
 outs:∀ s t,s < x.2.1.length→t < x.2.1.length→cl.getD s 0 = cl.getD t 0→oM x s = oM x t
theorem part_outs (x:MM):Part x x.2.1:=⟨fun s t _ _ h=>h.out,fun s t _ _ h=>h⟩
theorem Part.done {x:MM} (hx:WM x) {cl:List Int} (h:Part x cl) (hs:∀ s t,s < x.2.1.length→t < x.2.1.length→cl.getD s 0 = cl.getD t 0→∀ r:Nat,(r:Int) < x.1→cl.getD (dM x s r) 0 = cl.getD (dM x t r) 0) :
   ∀ s t,s < x.2.1.length→t < x.2.1.length→(cl.getD s 0 = cl.getD t 0 ↔ Same x x s t):=by
 have key:∀ (w:List Nat) (s t:Nat),s < x.2.1.length→t < x.2.1.length→(∀ r ∈ w,(r:Int) < x.1)→cl.getD s 0 = cl.getD t 0→beh x s w = beh x t w:=by
   intro w
   induction w with
   | nil=>intro s t h1 h2 _ he;exact h.outs s t h1 h2 he
   | cons r w ih =>
     intro s t h1 h2 hw he
     have hr:=hw r (by simp)
     exact ih _ _ (hx.at h1 hr).2 (hx.at h2 hr).2 (fun q hq=>hw q (by simp [hq])) (hs s t h1 h2 he r hr)
 exact fun s t h1 h2=>⟨fun he w hw=>key w s t h1 h2 hw he,fun hsame=>h.keeps s t h1 h2 hsame⟩
end Go.Pv
namespace Go.Pv
theorem drop_range {β:Type} (f:Nat→β) {n s:Nat} (h:s < n):((List.range n).drop s).map f = f s :: ((List.range n).drop (s + 1)).map f:=by
 rw [List.drop_eq_getElem_cons (by simpa using h)];simp
theorem getD_of {α:Type} {l:List α} {i:Nat} (h:i < l.length) (d:α):l.getD i d = l[i]:=by rw [List.getD_eq_getElem?_getD,List.getElem?_eq_getElem h];rfl
theorem dropD {α:Type} (l:List α) {i:Nat} (h:i < l.length) {d:α}:l.drop i = l.getD i d :: l.drop (i + 1):=by rw [List.drop_eq_getElem_cons h,getD_of h]
theorem getD_set {l:List Int} {i:Nat} (v:Int) (h:i < l.length) (j:Nat):(l.set i v).getD j 0 = if i = j then v else l.getD j 0:=by
 rw [List.getD_eq_getElem?_getD,List.getD_eq_getElem?_getD,List.getElem?_set]
 split
 · rename_i e;subst e;simp [h]
 · rfl
theorem around_len {x:MM} (hx:WM x) (cl:List Int) {s:Nat} (hs:s < x.2.1.length):((around x cl s).length:Int) = x.1 + 1:=by
 have:=hx.row s hs
 unfold around
 rw [List.length_cons,List.length_map];omega
theorem around_rng {x:MM} (hx:WM x) {cl:List Int} (hc:∀ s,s < x.2.1.length→0 ≤ cl.getD s 0∧cl.getD s 0 < 65536) {s:Nat} (hs:s < x.2.1.length):∀ v ∈ around x cl s,0 ≤ v∧v < 65536:=by
 intro v hv
 unfold around at hv
 rcases List.mem_cons.1 hv with rfl | hv
 · exact hc s hs
 · obtain ⟨t,ht,rfl⟩:=List.mem_map.1 hv
   have:=hx.rng s hs t ht
   exact hc _ (by omega)
theorem around_key {x:MM} (hx:WM x) {cl:List Int} (hc:∀ s,s < x.2.1.length→0 ≤ cl.getD s 0∧cl.getD s 0 < 65536) {enc:Int→List UInt8} {L:Nat} (hl:∀ v,(enc v).length = L) (hi:∀ v w,0 ≤ v→v < 65536→0 ≤ w→w < 65536→enc v = enc w→v = w)
   {s t:Nat} (hs:s < x.2.1.length) (ht:t < x.2.1.length):(around x cl s).flatMap enc = (around x cl t).flatMap enc ↔ around x cl s = around x cl t:=by
 constructor
 · intro h
   exact flat_inj hl hi _ _ (by have:=around_len hx cl hs;have:=around_len hx cl ht;omega) (around_rng hx hc hs) (around_rng hx hc ht) h
 · intro h;rw [h]
structure Cls (x:MM) (cl:List Int):Prop where
 len:cl.length = x.2.1.length
 rng:∀ s,s < x.2.1.length→0 ≤ cl.getD s 0∧cl.getD s 0 < (x.2.1.length:Int)
 iff:∀ s t,s < x.2.1.length→t < x.2.1.length→(cl.getD s 0 = cl.getD t 0 ↔ Same x x s t)
theorem Part.next {x:MM} (hx:WM x) {cl cl':List Int} (h:Part x cl) {key:Nat→List UInt8} {D:List (List UInt8)} (g:Numb x.2.1.length key D cl')
   (hk:∀ s t,s < x.2.1.length→t < x.2.1.length→(key s = key t ↔ around x cl s = around x cl t)):Part x cl':=by
 refine ⟨fun s t hs ht hq=>?_,fun s t hs ht he=>?_⟩
 · rw [g.iff hs ht,hk s t hs ht,around_iff hx cl hs ht]
   exact ⟨h.keeps s t hs ht hq,fun r hr=>h.keeps _ _ (hx.at hs hr).2 (hx.at ht hr).2 (hq.step hr)⟩
 · rw [g.iff hs ht,hk s t hs ht,around_iff hx cl hs ht] at he
   exact h.outs s t hs ht he.1
theorem Part.stop {x:MM} (hx:WM x) {cl cl':List Int} (h:Part x cl) (hn:cl.length = x.2.1.length) {k1 key:Nat→List UInt8} {D E:List (List UInt8)} (g0:Numb x.2.1.length k1 D cl) (g:Numb x.2.1.length key E cl')
   (hk:∀ s t,s < x.2.1.length→t < x.2.1.length→(key s = key t ↔ around x cl s = around x cl t)) (hl:D.length = E.length):Cls x cl∧Cls x cl':=by
 have hf:∀ s t,s < x.2.1.length→t < x.2.1.length→key s = key t→k1 s = k1 t:=fun s t hs ht he=>by
   rw [hk s t hs ht,around_iff hx cl hs ht] at he
   exact (g0.iff hs ht).1 he.1
 have hsame:=g0.same g hf hl
 have hdone:=h.done hx fun s t hs ht he r hr=>by
   have:key s = key t:=by rw [← g.iff hs ht,← hsame s hs,← hsame t ht];exact he
   rw [hk s t hs ht,around_iff hx cl hs ht] at this
   exact this.2 r hr
 have hrng:∀ s,s < x.2.1.length→0 ≤ cl.getD s 0∧cl.getD s 0 < (x.2.1.length:Int):=fun s hs=>by
   have:=g0.rng hs;have:=g0.small;omega
 exact ⟨⟨hn,hrng,hdone⟩,⟨g.len,fun s hs=>by rw [← hsame s hs];exact hrng s hs,fun s t hs ht=>by rw [← hsame s hs,← hsame t ht];exact hdone s t hs ht⟩⟩
theorem enc_loop (N:Nat) {C:Type} (k0:List Int→Int→Int→List (List Int)→Int→Int→MM→List (List UInt8×Int)→List Int→List Int→Option C)
   (cl:List Int) (p s:Int) (nx:List (List Int)) (m s':Int) (l:List Int) (x:MM) (mp:List (List UInt8×Int)) (out:List Int) (hl:∀ t ∈ l,0 ≤ t∧t < (cl.length:Int)) (hlen:l.length ≤ 10000) :
   ∀ (F j:Nat) (acc:List Int),l.length - j < F→j ≤ l.length→acc.length + 2 * (l.length - j) ≤ 100000 →
     g91L3959194f N F k0 cl p s nx m s' l (l.length:Int) (j:Int) x mp out acc = k0 cl p s nx m s' x mp out (acc ++ (l.drop j).flatMap fun t=>enc2 (cl.getD t.toNat 0))
 | 0,j,acc,hF,_,_=>by omega
 | F + 1,j,acc,hF,hj,ha=>by
   rw [g91L3959194f_succ]
   unfold g91L3959194B
   by_cases hlt:j < l.length
   · have e1:decide ((j:Int) < (l.length:Int)) = true:=by simp;omega
     have e2:idx (j:Int) l.length:=⟨by omega,by omega⟩
     have hm:=hl _ (getD_mem hlt 0)
     have e3:idx (l.getD j 0) cl.length:=⟨hm.1,hm.2⟩
     rw [e1,cond_true,if_pos e2,Int.toNat_natCast,if_pos e3,if_pos e3,if_pos (by simp only [List.length_cons,List.length_nil,maxCount];omega),wn j (by omega)]
     have ih:=enc_loop N k0 cl p s nx m s' l x mp out hl hlen F (j + 1) (acc ++ enc2 (cl.getD (l.getD j 0).toNat 0)) (by omega) (by omega) (by simp only [List.length_append,enc2,List.length_cons,List.length_nil];omega)
     refine Eq.trans ih ?_
     rw [dropD l hlt,List.flatMap_cons,List.append_assoc]
   · have e1:decide ((j:Int) < (l.length:Int)) = false:=by simp;omega
     rw [e1,cond_false,List.drop_of_length_le (by omega)];simp
def keyP (x:MM) (cl:List Int) (s:Nat):List UInt8:=(around x cl s).flatMap enc2b
theorem keyP_eq (x:MM) (cl:List Int) (s:Nat):List.map (fun n:Int=>n.toNat.toUInt8) (enc2 (cl.getD s 0) ++ ((x.2.2.1.getD s []).drop 0).flatMap fun t=>enc2 (cl.getD t.toNat 0)) = keyP x cl s:=by
 unfold keyP around enc2b
 rw [List.drop_zero,List.flatMap_cons,List.map_append,List.map_flatMap,List.flatMap_map]
theorem cls_loop {x:MM} (hx:WM x) (hn:x.2.1.length ≤ 60000) (N:Nat) (hN:1001 < N) (cl:List Int) (hcl:cl.length = x.2.1.length) {C:Type} (k0:Int→MM→List (List UInt8×Int)→List Int→Option C) (p:Int) :
   ∀ (F s:Nat) (D:List (List UInt8)) (out:List Int),x.2.1.length - s < F→s ≤ x.2.1.length→out.length = x.2.1.length→(∀ i,i < s→keyP x cl i ∈ D∧out.getD i 0 = (posOf (keyP x cl i) D:Int)) →
     ∃ out',g91L3866f N F k0 cl p x.2.2.1 (x.2.2.1.length:Int) (s:Int) x (mpairs 0 D) out = k0 p x (mpairs 0 (numD (((List.range x.2.1.length).drop s).map (keyP x cl)) D)) out'∧out'.length = x.2.1.length ∧
       ∀ i,i < x.2.1.length→out'.getD i 0 = (posOf (keyP x cl i) (numD (((List.range x.2.1.length).drop s).map (keyP x cl)) D):Int)
 | 0,s,D,out,hF,_,_,_=>by omega
 | F + 1,s,D,out,hF,hs,ho,hinv=>by
   rw [g91L3866f_succ]
   unfold g91L3866B
   by_cases hlt:s < x.2.1.length
   · have e1:decide ((s:Int) < (x.2.2.1.length:Int)) = true:=by have:=hx.next;simp;omega
     have e2:idx (s:Int) x.2.2.1.length:=⟨by omega,by have:=hx.next;omega⟩
     have e3:idx (s:Int) cl.length:=⟨by omega,by omega⟩
     have e4:idx (s:Int) out.length:=⟨by omega,by omega⟩
     have hr:=hx.row s hlt
     have hb:=hx.base
     rw [e1,cond_true,if_pos e2,if_pos e3,if_pos e3,Int.toNat_natCast,g91L3959194_eq]
     have hl:∀ t ∈ x.2.2.1.getD s [],0 ≤ t∧t < (cl.length:Int):=fun t ht=>by rw [hcl];exact hx.rng s hlt t ht
     have el:=fun k=>enc_loop (C:=C) N k cl p (s:Int) x.2.2.1 (x.2.2.1.length:Int) (s:Int) (x.2.2.1.getD s []) x (mpairs 0 D) out hl (by omega) N 0 (enc2 (cl.getD s 0)) (by omega) (by omega) (by simp only [enc2,List.length_cons,List.length_nil];omega)
     simp only [Int.natCast_zero] at el
     rw [show [IntKind.wrap .u8 (Int.fdiv (cl.getD s 0) (2 ^ 8)),IntKind.wrap .u8 (cl.getD s 0)] = enc2 (cl.getD s 0) from rfl,el]
     simp only [keyP_eq]
     rw [drop_range (keyP x cl) hlt]
     rw [find_mpairs str_eq]
     by_cases hm:keyP x cl s ∈ D
     · rw [if_pos hm]
       simp only [Option.isSome_some,Bool.not_true,cond_false]
       rw [if_pos e4,if_pos (by rw [Int.toNat_natCast];omega),Option.getD_some,wn s (by omega),Int.toNat_natCast]
       have ih:=cls_loop hx hn N hN cl hcl k0 p F (s + 1) D (out.set s ((0 + posOf (keyP x cl s) D:Nat):Int)) (by omega) (by omega) (by rw [List.length_set];exact ho) (fun i hi=>by
         rw [getD_set _ (by omega)]
         by_cases his:s = i
         · subst his;rw [if_pos rfl];exact ⟨hm,by omega⟩
         · rw [if_neg his];exact hinv i (by omega))
       unfold numD
       rw [if_pos hm]
       exact ih
     · rw [if_neg hm]
       simp only [Option.isSome_none,Bool.not_false,cond_true]
       rw [mpairs_len,put_mpairs str_eq _ _ _ _ hm,show mpairs 0 D ++ [(keyP x cl s,(D.length:Int))] = mpairs 0 (D ++ [keyP x cl s]) by rw [mpairs_snoc];simp,find_mpairs str_eq,if_pos (show keyP x cl s ∈ D ++ [keyP x cl s] from by simp)]
       rw [if_pos e4,if_pos (by rw [Int.toNat_natCast];omega),Option.getD_some,wn s (by omega),Int.toNat_natCast]
       have ih:=cls_loop hx hn N hN cl hcl k0 p F (s + 1) (D ++ [keyP x cl s]) (out.set s ((0 + posOf (keyP x cl s) (D ++ [keyP x cl s]):Nat):Int)) (by omega) (by omega) (by rw [List.length_set];exact ho) (fun i hi=>by
         rw [getD_set _ (by omega)]
         by_cases his:s = i
         · subst his;rw [if_pos rfl];exact ⟨by simp,by omega⟩
         · rw [if_neg his]
           have:=hinv i (by omega)
           exact ⟨by simp [this.1],by rw [posOf_append _ this.1];exact this.2⟩)
       unfold numD
       rw [if_neg hm]
       exact ih
   · have e1:decide ((s:Int) < (x.2.2.1.length:Int)) = false:=by have:=hx.next;simp;omega
     have:s = x.2.1.length:=by omega
     subst this
     rw [e1,cond_false,List.drop_of_length_le (by simp),List.map_nil]
     exact ⟨out,rfl,ho,fun i hi=>(hinv i hi).2⟩
theorem cls_rounds {x:MM} (hx:WM x) (hn:x.2.1.length ≤ 60000) (N:Nat) (hN:1001 < N) (hN2:x.2.1.length < N) {C:Type} (k0:MM→List Int→Option C) :
   ∀ (F:Nat) (cl:List Int) (many:Nat),Part x cl→cl.length = x.2.1.length→(∀ s,s < x.2.1.length→0 ≤ cl.getD s 0∧cl.getD s 0 < 65536)→(many = 0 ∨ ∃ key D,Numb x.2.1.length key D cl∧many = D.length)→x.2.1.length - many < F →
     ∃ cl',g91L30f N F k0 cl (many:Int) x = k0 x cl'∧Cls x cl'
 | 0,cl,many,_,_,_,_,hF=>by omega
 | F + 1,cl,many,hp,hl,hr,hm,hF=>by
   rw [g91L30f_succ]
   unfold g91L30B
   have hmany:=hx.many
   rw [if_pos (by exact ⟨rfl,by omega,by omega⟩),g91L3866_eq]
   obtain ⟨out,e,e2,e3⟩:=cls_loop hx hn N hN cl hl (fun e12 e13 e14 e15=>bif (ieq ((List.length e14:Nat):Int) e12) then (k0 e13 e15) else (g91L30f N F k0 e15 ((List.length e14:Nat):Int) e13)) (many:Int) N 0 [] (List.replicate (Int.toNat ((cl.length:Nat):Int)) 0) (by omega) (by omega) (by simp [hl]) (fun i hi=>by omega)
   simp only [Int.natCast_zero,mpairs,List.drop_zero] at e e3
   rw [e,mpairs_len]
   have g:Numb x.2.1.length (keyP x cl) (numD ((List.range x.2.1.length).map (keyP x cl)) []) out:=⟨e2,rfl,e3⟩
   have hk:∀ s t,s < x.2.1.length→t < x.2.1.length→(keyP x cl s = keyP x cl t ↔ around x cl s = around x cl t):=fun s t hs ht=>around_key (enc:=enc2b) (L:=2) hx hr (fun v=>rfl) enc2b_inj hs ht
   revert g
   generalize numD ((List.range x.2.1.length).map (keyP x cl)) [] = E
   intro g
   have hE:0 < E.length:=List.length_pos_of_mem (g.mem (s:=0) (by omega))
   by_cases hq:E.length = many
   · have:ieq (E.length:Int) (many:Int) = true:=by simp [ieq,hq]
     rw [this,cond_true]
     rcases hm with rfl | ⟨key,D,g0,rfl⟩
     · omega
     · exact ⟨out,rfl,(hp.stop hx hl g0 g hk hq.symm).2⟩
   · have:ieq (E.length:Int) (many:Int) = false:=by simp [ieq];omega
     rw [this,cond_false]
     have hlt:many < E.length:=by
       rcases hm with rfl | ⟨key,D,g0,rfl⟩
       · exact hE
       · have:=g0.more g (fun s t hs ht he=>by
           rw [hk s t hs ht,around_iff hx cl hs ht] at he
           exact (g0.iff hs ht).1 he.1)
         omega
     have hsm:=g.small
     exact cls_rounds hx hn N hN hN2 k0 F out E.length (hp.next hx g hk) e2 (fun s hs=>by have:=g.rng hs;omega) (.inr ⟨_,E,g,rfl⟩) (by omega)
theorem classes_eq {x:MM} (hx:WM x) (hn:x.2.1.length ≤ 60000) (N:Nat) (hN:1001 < N) (hN2:x.2.1.length < N):∃ cl,g91 N x = some cl∧Cls x cl:=by
 unfold g91 g101
 have:=hx.many
 rw [if_pos (by omega),if_pos (by simp only [List.length_nil,maxCount];omega)]
 simp only [Option.bind_some,List.nil_append]
 rw [g91L30_eq]
 exact cls_rounds hx hn N hN hN2 (fun e16 e17=>some e17) N x.2.1 0 (part_outs x) rfl (fun s hs=>by
   have:=hx.out _ (getD_mem hs 0)
   omega) (.inl rfl) (by omega)
end Go.Pv
namespace Go.Pv
theorem numD_last {K:Type} [DecidableEq K]:∀ (l D:List K),(∃ k,k ∈ l∧posOf k (numD l D) + 1 = (numD l D).length) ∨ (numD l D).length = D.length
 | [],D=>.inr rfl
 | k :: r,D=>by
   unfold numD
   by_cases hk:k ∈ D
   · rw [if_pos hk]
     rcases numD_last r D with ⟨q,h1,h2⟩ | h
     · exact .inl ⟨q,by simp [h1],h2⟩
     · exact .inr h
   · rw [if_neg hk]
     rcases numD_last r (D ++ [k]) with ⟨q,h1,h2⟩ | h
     · exact .inl ⟨q,by simp [h1],h2⟩
     · refine .inl ⟨k,by simp,?_⟩
       rw [numD_pos r (D ++ [k]) k (by simp),posOf_new hk,h];simp
theorem Numb.top {n:Nat} {key:Nat→List UInt8} {D:List (List UInt8)} {cl:List Int} (h:Numb n key D cl) (hn:0 < n):∃ s,s < n∧cl.getD s 0 + 1 = (D.length:Int):=by
 rcases numD_last ((List.range n).map key) ([]:List (List UInt8)) with ⟨k,h1,h2⟩ | h1
 · obtain ⟨s,hs,rfl⟩:=List.mem_map.1 h1
   rw [List.mem_range] at hs
   refine ⟨s,hs,?_⟩
   rw [h.val s hs,h.d];omega
 · have:=List.length_pos_of_mem (h.mem hn)
   rw [h.d,h1] at this
   simp at this
theorem max_loop (N:Nat) {C:Type} (k0:Int→Option C) (l:List Int) (hl:l.length ≤ 60000) :
   ∀ (F i:Nat) (m:Int),l.length - i < F→i ≤ l.length→∃ r,g72L58f N F k0 l m (i:Int) = k0 r∧m ≤ r∧(∀ j,i ≤ j→j < l.length→l.getD j 0 ≤ r)∧(r = m ∨ ∃ j,j < l.length∧l.getD j 0 = r)
 | 0,i,m,hF,_=>by omega
 | F + 1,i,m,hF,hi=>by
   rw [g72L58f_succ]
   unfold g72L58B
   by_cases hlt:i < l.length
   · have e1:decide ((i:Int) < (l.length:Int)) = true:=by simp;omega
     have e2:idx (i:Int) l.length:=⟨by omega,by omega⟩
     rw [e1,cond_true,if_pos e2,Int.toNat_natCast,wn i (by omega)]
     obtain ⟨r,e,h1,h2,h3⟩:=max_loop N k0 l hl F (i + 1) (imax m (l.getD i 0)) (by omega) (by omega)
     refine ⟨r,e,?_,fun j hj hj2=>?_,?_⟩
     · unfold imax at h1;split at h1 <;> omega
     · by_cases hji:j = i
       · subst hji;unfold imax at h1;split at h1 <;> omega
       · exact h2 j (by omega) hj2
     · rcases h3 with h3 | h3
       · unfold imax at h3
         split at h3
         · first | exact .inl h3 | exact .inr ⟨i,hlt,h3.symm⟩
         · first | exact .inl h3 | exact .inr ⟨i,hlt,h3.symm⟩
       · exact .inr h3
   · have e1:decide ((i:Int) < (l.length:Int)) = false:=by simp;omega
     rw [e1,cond_false]
     exact ⟨m,rfl,by omega,fun j h1 h2=>by omega,.inl rfl⟩
theorem count_eq (N:Nat) {n:Nat} (hn:0 < n) (hn2:n ≤ 60000) (hN:n < N) {key:Nat→List UInt8} {D:List (List UInt8)} {cl:List Int} (h:Numb n key D cl):g72 N cl = some (D.length:Int):=by
 unfold g72
 rw [g72L58_eq]
 have hl:=h.len
 obtain ⟨r,e,h1,h2,h3⟩:=max_loop N (fun e1=>some (IntKind.wrap .i64 (e1 + 1))) cl (by omega) N 0 0 (by omega) (by omega)
 simp only [Int.natCast_zero] at e
 rw [e]
 obtain ⟨s,hs,ht⟩:=h.top hn
 have hsm:=h.small
 have a:=h2 s (by omega) (by omega)
 have:r + 1 = (D.length:Int):=by
   rcases h3 with rfl | ⟨j,hj,rfl⟩
   · have:=(h.rng hs).1;omega
   · have:=(h.rng (s:=j) (by omega)).2;omega
 rw [w64 (by omega) (by omega),this]
theorem g95_eq (N:Nat) (v:Int):g95 N v = some (enc3 v):=rfl
theorem enc3_len (v:Int):(enc3 v).length = 3:=rfl
theorem txt_loop (N:Nat) {x:MM} (hx:WM x) (cl:List Int) (hcl:cl.length = x.2.1.length) {s:Nat} (hs:s < x.2.1.length) {C:Type} (k0:List Int→Int→List UInt8→MM→List Int→List (List UInt8×Int)→Option C)
   (out:List Int) (mp:List (List UInt8×Int)):∀ (F j:Nat) (acc:List UInt8),(x.2.2.1.getD s []).length - j < F→j ≤ (x.2.2.1.getD s []).length→acc.length + 3 * ((x.2.2.1.getD s []).length - j) ≤ 100000 →
     g71L31306f N F k0 cl (s:Int) acc (j:Int) x out mp = k0 cl (s:Int) (acc ++ ((x.2.2.1.getD s []).drop j).flatMap fun t=>enc3 (cl.getD t.toNat 0)) x out mp
 | 0,j,acc,hF,_,_=>by omega
 | F + 1,j,acc,hF,hj,ha=>by
   rw [g71L31306f_succ]
   unfold g71L31306B
   have hr:=hx.row s hs
   have hb:=hx.base
   by_cases hlt:j < (x.2.2.1.getD s []).length
   · have e1:decide ((j:Int) < x.1) = true:=by simp;omega
     have e2:idx (s:Int) x.2.2.1.length:=⟨by omega,by have:=hx.next;omega⟩
     have e3:idx (j:Int) (x.2.2.1.getD s []).length:=⟨by omega,by omega⟩
     have hm:=hx.rng s hs _ (getD_mem hlt 0)
     have e4:idx ((x.2.2.1.getD s []).getD j 0) cl.length:=⟨hm.1,by omega⟩
     rw [e1,cond_true,if_pos e2,Int.toNat_natCast,if_pos e3,Int.toNat_natCast,if_pos e4,g95_eq,Option.bind_some,if_pos (by rw [enc3_len];omega),wn j (by omega)]
     have ih:=txt_loop N hx cl hcl hs k0 out mp F (j + 1) (acc ++ enc3 (cl.getD ((x.2.2.1.getD s []).getD j 0).toNat 0)) (by omega) (by omega) (by rw [List.length_append,enc3_len];omega)
     refine Eq.trans ih ?_
     rw [dropD _ hlt,List.flatMap_cons,List.append_assoc]
   · have e1:decide ((j:Int) < x.1) = false:=by simp;omega
     rw [e1,cond_false,List.drop_of_length_le (by omega)];simp
def keyR (x:MM) (cl:List Int) (s:Nat):List UInt8:=enc3 (oM x s) ++ (around x cl s).flatMap enc3
theorem keyR_eq (x:MM) (cl:List Int) (s:Nat):(enc3 (x.2.1.getD s 0) ++ enc3 (cl.getD s 0)) ++ ((x.2.2.1.getD s []).drop 0).flatMap (fun t=>enc3 (cl.getD t.toNat 0)) = keyR x cl s:=by
 unfold keyR around oM
 rw [List.drop_zero,List.flatMap_cons,List.flatMap_map,List.append_assoc]
theorem keyR_iff {x:MM} (hx:WM x) {cl:List Int} (hp:Part x cl) (hc:∀ s,s < x.2.1.length→0 ≤ cl.getD s 0∧cl.getD s 0 < 65536) {s t:Nat} (hs:s < x.2.1.length) (ht:t < x.2.1.length) :
   keyR x cl s = keyR x cl t ↔ around x cl s = around x cl t:=by
 constructor
 · intro h
   unfold keyR at h
   exact (around_key hx hc enc3_len enc3_inj hs ht).1 (List.append_inj h rfl).2
 · intro h
   have:=((around_iff hx cl hs ht).1 h).1
   unfold keyR
   rw [h,hp.outs s t hs ht this]
theorem split_loop {x:MM} (hx:WM x) (hn:x.2.1.length ≤ 60000) (N:Nat) (hN:1001 < N) (cl:List Int) (hcl:cl.length = x.2.1.length) {C:Type} (k0:MM→List Int→List (List UInt8×Int)→Option C) :
   ∀ (F s:Nat) (D:List (List UInt8)) (out:List Int),x.2.1.length - s < F→s ≤ x.2.1.length→out.length = s→(∀ i,i < s→keyR x cl i ∈ D∧out.getD i 0 = (posOf (keyR x cl i) D:Int)) →
     ∃ out',g71L122f N F k0 cl (s:Int) x out (mpairs 0 D) = k0 x out' (mpairs 0 (numD (((List.range x.2.1.length).drop s).map (keyR x cl)) D))∧out'.length = x.2.1.length ∧
       ∀ i,i < x.2.1.length→out'.getD i 0 = (posOf (keyR x cl i) (numD (((List.range x.2.1.length).drop s).map (keyR x cl)) D):Int)
 | 0,s,D,out,hF,_,_,_=>by omega
 | F + 1,s,D,out,hF,hs,ho,hinv=>by
   rw [g71L122f_succ]
   unfold g71L122B
   by_cases hlt:s < x.2.1.length
   · have e1:decide ((s:Int) < (x.2.1.length:Int)) = true:=by simp;omega
     have e2:idx (s:Int) x.2.1.length:=⟨by omega,by omega⟩
     have e3:idx (s:Int) cl.length:=⟨by omega,by omega⟩
     have hr:=hx.row s hlt
     have hb:=hx.base
     rw [e1,cond_true,if_pos e2,Int.toNat_natCast,g95_eq,Option.bind_some,if_pos e3,g95_eq,Option.bind_some,if_pos (by rw [enc3_len,enc3_len];omega),g71L31306_eq]
     have el:=fun k=>txt_loop (C:=C) N hx cl hcl hlt k out (mpairs 0 D) N 0 (enc3 (x.2.1.getD s 0) ++ enc3 (cl.getD s 0)) (by omega) (by omega) (by rw [List.length_append,enc3_len,enc3_len];omega)
     simp only [Int.natCast_zero] at el
     rw [el]
     simp only [keyR_eq]
     rw [drop_range (keyR x cl) hlt]
     rw [find_mpairs str_eq]
     have gd:∀ (v:Int) (i:Nat),i ≤ s→(out ++ [v]).getD i 0 = if s = i then v else out.getD i 0:=fun v i hi=>by
       rw [List.getD_eq_getElem?_getD,List.getD_eq_getElem?_getD]
       split
       · rename_i e;subst e;rw [List.getElem?_append_right (by omega)];simp [ho]
       · rw [List.getElem?_append_left (by omega)]
     by_cases hm:keyR x cl s ∈ D
     · rw [if_pos hm]
       simp only [Option.isSome_some,Bool.not_true,cond_false]
       rw [if_pos (by simp only [List.length_cons,List.length_nil,maxCount];omega),Option.getD_some,wn s (by omega)]
       have ih:=split_loop hx hn N hN cl hcl k0 F (s + 1) D (out ++ [((0 + posOf (keyR x cl s) D:Nat):Int)]) (by omega) (by omega) (by simp [ho]) (fun i hi=>by
         rw [gd _ i (by omega)]
         by_cases his:s = i
         · subst his;rw [if_pos rfl];exact ⟨hm,by omega⟩
         · rw [if_neg his];exact hinv i (by omega))
       unfold numD
       rw [if_pos hm]
       exact ih
     · rw [if_neg hm]
       simp only [Option.isSome_none,Bool.not_false,cond_true]
       rw [mpairs_len,put_mpairs str_eq _ _ _ _ hm,show mpairs 0 D ++ [(keyR x cl s,(D.length:Int))] = mpairs 0 (D ++ [keyR x cl s]) by rw [mpairs_snoc];simp,find_mpairs str_eq,if_pos (show keyR x cl s ∈ D ++ [keyR x cl s] from by simp)]
       rw [if_pos (by simp only [List.length_cons,List.length_nil,maxCount];omega),Option.getD_some,wn s (by omega)]
       have ih:=split_loop hx hn N hN cl hcl k0 F (s + 1) (D ++ [keyR x cl s]) (out ++ [((0 + posOf (keyR x cl s) (D ++ [keyR x cl s]):Nat):Int)]) (by omega) (by omega) (by simp [ho]) (fun i hi=>by
         rw [gd _ i (by omega)]
         by_cases his:s = i
         · subst his;rw [if_pos rfl];exact ⟨by simp,by omega⟩
         · rw [if_neg his]
           have:=hinv i (by omega)
           exact ⟨by simp [this.1],by rw [posOf_append _ this.1];exact this.2⟩)
       unfold numD
       rw [if_neg hm]
       exact ih
   · have e1:decide ((s:Int) < (x.2.1.length:Int)) = false:=by simp;omega
     have:s = x.2.1.length:=by omega
     subst this
     rw [e1,cond_false,List.drop_of_length_le (by simp),List.map_nil]
     exact ⟨out,rfl,ho,fun i hi=>(hinv i hi).2⟩
theorem split_eq {x:MM} (hx:WM x) (hn:x.2.1.length ≤ 60000) (N:Nat) (hN:1001 < N) (hN2:x.2.1.length < N) (cl:List Int) (hcl:cl.length = x.2.1.length) :
   ∃ out D,g71 N x cl = some out∧Numb x.2.1.length (keyR x cl) D out:=by
 unfold g71
 rw [g71L122_eq]
 obtain ⟨out,e,e2,e3⟩:=split_loop hx hn N hN cl hcl (fun e10 e11 e12=>some e11) N 0 [] [] (by omega) (by omega) rfl (fun i hi=>by omega)
 simp only [Int.natCast_zero,mpairs,List.drop_zero] at e e3
 exact ⟨out,_,e,e2,rfl,e3⟩
theorem ref_rounds {x:MM} (hx:WM x) (hn:x.2.1.length ≤ 60000) (N:Nat) (hN:1001 < N) (hN2:x.2.1.length < N) {C:Type} (k0:List Int→MM→Int→List Int→List (List Int)→Option C) (u:Int) (v:List Int) (w:List (List Int)) :
   ∀ (F:Nat) (cl:List Int) (key:Nat→List UInt8) (D:List (List UInt8)),Part x cl→Numb x.2.1.length key D cl→x.2.1.length - D.length < F →
     ∃ cl',g34L28f N F k0 cl x u v w = k0 cl' x u v w∧Cls x cl'
 | 0,cl,key,D,_,_,hF=>by omega
 | F + 1,cl,key,D,hp,g0,hF=>by
   rw [g34L28f_succ]
   unfold g34L28B
   have hmany:=hx.many
   have hr:∀ s,s < x.2.1.length→0 ≤ cl.getD s 0∧cl.getD s 0 < 65536:=fun s hs=>by have:=g0.rng hs;have:=g0.small;omega
   obtain ⟨out,E,e,g⟩:=split_eq hx hn N hN hN2 cl g0.len
   rw [e,Option.bind_some,count_eq N (by omega) hn hN2 g,Option.bind_some,count_eq N (by omega) hn hN2 g0,Option.bind_some]
   have hk:∀ s t,s < x.2.1.length→t < x.2.1.length→(keyR x cl s = keyR x cl t ↔ around x cl s = around x cl t):=fun s t hs ht=>keyR_iff hx hp hr hs ht
   by_cases hq:E.length = D.length
   · have:ieq (E.length:Int) (D.length:Int) = true:=by simp [ieq,hq]
     rw [this,cond_true]
     exact ⟨cl,rfl,(hp.stop hx g0.len g0 g hk hq.symm).1⟩
   · have:ieq (E.length:Int) (D.length:Int) = false:=by simp [ieq];omega
     rw [this,cond_false]
     have:=g0.more g (fun s t hs ht he=>by
       rw [hk s t hs ht,around_iff hx cl hs ht] at he
       exact (g0.iff hs ht).1 he.1)
     have:=g.small
     exact ref_rounds hx hn N hN hN2 k0 u v w F out _ E (hp.next hx g hk) g (by omega)
end Go.Pv
namespace Go.Pv
theorem pigeon:∀ (K:Nat) (l:List Int),l.Nodup→(∀ v ∈ l,0 ≤ v∧v < (K:Int))→l.length ≤ K
 | 0,l,_,h=>by
   cases l with
   | nil=>simp
   | cons v r=>have:=h v (by simp);omega
 | K + 1,l,hn,h=>by
   by_cases hk:(K:Int) ∈ l
   · have h1:=List.length_erase_of_mem hk
     have h2:=pigeon K (l.erase (K:Int)) (hn.erase _) (fun v hv=>by
       have:=(hn.mem_erase_iff).1 hv
       have:=h v this.2
       omega)
     omega
   · have:=pigeon K l hn (fun v hv=>by
       have:=h v hv
       have:v ≠ (K:Int):=fun e=>hk (e ▸ hv)
       omega)
     omega
section
variable {α κ:Type} [DecidableEq κ]
def bfsRow (key:α→κ) (step:α→Nat→α) (s:α):List Nat→List Int→List α→List Int×List α
 | [],row,q=>(row,q)
 | r :: rs,row,q=>if key (step s r) ∈ q.map key then bfsRow key step s rs (row ++ [(posOf (key (step s r)) (q.map key):Int)]) q else bfsRow key step s rs (row ++ [(q.length:Int)]) (q ++ [step s r])
def bfs (d:α) (key:α→κ) (out:α→Int) (step:α→Nat→α) (b:Nat):Nat→Nat→List α→List Int→List (List Int)→Option (List α×List Int×List (List Int))
 | 0,_,_,_,_=>none
 | F + 1,i,q,outs,rows=>if i < q.length then bfs d key out step b F (i + 1) (bfsRow key step (q.getD i d) (List.range b) [] q).2 (outs ++ [out (q.getD i d)]) (rows ++ [(bfsRow key step (q.getD i d) (List.range b) [] q).1]) else some (q,outs,rows)
theorem posOf_map_append {key:α→κ} {k:κ} {q e:List α} (h:k ∈ q.map key):posOf k ((q ++ e).map key) = posOf k (q.map key):=by
 rw [List.map_append,posOf_append _ h]
theorem bfsRow_spec (key:α→κ) (step:α→Nat→α) (s:α) (P:α→Prop):∀ (rs:List Nat) (row:List Int) (q:List α),(∀ r ∈ rs,P (step s r))→(∀ t ∈ q,P t)→(q.map key).Nodup →
   ∃ new ext,bfsRow key step s rs row q = (row ++ new,q ++ ext)∧new.length = rs.length∧scanRow new q.length = some (q ++ ext).length∧(∀ t ∈ ext,P t)∧((q ++ ext).map key).Nodup ∧
     ∀ k,k < rs.length→key (step s (rs.getD k 0)) ∈ (q ++ ext).map key∧new.getD k 0 = (posOf (key (step s (rs.getD k 0))) ((q ++ ext).map key):Int)
 | [],row,q,_,_,hn=>⟨[],[],by simp [bfsRow],rfl,by simp [scanRow],by simp,by simpa using hn,by simp⟩
 | r :: rs,row,q,hp,hq,hn=>by
   unfold bfsRow
   by_cases hm:key (step s r) ∈ q.map key
   · rw [if_pos hm]
     obtain ⟨new,ext,e,h1,h2,h3,h4,h5⟩:=bfsRow_spec key step s P rs (row ++ [(posOf (key (step s r)) (q.map key):Int)]) q (fun a ha=>hp a (by simp [ha])) hq hn
     refine ⟨(posOf (key (step s r)) (q.map key):Int) :: new,ext,by rw [e];simp,by simp [h1],?_,h3,h4,fun k hk=>?_⟩
     · have:=posOf_lt hm
       rw [List.length_map] at this
       simp only [scanRow,Int.toNat_natCast]
       rw [if_pos this,h2]
     · cases k with
       | zero =>
         simp only [List.getD_cons_zero]
         exact ⟨by rw [List.map_append];simp only [List.mem_append];exact .inl hm,by rw [posOf_map_append hm]⟩
       | succ k =>
         simp only [List.getD_cons_succ]
         exact h5 k (by simpa using hk)
   · rw [if_neg hm]
     have hn':((q ++ [step s r]).map key).Nodup:=by
       rw [List.map_append,List.map_cons,List.map_nil,List.nodup_append]
       refine ⟨hn,by simp,fun a ha b hb e=>?_⟩
       simp only [List.mem_cons,List.not_mem_nil,or_false] at hb
       exact hm (hb ▸ e ▸ ha)
     obtain ⟨new,ext,e,h1,h2,h3,h4,h5⟩:=bfsRow_spec key step s P rs (row ++ [(q.length:Int)]) (q ++ [step s r]) (fun a ha=>hp a (by simp [ha])) (fun t ht=>by
       rcases List.mem_append.1 ht with ht | ht
       · exact hq t ht
       · simp only [List.mem_cons,List.not_mem_nil,or_false] at ht;subst ht;exact hp r (by simp)) hn'
     have hin:key (step s r) ∈ (q ++ [step s r]).map key:=by simp
     refine ⟨(q.length:Int) :: new,step s r :: ext,by rw [e];simp,by simp [h1],?_,?_,?_,fun k hk=>?_⟩
     · simp only [scanRow,Int.toNat_natCast]
       rw [if_neg (by omega),if_pos trivial]
       simpa using h2
     · intro t ht
       rcases List.mem_cons.1 ht with rfl | ht
       · exact hp r (by simp)
       · exact h3 t ht
     · simpa using h4
     · rw [show q ++ step s r :: ext = (q ++ [step s r]) ++ ext by simp]
       cases k with
       | zero =>
         simp only [List.getD_cons_zero]
         refine ⟨by rw [List.map_append];exact List.mem_append.2 (.inl hin),?_⟩
         rw [posOf_map_append hin,List.map_append,List.map_cons,List.map_nil,posOf_new hm,List.length_map]
       | succ k =>
         simp only [List.getD_cons_succ]
         exact h5 k (by simpa using hk)
theorem getD_append_left {l e:List α} {i:Nat} (h:i < l.length) {d:α}:(l ++ e).getD i d = l.getD i d:=by
 rw [List.getD_eq_getElem?_getD,List.getD_eq_getElem?_getD,List.getElem?_append_left h]
theorem pigeon_num {P:α→Prop} {K:Nat} (key:α→κ) (num:κ→Int) (hinj:∀ s t,P s→P t→num (key s) = num (key t)→key s = key t) (hK:∀ s,P s→0 ≤ num (key s)∧num (key s) < (K:Int)) {q:List α} (hq:∀ t ∈ q,P t) (hn:(q.map key).Nodup):q.length ≤ K:=by
 have h2:(q.map fun t=>num (key t)).Nodup:=by
   clear hK
   induction q with
   | nil=>simp
   | cons t q ih =>
     simp only [List.map_cons,List.nodup_cons] at hn ⊢
     refine ⟨fun hm=>?_,ih (fun u hu=>hq u (by simp [hu])) hn.2⟩
     obtain ⟨u,hu,he⟩:=List.mem_map.1 hm
     refine hn.1 (List.mem_map.2 ⟨u,hu,hinj u t (hq u (by simp [hu])) (hq t (by simp)) he⟩)
 have:=pigeon K _ h2 (fun v hv=>by
   obtain ⟨t,ht,rfl⟩:=List.mem_map.1 hv
   exact hK t (hq t ht))
 simpa using this
theorem bfs_spec (d:α) (key:α→κ) (out:α→Int) (step:α→Nat→α) (b:Nat) (P:α→Prop) (hP:∀ s,P s→∀ r,r < b→P (step s r)) (K:Nat) (num:κ→Int) (hK:∀ s,P s→0 ≤ num (key s)∧num (key s) < (K:Int)) (hinj:∀ s t,P s→P t→num (key s) = num (key t)→key s = key t) :
   ∀ (F i:Nat) (q:List α) (outs:List Int) (rows:List (List Int)),K - i < F→i ≤ q.length→(∀ t ∈ q,P t)→(q.map key).Nodup →
     ∃ ext rows',bfs d key out step b F i q outs rows = some (q ++ ext,outs ++ ((q ++ ext).drop i).map out,rows ++ rows')∧i + rows'.length = (q ++ ext).length∧(∀ t ∈ q ++ ext,P t)∧((q ++ ext).map key).Nodup∧scanRows rows' i q.length = true ∧
       ∀ k,i + k < (q ++ ext).length→(rows'.getD k []).length = b∧∀ r,r < b→key (step ((q ++ ext).getD (i + k) d) r) ∈ (q ++ ext).map key∧(rows'.getD k []).getD r 0 = (posOf (key (step ((q ++ ext).getD (i + k) d) r)) ((q ++ ext).map key):Int)
 | 0,i,q,outs,rows,hF,_,_,_=>by omega
 | F + 1,i,q,outs,rows,hF,hi,hq,hn=>by
   unfold bfs
   have hlen:q.length ≤ K:=by
     exact pigeon_num key num hinj hK hq hn
   by_cases hlt:i < q.length
   · rw [if_pos hlt]
     have hs:=hq _ (getD_mem hlt d)
     obtain ⟨new,e1,e,h1,h2,h3,h4,h5⟩:=bfsRow_spec key step (q.getD i d) P (List.range b) [] q (fun r hr=>hP _ hs r (List.mem_range.1 hr)) hq hn
     rw [e]
     obtain ⟨ext,rows',g,g1,g2,g3,g4,g5⟩:=bfs_spec d key out step b P hP K num hK hinj F (i + 1) (q ++ e1) (outs ++ [out (q.getD i d)]) (rows ++ [new]) (by omega) (by simp;omega) (fun t ht=>by
       rcases List.mem_append.1 ht with ht | ht
       · exact hq t ht
       · exact h3 t ht) h4
     rw [List.nil_append]
     dsimp only
     have ea:q ++ e1 ++ ext = q ++ (e1 ++ ext):=List.append_assoc _ _ _
     rw [ea] at g g1 g2 g3 g5
     have hd:(q ++ (e1 ++ ext)).getD i d = q.getD i d:=getD_append_left hlt
     have hlt':i < (q ++ (e1 ++ ext)).length:=by simp;omega
     refine ⟨e1 ++ ext,new :: rows',?_,?_,g2,g3,?_,fun k hk=>?_⟩
     · rw [g,dropD _ hlt',hd];simp
     · simp only [List.length_cons];omega
     · simp only [scanRows]
       rw [if_pos hlt,h2];exact g4
     · cases k with
       | zero =>
         simp only [List.getD_cons_zero,Nat.add_zero]
         rw [h1,List.length_range]
         refine ⟨rfl,fun r hr=>?_⟩
         have:=h5 r (by simpa using hr)
         rw [show (List.range b).getD r 0 = r by rw [List.getD_eq_getElem?_getD,List.getElem?_range hr];rfl] at this
         rw [hd,← ea,posOf_map_append this.1,List.map_append]
         exact ⟨List.mem_append.2 (.inl this.1),this.2⟩
       | succ k =>
         simp only [List.getD_cons_succ]
         rw [show i + (k + 1) = i + 1 + k by omega] at hk ⊢
         exact g5 k hk
   · rw [if_neg hlt]
     have:i = q.length:=by omega
     subst this
     refine ⟨[],[],by simp,by simp,by simpa using hq,by simpa using hn,by simp [scanRows],fun k hk=>absurd hk (by simp)⟩
structure Disc (d:α) (b:Nat) (key:α→κ) (out:α→Int) (step:α→Nat→α) (a:α) (F:MM) (l:List α):Prop where
 base:F.1 = (b:Int)
 some1:1 ≤ l.length
 first:l.getD 0 d = a
 nodup:(l.map key).Nodup
 out:F.2.1 = l.map out
 next:F.2.2.1.length = l.length
 rowl:∀ i,i < l.length→(F.2.2.1.getD i []).length = b
 way:∀ (i r:Nat),i < l.length→r < b→∃ j:Nat,(F.2.2.1.getD i []).getD r 0 = (j:Int)∧j < l.length∧key (l.getD j d) = key (step (l.getD i d) r)
 order:scanRows F.2.2.1 0 1 = true
theorem posOf_key {key:α→κ} {k:κ} {q:List α} (h:k ∈ q.map key) (d:α):posOf k (q.map key) < q.length∧key (q.getD (posOf k (q.map key)) d) = k:=by
 have h1:=posOf_lt h
 have h2:=posOf_get h
 rw [List.length_map] at h1
 rw [List.getElem?_map,List.getElem?_eq_getElem h1] at h2
 refine ⟨h1,?_⟩
 rw [getD_of h1]
 simpa using h2
theorem bfs_disc (d:α) (key:α→κ) (out:α→Int) (step:α→Nat→α) (b:Nat) (P:α→Prop) (hP:∀ s,P s→∀ r,r < b→P (step s r)) (K:Nat) (num:κ→Int) (hK:∀ s,P s→0 ≤ num (key s)∧num (key s) < (K:Int)) (hinj:∀ s t,P s→P t→num (key s) = num (key t)→key s = key t) (N:Nat) (hN:K < N) (a:α) (ha:P a) :
   ∃ l outs rows,bfs d key out step b N 0 [a] [] [] = some (l,outs,rows)∧Disc d b key out step a ((b:Int),outs,rows,()) l∧∀ t ∈ l,P t:=by
 obtain ⟨ext,rows,e,h1,h2,h3,h4,h5⟩:=bfs_spec d key out step b P hP K num hK hinj N 0 [a] [] [] (by omega) (by simp) (by simpa using ha) (by simp)
 refine ⟨_,_,_,e,⟨rfl,by simp,by simp,h3,by simp,by simpa using h1,fun i hi=>?_,fun i r hi hr=>?_,by simpa using h4⟩,h2⟩
 · have:=h5 i (by simpa using hi)
   simpa using this.1
 · obtain ⟨m1,m2⟩:=(h5 i (by simpa using hi)).2 r hr
   rw [Nat.zero_add] at m1 m2
   have:=posOf_key m1 d
   refine ⟨_,?_,this.1,this.2⟩
   simpa using m2
end
end Go.Pv
namespace Go.Pv
theorem range_drop {b r:Nat} (h:r < b):(List.range b).drop r = r :: (List.range b).drop (r + 1):=by
 rw [List.drop_eq_getElem_cons (by simpa using h)];simp
abbrev idK {α:Type}:α→α:=fun v=>v
theorem map_idK {α:Type} (q:List α):q.map idK = q:=by simp [idK]
theorem built_row (N:Nat) {b:Nat} (hb:b ≤ 1000) {C:Type} (k0:Int→(Int×Unit→Option Int)→(Int×Int×Unit→Option Int)→Int→Int→Int→Int→List Int→List (Int×Int)→List Int→List Int→List (List Int)→List Int→List (List Int)→Option C)
   (v0:Int) (f2:Int×Unit→Option Int) (f3:Int×Int×Unit→Option Int) (step:Int→Nat→Int) (i s:Int) (hs:∀ r:Nat,r < b→f3 (s,(r:Int),()) = some (step s r))
   (a1 a2:Int) (u1:List Int) (u2:List (List Int)) (o1:List Int) (o2:List (List Int)) :
   ∀ (F r:Nat) (row q:List Int),b - r < F→r ≤ b→row.length ≤ r→q.length ≤ 100000 + r →
     g75L128154f N F k0 v0 f2 f3 i s (b:Int) (r:Int) a1 a2 row (mpairs 0 q) q u1 u2 o1 o2 =
       k0 v0 f2 f3 i s a1 a2 (bfsRow idK step s ((List.range b).drop r) row q).1 (mpairs 0 (bfsRow idK step s ((List.range b).drop r) row q).2) (bfsRow idK step s ((List.range b).drop r) row q).2 u1 u2 o1 o2
 | 0,r,row,q,hF,_,_,_=>by omega
 | F + 1,r,row,q,hF,hr,h1,h2=>by
   rw [g75L128154f_succ]
   unfold g75L128154B
   by_cases hlt:r < b
   · have e1:decide ((r:Int) < (b:Int)) = true:=by simp;omega
     rw [e1,cond_true,hs r hlt,Option.bind_some,range_drop hlt]
     unfold bfsRow
     rw [map_idK]
     rw [find_mpairs (int_eq .i64)]
     by_cases hm:step s r ∈ q
     · rw [if_pos hm,if_pos hm]
       simp only [Option.isSome_some,Bool.not_true,cond_false]
       rw [if_pos (by simp only [List.length_cons,List.length_nil,maxCount];omega),Option.getD_some,wn r (by omega),Nat.zero_add]
       exact built_row N hb k0 v0 f2 f3 step i s hs a1 a2 u1 u2 o1 o2 F (r + 1) _ q (by omega) (by omega) (by simp;omega) (by omega)
     · rw [if_neg hm,if_neg hm]
       simp only [Option.isSome_none,Bool.not_false,cond_true]
       rw [put_mpairs (int_eq .i64) _ _ _ _ hm,show mpairs 0 q ++ [(step s r,(q.length:Int))] = mpairs 0 (q ++ [step s r]) by rw [mpairs_snoc];simp,find_mpairs (int_eq .i64),if_pos (show step s r ∈ q ++ [step s r] from by simp)]
       rw [if_pos (by simp only [List.length_cons,List.length_nil,maxCount];omega),if_pos (by simp only [List.length_cons,List.length_nil,maxCount];omega),Option.getD_some,wn r (by omega),Nat.zero_add,posOf_new hm]
       exact built_row N hb k0 v0 f2 f3 step i s hs a1 a2 u1 u2 o1 o2 F (r + 1) _ _ (by omega) (by omega) (by simp;omega) (by simp;omega)
   · have e1:decide ((r:Int) < (b:Int)) = false:=by simp;omega
     rw [e1,cond_false,List.drop_of_length_le (by simp;omega)];rfl
theorem built_loop (N:Nat) {b:Nat} (hb:b ≤ 1000) (hN:1001 < N) {C:Type} (k0:Int→Int→List (Int×Int)→List Int→List Int→List (List Int)→List Int→List (List Int)→Option C)
   (f2:Int×Unit→Option Int) (f3:Int×Int×Unit→Option Int) (out:Int→Int) (step:Int→Nat→Int) (P:Int→Prop) (hP:∀ s,P s→∀ r,r < b→P (step s r)) (K:Nat) (hK:∀ s,P s→0 ≤ s∧s < (K:Int)) (hK2:K ≤ 60000)
   (h2:∀ s,P s→f2 (s,()) = some (out s)) (h3:∀ s,P s→∀ r:Nat,r < b→f3 (s,(r:Int),()) = some (step s r)) (a1 a2:Int) (u1:List Int) (u2:List (List Int)) :
   ∀ (F i:Nat) (q o1:List Int) (o2:List (List Int)) (l outs:List Int) (rows:List (List Int)),bfs 0 idK out step b F i q o1 o2 = some (l,outs,rows)→(∀ t ∈ q,P t)→q.Nodup→i ≤ q.length→o1.length = i→o2.length = i →
     g75L250f N F k0 (b:Int) f2 f3 (i:Int) a1 a2 (mpairs 0 q) q u1 u2 o1 o2 = k0 a1 a2 (mpairs 0 l) l u1 u2 outs rows
 | 0,i,q,o1,o2,l,outs,rows,h,_,_,_,_,_=>by simp [bfs] at h
 | F + 1,i,q,o1,o2,l,outs,rows,h,hq,hn,hi,l1,l2=>by
   rw [g75L250f_succ]
   unfold g75L250B
   unfold bfs at h
   have hlen:q.length ≤ K:=pigeon K q hn fun v hv=>hK v (hq v hv)
   by_cases hlt:i < q.length
   · rw [if_pos hlt] at h
     have e1:decide ((i:Int) < (q.length:Int)) = true:=by simp;omega
     have e2:idx (i:Int) q.length:=⟨by omega,by omega⟩
     have hs:=hq _ (getD_mem hlt 0)
     rw [e1,cond_true,if_pos e2,if_pos (by rw [Int.toNat_natCast];exact hlt),Int.toNat_natCast,g75L128154_eq]
     have el:=fun k=>built_row (C:=C) N hb k (b:Int) f2 f3 step (i:Int) (q.getD i 0) (h3 _ hs) a1 a2 u1 u2 o1 o2 N 0 [] q (by omega) (by omega) (by simp) (by omega)
     simp only [Int.natCast_zero,List.drop_zero] at el
     rw [el]
     obtain ⟨new,ext,e,g1,g2,g3,g4,g5⟩:=bfsRow_spec idK step (q.getD i 0) P (List.range b) [] q (fun r hr=>hP _ hs r (List.mem_range.1 hr)) hq (by rw [map_idK];exact hn)
     rw [e] at h ⊢
     dsimp only at h ⊢
     rw [List.nil_append] at h ⊢
     rw [h2 _ hs,Option.bind_some,if_pos (by simp only [List.length_cons,List.length_nil,maxCount];omega),if_pos (by simp only [List.length_cons,List.length_nil,maxCount];omega),wn i (by omega)]
     exact built_loop N hb hN k0 f2 f3 out step P hP K hK hK2 h2 h3 a1 a2 u1 u2 F (i + 1) (q ++ ext) _ _ l outs rows h (fun t ht=>by
       rcases List.mem_append.1 ht with ht | ht
       · exact hq t ht
       · exact g3 t ht) (by rw [map_idK] at g4;exact g4) (by simp;omega) (by simp [l1]) (by simp [l2])
   · rw [if_neg hlt] at h
     have e1:decide ((i:Int) < (q.length:Int)) = false:=by simp;omega
     rw [e1,cond_false]
     simp only [Option.some.injEq,Prod.mk.injEq] at h
     obtain ⟨rfl,rfl,rfl⟩:=h
     rfl
theorem built_eq (N:Nat) {b:Nat} (hb:b ≤ 1000) (hN:1001 < N) (a:Int) (f2:Int×Unit→Option Int) (f3:Int×Int×Unit→Option Int) (out:Int→Int) (step:Int→Nat→Int) (P:Int→Prop) (hP:∀ s,P s→∀ r,r < b→P (step s r))
   (K:Nat) (hK:∀ s,P s→0 ≤ s∧s < (K:Int)) (hK2:K ≤ 60000) (hKN:K < N) (h2:∀ s,P s→f2 (s,()) = some (out s)) (h3:∀ s,P s→∀ r:Nat,r < b→f3 (s,(r:Int),()) = some (step s r)) (ha:P a) :
   ∃ F l,g75 N (b:Int) a f2 f3 = some F∧Disc 0 b idK out step a F l∧∀ t ∈ l,P t:=by
 obtain ⟨l,outs,rows,e,hd,hl⟩:=bfs_disc 0 idK out step b P hP K idK hK (fun _ _ _ _ h=>h) N hKN a ha
 refine ⟨_,l,?_,hd,hl⟩
 unfold g75
 rw [g75L250_eq]
 have:=built_loop N hb hN (fun e17 e18 e19 e20 e21 e22 e23 e24=>some (e18,e23,e24,())) f2 f3 out step P hP K hK hK2 h2 h3 0 (b:Int) [] [] N 0 [a] [] [] l outs rows e (by simpa using ha) (by simp) (by simp) rfl rfl
 exact this
theorem ref_row' (N:Nat) {x:MM} (hx:WM x) (hn:x.2.1.length ≤ 60000) {cl:List Int} (hcl:Cls x cl) {C:Type} (k0:List Int→Int→Int→MM→Int→Int→List Int→List (Int×Int)→List Int→List Int→List (List Int)→List Int→List (List Int)→Option C)
   (i:Int) {s:Nat} (hs:s < x.2.1.length) (a1 a2:Int) (u1:List Int) (u2:List (List Int)) (o1:List Int) (o2:List (List Int)) :
   ∀ (F r:Nat) (row q:List Int),x.1.toNat - r < F→(r:Int) ≤ x.1→row.length ≤ r→q.length ≤ 100000 + r →
     g34L521370f N F k0 cl i (s:Int) (r:Int) x a1 a2 row (mpairs 0 (q.map fun s=>cl.getD s.toNat 0)) q u1 u2 o1 o2 =
       k0 cl i (s:Int) x a1 a2 (bfsRow (fun s=>cl.getD s.toNat 0) (fun s r=>(x.2.2.1.getD s.toNat []).getD r 0) s ((List.range x.1.toNat).drop r) row q).1 (mpairs 0 ((bfsRow (fun s=>cl.getD s.toNat 0) (fun s r=>(x.2.2.1.getD s.toNat []).getD r 0) s ((List.range x.1.toNat).drop r) row q).2.map fun s=>cl.getD s.toNat 0))
         (bfsRow (fun s=>cl.getD s.toNat 0) (fun s r=>(x.2.2.1.getD s.toNat []).getD r 0) s ((List.range x.1.toNat).drop r) row q).2 u1 u2 o1 o2
 | 0,r,row,q,hF,_,_,_=>by omega
 | F + 1,r,row,q,hF,hr,h1,h2=>by
   rw [g34L521370f_succ]
   unfold g34L521370B
   have hb:=hx.base
   have hrow:=hx.row s hs
   by_cases hlt:(r:Int) < x.1
   · have e1:decide ((r:Int) < x.1) = true:=by simpa using hlt
     have e2:idx (s:Int) x.2.2.1.length:=⟨by omega,by have:=hx.next;omega⟩
     have e3:idx (r:Int) (x.2.2.1.getD s []).length:=⟨by omega,by omega⟩
     have hm:=hx.at hs hlt
     have e4:idx ((x.2.2.1.getD s []).getD r 0) cl.length:=⟨by omega,by have:=hcl.len;omega⟩
     rw [e1,cond_true,if_pos e2]
     simp only [Int.toNat_natCast]
     rw [if_pos e3,if_pos e4,range_drop (by omega)]
     unfold bfsRow
     simp only [Int.toNat_natCast]
     rw [find_mpairs (int_eq .i64)]
     by_cases hq:cl.getD ((x.2.2.1.getD s []).getD r 0).toNat 0 ∈ q.map fun s=>cl.getD s.toNat 0
     · rw [if_pos hq,if_pos hq]
       simp only [Option.isSome_some,Bool.not_true,cond_false]
       rw [if_pos e4,if_pos (by simp only [List.length_cons,List.length_nil,maxCount];omega),Option.getD_some,wn r (by omega),Nat.zero_add]
       exact ref_row' N hx hn hcl k0 i hs a1 a2 u1 u2 o1 o2 F (r + 1) _ q (by omega) (by omega) (by simp;omega) (by omega)
     · rw [if_neg hq,if_neg hq]
       simp only [Option.isSome_none,Bool.not_false,cond_true]
       rw [put_mpairs (int_eq .i64) _ _ _ _ hq]
       have em:mpairs 0 (q.map fun s=>cl.getD s.toNat 0) ++ [(cl.getD ((x.2.2.1.getD s []).getD r 0).toNat 0,(q.length:Int))] = mpairs 0 ((q ++ [(x.2.2.1.getD s []).getD r 0]).map fun s=>cl.getD s.toNat 0):=by
         rw [List.map_append,List.map_cons,List.map_nil,mpairs_snoc];simp
       rw [em,find_mpairs (int_eq .i64),if_pos (show cl.getD ((x.2.2.1.getD s []).getD r 0).toNat 0 ∈ (q ++ [(x.2.2.1.getD s []).getD r 0]).map fun s=>cl.getD s.toNat 0 from by simp)]
       rw [if_pos e4,if_pos (by simp only [List.length_cons,List.length_nil,maxCount];omega),if_pos e4,if_pos (by simp only [List.length_cons,List.length_nil,maxCount];omega),Option.getD_some,wn r (by omega),Nat.zero_add]
       rw [show posOf (cl.getD ((x.2.2.1.getD s []).getD r 0).toNat 0) ((q ++ [(x.2.2.1.getD s []).getD r 0]).map fun s=>cl.getD s.toNat 0) = q.length by rw [List.map_append,List.map_cons,List.map_nil,posOf_new hq,List.length_map]]
       exact ref_row' N hx hn hcl k0 i hs a1 a2 u1 u2 o1 o2 F (r + 1) _ _ (by omega) (by omega) (by simp;omega) (by simp;omega)
   · have e1:decide ((r:Int) < x.1) = false:=by simpa using hlt
     rw [e1,cond_false,List.drop_of_length_le (by simp;omega)];rfl
theorem ref_loop (N:Nat) {x:MM} (hx:WM x) (hn:x.2.1.length ≤ 60000) (hN:1001 < N) {cl:List Int} (hcl:Cls x cl) {C:Type} (k0:MM→Int→Int→List (Int×Int)→List Int→List Int→List (List Int)→List Int→List (List Int)→Option C)
   (a1 a2:Int) (u1:List Int) (u2:List (List Int)) :
   ∀ (F i:Nat) (q o1:List Int) (o2:List (List Int)) (l outs:List Int) (rows:List (List Int)),bfs 0 (fun s=>cl.getD s.toNat 0) (fun s=>x.2.1.getD s.toNat 0) (fun s r=>(x.2.2.1.getD s.toNat []).getD r 0) x.1.toNat F i q o1 o2 = some (l,outs,rows) →
     (∀ t ∈ q,0 ≤ t∧t < (x.2.1.length:Int))→(q.map fun s=>cl.getD s.toNat 0).Nodup→i ≤ q.length→o1.length = i→o2.length = i →
     g34L1018f N F k0 cl (i:Int) x a1 a2 (mpairs 0 (q.map fun s=>cl.getD s.toNat 0)) q u1 u2 o1 o2 = k0 x a1 a2 (mpairs 0 (l.map fun s=>cl.getD s.toNat 0)) l u1 u2 outs rows
 | 0,i,q,o1,o2,l,outs,rows,h,_,_,_,_,_=>by simp [bfs] at h
 | F + 1,i,q,o1,o2,l,outs,rows,h,hq,hnd,hi,l1,l2=>by
   rw [g34L1018f_succ]
   unfold g34L1018B
   unfold bfs at h
   have hb:=hx.base
   have hlen:q.length ≤ x.2.1.length:=by
     have:=pigeon x.2.1.length _ hnd fun v hv=>by
       obtain ⟨t,ht,rfl⟩:=List.mem_map.1 hv
       have:=hq t ht
       exact hcl.rng _ (by omega)
     simpa using this
   by_cases hlt:i < q.length
   · rw [if_pos hlt] at h
     have e1:decide ((i:Int) < (q.length:Int)) = true:=by simp;omega
     have e2:idx (i:Int) q.length:=⟨by omega,by omega⟩
     have hs:=hq _ (getD_mem hlt 0)
     rw [e1,cond_true,if_pos e2,if_pos (by rw [Int.toNat_natCast];exact hlt),Int.toNat_natCast,g34L521370_eq]
     obtain ⟨s,hse⟩:∃ s:Nat,q.getD i 0 = (s:Int):=⟨(q.getD i 0).toNat,by omega⟩
     rw [hse] at h hs ⊢
     have hs':s < x.2.1.length:=by omega
     have el:=fun k=>ref_row' (C:=C) N hx hn hcl k (i:Int) hs' a1 a2 u1 u2 o1 o2 N 0 [] q (by omega) (by omega) (by simp) (by omega)
     simp only [Int.natCast_zero,List.drop_zero] at el
     rw [el]
     obtain ⟨new,ext,e,g1,g2,g3,g4,g5⟩:=bfsRow_spec (fun s=>cl.getD s.toNat 0) (fun s r=>(x.2.2.1.getD s.toNat []).getD r 0) (s:Int) (fun t=>0 ≤ t∧t < (x.2.1.length:Int)) (List.range x.1.toNat) [] q (fun r hr=>by
       have hr:=List.mem_range.1 hr
       have:=hx.at hs' (r:=r) (by omega)
       rw [Int.toNat_natCast];omega) hq hnd
     rw [e] at h ⊢
     dsimp only at h ⊢
     rw [List.nil_append] at h ⊢
     rw [Int.toNat_natCast] at h ⊢
     have e3:idx (s:Int) x.2.1.length:=⟨by omega,by omega⟩
     rw [if_pos e3,if_pos (by simp only [List.length_cons,List.length_nil,maxCount];omega),if_pos (by simp only [List.length_cons,List.length_nil,maxCount];omega),wn i (by omega)]
     exact ref_loop N hx hn hN hcl k0 a1 a2 u1 u2 F (i + 1) (q ++ ext) _ _ l outs rows h (fun t ht=>by
       rcases List.mem_append.1 ht with ht | ht
       · exact hq t ht
       · exact g3 t ht) g4 (by simp;omega) (by simp [l1]) (by simp [l2])
   · rw [if_neg hlt] at h
     have e1:decide ((i:Int) < (q.length:Int)) = false:=by simp;omega
     rw [e1,cond_false]
     simp only [Option.some.injEq,Prod.mk.injEq] at h
     obtain ⟨rfl,rfl,rfl⟩:=h
     rfl
end Go.Pv
namespace Go.Pv
theorem nodup_get {α κ:Type} {d:α} {key:α→κ} {l:List α} (h:(l.map key).Nodup) {i j:Nat} (hi:i < l.length) (hj:j < l.length) (he:key (l.getD i d) = key (l.getD j d)):i = j:=by
 rw [getD_of hi,getD_of hj] at he
 have:=(List.getElem_inj (xs:=l.map key) (i:=i) (j:=j) (h₀:=by simpa using hi) (h₁:=by simpa using hj) h).1 (by simpa using he)
 exact this
theorem Disc.made {x:MM} (hx:WM x) {cl:List Int} (hcl:Cls x cl) {key out:Int→Int} {step:Int→Nat→Int} {a:Int} {F:MM} {l:List Int} (h:Disc 0 x.1.toNat key out step a F l)
   (rep:Int→Nat) (hl:∀ t ∈ l,rep t < x.2.1.length∧key t = cl.getD (rep t) 0∧out t = oM x (rep t)∧∀ r:Nat,(r:Int) < x.1→key (step t r) = cl.getD (dM x (rep t) r) 0)
   (ha:cl.getD (rep a) 0 = cl.getD 0 0):Made x F (fun s=>cl.getD s 0) (l.map rep):=by
 have hb:=hx.base
 have gr:∀ i,i < l.length→(l.map rep).getD i 0 = rep (l.getD i 0):=fun i hi=>by
   rw [getD_of hi,List.getD_eq_getElem?_getD,List.getElem?_map,List.getElem?_eq_getElem hi];rfl
 have gm:∀ i,i < l.length→l.getD i 0 ∈ l:=fun i hi=>getD_mem hi 0
 have h1:=h.some1
 refine ⟨by rw [h.base];omega,by simpa using h1,fun i hi=>?_,fun i j hi hj he=>?_,?_,?_,by rw [h.next];simp,fun i hi=>?_,fun i r hi hr=>?_,h.order⟩
 · rw [List.length_map] at hi;rw [gr i hi];exact (hl _ (gm i hi)).1
 · rw [List.length_map] at hi hj
   rw [gr i hi,gr j hj,← (hl _ (gm i hi)).2.1,← (hl _ (gm j hj)).2.1] at he
   exact nodup_get h.nodup hi hj he
 · rw [gr 0 (by omega),h.first];exact ha
 · rw [h.out,List.map_map]
   exact List.map_congr_left fun t ht=>(hl t ht).2.2.1
 · rw [List.length_map] at hi;rw [h.rowl i hi];omega
 · rw [List.length_map] at hi
   obtain ⟨j,e1,e2,e3⟩:=h.way i r hi (by omega)
   refine ⟨j,e1,by rw [List.length_map];exact e2,?_⟩
   rw [gr i hi,gr j e2,← (hl _ (gm j e2)).2.1,e3,(hl _ (gm i hi)).2.2.2 r hr]
theorem ref_form {x:MM} (hx:WM x) (hn:x.2.1.length ≤ 60000) (N:Nat) (hN:1001 < N) (hN2:x.2.1.length < N):∃ F,g34 N x = some F∧F.1 = x.1∧Form F∧Same F x 0 0∧F.2.1.length ≤ x.2.1.length∧∀ i,i < F.2.1.length→∃ t,t < x.2.1.length∧Same F x i t:=by
 have hmany:=hx.many
 have hb:=hx.base
 have hr:∀ s,s < x.2.1.length→0 ≤ x.2.1.getD s 0∧x.2.1.getD s 0 < 65536:=fun s hs=>by have:=hx.out _ (getD_mem hs 0);omega
 obtain ⟨c0,D,e,g⟩:=split_eq hx hn N hN hN2 x.2.1 rfl
 have hp:=(part_outs x).next hx g fun s t hs ht=>keyR_iff hx (part_outs x) hr hs ht
 obtain ⟨cl,e2,hcl⟩:=ref_rounds hx hn N hN hN2 (fun e5 e6 e7 e8 e9=>if idx 0 (List.length e5) then g34L1018 N (fun e23 e24 e25 e26 e27 e28 e29 e30 e31=>some (e25,e30,e31,())) e5 0 e6 e7 e6.1 (mapPut (Ty.beq (.int .i64)) (List.getD e5 (Int.toNat 0) 0) 0 ([]:List (Int×Int))) [0] e8 e9 ([]:List Int) ([]:List (List Int)) else none) 0 [] [] N c0 _ D hp g (by omega)
 obtain ⟨l,outs,rows,e3,hd,hl⟩:=bfs_disc 0 (fun s=>cl.getD s.toNat 0) (fun s=>x.2.1.getD s.toNat 0) (fun s r=>(x.2.2.1.getD s.toNat []).getD r 0) x.1.toNat (fun t=>0 ≤ t∧t < (x.2.1.length:Int))
   (fun s hs r hr=>by have:=hx.at (s:=s.toNat) (r:=r) (by omega) (by omega);omega) x.2.1.length idK (fun s hs=>hcl.rng _ (by omega)) (fun _ _ _ _ h=>h) N hN2 0 ⟨by omega,by omega⟩
 have e4:=ref_loop N hx hn hN hcl (fun e23 e24 e25 e26 e27 e28 e29 e30 e31=>some (e25,e30,e31,())) 0 x.1 [] [] N 0 [0] [] [] l outs rows e3 (by intro t ht;simp only [List.mem_cons,List.not_mem_nil,or_false] at ht;subst ht;omega) (by simp) (by simp) rfl rfl
 have hm:Made x ((x.1.toNat:Int),outs,rows,()) (fun s=>cl.getD s 0) (l.map Int.toNat):=hd.made hx hcl Int.toNat (fun t ht=>by
   have:=hl t ht
   exact ⟨by omega,rfl,rfl,fun r hr=>rfl⟩) rfl
 have hF:=hm.form hx hcl.iff
 have hsm:l.length ≤ x.2.1.length:=by
   have:=pigeon x.2.1.length _ hd.nodup fun v hv=>by
     obtain ⟨t,ht,rfl⟩:=List.mem_map.1 hv
     have:=hl t ht
     exact hcl.rng _ (by omega)
   simpa using this
 refine ⟨_,?_,hm.base,hF.1,hF.2,by rw [hd.out,List.length_map];exact hsm,hm.each hx hcl.iff⟩
 unfold g34
 rw [e,Option.bind_some,g34L28_eq,e2,if_pos (⟨by omega,by have:=hcl.len;omega⟩:idx 0 cl.length),g34L1018_eq]
 refine Eq.trans e4 ?_
 rw [show ((x.1.toNat:Nat):Int) = x.1 by omega]
theorem first_loop' (N:Nat) {x:MM} (hx:WM x) (hn:x.2.1.length ≤ 60000) {cl:List Int} (hcl:Cls x cl) {C:Type} (k0:MM→Int→List Int→List Int→List Int→List (List Int)→Option C) (u:Int) (v:List Int) (w:List (List Int)) :
   ∀ (F i:Nat) (fs:List Int),i < F→i ≤ x.2.1.length→fs.length = x.2.1.length→(∀ s,i ≤ s→s < x.2.1.length→∃ t:Nat,fs.getD (cl.getD s 0).toNat 0 = (t:Int)∧t < x.2.1.length∧cl.getD t 0 = cl.getD s 0) →
     ∃ fs',g69L122f N F k0 ((i:Int) - 1) x u cl fs v w = k0 x u cl fs' v w∧fs'.length = x.2.1.length∧∀ s,s < x.2.1.length→∃ t:Nat,fs'.getD (cl.getD s 0).toNat 0 = (t:Int)∧t < x.2.1.length∧cl.getD t 0 = cl.getD s 0
 | 0,i,fs,hF,_,_,_=>by omega
 | F + 1,i,fs,hF,hi,hl,hinv=>by
   rw [g69L122f_succ]
   unfold g69L122B
   cases i with
   | zero =>
     have e1:decide ((0:Int) ≤ ((0:Nat):Int) - 1) = false:=by simp
     rw [e1,cond_false]
     exact ⟨fs,rfl,hl,fun s hs=>hinv s (by omega) hs⟩
   | succ i =>
     have e1:decide ((0:Int) ≤ ((i + 1:Nat):Int) - 1) = true:=by rw [decide_eq_true_iff];omega
     rw [show ((i + 1:Nat):Int) - 1 = (i:Int) by omega] at e1 ⊢
     have hlen:=hcl.len
     have hrg:=hcl.rng i (by omega)
     have e2:idx (i:Int) cl.length:=⟨by omega,by omega⟩
     have e3:idx (cl.getD i 0) fs.length:=⟨by omega,by omega⟩
     rw [e1,cond_true,if_pos e2,Int.toNat_natCast,if_pos e3,if_pos (by omega),w64 (by omega) (by omega)]
     refine first_loop' N hx hn hcl k0 u v w F i _ (by omega) (by omega) (by rw [List.length_set];exact hl) fun s hs hs2=>?_
     rw [getD_set _ (by omega)]
     by_cases hq:(cl.getD i 0).toNat = (cl.getD s 0).toNat
     · rw [if_pos hq]
       have:=hcl.rng s hs2
       exact ⟨i,rfl,by omega,by omega⟩
     · rw [if_neg hq]
       by_cases hsi:s = i
       · subst hsi;exact absurd rfl hq
       · exact hinv s (by omega) hs2
theorem prog_form {x:MM} (hx:WM x) (hn:x.2.1.length ≤ 60000) (N:Nat) (hN:1001 < N) (hN2:x.2.1.length < N):∃ F,g69 N x = some F∧F.1 = x.1∧Form F∧Same F x 0 0:=by
 have hmany:=hx.many
 have hb:=hx.base
 obtain ⟨cl,e,hcl⟩:=classes_eq hx hn N hN hN2
 have hlen:=hcl.len
 obtain ⟨fs,e2,f1,f2⟩:=first_loop' N hx hn hcl (fun e2 e3 e4 e5 e6 e7=>if idx 0 (List.length e4) then Option.bind (g75 N e2.1 (List.getD e4 (Int.toNat 0) 0) (fun (x8:Int×Unit)=>Option.bind (g92 N x8.1 e2 e5) fun y9=>some y9) (fun (x10:Int×Int×Unit)=>Option.bind (g93 N x10.1 x10.2.1 e4 e2 e5) fun y11=>some y11)) fun r12=>some r12 else none) 0 [] [] N x.2.1.length (List.replicate (Int.toNat ((cl.length:Nat):Int)) 0) (by omega) (by omega) (by simp [hlen]) (fun s hs hs2=>by omega)
 obtain ⟨F,l,e3,hd,hl⟩:=built_eq N (b:=x.1.toNat) (by omega) hN (cl.getD 0 0) (fun (x8:Int×Unit)=>Option.bind (g92 N x8.1 x fs) fun y9=>some y9) (fun (x10:Int×Int×Unit)=>Option.bind (g93 N x10.1 x10.2.1 cl x fs) fun y11=>some y11)
   (fun c=>oM x (fs.getD c.toNat 0).toNat) (fun c r=>cl.getD (dM x (fs.getD c.toNat 0).toNat r) 0) (fun c=>∃ s,s < x.2.1.length∧cl.getD s 0 = c)
   (fun c hc r hr=>by
     obtain ⟨s,hs,rfl⟩:=hc
     obtain ⟨t,h1,h2,h3⟩:=f2 s hs
     rw [h1,Int.toNat_natCast]
     exact ⟨_,(hx.at h2 (r:=r) (by omega)).2,rfl⟩) x.2.1.length (fun c hc=>by
     obtain ⟨s,hs,rfl⟩:=hc
     exact hcl.rng s hs) hn hN2 (fun c hc=>by
     obtain ⟨s,hs,rfl⟩:=hc
     obtain ⟨t,h1,h2,h3⟩:=f2 s hs
     have:=hcl.rng s hs
     dsimp only
     unfold g92
     rw [if_pos (⟨by omega,by omega⟩:idx _ _),h1,if_pos (⟨by omega,by omega⟩:idx _ _)];rfl) (fun c hc r hr=>by
     obtain ⟨s,hs,rfl⟩:=hc
     obtain ⟨t,h1,h2,h3⟩:=f2 s hs
     have:=hcl.rng s hs
     have hrow:=hx.row t h2
     have hat:=hx.at h2 (r:=r) (by omega)
     have hnx:=hx.next
     dsimp only
     unfold g93
     rw [if_pos (⟨by omega,by omega⟩:idx _ _),h1,if_pos (⟨by omega,by omega⟩:idx _ _)]
     simp only [Int.toNat_natCast]
     rw [if_pos (⟨by omega,by omega⟩:idx _ _),if_pos (⟨by omega,by omega⟩:idx _ _)];rfl) ⟨0,by omega,rfl⟩
 have hm:=hd.made hx hcl (fun c=>(fs.getD c.toNat 0).toNat) (fun c hc=>by
   obtain ⟨s,hs,rfl⟩:=hl c hc
   obtain ⟨t,h1,h2,h3⟩:=f2 s hs
   rw [h1,Int.toNat_natCast]
   exact ⟨h2,h3.symm,rfl,fun r hr=>rfl⟩) (by
   obtain ⟨t,h1,h2,h3⟩:=f2 0 (by omega)
   rw [h1,Int.toNat_natCast];exact h3)
 have hF:=hm.form hx hcl.iff
 refine ⟨F,?_,hm.base,hF⟩
 unfold g69
 rw [e,Option.bind_some,if_pos (by exact ⟨rfl,by omega,by omega⟩),g69L122_eq,w64 (by omega) (by omega),hlen] 
 rw [hlen] at e2
 refine Eq.trans e2 ?_
 rw [if_pos (⟨by omega,by omega⟩:idx 0 x.2.1.length)]
 rw [show ((x.1.toNat:Nat):Int) = x.1 by omega] at e3
 rw [show Int.toNat 0 = 0 from rfl,e3];rfl
theorem forms_one {x:MM} (hx:WM x) (hn:x.2.1.length ≤ 60000) (N:Nat) (hN:1001 < N) (hN2:x.2.1.length < N):∃ F,g69 N x = some F∧g34 N x = some F∧F.1 = x.1∧Form F∧Same F x 0 0∧F.2.1.length ≤ x.2.1.length∧∀ i,i < F.2.1.length→∃ t,t < x.2.1.length∧Same F x i t:=by
 obtain ⟨F,e1,b1,f1,s1⟩:=prog_form hx hn N hN hN2
 obtain ⟨G,e2,b2,f2,s2,m2,m3⟩:=ref_form hx hn N hN hN2
 have:F = G:=f1.uniq f2 (by rw [b1,b2]) (s1.trans b1.symm (s2.symm b2.symm))
 subst this
 exact ⟨F,e1,e2,b1,f1,s1,m2,m3⟩
end Go.Pv
namespace Go.Pv
structure GoodRow (x:MM) (s:Nat):Prop where
 len:((x.2.2.1.getD s []).length:Int) = x.1
 rng:∀ t ∈ x.2.2.1.getD s [],0 ≤ t∧t < (x.2.1.length:Int)
 zero:x.2.1.getD ((x.2.2.1.getD s []).getD 0 0).toNat 0 = x.2.1.getD s 0
theorem Tame.good {x:MM} (h:Tame x) {s:Nat} (hs:s < x.2.1.length):GoodRow x s:=by
 have hm:x.2.2.1.getD s [] ∈ x.2.2.1:=getD_mem (by rw [h.next];exact hs) []
 exact ⟨(h.row _ hm).1,(h.row _ hm).2,h.zero s hs⟩
end Go.Pv
namespace Go.Pv
theorem not_ieq_self (n:Int):(!ieq n n) = false:=by simp [ieq]
theorem eq_row (N:Nat) {x:MM} (s:Nat) (hs:s < x.2.2.1.length) (hl:(x.2.2.1.getD s []).length ≤ 1000) {C:Type} (k0:Bool→Int→MM→MM→Option C) (k1:Int→MM→MM→Option C) :
   ∀ (F j:Nat),(x.2.2.1.getD s []).length - j < F→j ≤ (x.2.2.1.getD s []).length→g32L7462f N F k0 k1 (s:Int) (j:Int) x x = k1 (s:Int) x x
 | 0,j,hF,_=>by omega
 | F + 1,j,hF,hj=>by
   rw [g32L7462f_succ]
   unfold g32L7462B
   have e0:idx (s:Int) x.2.2.1.length:=⟨by omega,by omega⟩
   rw [if_pos e0,Int.toNat_natCast]
   by_cases hlt:j < (x.2.2.1.getD s []).length
   · have e1:decide ((j:Int) < ((x.2.2.1.getD s []).length:Int)) = true:=by simp only [decide_eq_true_iff];omega
     have e2:idx (j:Int) (x.2.2.1.getD s []).length:=⟨by omega,by omega⟩
     rw [e1,cond_true,if_pos e0,if_pos e2,if_pos e0,if_pos e2,not_ieq_self,cond_false,wn j (by omega)]
     exact eq_row N s hs hl k0 k1 F (j + 1) (by omega) (by omega)
   · have e1:decide ((j:Int) < ((x.2.2.1.getD s []).length:Int)) = false:=by simp only [decide_eq_false_iff_not];omega
     rw [e1,cond_false]
theorem eq_rows (N:Nat) (hN:1001 < N) {x:MM} (hn:x.2.1.length = x.2.2.1.length) (hn2:x.2.2.1.length ≤ 60000) (hl:∀ s,s < x.2.2.1.length→(x.2.2.1.getD s []).length ≤ 1000) {C:Type} (k0:Bool→MM→MM→Option C) (k1:MM→MM→Option C) :
   ∀ (F s:Nat),x.2.2.1.length - s < F→s ≤ x.2.2.1.length→g32L58f N F k0 k1 (s:Int) x x = k1 x x
 | 0,s,hF,_=>by omega
 | F + 1,s,hF,hs=>by
   rw [g32L58f_succ]
   unfold g32L58B
   by_cases hlt:s < x.2.2.1.length
   · have e1:decide ((s:Int) < (x.2.1.length:Int)) = true:=by simp only [decide_eq_true_iff];omega
     have e2:idx (s:Int) x.2.2.1.length:=⟨by omega,by omega⟩
     have e3:idx (s:Int) x.2.1.length:=⟨by omega,by omega⟩
     rw [e1,cond_true]
     simp only [if_pos e2,if_pos e3,not_ieq_self,cond_false]
     rw [g32L7462_eq]
     have el:=fun a b=>eq_row (C:=C) N s hlt (hl s hlt) a b N 0 (by have:=hl s hlt;omega) (by omega)
     simp only [Int.natCast_zero] at el
     rw [el,wn s (by omega)]
     exact eq_rows N hN hn hn2 hl k0 k1 F (s + 1) (by omega) (by omega)
   · have e1:decide ((s:Int) < (x.2.1.length:Int)) = false:=by simp only [decide_eq_false_iff_not];omega
     rw [e1,cond_false]
theorem WM.same {x:MM} (h:WM x) (N:Nat) (hN:1001 < N) (hn:x.2.1.length ≤ 60000) (hn2:x.2.1.length < N):g32 N x x = some true:=by
 unfold g32
 simp only [not_ieq_self,cond_false]
 rw [g32L58_eq]
 have hnx:=h.next
 have hb:=h.base
 have:=eq_rows N hN hnx.symm (by omega) (fun s hs=>by have:=h.row s (by omega);omega) (fun e8 e9 e10=>some e8) (fun e11 e12=>some true) N 0 (by omega) (by omega)
 simp only [Int.natCast_zero] at this
 exact this
end Go.Pv
namespace Go.Pv
theorem Disc.wm {α κ:Type} {d:α} {b:Nat} {key:α→κ} {out:α→Int} {step:α→Nat→α} {a:α} {F:MM} {l:List α} (h:Disc d b key out step a F l) (hb:1 ≤ b∧b ≤ 1000) (ho:∀ t ∈ l,0 ≤ out t∧out t ≤ 9):WM F:=by
 have hl:F.2.1.length = l.length:=by rw [h.out,List.length_map]
 refine ⟨by rw [h.base];omega,by rw [hl];exact h.some1,fun o hm=>?_,by rw [h.next,hl],fun s hs=>?_,fun s hs t ht=>?_⟩
 · rw [h.out] at hm
   obtain ⟨t,ht,rfl⟩:=List.mem_map.1 hm
   exact ho t ht
 · rw [hl] at hs
   rw [h.base,h.rowl s hs]
 · rw [hl] at hs ⊢
   obtain ⟨r,hr,rfl⟩:=List.getElem_of_mem ht
   have hrl:=h.rowl s hs
   obtain ⟨j,h1,h2,_⟩:=h.way s r hs (by omega)
   rw [getD_of hr] at h1
   rw [h1];omega
theorem Disc.same {α:Type} {d:α} {b:Nat} {out:α→Int} {step:α→Nat→α} {a:α} {F:MM} {l:List α} (h:Disc d b idK out step a F l) {S:MM} (rep:α→Nat)
   (hl:∀ t ∈ l,out t = oM S (rep t)∧∀ r,r < b→rep (step t r) = dM S (rep t) r):Same F S 0 (rep a):=by
 have key:∀ (w:List Nat) (i:Nat),i < l.length→(∀ r ∈ w,r < b)→beh F i w = beh S (rep (l.getD i d)) w:=by
   intro w
   induction w with
   | nil =>
     intro i hi _
     show oM F i = oM S _
     rw [← (hl _ (getD_mem hi d)).1]
     unfold oM
     rw [h.out,getD_of (by simpa using hi),getD_of hi];simp
   | cons r w ih =>
     intro i hi hw
     have hr:r < b:=hw r (by simp)
     obtain ⟨j,h1,h2,h3⟩:=h.way i r hi hr
     have hd:dM F i r = j:=by unfold dM;rw [h1];simp
     show beh F (dM F i r) w = beh S (dM S (rep (l.getD i d)) r) w
     rw [hd,ih j h2 (fun q hq=>hw q (by simp [hq]))]
     have h3:l.getD j d = step (l.getD i d) r:=h3
     rw [h3,(hl _ (getD_mem hi d)).2 r hr]
 intro w hw
 rw [h.base] at hw
 rw [key w 0 h.some1 (fun r hr=>by have:=hw r hr;omega),h.first]
abbrev PP:=Int×Int×Unit
theorem pp_eq (a b:PP):Ty.beq (.pair (.int .i64) (.pair (.int .i64) .unit)) a b = true ↔ a = b:=by
 obtain ⟨a1,a2,⟨⟩⟩:=a
 obtain ⟨b1,b2,⟨⟩⟩:=b
 simp [Ty.beq]
theorem arr_eq (n:Nat) (a b:List Int):Ty.beq (.arr n (.int .i64)) a b = true ↔ a = b:=by
 show Ty.beq.go (Ty.beq (.int .i64)) a b = true ↔ a = b
 induction a generalizing b with
 | nil=>cases b <;> simp [Ty.beq.go]
 | cons v a ih =>
   cases b with
   | nil=>simp [Ty.beq.go]
   | cons w b =>
     simp only [Ty.beq.go,Bool.and_eq_true,List.cons.injEq]
     rw [ih b]
     simp [Ty.beq,ieq]
def arrP (t:PP):List Int:=[t.1,t.2.1]
theorem arrP_inj {t u:PP} (h:arrP t = arrP u):t = u:=by
 obtain ⟨t1,t2,⟨⟩⟩:=t
 obtain ⟨u1,u2,⟨⟩⟩:=u
 simp only [arrP,List.cons.injEq,and_true] at h
 rw [h.1,h.2]
theorem mem_inj {α β:Type} {f:α→β} (hf:∀ a b,f a = f b→a = b) {t:α} {q:List α}:f t ∈ q.map f ↔ t ∈ q:=by
 constructor
 · intro h
   obtain ⟨u,hu,he⟩:=List.mem_map.1 h
   exact hf u t he ▸ hu
 · intro h;exact List.mem_map.2 ⟨t,h,rfl⟩
theorem posOf_inj_map {α β:Type} [DecidableEq α] [DecidableEq β] {f:α→β} (hf:∀ a b,f a = f b→a = b) (t:α):∀ (q:List α),posOf (f t) (q.map f) = posOf t q
 | []=>rfl
 | u :: q=>by
   simp only [List.map_cons,posOf]
   by_cases h:u = t
   · rw [if_pos h,if_pos (by rw [h])]
   · rw [if_neg h,if_neg (fun e=>h (hf _ _ e)),posOf_inj_map hf t q]
theorem set_pair (a b:Int):List.set (List.set (List.replicate 2 (0:Int)) 0 a) 1 b = [a,b]:=rfl
theorem arrP_get (q:List PP) {i:Nat} (h:i < q.length) (d:List Int):(q.map arrP).getD i d = arrP (q.getD i (0,0,())):=by
 rw [getD_of h,getD_of (by simpa using h)];simp
end Go.Pv
namespace Go.Pv
theorem built_row96 (N:Nat) {b:Nat} (hb:b ≤ 1000) {C:Type} (k0:Int→(PP×Unit→Option Int)→(PP×Int×Unit→Option PP)→Int→Int→Int→PP→List Int→List (PP×Int)→List PP→List Int→List (List Int)→List Int→List (List Int)→Option C)
   (v0:Int) (f2:PP×Unit→Option Int) (f3:PP×Int×Unit→Option PP) (step:PP→Nat→PP) (i:Int) (s:PP) (hs:∀ r:Nat,r < b→f3 (s,(r:Int),()) = some (step s r))
   (a1 a2:Int) (u1:List Int) (u2:List (List Int)) (o1:List Int) (o2:List (List Int)) :
   ∀ (F r:Nat) (row:List Int) (q:List PP),b - r < F→r ≤ b→row.length ≤ r→q.length ≤ 100000 + r →
     g96L128154f N F k0 v0 f2 f3 i (b:Int) (r:Int) a1 a2 s row (mpairs 0 q) q u1 u2 o1 o2 =
       k0 v0 f2 f3 i a1 a2 s (bfsRow idK step s ((List.range b).drop r) row q).1 (mpairs 0 (bfsRow idK step s ((List.range b).drop r) row q).2) (bfsRow idK step s ((List.range b).drop r) row q).2 u1 u2 o1 o2
 | 0,r,row,q,hF,_,_,_=>by omega
 | F + 1,r,row,q,hF,hr,h1,h2=>by
   rw [g96L128154f_succ]
   unfold g96L128154B
   by_cases hlt:r < b
   · have e1:decide ((r:Int) < (b:Int)) = true:=by simp;omega
     rw [e1,cond_true,hs r hlt,Option.bind_some,range_drop hlt]
     unfold bfsRow
     rw [map_idK]
     rw [find_mpairs pp_eq]
     by_cases hm:step s r ∈ q
     · rw [if_pos hm,if_pos hm]
       simp only [Option.isSome_some,Bool.not_true,cond_false]
       rw [if_pos (by simp only [List.length_cons,List.length_nil,maxCount];omega),Option.getD_some,wn r (by omega),Nat.zero_add]
       exact built_row96 N hb k0 v0 f2 f3 step i s hs a1 a2 u1 u2 o1 o2 F (r + 1) _ q (by omega) (by omega) (by simp;omega) (by omega)
     · rw [if_neg hm,if_neg hm]
       simp only [Option.isSome_none,Bool.not_false,cond_true]
       rw [put_mpairs pp_eq _ _ _ _ hm,show mpairs 0 q ++ [(step s r,(q.length:Int))] = mpairs 0 (q ++ [step s r]) by rw [mpairs_snoc];simp,find_mpairs pp_eq,if_pos (show step s r ∈ q ++ [step s r] from by simp)]
       rw [if_pos (by simp only [List.length_cons,List.length_nil,maxCount];omega),if_pos (by simp only [List.length_cons,List.length_nil,maxCount];omega),Option.getD_some,wn r (by omega),Nat.zero_add,posOf_new hm]
       exact built_row96 N hb k0 v0 f2 f3 step i s hs a1 a2 u1 u2 o1 o2 F (r + 1) _ _ (by omega) (by omega) (by simp;omega) (by simp;omega)
   · have e1:decide ((r:Int) < (b:Int)) = false:=by simp;omega
     rw [e1,cond_false,List.drop_of_length_le (by simp;omega)];rfl
theorem built_loop96 (N:Nat) {b:Nat} (hb:b ≤ 1000) (hN:1001 < N) {C:Type} (k0:Int→Int→List (PP×Int)→List PP→List Int→List (List Int)→List Int→List (List Int)→Option C)
   (f2:PP×Unit→Option Int) (f3:PP×Int×Unit→Option PP) (out:PP→Int) (step:PP→Nat→PP) (P:PP→Prop) (hP:∀ s,P s→∀ r,r < b→P (step s r)) (K:Nat) (num:PP→Int) (hK:∀ s,P s→0 ≤ num s∧num s < (K:Int)) (hinj:∀ s t,P s→P t→num s = num t→s = t) (hK2:K ≤ 60000)
   (h2:∀ s,P s→f2 (s,()) = some (out s)) (h3:∀ s,P s→∀ r:Nat,r < b→f3 (s,(r:Int),()) = some (step s r)) (a1 a2:Int) (u1:List Int) (u2:List (List Int)) :
   ∀ (F i:Nat) (q:List PP) (o1:List Int) (o2:List (List Int)) (l:List PP) (outs:List Int) (rows:List (List Int)),bfs (0,0,()) idK out step b F i q o1 o2 = some (l,outs,rows)→(∀ t ∈ q,P t)→q.Nodup→i ≤ q.length→o1.length = i→o2.length = i →
     g96L250f N F k0 (b:Int) f2 f3 (i:Int) a1 a2 (mpairs 0 q) q u1 u2 o1 o2 = k0 a1 a2 (mpairs 0 l) l u1 u2 outs rows
 | 0,i,q,o1,o2,l,outs,rows,h,_,_,_,_,_=>by simp [bfs] at h
 | F + 1,i,q,o1,o2,l,outs,rows,h,hq,hn,hi,l1,l2=>by
   rw [g96L250f_succ]
   unfold g96L250B
   unfold bfs at h
   have hlen:q.length ≤ K:=pigeon_num idK num hinj hK hq (by rw [map_idK];exact hn)
   by_cases hlt:i < q.length
   · rw [if_pos hlt] at h
     have e1:decide ((i:Int) < (q.length:Int)) = true:=by simp;omega
     have e2:idx (i:Int) q.length:=⟨by omega,by omega⟩
     have hs:=hq _ (getD_mem hlt (0,0,()))
     rw [e1,cond_true,if_pos e2,if_pos (by rw [Int.toNat_natCast];exact hlt),Int.toNat_natCast,g96L128154_eq]
     have el:=fun k=>built_row96 (C:=C) N hb k (b:Int) f2 f3 step (i:Int) (q.getD i (0,0,())) (h3 _ hs) a1 a2 u1 u2 o1 o2 N 0 [] q (by omega) (by omega) (by simp) (by omega)
     simp only [Int.natCast_zero,List.drop_zero] at el
     rw [el]
     obtain ⟨new,ext,e,g1,g2,g3,g4,g5⟩:=bfsRow_spec idK step (q.getD i (0,0,())) P (List.range b) [] q (fun r hr=>hP _ hs r (List.mem_range.1 hr)) hq (by rw [map_idK];exact hn)
     rw [e] at h ⊢
     dsimp only at h ⊢
     rw [List.nil_append] at h ⊢
     rw [h2 _ hs,Option.bind_some,if_pos (by simp only [List.length_cons,List.length_nil,maxCount];omega),if_pos (by simp only [List.length_cons,List.length_nil,maxCount];omega),wn i (by omega)]
     exact built_loop96 N hb hN k0 f2 f3 out step P hP K num hK hinj hK2 h2 h3 a1 a2 u1 u2 F (i + 1) (q ++ ext) _ _ l outs rows h (fun t ht=>by
       rcases List.mem_append.1 ht with ht | ht
       · exact hq t ht
       · exact g3 t ht) (by rw [map_idK] at g4;exact g4) (by simp;omega) (by simp [l1]) (by simp [l2])
   · rw [if_neg hlt] at h
     have e1:decide ((i:Int) < (q.length:Int)) = false:=by simp;omega
     rw [e1,cond_false]
     simp only [Option.some.injEq,Prod.mk.injEq] at h
     obtain ⟨rfl,rfl,rfl⟩:=h
     rfl
theorem built_eq96 (N:Nat) {b:Nat} (hb:b ≤ 1000) (hN:1001 < N) (a:PP) (f2:PP×Unit→Option Int) (f3:PP×Int×Unit→Option PP) (out:PP→Int) (step:PP→Nat→PP) (P:PP→Prop) (hP:∀ s,P s→∀ r,r < b→P (step s r))
   (K:Nat) (num:PP→Int) (hK:∀ s,P s→0 ≤ num s∧num s < (K:Int)) (hinj:∀ s t,P s→P t→num s = num t→s = t) (hK2:K ≤ 60000) (hKN:K < N) (h2:∀ s,P s→f2 (s,()) = some (out s)) (h3:∀ s,P s→∀ r:Nat,r < b→f3 (s,(r:Int),()) = some (step s r)) (ha:P a) :
   ∃ F l,g96 N (b:Int) a f2 f3 = some F∧Disc (0,0,()) b idK out step a F l∧(∀ t ∈ l,P t)∧F.2.1.length ≤ K∧bfs (0,0,()) idK out step b N 0 [a] [] [] = some (l,F.2.1,F.2.2.1):=by
 obtain ⟨l,outs,rows,e,hd,hl⟩:=bfs_disc (0,0,()) idK out step b P hP K num hK hinj N hKN a ha
 refine ⟨_,l,?_,hd,hl,by rw [hd.out,List.length_map];exact pigeon_num idK num hinj hK hl hd.nodup,e⟩
 unfold g96
 rw [g96L250_eq]
 have:=built_loop96 N hb hN (fun e17 e18 e19 e20 e21 e22 e23 e24=>some (e18,e23,e24,())) f2 f3 out step P hP K num hK hinj hK2 h2 h3 0 (b:Int) [] [] N 0 [a] [] [] l outs rows e (by simpa using ha) (by simp) (by simp) rfl rfl
 exact this
end Go.Pv
namespace Go.Pv
theorem ref_at_loop (N:Nat) {C:Type} (k0:Int→MM→Option C) (b:Int) (x:MM):∀ (F:Nat) (n s:Int),g36L28f N F k0 s n b x = (atP x.2.2.1 b F n s).bind fun sf=>k0 sf x
 | 0,n,s=>rfl
 | F + 1,n,s=>by
   rw [g36L28f_succ]
   unfold g36L28B
   simp only [atP]
   by_cases hn:0 < n
   · rw [if_pos hn,show decide ((0:Int) < n) = true by simpa using hn,cond_true]
     unfold atStep
     by_cases hb:b = 0
     · simp [hb]
     · by_cases h1:idx s x.2.2.1.length
       · by_cases h2:idx (Int.tmod n b) (x.2.2.1.getD s.toNat []).length
         · simp only [if_pos h1,if_neg hb,if_pos h2]
           exact ref_at_loop N k0 b x F _ _
         · simp only [if_pos h1,if_neg hb,if_neg h2];rfl
       · simp only [if_neg h1,if_neg hb];rfl
   · rw [if_neg hn,show decide ((0:Int) < n) = false by simpa using hn,cond_false];rfl
theorem ref_at (N:Nat) (x:MM) (s n:Int):g36 N x s n = g70 N x s n:=by
 unfold g36 g70
 rw [g36L28_eq,ref_at_loop]
end Go.Pv
namespace Go.Pv
theorem at_any {x:MM} (h:Tame x) (N:Nat) (hN:100 ≤ N) (s n:Int) (hs0:0 ≤ s) (hs1:s < (x.2.1.length:Int)) (h0:0 ≤ n) (h1:n < 9223372036854775808):∃ v,g70 N x s n = some v∧0 ≤ v∧v ≤ 9:=by
 have h63:n < (2:Int) ^ 63:=by
   have h2:(2:Int) ^ 63 = 9223372036854775808:=by decide
   rw [h2];exact h1
 obtain ⟨sf,e1,e2,e3⟩:=at_total h 63 n s hs0 hs1 h63 h0 (by omega)
 have e4:=atP_more x.2.2.1 x.1 64 (N - 64) n s sf e1
 rw [show 64 + (N - 64) = N by omega] at e4
 have hs:sf.toNat < x.2.1.length:=by omega
 have hm:x.2.1.getD sf.toNat 0 ∈ x.2.1:=getD_mem hs 0
 refine ⟨x.2.1.getD sf.toNat 0,?_,h.out _ hm⟩
 unfold g70
 rw [e4]
 simp only [Option.bind_some]
 rw [if_pos ⟨e2,e3⟩]
def evStep (x:MM) (k:Int) (t:PP) (r:Nat):PP:=((dM x t.1.toNat ((k * r + t.2.1) % x.1).toNat:Int),(k * r + t.2.1) / x.1,())
def evOut (x:MM) (N:Nat) (t:PP):Int:=(g70 N x t.1 t.2.1).getD 0
structure EvP (x:MM) (C:Int) (t:PP):Prop where
 s:0 ≤ t.1∧t.1 < (x.2.1.length:Int)
 c:0 ≤ t.2.1∧t.2.1 ≤ C
theorem ev_num {x:MM} (hx:WM x) {k C:Int} (hk:0 ≤ k∧k ≤ C + 1) (hC:C ≤ 1000) {t:PP} (ht:EvP x C t) {r:Nat} (hr:(r:Int) < x.1):0 ≤ k * r + t.2.1∧k * r + t.2.1 < x.1 * (C + 1)∧0 ≤ k * (r:Int)∧k * (r:Int) ≤ 1001000∧x.1 * (C + 1) ≤ 1001000:=by
 have hb:=hx.base
 have hc:=ht.c
 have h1:0 ≤ k * (r:Int):=Int.mul_nonneg hk.1 (by omega)
 have h2:k * (r:Int) ≤ (C + 1) * (r:Int):=Int.mul_le_mul_of_nonneg_right hk.2 (by omega)
 have h3:(C + 1) * (r:Int) ≤ (C + 1) * (x.1 - 1):=Int.mul_le_mul_of_nonneg_left (by omega) (by omega)
 have h4:(C + 1) * (x.1 - 1) = x.1 * (C + 1) - (C + 1):=by rw [Int.mul_sub,Int.mul_comm,Int.mul_one]
 have h5:x.1 * (C + 1) ≤ 1000 * (C + 1):=Int.mul_le_mul_of_nonneg_right hb.2 (by omega)
 omega
theorem ev_step {x:MM} (hx:WM x) {k C:Int} (hk:0 ≤ k∧k ≤ C + 1) (hC:C ≤ 1000) {t:PP} (ht:EvP x C t) {r:Nat} (hr:(r:Int) < x.1) :
   EvP x C (evStep x k t r)∧(IntKind.wrap .i64 ((IntKind.wrap .i64 (k * r)) + t.2.1)) = k * r + t.2.1∧Int.tmod (k * r + t.2.1) x.1 = (k * r + t.2.1) % x.1∧IntKind.wrap .i64 (Int.tdiv (k * r + t.2.1) x.1) = (k * r + t.2.1) / x.1 ∧
     idx t.1 x.2.2.1.length∧idx ((k * r + t.2.1) % x.1) (x.2.2.1.getD t.1.toNat []).length∧(x.2.2.1.getD t.1.toNat []).getD ((k * r + t.2.1) % x.1).toNat 0 = (dM x t.1.toNat ((k * r + t.2.1) % x.1).toNat:Int):=by
 have hb:=hx.base
 have hs:=ht.s
 have hc:=ht.c
 have hn:=hx.next
 obtain ⟨n0,n1,n2,n3,n4⟩:=ev_num hx hk hC ht hr
 generalize hv:k * (r:Int) + t.2.1 = v at *
 have m1:=Int.emod_nonneg v (show x.1 ≠ 0 by omega)
 have m2:=Int.emod_lt_of_pos v (show 0 < x.1 by omega)
 have d1:0 ≤ v / x.1:=Int.ediv_nonneg n0 (by omega)
 have d2:v / x.1 < C + 1:=Int.ediv_lt_of_lt_mul (by omega) (by rw [Int.mul_comm];exact n1)
 have ht':t.1.toNat < x.2.1.length:=by omega
 have hrow:=hx.row _ ht'
 have hat:=hx.at ht' (r:=(v % x.1).toNat) (by omega)
 refine ⟨⟨?_,?_⟩,?_,?_,?_,⟨by omega,by omega⟩,⟨m1,by omega⟩,hat.1⟩
 · unfold evStep;simp only [hv];omega
 · unfold evStep;simp only [hv];omega
 · rw [w64 (x:=k * (r:Int)) (by omega) (by omega),hv];exact w64 (by omega) (by omega)
 · exact Int.tmod_eq_emod_of_nonneg n0
 · rw [Int.tdiv_eq_ediv_of_nonneg n0];exact w64 (by omega) (by omega)
theorem ev_bnd (x:MM) (C:Int):∀ t:PP,EvP x C t→0 ≤ t.1 * (C + 1) + t.2.1∧t.1 * (C + 1) + t.2.1 < ((x.2.1.length * (C + 1).toNat:Nat):Int):=fun t ht=>by
 have h1:=ht.s;have h2:=ht.c
 have hKe:((x.2.1.length * (C + 1).toNat:Nat):Int) = (x.2.1.length:Int) * (C + 1):=by rw [Int.natCast_mul,Int.toNat_of_nonneg (by omega)]
 have h3:0 ≤ t.1 * (C + 1):=Int.mul_nonneg h1.1 (by omega)
 have h4:t.1 * (C + 1) ≤ ((x.2.1.length:Int) - 1) * (C + 1):=Int.mul_le_mul_of_nonneg_right (by omega) (by omega)
 rw [Int.sub_mul,Int.one_mul] at h4
 omega
theorem ev_inj (x:MM) (C:Int):∀ t u:PP,EvP x C t→EvP x C u→t.1 * (C + 1) + t.2.1 = u.1 * (C + 1) + u.2.1→t = u:=fun t u ht hu he=>by
 have h1:=ht.c;have h2:=hu.c
 obtain ⟨t1,t2,⟨⟩⟩:=t
 obtain ⟨u1,u2,⟨⟩⟩:=u
 simp only at he h1 h2
 have e1:t1 = (t1 * (C + 1) + t2) / (C + 1):=by
   rw [Int.add_comm,Int.add_mul_ediv_right _ _ (by omega),Int.ediv_eq_zero_of_lt (by omega) (by omega)];omega
 have e2:u1 = (u1 * (C + 1) + u2) / (C + 1):=by
   rw [Int.add_comm,Int.add_mul_ediv_right _ _ (by omega),Int.ediv_eq_zero_of_lt (by omega) (by omega)];omega
 have e3:t1 = u1:=by rw [e1,he];exact e2.symm
 subst e3
 have:t2 = u2:=by omega
 rw [this]
theorem ref_every_row (N:Nat) {x:MM} (hw:WM x) (hx3:x.2.1.length ≤ 12) {k C:Int} (hk:0 ≤ k∧k ≤ C + 1) (hC:C ≤ 1000) {D:Type} (k0:Int→Int→Int→Int→MM→Int→Int→List Int→List (List Int)→List (List Int×Int)→List Int→List (List Int)→List Int→List (List Int)→Option D)
   (i:Int) (t:PP) (ht:EvP x C t) (a1 a2:Int) (u1:List Int) (u2:List (List Int)) (o1:List Int) (o2:List (List Int)) :
   ∀ (F r:Nat) (row:List Int) (q:List PP),x.1.toNat - r < F→(r:Int) ≤ x.1→row.length ≤ r→q.length ≤ 100000 + r →
     g39L128154f N F k0 k i t.1 t.2.1 (r:Int) x a1 a2 row (q.map arrP) (mpairs 0 (q.map arrP)) u1 u2 o1 o2 =
       k0 k i t.1 t.2.1 x a1 a2 (bfsRow idK (evStep x k) t ((List.range x.1.toNat).drop r) row q).1 ((bfsRow idK (evStep x k) t ((List.range x.1.toNat).drop r) row q).2.map arrP) (mpairs 0 ((bfsRow idK (evStep x k) t ((List.range x.1.toNat).drop r) row q).2.map arrP)) u1 u2 o1 o2
 | 0,r,row,q,hF,_,_,_=>by omega
 | F + 1,r,row,q,hF,hr,h1,h2=>by
   rw [g39L128154f_succ]
   unfold g39L128154B
   have hb:=hw.base
   by_cases hlt:(r:Int) < x.1
   · obtain ⟨q1,q2,q3,q4,q5,q6,q7⟩:=ev_step hw hk hC ht (r:=r) hlt
     have e1:decide ((r:Int) < x.1) = true:=by simpa using hlt
     rw [e1,cond_true,if_pos q5,if_neg (by omega),q2,q3,if_pos q6,if_neg (by omega),q4,q7,set_pair,range_drop (by omega)]
     unfold bfsRow
     rw [map_idK]
     rw [show ([(dM x t.1.toNat ((k * r + t.2.1) % x.1).toNat:Int),(k * r + t.2.1) / x.1]:List Int) = arrP (evStep x k t r) from rfl]
     unfold g65
     rw [find_mpairs (arr_eq 2)]
     by_cases hm:evStep x k t r ∈ q
     · rw [if_pos ((mem_inj (fun a b=>arrP_inj)).2 hm),if_pos hm]
       simp only [Option.isSome_some,Bool.not_true,cond_false,Option.bind_some]
       rw [if_pos (by simp only [List.length_cons,List.length_nil,maxCount];omega),Option.getD_some,wn r (by omega),Nat.zero_add,posOf_inj_map (fun a b=>arrP_inj)]
       exact ref_every_row N hw hx3 hk hC k0 i t ht a1 a2 u1 u2 o1 o2 F (r + 1) _ q (by omega) (by omega) (by simp;omega) (by omega)
     · rw [if_neg (fun h=>hm ((mem_inj (fun a b=>arrP_inj)).1 h)),if_neg hm]
       simp only [Option.isSome_none,Bool.not_false,cond_true,Option.bind_some,Bool.not_false]
       rw [if_pos (by simp only [List.length_cons,List.length_nil,List.length_map,maxCount];omega),if_pos (by simp only [List.length_cons,List.length_nil,maxCount];omega),wn r (by omega)]
       rw [put_mpairs (arr_eq 2) _ _ _ _ (fun h=>hm ((mem_inj (fun a b=>arrP_inj)).1 h)),show mpairs 0 (q.map arrP) ++ [(arrP (evStep x k t r),((q.map arrP).length:Int))] = mpairs 0 ((q ++ [evStep x k t r]).map arrP) by rw [List.map_append,List.map_cons,List.map_nil,mpairs_snoc];simp]
       rw [show q.map arrP ++ [arrP (evStep x k t r)] = (q ++ [evStep x k t r]).map arrP by simp,List.length_map]
       exact ref_every_row N hw hx3 hk hC k0 i t ht a1 a2 u1 u2 o1 o2 F (r + 1) _ _ (by omega) (by omega) (by simp;omega) (by simp;omega)
   · have e1:decide ((r:Int) < x.1) = false:=by simpa using hlt
     rw [e1,cond_false,List.drop_of_length_le (by simp;omega)];rfl
theorem ref_every_loop (N:Nat) {x:MM} (hx:Tame x) {k C:Int} (hk:0 ≤ k∧k ≤ C + 1) (hC:C ≤ 1000) (hN:1001 < N) {D:Type} (k0:MM→Int→Int→List (List Int)→List (List Int×Int)→List Int→List (List Int)→List Int→List (List Int)→Option D)
   (a1 a2:Int) (u1:List Int) (u2:List (List Int)) :
   ∀ (F i:Nat) (q:List PP) (o1:List Int) (o2:List (List Int)) (l:List PP) (outs:List Int) (rows:List (List Int)),bfs (0,0,()) idK (evOut x N) (evStep x k) x.1.toNat F i q o1 o2 = some (l,outs,rows)→(∀ t ∈ q,EvP x C t)→q.Nodup→i ≤ q.length→o1.length = i→o2.length = i →
     g39L250f N F k0 k (i:Int) x a1 a2 (q.map arrP) (mpairs 0 (q.map arrP)) u1 u2 o1 o2 = k0 x a1 a2 (l.map arrP) (mpairs 0 (l.map arrP)) u1 u2 outs rows
 | 0,i,q,o1,o2,l,outs,rows,h,_,_,_,_,_=>by simp [bfs] at h
 | F + 1,i,q,o1,o2,l,outs,rows,h,hq,hn,hi,l1,l2=>by
   rw [g39L250f_succ]
   unfold g39L250B
   unfold bfs at h
   have hw:=hx.wm
   have hb:=hx.base
   have hm:=hx.many
   have hlen:q.length ≤ x.2.1.length * (C + 1).toNat:=pigeon_num idK (fun t:PP=>t.1 * (C + 1) + t.2.1) (ev_inj x C) (ev_bnd x C) hq (by rw [map_idK];exact hn)
   have hlen2:x.2.1.length * (C + 1).toNat ≤ 12 * 1001:=Nat.mul_le_mul (by omega) (by omega)
   by_cases hlt:i < q.length
   · rw [if_pos hlt] at h
     have e1:decide ((i:Int) < ((q.map arrP).length:Int)) = true:=by rw [decide_eq_true_iff,List.length_map];omega
     have e2:idx (i:Int) (q.map arrP).length:=⟨by omega,by rw [List.length_map];omega⟩
     have e3:Int.toNat (i:Int) < (q.map arrP).length:=by rw [List.length_map];omega
     have hs:=hq _ (getD_mem hlt (0,0,()))
     rw [e1,cond_true,if_pos e2,if_pos (⟨by omega,by omega⟩:idx 0 2),if_pos e3,if_pos e2,if_pos (⟨by omega,by omega⟩:idx 1 2),if_pos e3,Int.toNat_natCast,g39L128154_eq,arrP_get q hlt]
     revert h hs
     generalize q.getD i (0,0,()) = t
     intro h hs
     have el:=fun k0=>ref_every_row (D:=D) N hw (by omega) hk hC k0 (i:Int) t hs a1 a2 u1 u2 o1 o2 N 0 [] q (by omega) (by omega) (by simp) (by omega)
     simp only [Int.natCast_zero,List.drop_zero] at el
     rw [show (arrP t).getD (Int.toNat 0) 0 = t.1 from rfl,show (arrP t).getD (Int.toNat 1) 0 = t.2.1 from rfl,el]
     obtain ⟨new,ext,e,g1,g2,g3,g4,g5⟩:=bfsRow_spec idK (evStep x k) t (EvP x C) (List.range x.1.toNat) [] q (fun r hr=>(ev_step hw hk hC hs (by have:=List.mem_range.1 hr;omega)).1) hq (by rw [map_idK];exact hn)
     rw [e] at h ⊢
     dsimp only at h ⊢
     rw [List.nil_append] at h ⊢
     obtain ⟨v,q1,q2⟩:=at_any hx N (by omega) t.1 t.2.1 hs.s.1 hs.s.2 hs.c.1 (by have:=hs.c;omega)
     have hv:evOut x N t = v:=by unfold evOut;rw [q1];rfl
     rw [hv] at h
     rw [ref_at,q1,Option.bind_some,if_pos (by simp only [List.length_cons,List.length_nil,maxCount];omega),if_pos (by simp only [List.length_cons,List.length_nil,maxCount];omega),wn i (by omega)]
     exact ref_every_loop N hx hk hC hN k0 a1 a2 u1 u2 F (i + 1) (q ++ ext) _ _ l outs rows h (fun t ht=>by
       rcases List.mem_append.1 ht with ht | ht
       · exact hq t ht
       · exact g3 t ht) (by rw [map_idK] at g4;exact g4) (by simp;omega) (by simp [l1]) (by simp [l2])
   · rw [if_neg hlt] at h
     have e1:decide ((i:Int) < ((q.map arrP).length:Int)) = false:=by rw [decide_eq_false_iff_not,List.length_map];omega
     rw [e1,cond_false]
     simp only [Option.some.injEq,Prod.mk.injEq] at h
     obtain ⟨rfl,rfl,rfl⟩:=h
     rfl
end Go.Pv
namespace Go.Pv
end Go.Pv
