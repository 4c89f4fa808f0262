/- Plain texts, merged: QpA, QpS, QpB, QpC, QpD, QpT, QpU, QpV, QpW, QpE, QpG, QpSq, QpK, QpL, QpM, QpH. -/
import Derived.Test.YtiinfljjfceckaaDoorPvL09
set_option linter.unusedSectionVars false
/- Seat 09, plain: lists in ranges, copies, machines as they should be. -/
set_option linter.unusedVariables false
set_option linter.unusedSimpArgs false
namespace Go.Pv
abbrev MM:=List (List Int)×List (List Int)×Unit
theorem w64 {x:Int} (h1:-9223372036854775808 ≤ x) (h2:x < 9223372036854775808):IntKind.wrap .i64 x = x:=by rw [IntKind.wrap_i64];omega
theorem wu64 (x:Int):IntKind.wrap .u64 x = x % 18446744073709551616:=by simp only [IntKind.wrap,IntKind.signed,IntKind.bits];simp
theorem wu64n {x:Int} (h1:0 ≤ x) (h2:x < 18446744073709551616):IntKind.wrap .u64 x = x:=by rw [wu64];omega
theorem wn (i:Nat) (h:i < 1000000):IntKind.wrap .i64 ((i:Int) + 1) = ((i + 1:Nat):Int):=by rw [w64 (by omega) (by omega)];simp
@[simp] theorem q2K (x:Int):ieq x x = true:=by simp only [ieq,decide_true]
theorem low (x:Int) {m:Int} (hm:0 < m) (hm2:m < 1000000):∃ r:Int,IntKind.wrap .i64 (Int.tmod (IntKind.wrap .u64 x) m) = r∧0 ≤ r∧r < m:=by
 refine ⟨(x % 18446744073709551616) % m,?_,Int.emod_nonneg _ (by omega),Int.emod_lt_of_pos _ hm⟩
 rw [wu64,Int.tmod_eq_emod_of_nonneg (Int.emod_nonneg _ (by decide))]
 have h1:=Int.emod_nonneg (x % 18446744073709551616) (show m ≠ 0 by omega)
 have h2:=Int.emod_lt_of_pos (x % 18446744073709551616) hm
 exact w64 (by omega) (by omega)
theorem q0Q {α:Type} {l:List α} {i:Nat} (h:i < l.length) (d:α):l.getD i d ∈ l:=by
 rw [List.getD_eq_getElem?_getD,List.getElem?_eq_getElem h];simp
theorem getD_drop {α:Type} (l:List α) (i:Nat) (d:α) (h:i < l.length):l.drop i = l.getD i d :: l.drop (i + 1):=by
 rw [List.drop_eq_getElem_cons h];simp [h]
theorem j0R {α:Type} (l:List α) (i:Nat) (d:α) (h:i < l.length):l.take i ++ [l.getD i d] = l.take (i + 1):=by
 rw [List.take_add_one];simp [h]
theorem idxT {i:Nat} {n:Nat} (h:i < n):idx (i:Int) n:=⟨by omega,by omega⟩
theorem ltT {i n:Nat} (h:i < n):decide ((i:Int) < (n:Int)) = true:=by simp;omega
theorem ltF {i n:Nat} (h:¬ i < n):decide ((i:Int) < (n:Int)) = false:=by simp;omega
theorem any_loop (N:Nat) {C:Type} (k0:Int→Option C) (k1:Option C) (l:List Int) (f:(Int×Unit)→Option Bool) (p:Int→Bool) (hf:∀ x,f (x,()) = some (p x)) (hl:l.length < 4611686018427387904) :
   ∀ (F i:Nat),l.length - i < F→i ≤ l.length→((l.drop i).any p = true∧∃ j:Nat,z4Q N F k0 k1 l f (l.length:Int) (i:Int) = k0 j) ∨ ((l.drop i).any p = false∧z4Q N F k0 k1 l f (l.length:Int) (i:Int) = k1)
 | 0,i,h,_=>by omega
 | F + 1,i,h,hi=>by
   rw [g121L26f_succ]
   unfold z2Z
   by_cases hlt:i < l.length
   · rw [ltT hlt,cond_true,if_pos (idxT hlt),Int.toNat_natCast,hf]
     simp only [Option.bind_some]
     rw [getD_drop l i 0 hlt,List.any_cons]
     cases hp:p (l.getD i 0) with
     | true=>exact .inl ⟨by simp,i,rfl⟩
     | false =>
       simp only [cond_false,Bool.false_or]
       have e3:IntKind.wrap .i64 ((i:Int) + 1) = ((i + 1:Nat):Int):=by rw [w64 (by omega) (by omega)];simp
       rw [e3]
       exact any_loop N k0 k1 l f p hf hl F (i + 1) (by omega) (by omega)
   · rw [ltF hlt,cond_false,List.drop_eq_nil_of_le (by omega)]
     exact .inr ⟨rfl,rfl⟩
theorem are_eq (N:Nat) (lo hi:Int) (l:List Int) (hN:l.length < N) (hl:l.length < 4611686018427387904):g82 N lo hi l = some (l.all fun x=>decide (lo ≤ x) && decide (x ≤ hi)):=by
 unfold g82 g106 g121
 rw [g121L26_eq]
 have:=any_loop N (fun e2=>some e2) (some (-1)) l (fun (x1:(Int)×(Unit))=>Option.bind (g107 N x1.1 lo hi) fun y2=>some y2) (fun x=>decide (x < lo) || decide (hi < x))
   (fun x=>by
     simp only [g107]
     cases h:decide (x < lo) <;> simp) hl N 0 (by omega) (by omega)
 simp only [Int.natCast_zero,List.drop_zero] at this
 have hx:(l.all fun x=>decide (lo ≤ x) && decide (x ≤ hi)) = !(l.any fun x=>decide (x < lo) || decide (hi < x)):=by
   rw [List.not_any_eq_all_not]
   congr 1
   funext x
   by_cases h1:x < lo <;> by_cases h2:hi < x <;> simp [h1,h2] <;> omega
 rcases this with ⟨h1,j,h2⟩ | ⟨h1,h2⟩
 · rw [h2,hx,h1]
   simp
 · rw [h2,hx,h1]
   simp
theorem z3X (N:Nat) (lo hi:Int) (l:List Int) (hN:l.length < N) (hl:l.length < 1000000) (h:∀ x ∈ l,lo ≤ x∧x ≤ hi):g82 N lo hi l = some true:=by
 rw [are_eq N lo hi l hN (by omega)]
 congr 1
 rw [List.all_eq_true]
 intro x hx
 have:=h x hx
 simp;exact this
theorem few_eq (N:Nat) (l:List Int) (k:Int) (h0:0 ≤ k) (hk:k ≤ 1000):g42 N l k = some (l.take k.toNat):=by
 unfold g42
 have e:imin (l.length:Int) k = ((min l.length k.toNat:Nat):Int):=by simp only [imin];split <;> omega
 rw [e,if_pos ⟨by omega,by omega,by omega⟩]
 have:List.take (min l.length k.toNat) l = l.take k.toNat:=by
   rcases Nat.le_total l.length k.toNat with h | h
   · rw [Nat.min_eq_left h,List.take_of_length_le h,List.take_length]
   · rw [Nat.min_eq_right h]
 simp [this,maxCount]
 omega
theorem ints_loop (N:Nat) {C:Type} (k0:Bool→Option C) (k1:Option C) (c:List Int) (hc:c.length ≤ 1000) :
   ∀ (F i:Nat),c.length - i < F→i ≤ c.length→g20L58f N F k0 k1 c c (i:Int) = k1
 | 0,i,h,_=>by omega
 | F + 1,i,h,hi=>by
   rw [g20L58f_succ]
   unfold j0A
   by_cases hlt:i < c.length
   · rw [ltT hlt,cond_true,if_pos (idxT hlt),if_pos (idxT hlt),q2K,Bool.not_true,cond_false,wn i (by omega)]
     exact ints_loop N k0 k1 c hc F (i + 1) (by omega) (by omega)
   · rw [ltF hlt,cond_false]
theorem ints_self (N:Nat) (c:List Int) (hc:c.length ≤ 1000) (hN:1000 < N):g20 N c c = some true:=by
 unfold g20
 rw [q2K,Bool.not_true,cond_false,g20L58_eq]
 exact ints_loop N _ _ c hc N 0 (by omega) (by omega)
theorem inputs_eq (N:Nat) (k:Int):∃ r:Nat,g16 N k = some (r:Int)∧1 ≤ r∧r ≤ 3:=by
 obtain ⟨v,e,h1,h2⟩:=low k (m:=3) (by omega) (by omega)
 refine ⟨(1 + v).toNat,?_,by omega,by omega⟩
 unfold g16
 rw [e,w64 (by omega) (by omega)]
 congr 1
 omega
structure Pm (x:MM) (k:Nat):Prop where
 n1:1 ≤ x.1.length
 n6:x.1.length ≤ 6
 out:x.2.1.length = x.1.length
 k1:1 ≤ k
 k3:k ≤ 3
 rowN:∀ r ∈ x.1,r.length = k∧∀ t ∈ r,0 ≤ t∧t < (x.1.length:Int)
 rowO:∀ r ∈ x.2.1,r.length = k∧∀ t ∈ r,0 ≤ t∧t ≤ 3
theorem Pm.inputs {x:MM} {k:Nat} (h:Pm x k) (N:Nat):g85 N x = some (k:Int):=by
 unfold g85
 have:=h.n1
 rw [if_pos ⟨by omega,by omega⟩]
 have:=(h.rowN _ (q0Q (i:=0) (by omega) [])).1
 simp only [show Int.toNat 0 = 0 from rfl,this]
theorem Pm.z8P {x:MM} {k:Nat} (h:Pm x k) (N:Nat):g41 N x = some (k:Int):=h.inputs N
theorem Pm.check_loop {x:MM} {k:Nat} (h:Pm x k) (N:Nat) (hN:20 < N) {C:Type} (k0:Int→MM→Option C) (k1:MM→Option C) :
   ∀ (F i:Nat),x.1.length - i < F→i ≤ x.1.length→z8L N F k0 k1 (x.1.length:Int) x.1 (x.1.length:Int) (i:Int) x = k1 x
 | 0,i,hF,_=>by omega
 | F + 1,i,hF,hi=>by
   rw [g57L122f_succ]
   unfold z4T
   have:=h.n6;have:=h.k3
   by_cases hlt:i < x.1.length
   · have ho:i < x.2.1.length:=by rw [h.out];exact hlt
     obtain ⟨r1,r2⟩:=h.rowN _ (q0Q hlt [])
     obtain ⟨o1,o2⟩:=h.rowO _ (q0Q ho [])
     have e1:g82 N 0 (IntKind.wrap .i64 ((x.1.length:Int) - 1)) (x.1.getD i []) = some true:=by
       rw [w64 (by omega) (by omega)]
       exact z3X N _ _ _ (by omega) (by omega) fun t ht=>by have:=r2 t ht;omega
     have e2:g82 N 0 3 (x.2.1.getD i []) = some true:=z3X N _ _ _ (by omega) (by omega) o2
     rw [ltT hlt,cond_true,if_pos (idxT hlt),h.inputs N]
     simp only [Option.bind_some,Int.toNat_natCast,r1,q2K,Bool.not_true,cond_false]
     rw [if_pos (idxT ho),o1,q2K,Bool.not_true,cond_false,e1]
     simp only [Option.bind_some,Bool.not_true,cond_false]
     rw [if_pos (idxT ho),e2]
     simp only [Option.bind_some,Bool.not_true,cond_false]
     rw [wn i (by omega)]
     exact h.check_loop N hN k0 k1 F (i + 1) (by omega) (by omega)
   · rw [ltF hlt,cond_false]
theorem Pm.check {x:MM} {k:Nat} (h:Pm x k) (N:Nat) (hN:20 < N):g57 N x = some 0:=by
 have:=h.n1;have:=h.n6;have:=h.k1;have:=h.k3
 unfold g57
 rw [z3X N 1 6 [((x.1.length:Nat):Int)] (by simp;omega) (by simp) (by simp;omega)]
 simp only [Option.bind_some,Bool.not_true,cond_false,h.out,q2K]
 rw [if_pos ⟨by omega,by omega⟩]
 have r1:=(h.rowN _ (q0Q (i:=0) (by omega) [])).1
 simp only [show Int.toNat 0 = 0 from rfl,r1]
 rw [z3X N 1 3 [(k:Int)] (by simp;omega) (by simp) (by simp;omega)]
 simp only [Option.bind_some,Bool.not_true,cond_false]
 rw [g57L122_eq]
 exact h.check_loop N hN _ _ N 0 (by omega) (by omega)
theorem rows_loop (N:Nat) {C:Type} (k0:List (List Int)→Option C) (l:List (List Int)) (hl:l.length ≤ 6) (hr:∀ r ∈ l,r.length ≤ 4) :
   ∀ (F i:Nat),l.length - i < F→i ≤ l.length→g59L58f N F k0 l (i:Int) (l.take i) = k0 l
 | 0,i,h,_=>by omega
 | F + 1,i,h,hi=>by
   rw [g59L58f_succ]
   unfold j0Y
   by_cases hlt:i < l.length
   · have e2:decide ((i:Int) ≤ 6) = true:=by simp;omega
     rw [ltT hlt,cond_true,e2,cond_true,if_pos (idxT hlt),Int.toNat_natCast,few_eq N _ 4 (by omega) (by omega)]
     simp only [Option.bind_some,show Int.toNat 4 = 4 from rfl,List.take_of_length_le (hr _ (q0Q hlt []))]
     rw [if_pos (by simp [maxCount];omega),j0R l i [] hlt,wn i (by omega)]
     exact rows_loop N k0 l hl hr F (i + 1) (by omega) (by omega)
   · rw [ltF hlt,cond_false,List.take_of_length_le (by omega)]
theorem rows_eq (N:Nat) (hN:10 < N) (l:List (List Int)) (hl:l.length ≤ 6) (hr:∀ r ∈ l,r.length ≤ 4):g59 N l = some l:=by
 unfold g59
 rw [g59L58_eq]
 exact rows_loop N _ l hl hr N 0 (by omega) (by omega)
theorem Pm.given {x:MM} {k:Nat} (h:Pm x k) (N:Nat) (hN:10 < N):g18 N x = some x:=by
 have:=h.n6;have:=h.k3;have:=h.out
 unfold g18
 rw [rows_eq N hN x.1 (by omega) fun r hr=>by have:=(h.rowN r hr).1;omega,rows_eq N hN x.2.1 (by omega) fun r hr=>by have:=(h.rowO r hr).1;omega]
 rfl
theorem Pm.own {x:MM} {k:Nat} (h:Pm x k) (N:Nat) (hN:10 < N):g23 N x = some x:=h.given N hN
theorem tame_row (N:Nat) {C:Type} (k0:Int→Int→Int→MM→List Int→List Int→List (List Int)→List (List Int)→List (List Int)→List (List Int)→Option C) (k n i:Nat) (hk:k ≤ 3) (hn1:1 ≤ n) (hn:n ≤ 6) (x:MM) (c1 c2 c3 c4:List (List Int)) :
   ∀ (F j:Nat) (p q:List Int),k - j < F→j ≤ k→p.length = j→q.length = j→(∀ t ∈ p,0 ≤ t∧t < (n:Int))→(∀ t ∈ q,0 ≤ t∧t ≤ 3) →
     ∃ p' q':List Int,p'.length = k∧q'.length = k∧(∀ t ∈ p',0 ≤ t∧t < (n:Int))∧(∀ t ∈ q',0 ≤ t∧t ≤ 3) ∧
       q6V N F k0 (k:Int) (n:Int) (i:Int) (j:Int) x p q c1 c2 c3 c4 = k0 (k:Int) (n:Int) (i:Int) x p' q' c1 c2 c3 c4
 | 0,j,p,q,h,_,_,_,_,_=>by omega
 | F + 1,j,p,q,h,hj,hp,hq,hpb,hqb=>by
   rw [g15L31306f_succ]
   unfold q6U
   by_cases hlt:j < k
   · have add:∀ v o:Int,0 ≤ v→v < (n:Int)→0 ≤ o→o < 4→∃ p' q':List Int,p'.length = k∧q'.length = k∧(∀ t ∈ p',0 ≤ t∧t < (n:Int))∧(∀ t ∈ q',0 ≤ t∧t ≤ 3) ∧
         q6V N F k0 (k:Int) (n:Int) (i:Int) ((j + 1:Nat):Int) x (p ++ [v]) (q ++ [o]) c1 c2 c3 c4 = k0 (k:Int) (n:Int) (i:Int) x p' q' c1 c2 c3 c4:=fun v o h1 h2 h3 h4 =>
       tame_row N k0 k n i hk hn1 hn x c1 c2 c3 c4 F (j + 1) (p ++ [v]) (q ++ [o]) (by omega) (by omega) (by simp [hp]) (by simp [hq])
         (fun t ht=>by
           rcases List.mem_append.1 ht with ht | ht
           · exact hpb t ht
           · obtain rfl:=List.mem_singleton.1 ht;exact ⟨h1,h2⟩)
         (fun t ht=>by
           rcases List.mem_append.1 ht with ht | ht
           · exact hqb t ht
           · obtain rfl:=List.mem_singleton.1 ht;omega)
     have hw:IntKind.wrap .u64 (n:Int) = (n:Int):=wu64n (by omega) (by omega)
     have hz:(((n:Int) = 0) = False):=eq_false (by omega)
     have mp:∀ v:Int,((p.length + [v].length ≤ maxCount) = True):=fun v=>eq_true (by simp [maxCount];omega)
     have mq:∀ v:Int,((q.length + [v].length ≤ maxCount) = True):=fun v=>eq_true (by simp [maxCount];omega)
     have mp0:((p.length + List.length ([0]:List Nat) ≤ maxCount) = True):=eq_true (by simp [maxCount];omega)
     have mq0:((q.length + List.length ([0]:List Nat) ≤ maxCount) = True):=eq_true (by simp [maxCount];omega)
     obtain ⟨v,ev,v1,v2⟩:=low ((x.1.getD i []).getD j 0) (m:=(n:Int)) (by omega) (by omega)
     obtain ⟨o,eo,o1,o2⟩:=low ((x.2.1.getD i []).getD j 0) (m:=4) (by omega) (by omega)
     rw [ltT hlt,cond_true,wn j (by omega),hw]
     by_cases a1:i < x.1.length
     · by_cases a2:j < (x.1.getD i []).length
       · by_cases b1:i < x.2.1.length
         · by_cases b2:j < (x.2.1.getD i []).length
           · simp only [Int.toNat_natCast,ltT a1,ltT a2,ltT b1,ltT b2,eq_true (idxT a1),eq_true (idxT a2),eq_true (idxT b1),eq_true (idxT b2),cond_true,if_true,hz,if_false,ev,eo,mp,mq]
             exact add v o v1 v2 o1 o2
           · simp only [Int.toNat_natCast,ltT a1,ltT a2,ltT b1,ltF b2,eq_true (idxT a1),eq_true (idxT a2),eq_true (idxT b1),cond_true,cond_false,if_true,hz,if_false,ev,mp,mq,mp0,mq0]
             exact add v 0 v1 v2 (by omega) (by omega)
         · simp only [Int.toNat_natCast,ltT a1,ltT a2,ltF b1,eq_true (idxT a1),eq_true (idxT a2),cond_true,cond_false,if_true,hz,if_false,ev,mp,mq,mp0,mq0]
           exact add v 0 v1 v2 (by omega) (by omega)
       · by_cases b1:i < x.2.1.length
         · by_cases b2:j < (x.2.1.getD i []).length
           · simp only [Int.toNat_natCast,ltT a1,ltF a2,ltT b1,ltT b2,eq_true (idxT a1),eq_true (idxT b1),eq_true (idxT b2),cond_true,cond_false,if_true,hz,if_false,eo,mp,mq,mp0,mq0]
             exact add 0 o (by omega) (by omega) o1 o2
           · simp only [Int.toNat_natCast,ltT a1,ltF a2,ltT b1,ltF b2,eq_true (idxT a1),eq_true (idxT b1),cond_true,cond_false,if_true,hz,if_false,mp,mq,mp0,mq0]
             exact add 0 0 (by omega) (by omega) (by omega) (by omega)
         · simp only [Int.toNat_natCast,ltT a1,ltF a2,ltF b1,eq_true (idxT a1),cond_true,cond_false,if_true,hz,if_false,mp,mq,mp0,mq0]
           exact add 0 0 (by omega) (by omega) (by omega) (by omega)
     · by_cases b1:i < x.2.1.length
       · by_cases b2:j < (x.2.1.getD i []).length
         · simp only [Int.toNat_natCast,ltF a1,ltT b1,ltT b2,eq_true (idxT b1),eq_true (idxT b2),cond_true,cond_false,if_true,hz,if_false,eo,mp,mq,mp0,mq0]
           exact add 0 o (by omega) (by omega) o1 o2
         · simp only [Int.toNat_natCast,ltF a1,ltT b1,ltF b2,eq_true (idxT b1),cond_true,cond_false,if_true,hz,if_false,mp,mq,mp0,mq0]
           exact add 0 0 (by omega) (by omega) (by omega) (by omega)
       · simp only [Int.toNat_natCast,ltF a1,ltF b1,cond_true,cond_false,if_true,hz,if_false,mp,mq,mp0,mq0]
         exact add 0 0 (by omega) (by omega) (by omega) (by omega)
   · rw [ltF hlt,cond_false]
     exact ⟨p,q,by omega,by omega,hpb,hqb,rfl⟩
theorem tame_loop (N:Nat) (hN:10 < N) {C:Type} (k0:MM→List (List Int)→List (List Int)→List (List Int)→List (List Int)→Option C) (k n:Nat) (hk:k ≤ 3) (hn1:1 ≤ n) (hn:n ≤ 6) (x:MM) :
   ∀ (F i:Nat) (c1 c2 c3 c4:List (List Int)),n - i < F→i ≤ n→c3.length = i→c4.length = i→(∀ r ∈ c3,r.length = k∧∀ t ∈ r,0 ≤ t∧t < (n:Int))→(∀ r ∈ c4,r.length = k∧∀ t ∈ r,0 ≤ t∧t ≤ 3) →
     ∃ d1 d2 d3 d4:List (List Int),d3.length = n∧d4.length = n∧(∀ r ∈ d3,r.length = k∧∀ t ∈ r,0 ≤ t∧t < (n:Int))∧(∀ r ∈ d4,r.length = k∧∀ t ∈ r,0 ≤ t∧t ≤ 3) ∧
       z4S N F k0 (k:Int) (n:Int) (i:Int) x c1 c2 c3 c4 = k0 x d1 d2 d3 d4
 | 0,i,c1,c2,c3,c4,h,_,_,_,_,_=>by omega
 | F + 1,i,c1,c2,c3,c4,h,hi,h3,h4,hb3,hb4=>by
   rw [g15L122f_succ]
   unfold z3L
   by_cases hlt:i < n
   · rw [ltT hlt,cond_true,g15L31306_eq]
     obtain ⟨p,q,hp,hq,hpb,hqb,e⟩:=tame_row N (fun e1 e2 e3 e4 e5 e6 e7 e8 e9 e10=>if e9.length + [e5].length ≤ maxCount then if e10.length + [e6].length ≤ maxCount then (z4S N F k0 e1 e2 (IntKind.wrap .i64 (e3 + 1)) e4 e7 e8 (e9 ++ [e5]) (e10 ++ [e6])) else none else none) k n i hk hn1 hn x c1 c2 c3 c4 N 0 [] [] (by omega) (by omega) rfl rfl (by simp) (by simp)
     simp only [Int.natCast_zero] at e
     rw [e,if_pos (by simp [maxCount];omega),if_pos (by simp [maxCount];omega),wn i (by omega)]
     exact tame_loop N hN k0 k n hk hn1 hn x F (i + 1) c1 c2 (c3 ++ [p]) (c4 ++ [q]) (by omega) (by omega) (by simp [h3]) (by simp [h4])
       (fun r hr=>by
         rcases List.mem_append.1 hr with hr | hr
         · exact hb3 r hr
         · obtain rfl:=List.mem_singleton.1 hr;exact ⟨hp,hpb⟩)
       (fun r hr=>by
         rcases List.mem_append.1 hr with hr | hr
         · exact hb4 r hr
         · obtain rfl:=List.mem_singleton.1 hr;exact ⟨hq,hqb⟩)
   · rw [ltF hlt,cond_false]
     exact ⟨c1,c2,c3,c4,by omega,by omega,hb3,hb4,rfl⟩
theorem tame_eq (N:Nat) (hN:10 < N) (x:MM) (most:Int) (h1:1 ≤ most) (h6:most ≤ 6) (k:Nat) (hk1:1 ≤ k) (hk:k ≤ 3):∃ y:MM,g15 N x most (k:Int) = some y∧Pm y k∧(y.1.length:Int) ≤ most:=by
 unfold g15
 obtain ⟨n,hn,n1,n6⟩:∃ n:Nat,imax 1 (imin ((x.1.length:Nat):Int) most) = (n:Int)∧1 ≤ n∧(n:Int) ≤ most:=by
   refine ⟨(imax 1 (imin ((x.1.length:Nat):Int) most)).toNat,?_,?_,?_⟩ <;> simp only [imax,imin] <;> split <;> split <;> omega
 rw [hn,g15L122_eq]
 obtain ⟨d1,d2,d3,d4,l3,l4,b3,b4,e⟩:=tame_loop N hN (fun e11 e12 e13 e14 e15=>some (e14,e15,())) k n hk n1 (by omega) x N 0 [] [] [] [] (by omega) (by omega) rfl rfl (by simp) (by simp)
 simp only [Int.natCast_zero] at e
 refine ⟨(d3,d4,()),e,⟨by simp only;omega,by simp only;omega,by simp only;omega,hk1,hk,fun r hr=>⟨(b3 r hr).1,fun t ht=>by have:=(b3 r hr).2 t ht;simp only [l3];exact this⟩,b4⟩,by simp only [l3];exact n6⟩
end Go.Pv
namespace Go.Pv.Bfs
variable {α:Type} [DecidableEq α] (e:α→Nat→Option α) (m:Nat) (first:α)
def run:α→List Nat→Option α
 | x,[]=>some x
 | x,i :: w=>if i < m then (e x i).bind fun y=>run y w else none
theorem z3F (w:List Nat) (i:Nat):∀ x:α,run e m x (w ++ [i]) = (run e m x w).bind fun y=>if i < m then e y i else none:=by
 induction w with
 | nil=>intro x;simp only [List.nil_append,run,Option.bind_some];split <;> simp
 | cons j w ih =>
   intro x
   simp only [List.cons_append,run]
   split
   · cases e x j with
     | none=>rfl
     | some y=>simp only [Option.bind_some];exact ih y
   · rfl
def R (j:Nat) (y:α):Prop:=∃ w:List Nat,w.length = j∧run e m first w = some y
variable {e m first}
theorem j1J (y:α):R e m first 0 y ↔ y = first:=by
 constructor
 · rintro ⟨w,h1,h2⟩
   obtain rfl:=List.eq_nil_of_length_eq_zero h1
   exact (Option.some.inj h2).symm
 · rintro rfl;exact ⟨[],rfl,rfl⟩
theorem z2S (j:Nat) (y:α):R e m first (j + 1) y ↔ ∃ x,R e m first j x∧∃ i,i < m∧e x i = some y:=by
 constructor
 · rintro ⟨w,h1,h2⟩
   have hne:w ≠ []:=by intro h;rw [h] at h1;simp at h1
   obtain ⟨v,i,rfl⟩:∃ v i,w = v ++ [i]:=⟨w.dropLast,w.getLast hne,(List.dropLast_concat_getLast hne).symm⟩
   rw [z3F] at h2
   cases hv:run e m first v with
   | none=>rw [hv] at h2;cases h2
   | some x =>
     rw [hv] at h2
     simp only [Option.bind_some] at h2
     split at h2
     · rename_i hi
       exact ⟨x,⟨v,by simpa using h1,hv⟩,i,hi,h2⟩
     · cases h2
 · rintro ⟨x,⟨v,h1,h2⟩,i,hi,he⟩
   exact ⟨v ++ [i],by simp [h1],by rw [z3F,h2];simp [hi,he]⟩
structure BInv (e:α→Nat→Option α) (m:Nat) (H0:α→Option (α×Nat)) (L:List α) (p i:Nat) (H:α→Option (α×Nat)) (more:List α):Prop where
 old:∀ y v,H0 y = some v→H y = some v
 new:∀ y,y ∈ more ↔ (H y).isSome = true∧H0 y = none
 src:∀ y,y ∈ more→∃ x,x ∈ L∧∃ k:Nat,k < m∧e x k = some y∧H y = some (x,k)
 done:∀ q k,(q < p ∨ q = p∧k < i)→∀ x,L[q]? = some x→k < m→∀ y,e x k = some y→(H y).isSome = true
 nodup:more.Nodup
theorem BInv.start (H0:α→Option (α×Nat)) (L:List α):BInv e m H0 L 0 0 H0 [] :=
 ⟨fun _ _ h=>h,fun y=>⟨fun h=>by simp at h,fun ⟨h1,h2⟩=>by rw [h2] at h1;cases h1⟩,fun y h=>by simp at h,fun q k h=>by omega,List.nodup_nil⟩
theorem BInv.skip {H0 H:α→Option (α×Nat)} {L more:List α} {p i:Nat} (h:BInv e m H0 L p i H more) (x:α) (hx:L[p]? = some x) (hs:∀ y,e x i = some y→(H y).isSome = true):BInv e m H0 L p (i + 1) H more:=by
 refine ⟨h.old,h.new,h.src,fun q k hq z hz hk y hy=>?_,h.nodup⟩
 by_cases hqk:q = p∧k = i
 · obtain ⟨rfl,rfl⟩:=hqk
   rw [hx] at hz
   obtain rfl:=Option.some.inj hz
   exact hs y hy
 · exact h.done q k (by omega) z hz hk y hy
theorem BInv.add {H0 H:α→Option (α×Nat)} {L more:List α} {p i:Nat} (h:BInv e m H0 L p i H more) (x:α) (hx:L[p]? = some x) (hi:i < m) (y:α) (hy:e x i = some y) (hn:H y = none) :
   BInv e m H0 L p (i + 1) (fun z=>if z = y then some (x,i) else H z) (more ++ [y]):=by
 have h0:H0 y = none:=by
   cases hq:H0 y with
   | none=>rfl
   | some v=>rw [h.old y v hq] at hn;cases hn
 have hnm:y ∉ more:=fun hm=>by
   have:=((h.new y).1 hm).1
   rw [hn] at this;cases this
 refine ⟨fun z v hz=>?_,fun z=>?_,fun z hz=>?_,fun q k hq w hw hk z hz=>?_,?_⟩
 · have:z ≠ y:=fun hzy=>by rw [hzy,h0] at hz;cases hz
   simp only [if_neg this]
   exact h.old z v hz
 · rw [List.mem_append,List.mem_singleton]
   by_cases hzy:z = y
   · subst hzy
     simp [h0]
   · simp only [hzy,or_false,if_false]
     exact h.new z
 · by_cases hzy:z = y
   · subst hzy
     exact ⟨x,List.mem_of_getElem? hx,i,hi,hy,by simp⟩
   · have hz:z ∈ more:=by simpa [hzy] using hz
     obtain ⟨w,w1,k,w2,w3,w4⟩:=h.src z hz
     exact ⟨w,w1,k,w2,w3,by simp [hzy,w4]⟩
 · by_cases hzy:z = y
   · simp [hzy]
   · simp only [if_neg hzy]
     by_cases hqk:q = p∧k = i
     · obtain ⟨rfl,rfl⟩:=hqk
       rw [hx] at hw
       obtain rfl:=Option.some.inj hw
       rw [hy] at hz
       exact absurd (Option.some.inj hz).symm hzy
     · exact h.done q k (by omega) w hw hk z hz
 · rw [List.nodup_append]
   exact ⟨h.nodup,by simp,fun a ha b hb=>by rw [List.mem_singleton.1 hb];exact fun hab=>hnm (hab ▸ ha)⟩
theorem BInv.next {H0 H:α→Option (α×Nat)} {L more:List α} {p:Nat} (h:BInv e m H0 L p m H more):BInv e m H0 L (p + 1) 0 H more :=
 ⟨h.old,h.new,h.src,fun q k hq x hx hk y hy=>h.done q k (by omega) x hx hk y hy,h.nodup⟩
structure LInv (e:α→Nat→Option α) (m:Nat) (first:α) (j:Nat) (H:α→Option (α×Nat)) (L:List α):Prop where
 known:∀ y,(H y).isSome = true ↔ ∃ d,d ≤ j∧R e m first d y
 level:∀ y,y ∈ L ↔ R e m first j y∧∀ d,d < j→¬ R e m first d y
 par:∀ y,(H y).isSome = true→y ≠ first→∃ x i d,H y = some (x,i)∧i < m∧e x i = some y∧R e m first d x∧∀ d',d' < d + 1→¬ R e m first d' y
theorem LInv.start (H:α→Option (α×Nat)) (hH:∀ y,(H y).isSome = true ↔ y = first):LInv e m first 0 H [first] :=
 ⟨fun y=>by
   rw [hH]
   constructor
   · intro h;exact ⟨0,Nat.le_refl 0,(j1J y).2 h⟩
   · rintro ⟨d,hd,h⟩;obtain rfl:d = 0:=by omega
     exact (j1J y).1 h,
  fun y=>by
   rw [List.mem_singleton,j1J]
   exact ⟨fun h=>⟨h,fun d hd=>by omega⟩,fun h=>h.1⟩,
  fun y h hne=>absurd ((hH y).1 h) hne⟩
theorem LInv.step {j:Nat} {H H':α→Option (α×Nat)} {L more:List α} (h:LInv e m first j H L) (b:BInv e m H L L.length 0 H' more):LInv e m first (j + 1) H' more:=by
 have knownNew:∀ y,(H' y).isSome = true ↔ ∃ d,d ≤ j + 1∧R e m first d y:=by
   intro y
   constructor
   · intro hy
     cases h0:H y with
     | some v =>
       obtain ⟨d,hd,hr⟩:=(h.known y).1 (by rw [h0];rfl)
       exact ⟨d,by omega,hr⟩
     | none =>
       obtain ⟨x,hx,i,hi,he,_⟩:=b.src y ((b.new y).2 ⟨hy,h0⟩)
       exact ⟨j + 1,Nat.le_refl _,(z2S j y).2 ⟨x,((h.level x).1 hx).1,i,hi,he⟩⟩
   · rintro ⟨d,hd,hr⟩
     by_cases hk:(H y).isSome = true
     · obtain ⟨v,hv⟩:=Option.isSome_iff_exists.1 hk
       rw [b.old y v hv];rfl
     · have hd:d = j + 1:=by
         by_cases hdj:d ≤ j
         · exact absurd ((h.known y).2 ⟨d,hdj,hr⟩) hk
         · omega
       subst hd
       obtain ⟨x,hx,i,hi,he⟩:=(z2S j y).1 hr
       have hxL:x ∈ L:=(h.level x).2 ⟨hx,fun d hd hrx=>hk ((h.known y).2 ⟨d + 1,by omega,(z2S d y).2 ⟨x,hrx,i,hi,he⟩⟩)⟩
       obtain ⟨q,hq⟩:=List.mem_iff_getElem?.1 hxL
       have hql:q < L.length:=(List.getElem?_eq_some_iff.1 hq).1
       exact b.done q i (.inl hql) x hq hi y he
 refine ⟨knownNew,fun y=>?_,fun y hy hne=>?_⟩
 · rw [b.new]
   constructor
   · rintro ⟨h1,h2⟩
     have hno:∀ d,d < j + 1→¬ R e m first d y:=fun d hd hr=>by
       have:=(h.known y).2 ⟨d,by omega,hr⟩
       rw [h2] at this;cases this
     obtain ⟨d,hd,hr⟩:=(knownNew y).1 h1
     have:d = j + 1:=by
       by_cases hdj:d < j + 1
       · exact absurd hr (hno d hdj)
       · omega
     exact ⟨this ▸ hr,hno⟩
   · rintro ⟨h1,h2⟩
     refine ⟨(knownNew y).2 ⟨j + 1,Nat.le_refl _,h1⟩,?_⟩
     cases h0:H y with
     | none=>rfl
     | some v =>
       obtain ⟨d,hd,hr⟩:=(h.known y).1 (by rw [h0];rfl)
       exact absurd hr (h2 d (by omega))
 · cases h0:H y with
   | some v =>
     obtain ⟨x,i,d,g1,g2,g3,g4,g5⟩:=h.par y (by rw [h0];rfl) hne
     exact ⟨x,i,d,b.old y _ g1,g2,g3,g4,g5⟩
   | none =>
     obtain ⟨x,hx,i,hi,he,hH⟩:=b.src y ((b.new y).2 ⟨hy,h0⟩)
     exact ⟨x,i,j,hH,hi,he,((h.level x).1 hx).1,fun d hd hr=>by
       have:=(h.known y).2 ⟨d,by omega,hr⟩
       rw [h0] at this;cases this⟩
inductive Back (H:α→Option (α×Nat)) (first:α):α→List Nat→Prop
 | nil:Back H first first []
 | cons {y x:α} {i:Nat} {ws:List Nat}:y ≠ first→H y = some (x,i)→Back H first x ws→Back H first y (i :: ws)
theorem LInv.back {j:Nat} {H:α→Option (α×Nat)} {L:List α} (h:LInv e m first j H L):∀ (d:Nat) (y:α),d ≤ j→R e m first d y→(∀ d',d' < d→¬ R e m first d' y)→∃ ws,Back H first y ws∧ws.length = d∧run e m first ws.reverse = some y
 | 0,y,_,hr,_=>by
   obtain rfl:=(j1J y).1 hr
   exact ⟨[],.nil,rfl,rfl⟩
 | d + 1,y,hd,hr,hmin=>by
   have hne:y ≠ first:=fun hy=>hmin 0 (by omega) ((j1J y).2 hy)
   obtain ⟨x,i,d',g1,g2,g3,g4,g5⟩:=h.par y ((h.known y).2 ⟨d + 1,hd,hr⟩) hne
   have hd':d' = d:=by
     have h1:R e m first (d' + 1) y:=(z2S d' y).2 ⟨x,g4,i,g2,g3⟩
     have h2:¬ d' + 1 < d + 1:=fun hl=>hmin _ hl h1
     have h3:¬ d + 1 < d' + 1:=fun hl=>g5 _ hl hr
     omega
   subst hd'
   obtain ⟨ws,w1,w2,w3⟩:=h.back d' x (by omega) g4 fun c hc hrx=>hmin (c + 1) (by omega) ((z2S c y).2 ⟨x,hrx,i,g2,g3⟩)
   refine ⟨i :: ws,.cons hne g1 w1,by simp [w2],?_⟩
   rw [List.reverse_cons,z3F,w3]
   simp [g2,g3]
theorem LInv.all {j:Nat} {H:α→Option (α×Nat)} (h:LInv e m first j H []):∀ (d:Nat) (y:α),R e m first d y→∃ d',d' < j∧R e m first d' y:=by
 have lt:∀ d y,d ≤ j→R e m first d y→∃ d',d' < j∧R e m first d' y:=by
   intro d y hd hr
   by_cases hdj:d < j
   · exact ⟨d,hdj,hr⟩
   · obtain rfl:d = j:=by omega
     by_cases hex:∃ d',d' < d∧R e m first d' y
     · exact hex
     · have:=(h.level y).2 ⟨hr,fun d' hd' hr'=>hex ⟨d',hd',hr'⟩⟩
       simp at this
 intro d
 induction d with
 | zero=>intro y hr;exact lt 0 y (by omega) hr
 | succ d ih =>
   intro y hr
   obtain ⟨x,hx,i,hi,he⟩:=(z2S d y).1 hr
   obtain ⟨d',hd',hr'⟩:=ih x hx
   exact lt (d' + 1) y (by omega) ((z2S d' y).2 ⟨x,hr',i,hi,he⟩)
end Go.Pv.Bfs
namespace Go.Pv
def nx (x:MM) (s i:Int):Int:=(x.1.getD s.toNat []).getD i.toNat 0
def ou (x:MM) (s i:Int):Int:=(x.2.1.getD s.toNat []).getD i.toNat 0
def sayL (x:MM):Int→List Int→List Int×Int
 | s,[]=>([],s)
 | s,i :: w=>(ou x s i :: (sayL x (nx x s i) w).1,(sayL x (nx x s i) w).2)
theorem sayL_len (x:MM):∀ (s:Int) (w:List Int),(sayL x s w).1.length = w.length
 | s,[]=>rfl
 | s,i :: w=>by simp [sayL,sayL_len x _ w]
def InW (k:Nat) (w:List Int):Prop:=∀ i ∈ w,0 ≤ i∧i < (k:Int)
theorem Pm.step {x:MM} {k:Nat} (h:Pm x k) {s i:Int} (s0:0 ≤ s) (s1:s < (x.1.length:Int)) (i0:0 ≤ i) (i1:i < (k:Int)) :
   idx s x.1.length∧idx s x.2.1.length∧idx i (x.1.getD s.toNat []).length∧idx i (x.2.1.getD s.toNat []).length∧(0 ≤ nx x s i∧nx x s i < (x.1.length:Int))∧0 ≤ ou x s i∧ou x s i ≤ 3:=by
 obtain ⟨a1,a2⟩:=h.rowN _ (q0Q (l:=x.1) (i:=s.toNat) (by omega) [])
 obtain ⟨b1,b2⟩:=h.rowO _ (q0Q (l:=x.2.1) (i:=s.toNat) (by rw [h.out];omega) [])
 have ho:=h.out
 exact ⟨⟨s0,s1⟩,⟨s0,by rw [ho];exact s1⟩,⟨i0,by rw [a1];exact i1⟩,⟨i0,by rw [b1];exact i1⟩,a2 _ (q0Q (by omega) 0),b2 _ (q0Q (by omega) 0)⟩
theorem Pm.end_in {x:MM} {k:Nat} (h:Pm x k):∀ (w:List Int) (s:Int),0 ≤ s→s < (x.1.length:Int)→InW k w→0 ≤ (sayL x s w).2∧(sayL x s w).2 < (x.1.length:Int)
 | [],s,h0,h1,_=>⟨h0,h1⟩
 | i :: w,s,h0,h1,hw=>by
   obtain ⟨i0,i1⟩:=hw i List.mem_cons_self
   obtain ⟨_,_,_,_,n,_⟩:=h.step h0 h1 i0 i1
   exact h.end_in w _ n.1 n.2 fun j hj=>hw j (List.mem_cons_of_mem _ hj)
theorem Pm.says_loop {x:MM} {k:Nat} (h:Pm x k) (N:Nat) {C:Type} (k0:Int→MM→List Int→Option C) (w:List Int) (hw:InW k w) (hl:w.length ≤ 1000) :
   ∀ (F i:Nat) (s:Int) (o:List Int),w.length - i < F→i ≤ w.length→0 ≤ s→s < (x.1.length:Int)→o.length = i →
     g63L58f N F k0 s w (w.length:Int) (i:Int) x o = k0 (sayL x s (w.drop i)).2 x (o ++ (sayL x s (w.drop i)).1)
 | 0,i,s,o,hF,_,_,_,_=>by omega
 | F + 1,i,s,o,hF,hi,s0,s1,ho=>by
   rw [g63L58f_succ]
   unfold g63L58B
   by_cases hlt:i < w.length
   · obtain ⟨i0,i1⟩:=hw _ (q0Q hlt 0)
     obtain ⟨q1,q2,q3,q4,n,_⟩:=h.step s0 s1 i0 i1
     rw [ltT hlt,cond_true,if_pos (idxT hlt),Int.toNat_natCast,if_pos q2,if_pos q4,if_pos (by simp [maxCount];omega),if_pos q1,if_pos q3,wn i (by omega)]
     show g63L58f N F k0 (nx x s (w.getD i 0)) w (w.length:Int) ((i + 1:Nat):Int) x (o ++ [ou x s (w.getD i 0)]) = _
     rw [h.says_loop N k0 w hw hl F (i + 1) (nx x s (w.getD i 0)) (o ++ [ou x s (w.getD i 0)]) (by omega) (by omega) n.1 n.2 (by simp [ho]),getD_drop w i 0 hlt]
     simp [sayL]
   · rw [ltF hlt,cond_false,List.drop_eq_nil_of_le (by omega)]
     simp [sayL]
theorem Pm.says {x:MM} {k:Nat} (h:Pm x k) (N:Nat) (hN:1000 < N) (w:List Int) (hw:InW k w) (hl:w.length ≤ 1000) (s:Int) (s0:0 ≤ s) (s1:s < (x.1.length:Int)):g63 N x s w = some ((sayL x s w).1,(sayL x s w).2,()):=by
 unfold g63
 rw [g63L58_eq]
 have:=h.says_loop N (fun e1 e2 e3=>some (e3,e1,())) w hw hl N 0 s [] (by omega) (by omega) s0 s1 rfl
 simpa using this
theorem Pm.word_loop {x:MM} {k:Nat} (h:Pm x k) (N:Nat) {C:Type} (k0:MM→List Int→Option C) (l:List Int) (m:Nat) (hm:m ≤ 1000) :
   ∀ (F i:Nat) (o:List Int),m - i < F→i ≤ m→o.length = i→InW k o→∃ w,InW k w∧w.length ≤ m∧g26L58f N F k0 l (m:Int) (i:Int) x o = k0 x w
 | 0,i,o,hF,_,_,_=>by omega
 | F + 1,i,o,hF,hi,ho,hb=>by
   rw [g26L58f_succ]
   unfold g26L58B
   have:=h.k1;have:=h.k3
   by_cases hl:i < l.length
   · rw [ltT hl,cond_true]
     by_cases hlt:i < m
     · obtain ⟨v,ev,v0,v1⟩:=low (l.getD i 0) (m:=(k:Int)) (by omega) (by omega)
       have hw:IntKind.wrap .u64 (k:Int) = (k:Int):=wu64n (by omega) (by omega)
       rw [ltT hlt,cond_true,if_pos (idxT hl),h.z8P N,Int.toNat_natCast]
       simp only [Option.bind_some]
       rw [hw,if_neg (by omega),ev,if_pos (by simp [maxCount];omega),wn i (by omega)]
       exact h.word_loop N k0 l m hm F (i + 1) (o ++ [v]) (by omega) (by omega) (by simp [ho]) fun j hj=>by
         rcases List.mem_append.1 hj with hj | hj
         · exact hb j hj
         · obtain rfl:=List.mem_singleton.1 hj;exact ⟨v0,v1⟩
     · rw [ltF hlt,cond_false]
       exact ⟨o,hb,by omega,rfl⟩
   · rw [ltF hl,cond_false]
     exact ⟨o,hb,by omega,rfl⟩
theorem Pm.word {x:MM} {k:Nat} (h:Pm x k) (N:Nat) (hN:1000 < N) (l:List Int) (m:Nat) (hm:m ≤ 1000):∃ w,InW k w∧w.length ≤ m∧g26 N x l (m:Int) = some w:=by
 unfold g26
 rw [g26L58_eq]
 exact h.word_loop N (fun e2 e3=>some e3) l m hm N 0 [] (by omega) (by omega) rfl (by intro i hi;simp at hi)
theorem open_checks (N:Nat) (hN:20 < N) {C:Type} (k0:List MM→Int→List (List Int)→Int→Option C) (k1:List MM→Int→List (List Int)→Option C) (l:List MM) (s:Int) (ws:List (List Int)) (hl:l.length ≤ 10) (hp:∀ m ∈ l,∃ k,Pm m k) :
   ∀ (F i:Nat),l.length - i < F→i ≤ l.length→g62L26f N F k0 k1 l s ws l (l.length:Int) (i:Int) = k1 l s ws
 | 0,i,hF,_=>by omega
 | F + 1,i,hF,hi=>by
   rw [g62L26f_succ]
   unfold z9M
   by_cases hlt:i < l.length
   · obtain ⟨k,hk⟩:=hp _ (q0Q hlt (([]:List (List Int)),([]:List (List Int)),()))
     rw [ltT hlt,cond_true,if_pos (idxT hlt),Int.toNat_natCast,hk.check N hN]
     simp only [Option.bind_some,q2K,Bool.not_true,cond_false]
     rw [wn i (by omega)]
     exact open_checks N hN k0 k1 l s ws hl hp F (i + 1) (by omega) (by omega)
   · rw [ltF hlt,cond_false]
theorem open_checks0 (N:Nat) (hN:20 < N) {C:Type} (k0:List MM→Int→List (List Int)→Int→Option C) (k1:List MM→Int→List (List Int)→Option C) (l:List MM) (s:Int) (ws:List (List Int)) (hl:l.length ≤ 10) (hp:∀ m ∈ l,∃ k,Pm m k):g62L26f N N k0 k1 l s ws l (l.length:Int) 0 = k1 l s ws :=
 open_checks N hN k0 k1 l s ws hl hp N 0 (by omega) (by omega)
theorem z9N (N:Nat) {C:Type} (k0:List MM→Int→List (List Int)→Int→Option C) (k1:List MM→Int→List (List Int)→Option C) (l:List MM) (k:Nat) (s:Int) (ws:List (List Int)) (hl:l.length ≤ 10) (h1:1 ≤ l.length) (h0:g85 N (l.getD 0 ([],[],())) = some (k:Int))
   (K:MM→Int) (hK:∀ m ∈ l,g85 N m = some (K m)) :
   ∀ (F i:Nat),l.length - i < F→i ≤ l.length→z9W N F k0 k1 l s ws l (l.length:Int) (i:Int) = bif (l.drop i).all (fun m=>ieq (K m) (k:Int)) then k1 l s ws else k0 l s ws 1
 | 0,i,hF,_=>by omega
 | F + 1,i,hF,hi=>by
   rw [g62L58f_succ]
   unfold z9Y
   by_cases hlt:i < l.length
   · rw [ltT hlt,cond_true,if_pos (idxT hlt),Int.toNat_natCast,hK _ (q0Q hlt _)]
     simp only [Option.bind_some]
     rw [if_pos ⟨by omega,by omega⟩]
     simp only [show Int.toNat 0 = 0 from rfl]
     rw [h0]
     simp only [Option.bind_some]
     rw [getD_drop l i (([]:List (List Int)),([]:List (List Int)),()) hlt,List.all_cons]
     cases hq:ieq (K (l.getD i (([]:List (List Int)),([]:List (List Int)),()))) (k:Int) with
     | false=>simp
     | true =>
       simp only [Bool.not_true,cond_false,Bool.true_and]
       rw [wn i (by omega)]
       exact z9N N k0 k1 l k s ws hl h1 h0 K hK F (i + 1) (by omega) (by omega)
   · rw [ltF hlt,cond_false,List.drop_eq_nil_of_le (by omega)];rfl
theorem open_inputs0 (N:Nat) (hN:20 < N) {C:Type} (k0:List MM→Int→List (List Int)→Int→Option C) (k1:List MM→Int→List (List Int)→Option C) (l:List MM) (k:Nat) (s:Int) (ws:List (List Int)) (hl:l.length ≤ 10) (h1:1 ≤ l.length) (h0:g85 N (l.getD 0 ([],[],())) = some (k:Int))
   (K:MM→Int) (hK:∀ m ∈ l,g85 N m = some (K m)):z9W N N k0 k1 l s ws l (l.length:Int) 0 = bif l.all (fun m=>ieq (K m) (k:Int)) then k1 l s ws else k0 l s ws 1:=by
 have:=z9N N k0 k1 l k s ws hl h1 h0 K hK N 0 (by omega) (by omega)
 simpa using this
def wordB (k:Nat) (w:List Int):Bool:=decide (w.length ≤ 100) && w.all fun x=>decide (0 ≤ x) && decide (x ≤ (k:Int) - 1)
theorem open_words (N:Nat) (hN:1000 < N) {C:Type} (k0:Int→Option C) (k1:Option C) (l:List MM) (k:Nat) (hk:k ≤ 3) (h1:1 ≤ l.length) (h0:g85 N (l.getD 0 ([],[],())) = some (k:Int)) (ws:List (List Int)) (hw:ws.length ≤ 1000) :
   ∀ (F i:Nat),ws.length - i < F→i ≤ ws.length→z5G N F k0 k1 l ws (ws.length:Int) (i:Int) = bif (ws.drop i).all (wordB k) then k1 else k0 1
 | 0,i,hF,_=>by omega
 | F + 1,i,hF,hi=>by
   rw [g62L250f_succ]
   unfold z4L
   by_cases hlt:i < ws.length
   · rw [ltT hlt,cond_true,if_pos (idxT hlt),Int.toNat_natCast,getD_drop ws i [] hlt,List.all_cons]
     by_cases h100:(ws.getD i []).length ≤ 100
     · have e1:decide ((100:Int) < ((ws.getD i []).length:Int)) = false:=decide_eq_false (by omega)
       rw [e1,cond_false,if_pos ⟨by omega,by omega⟩]
       simp only [show Int.toNat 0 = 0 from rfl]
       rw [h0]
       simp only [Option.bind_some]
       rw [w64 (by omega) (by omega),are_eq N _ _ _ (by omega) (by omega)]
       simp only [Option.bind_some]
       have e2:wordB k (ws.getD i []) = (ws.getD i []).all fun x=>decide (0 ≤ x) && decide (x ≤ (k:Int) - 1):=by
         unfold wordB
         rw [decide_eq_true h100,Bool.true_and]
       rw [e2]
       cases hq:(ws.getD i []).all fun x=>decide (0 ≤ x) && decide (x ≤ (k:Int) - 1) with
       | false=>simp
       | true =>
         simp only [Bool.not_true,cond_false,Bool.true_and]
         rw [wn i (by omega)]
         exact open_words N hN k0 k1 l k hk h1 h0 ws hw F (i + 1) (by omega) (by omega)
     · have e1:decide ((100:Int) < ((ws.getD i []).length:Int)) = true:=decide_eq_true (by omega)
       have e2:wordB k (ws.getD i []) = false:=by
         unfold wordB
         rw [decide_eq_false h100,Bool.false_and]
       rw [e1,cond_true,e2];simp
   · rw [ltF hlt,cond_false,List.drop_eq_nil_of_le (by omega)];rfl
theorem open_words0 (N:Nat) (hN:1000 < N) {C:Type} (k0:Int→Option C) (k1:Option C) (l:List MM) (k:Nat) (hk:k ≤ 3) (h1:1 ≤ l.length) (h0:g85 N (l.getD 0 ([],[],())) = some (k:Int)) (ws:List (List Int)) (hw:ws.length ≤ 1000) :
   z5G N N k0 k1 l ws (ws.length:Int) 0 = bif ws.all (wordB k) then k1 else k0 1:=by
 have:=open_words N hN k0 k1 l k hk h1 h0 ws hw N 0 (by omega) (by omega)
 simpa using this
theorem open_eq (N:Nat) (hN:1000 < N) (l:List MM) (k:Nat) (s:Int) (ws:List (List Int)) (hl:l.length ≤ 10) (h1:1 ≤ l.length) (hp:∀ m ∈ l,Pm m k) (s0:0 ≤ s) (s1:s < ((l.getD 0 ([],[],())).1.length:Int)) (hw:ws.length ≤ 1000) :
   g62 N l s ws = some (bif ws.all (wordB k) then 0 else 1):=by
 have hm:=q0Q (l:=l) (i:=0) (by omega) (([]:List (List Int)),([]:List (List Int)),())
 have h0:=(hp _ hm).inputs N
 have hk:=(hp _ hm).k3
 have hn:=(hp _ hm).n6
 unfold g62
 rw [g62L26_eq,open_checks0 N (by omega) _ _ l s ws hl (fun m h=>⟨k,hp m h⟩)]
 rw [g62L58_eq,open_inputs0 N (by omega) _ _ l k s ws hl h1 h0 (fun _=>(k:Int)) (fun m h=>(hp m h).inputs N)]
 simp only [q2K,List.all_eq_true,implies_true,show l.all (fun m=>true) = true from by simp,cond_true]
 rw [if_pos ⟨by omega,by omega⟩]
 have e1:g76 N (l.getD (Int.toNat 0) ([],[],())) = some ((l.getD 0 ([],[],())).1.length:Int):=rfl
 rw [e1]
 simp only [Option.bind_some]
 rw [w64 (by omega) (by omega),z3X N _ _ [s] (by simp;omega) (by simp) (fun t ht=>by obtain rfl:=List.mem_singleton.1 ht;omega)]
 simp only [Option.bind_some,Bool.not_true,cond_false]
 rw [g62L250_eq,open_words0 N hN _ _ l k hk h1 h0 ws hw]
 cases ws.all (wordB k) <;> rfl
end Go.Pv
namespace Go.Pv
end Go.Pv
namespace Go.Pv
def allN:Nat→Nat→(Nat→Bool)→Bool
 | 0,_,_=>true
 | m + 1,i,f=>f i && allN m (i + 1) f
theorem allN_step {n i:Nat} (h:i < n) (f:Nat→Bool):allN (n - i) i f = (f i && allN (n - (i + 1)) (i + 1) f):=by
 rw [show n - i = (n - (i + 1)) + 1 by omega];rfl
theorem allN_end {n i:Nat} (h:¬ i < n) (f:Nat→Bool):allN (n - i) i f = true:=by
 rw [show n - i = 0 by omega];rfl
theorem z0N:∀ (m i:Nat) (f:Nat→Bool),allN m i f = true ↔ ∀ j,i ≤ j→j < i + m→f j = true
 | 0,i,f=>⟨fun _ j h1 h2=>by omega,fun _=>rfl⟩
 | m + 1,i,f=>by
   simp only [allN,Bool.and_eq_true,z0N m (i + 1) f]
   constructor
   · rintro ⟨h1,h2⟩ j h3 h4
     by_cases hj:j = i
     · rw [hj];exact h1
     · exact h2 j (by omega) (by omega)
   · intro h
     exact ⟨h i (by omega) (by omega),fun j h1 h2=>h j (by omega) (by omega)⟩
theorem allN_congr {m i:Nat} {f g:Nat→Bool} (h:∀ j,i ≤ j→j < i + m→f j = g j):allN m i f = allN m i g:=by
 rw [Bool.eq_iff_iff,z0N,z0N]
 exact forall_congr' fun j=>forall_congr' fun h1=>forall_congr' fun h2=>by rw [h j h1 h2]
abbrev KT:Ty:=.pair (.int .i64) (.pair (.int .i64) .unit)
theorem beqK (a b:Int×Int×Unit):Ty.beq KT a b = decide (a = b):=by
 obtain ⟨a1,a2,a3⟩:=a
 obtain ⟨b1,b2,b3⟩:=b
 simp only [Ty.beq,ieq,Bool.and_true,Prod.mk.injEq]
 by_cases h1:a1 = b1 <;> by_cases h2:a2 = b2 <;> simp [h1,h2]
theorem q5H (k:Int×Int×Unit) (v:Int):∀ l:List ((Int×Int×Unit)×Int),q0C (Ty.beq KT) k (q0S (Ty.beq KT) k v l) = some v
 | []=>by simp [q0S,q0C,beqK]
 | q :: r=>by
   simp only [q0S]
   cases h:Ty.beq KT k q.1 with
   | true=>simp [q0C,beqK]
   | false=>simp only [Bool.false_eq_true,if_false,q0C,h];exact q5H k v r
theorem q6R {k k':Int×Int×Unit} (v:Int) (hk:k' ≠ k):∀ l:List ((Int×Int×Unit)×Int),q0C (Ty.beq KT) k' (q0S (Ty.beq KT) k v l) = q0C (Ty.beq KT) k' l
 | []=>by simp [q0S,q0C,beqK,hk]
 | q :: r=>by
   simp only [q0S]
   cases h:Ty.beq KT k q.1 with
   | true =>
     rw [beqK,decide_eq_true_eq] at h
     subst h
     simp [q0C,beqK,hk]
   | false=>simp only [Bool.false_eq_true,if_false,q0C];rw [q6R v hk r]
theorem z3R (x:MM) (a:Int):∀ (w:List Int) (s:Int),sayL x s (w ++ [a]) = ((sayL x s w).1 ++ [ou x (sayL x s w).2 a],nx x (sayL x s w).2 a)
 | [],s=>rfl
 | i :: w,s=>by
   show (ou x s i :: (sayL x (nx x s i) (w ++ [a])).1,(sayL x (nx x s i) (w ++ [a])).2) = _
   rw [z3R x a w (nx x s i)]
   rfl
abbrev GG:=List Int×List Int×Unit
structure Gr (x:MM) (w:List Int) (g:GG):Prop where
 l1:g.1.length = 6
 l2:g.2.1.length = 6
 now:∀ s:Nat,s < x.1.length→g.2.1.getD s 0 = (sayL x (s:Int) w).2
 grp:∀ s t:Nat,s < x.1.length→t < x.1.length→(g.1.getD s 0 = g.1.getD t 0 ↔ (sayL x (s:Int) w).1 = (sayL x (t:Int) w).1)
theorem q2Q (l:List Int) (i j:Nat) (v:Int) (hi:i < l.length):(l.set i v).getD j 0 = if j = i then v else l.getD j 0:=by
 rw [List.getD_eq_getElem?_getD,List.getD_eq_getElem?_getD,List.getElem?_set]
 by_cases h:i = j
 · subst h;simp [hi]
 · rw [if_neg h,if_neg (fun e=>h e.symm)]
def kyOf (x:MM) (g:GG) (a:Int) (s:Nat):Int×Int×Unit:=(g.1.getD s 0,ou x (g.2.1.getD s 0) a,())
end Go.Pv
namespace Go.Pv
open Bfs
theorem q2L {α β:Type} [DecidableEq α] (eq:α→α→Bool) (he:∀ a b,eq a b = decide (a = b)) (k:α) (v:β) (k':α):∀ l:List (α×β),q0C eq k' (q0S eq k v l) = if k' = k then some v else q0C eq k' l
 | []=>by
   simp only [q0S,q0C,he,decide_eq_true_eq]
 | q :: r=>by
   simp only [q0S,he,decide_eq_true_eq]
   by_cases h:k = q.1
   · rw [if_pos h]
     simp only [q0C,he,decide_eq_true_eq]
     by_cases h2:k' = k
     · rw [if_pos h2,if_pos h2]
     · rw [if_neg h2,if_neg h2,if_neg (by rw [← h];exact h2)]
   · rw [if_neg h]
     simp only [q0C,he,decide_eq_true_eq]
     by_cases h2:k' = q.1
     · rw [if_pos h2,if_pos h2,if_neg (by rw [h2];exact fun h3=>h h3.symm)]
     · rw [if_neg h2,if_neg h2,q2L eq he k v k' r]
abbrev TT:=(Int×Int×Unit)×Bool×Unit
abbrev tTT:Ty:=.pair (.pair (.int .i64) (.pair (.int .i64) .unit)) (.pair .bool .unit)
theorem beqT (a b:TT):Ty.beq tTT a b = decide (a = b):=by
 obtain ⟨⟨a1,a2,a3⟩,a4,a5⟩:=a
 obtain ⟨⟨b1,b2,b3⟩,b4,b5⟩:=b
 simp only [Ty.beq,ieq,beqB,Bool.and_true,Prod.mk.injEq]
 by_cases h1:a1 = b1 <;> by_cases h2:a2 = b2 <;> cases a4 <;> cases b4 <;> simp [h1,h2]
abbrev How:=List (TT×TT×Int×Unit)
def Hh (how:How) (y:TT):Option (TT×Nat):=(q0C (Ty.beq tTT) y how).map fun v=>(v.1,v.2.1.toNat)
theorem Hh_put (how:How) (y x:TT) (i:Nat):Hh (q0S (Ty.beq tTT) y (x,(i:Int),()) how) = fun z=>if z = y then some (x,i) else Hh how z:=by
 funext z
 unfold Hh
 rw [q2L _ beqT]
 by_cases h:z = y
 · rw [if_pos h,if_pos h];rfl
 · rw [if_neg h,if_neg h]
def eP (a b:MM) (x:TT) (i:Nat):Option TT:=if x.2.1 = true then none else some ((nx a x.1.1 i,nx b x.1.2.1 i,()),!ieq (ou a x.1.1 i) (ou b x.1.2.1 i),())
def VP (a b:MM) (x:TT):Prop:=(0 ≤ x.1.1∧x.1.1 < (a.1.length:Int))∧0 ≤ x.1.2.1∧x.1.2.1 < (b.1.length:Int)
theorem VP.step {a b:MM} {k:Nat} (ha:Pm a k) (hb:Pm b k) {x y:TT} (hx:VP a b x) {i:Nat} (hi:i < k) (h:eP a b x i = some y):VP a b y:=by
 unfold eP at h
 split at h
 · cases h
 · obtain rfl:=Option.some.inj h
   obtain ⟨_,_,_,_,n1,_⟩:=ha.step hx.1.1 hx.1.2 (i:=(i:Int)) (by omega) (by omega)
   obtain ⟨_,_,_,_,n2,_⟩:=hb.step hx.2.1 hx.2.2 (i:=(i:Int)) (by omega) (by omega)
   exact ⟨n1,n2⟩
theorem next_eq {a b:MM} {k:Nat} (ha:Pm a k) (hb:Pm b k) (N:Nat) {x:TT} (hx:VP a b x) {i:Nat} (hi:i < k) :
   g99 N x (i:Int) a b = some (((nx a x.1.1 i,nx b x.1.2.1 i,()),!ieq (ou a x.1.1 i) (ou b x.1.2.1 i),()),!x.2.1,()):=by
 unfold g99
 obtain ⟨a1,a2,a3,a4,_⟩:=ha.step hx.1.1 hx.1.2 (i:=(i:Int)) (by omega) (by omega)
 obtain ⟨b1,b2,b3,b4,_⟩:=hb.step hx.2.1 hx.2.2 (i:=(i:Int)) (by omega) (by omega)
 rw [if_pos a1,if_pos a3,if_pos b1,if_pos b3,if_pos a2,if_pos a4,if_pos b2,if_pos b4]
 rfl
theorem cb_eq {a b:MM} {k:Nat} (ha:Pm a k) (hb:Pm b k) (N:Nat) {x:TT} (hx:VP a b x) {i:Nat} (hi:i < k) (how:How) :
   ∃ (y:TT) (ok:Bool) (how':How),g117x N x (i:Int) a b how = some ((y,ok,()),((),(a,b,()),(),how',()),()) ∧
     ((ok = false∧how' = how∧∀ z,eP a b x i = some z→(Hh how z).isSome = true) ∨ (ok = true∧eP a b x i = some y∧Hh how y = none∧how' = q0S (Ty.beq tTT) y (x,(i:Int),()) how)):=by
 unfold g117x
 rw [next_eq ha hb N hx hi]
 simp only [Option.bind_some]
 cases hap:x.2.1 with
 | true =>
   simp only [Bool.not_true,Bool.not_false,cond_true]
   exact ⟨_,_,_,rfl,.inl ⟨rfl,rfl,fun z hz=>by simp [eP,hap] at hz⟩⟩
 | false =>
   have hz:eP a b x i = some ((nx a x.1.1 i,nx b x.1.2.1 i,()),!ieq (ou a x.1.1 i) (ou b x.1.2.1 i),()):=by simp [eP,hap]
   simp only [Bool.not_true,Bool.not_false,cond_false]
   generalize hy:(((nx a x.1.1 i,nx b x.1.2.1 i,()),!ieq (ou a x.1.1 i) (ou b x.1.2.1 i),()):TT) = y at hz ⊢
   cases hf:q0C (Ty.beq tTT) y how with
   | none =>
     refine ⟨y,true,q0S (Ty.beq tTT) y (x,(i:Int),()) how,?_,.inr ⟨rfl,hz,by unfold Hh;rw [hf];rfl,rfl⟩⟩
     rfl
   | some v =>
     refine ⟨y,false,how,?_,.inl ⟨rfl,rfl,fun z h=>by rw [hz] at h;obtain rfl:=Option.some.inj h;unfold Hh;rw [hf];rfl⟩⟩
     rfl
def NN (how:How):Prop:=∀ y v,q0C (Ty.beq tTT) y how = some v→0 ≤ v.2.1
theorem NN.put {how:How} (h:NN how) (y x:TT) (i:Nat):NN (q0S (Ty.beq tTT) y (x,(i:Int),()) how):=by
 intro z v hv
 rw [q2L _ beqT] at hv
 split at hv
 · obtain rfl:=Option.some.inj hv
   show (0:Int) ≤ (i:Int)
   omega
 · exact h z v hv
abbrev CB (t:Ty):=CbF t (.pair tTT (.pair .bool .unit))
def Does (a b:MM) (k:Nat) {t:Ty} (run:CB t) (st:How→t.T):Prop :=
 ∀ (how:How) (x:TT) (i:Nat),VP a b x→i < k→∃ (y:TT) (ok:Bool) (how':How),run.f (st how) [.dat tTT x,.dat (.int .i64) (i:Int)] = some (st how',(y,ok,())) ∧
   ((ok = false∧how' = how∧∀ z,eP a b x i = some z→(Hh how z).isSome = true) ∨ (ok = true∧eP a b x i = some y∧Hh how y = none∧how' = q0S (Ty.beq tTT) y (x,(i:Int),()) how))
theorem z2H {a b:MM} {k:Nat} (ha:Pm a k) (hb:Pm b k) (N:Nat) {t:Ty} {run:CB t} {st:How→t.T} (hd:Does a b k run st) {C:Type} (k0:List TT→Int→Int→List TT→TT→CB t→t.T→TT→Int→Option C)
   (H0:TT→Option (TT×Nat)) (L:List TT) (hL:L.length ≤ 1000) (p:Nat) (x:TT) (hx:L[p]? = some x) (hv:VP a b x) (q1 q2:Int) (f:TT) :
   ∀ (F i:Nat) (how:How) (more:List TT),k - i < F→i ≤ k→BInv (eP a b) k H0 L p i (Hh how) more→NN how→(∀ y ∈ more,VP a b y)→more.length ≤ p * k + i →
     ∃ (how':How) (more':List TT),BInv (eP a b) k H0 L p k (Hh how') more'∧NN how'∧(∀ y ∈ more',VP a b y)∧more'.length ≤ p * k + k ∧
       q5G N F t k0 L q1 q2 (k:Int) (i:Int) more x run (st how) f (k:Int) = k0 L q1 q2 more' x run (st how') f (k:Int)
 | 0,i,how,more,hF,_,_,_,_,_=>by omega
 | F + 1,i,how,more,hF,hi,hB,hn,hm,hl=>by
   have k3:=ha.k3
   have hp:p < L.length:=(List.getElem?_eq_some_iff.1 hx).1
   have hpk:p * k ≤ 1000 * 3:=Nat.mul_le_mul (by omega) k3
   rw [z4H]
   unfold q3L
   by_cases hlt:i < k
   · obtain ⟨y,ok,how',e,hc⟩:=hd how x i hv hlt
     rw [ltT hlt,cond_true,e]
     simp only [Option.bind_some]
     rw [wn i (by omega)]
     rcases hc with ⟨rfl,rfl,hs⟩ | ⟨rfl,hy,hno,rfl⟩
     · rw [cond_false]
       exact z2H ha hb N hd k0 H0 L hL p x hx hv q1 q2 f F (i + 1) how' more (by omega) (by omega) (hB.skip x hx hs) hn hm (by omega)
     · rw [cond_true,if_pos (by simp [maxCount];omega)]
       have hB':=hB.add x hx hlt y hy hno
       rw [← Hh_put] at hB'
       exact z2H ha hb N hd k0 H0 L hL p x hx hv q1 q2 f F (i + 1) _ (more ++ [y]) (by omega) (by omega) hB' (hn.put y x i) (fun z hz=>by
         rcases List.mem_append.1 hz with hz | hz
         · exact hm z hz
         · rw [List.mem_singleton.1 hz];exact hv.step ha hb hlt hy) (by simp;omega)
   · rw [ltF hlt,cond_false]
     have:i = k:=by omega
     subst this
     exact ⟨how,more,hB,hn,hm,hl,rfl⟩
theorem level_loop {a b:MM} {k:Nat} (ha:Pm a k) (hb:Pm b k) (N:Nat) (hN:10 < N) {t:Ty} {run:CB t} {st:How→t.T} (hd:Does a b k run st) {C:Type} (k0:List TT→CB t→t.T→TT→Int→Option C)
   (H0:TT→Option (TT×Nat)) (L:List TT) (hL:L.length ≤ 1000) (hLv:∀ y ∈ L,VP a b y) (f:TT) :
   ∀ (F p:Nat) (how:How) (more:List TT),L.length - p < F→p ≤ L.length→BInv (eP a b) k H0 L p 0 (Hh how) more→NN how→(∀ y ∈ more,VP a b y)→more.length ≤ p * k →
     ∃ (how':How) (more':List TT),BInv (eP a b) k H0 L L.length 0 (Hh how') more'∧NN how'∧(∀ y ∈ more',VP a b y) ∧
       q5W N F t k0 L (L.length:Int) (p:Int) more run (st how) f (k:Int) = k0 more' run (st how') f (k:Int)
 | 0,p,how,more,hF,_,_,_,_,_=>by omega
 | F + 1,p,how,more,hF,hp,hB,hn,hm,hl=>by
   have k3:=ha.k3
   rw [z8F]
   unfold q6D
   by_cases hlt:p < L.length
   · have hx:L[p]? = some (L.getD p ((0,0,()),false,())):=by rw [List.getElem?_eq_getElem hlt];simp [hlt]
     obtain ⟨how',more',b1,b2,b3,b4,e⟩:=z2H ha hb N hd (fun e3 e4 e5 e6 e7 e8 e9 e10 e11=>q5W N F t k0 e3 e4 (IntKind.wrap .i64 (e5 + 1)) e6 e8 e9 e10 e11) H0 L hL p (L.getD p ((0,0,()),false,())) hx (hLv _ (q0Q hlt _)) (L.length:Int) (p:Int) f N 0 how more (by omega) (by omega) hB hn hm (by omega)
     rw [ltT hlt,cond_true,if_pos (idxT hlt),Int.toNat_natCast,g134xL416358_eq]
     refine Exists.imp (fun how2=>Exists.imp fun more2 h=>?_) (level_loop ha hb N hN hd k0 H0 L hL hLv f F (p + 1) how' more' (by omega) (by omega) b1.next b2 b3 (by rw [Nat.add_mul,Nat.one_mul];exact b4))
     refine ⟨h.1,h.2.1,h.2.2.1,?_⟩
     refine Eq.trans e ?_
     rw [wn p (by omega)]
     exact h.2.2.2
   · rw [ltF hlt,cond_false]
     have:p = L.length:=by omega
     subst this
     exact ⟨how,more,hB,hn,hm,rfl⟩
end Go.Pv
namespace Go.Pv
open Bfs
theorem q4I {α:Type} [DecidableEq α]:∀ {L M:List α},L.Nodup→(∀ d ∈ L,d ∈ M)→L.length ≤ M.length
 | [],_,_,_=>by simp
 | a :: L,M,h,hm=>by
   have h1:=List.nodup_cons.1 h
   have hmem:a ∈ M:=hm a List.mem_cons_self
   have ih:=q4I (L:=L) (M:=M.erase a) h1.2 (fun d hd=>by
     have hne:d ≠ a:=fun he=>h1.1 (he ▸ hd)
     exact (List.mem_erase_of_ne hne).2 (hm d (List.mem_cons_of_mem _ hd)))
   have:=List.length_erase_of_mem hmem
   have hpos:0 < M.length:=List.length_pos_of_mem hmem
   simp only [List.length_cons]
   omega
def univ:List TT:=[0,1,2,3,4,5].flatMap fun s=>[0,1,2,3,4,5].flatMap fun t=>[((s,t,()),false,()),((s,t,()),true,())]
theorem univ_len:univ.length = 72:=by decide
theorem six (s:Int) (h0:0 ≤ s) (h6:s < 6):s ∈ [(0:Int),1,2,3,4,5]:=by
 simp only [List.mem_cons,List.not_mem_nil,or_false];omega
theorem VP.univ {a b:MM} {k:Nat} (ha:Pm a k) (hb:Pm b k) {x:TT} (hx:VP a b x):x ∈ Go.Pv.univ:=by
 have h1:=ha.n6
 have h2:=hb.n6
 obtain ⟨⟨s,t,u⟩,o,v⟩:=x
 unfold Go.Pv.univ
 rw [List.mem_flatMap]
 refine ⟨s,six s hx.1.1 (by have:=hx.1.2;simp only at this;omega),?_⟩
 rw [List.mem_flatMap]
 refine ⟨t,six t hx.2.1 (by have:=hx.2.2;simp only at this;omega),?_⟩
 cases o <;> simp
theorem few72 {a b:MM} {k:Nat} (ha:Pm a k) (hb:Pm b k) {L:List TT} (hn:L.Nodup) (hv:∀ y ∈ L,VP a b y):L.length ≤ 72:=by
 have:=q4I hn (fun y hy=>(hv y hy).univ ha hb)
 rw [univ_len] at this
 exact this
theorem back_loop (N:Nat) {C:Type} (k0:TT→MM→MM→List Int→Bool→TT→List Int→How→((TT×Unit)→Option Bool)→Option C) (first:TT) (a b:MM) (w0:List Int) (b0:Bool) (how:How) (hn:NN how) (fd:(TT×Unit)→Option Bool) :
   ∀ (ws:List Nat) (y:TT) (F:Nat) (w:List Int),Bfs.Back (Hh how) first y ws→ws.length < F→w.length + ws.length ≤ 1000 →
     q3Z N F k0 first a b w0 b0 y w how fd = k0 first a b w0 b0 first (w ++ ws.map fun i:Nat=>(i:Int)) how fd:=by
 intro ws
 induction ws with
 | nil =>
   intro y F w hb hF hl
   cases hb
   obtain ⟨F,rfl⟩:∃ F',F = F' + 1:=⟨F - 1,by simp at hF;omega⟩
   rw [q6X]
   unfold q2W
   show (bif (!Ty.beq tTT first first) then _ else _) = _
   rw [beqT,decide_eq_true rfl]
   simp
 | cons i ws ih =>
   intro y F w hb hF hl
   obtain ⟨F,rfl⟩:∃ F',F = F' + 1:=⟨F - 1,by simp at hF;omega⟩
   cases hb with
   | cons hne hH hB =>
     rename_i x
     rw [q6X]
     unfold q2W
     show (bif (!Ty.beq tTT y first) then (if w.length + [(Option.getD (q0C (Ty.beq tTT) y how) (((0,0,()),false,()),0,())).2.1].length ≤ maxCount then q3Z N F k0 first a b w0 b0 (Option.getD (q0C (Ty.beq tTT) y how) (((0,0,()),false,()),0,())).1 (w ++ [(Option.getD (q0C (Ty.beq tTT) y how) (((0,0,()),false,()),0,())).2.1]) how fd else none) else _) = _
     rw [beqT,decide_eq_false hne,Bool.not_false,cond_true]
     unfold Hh at hH
     cases hf:q0C (Ty.beq tTT) y how with
     | none=>rw [hf] at hH;cases hH
     | some v =>
       rw [hf] at hH
       have hH:=Option.some.inj hH
       have hv:=hn y v hf
       simp only [Prod.mk.injEq] at hH
       obtain ⟨h1,h2⟩:=hH
       simp only [List.length_cons] at hF hl
       simp only [Option.getD_some]
       rw [if_pos (by simp [maxCount];omega),h1,show v.2.1 = ((i:Nat):Int) by omega,ih x F _ hB (by omega) (by simp;omega)]
       simp
def sw (p:List Int) (i:Nat):List Int:=p.mapIdx fun q v=>if q < i ∨ p.length - i ≤ q then p.getD (p.length - 1 - q) 0 else v
theorem z1M (p:List Int) (i:Nat):(sw p i).length = p.length:=by simp [sw]
theorem sw_get (p:List Int) (i q:Nat) (hq:q < p.length):(sw p i).getD q 0 = if q < i ∨ p.length - i ≤ q then p.getD (p.length - 1 - q) 0 else p.getD q 0:=by
 unfold sw
 rw [List.getD_eq_getElem?_getD,List.getElem?_mapIdx,List.getElem?_eq_getElem hq]
 simp [hq]
theorem q7W {l m:List Int} (h:l.length = m.length) (hg:∀ q,q < l.length→l.getD q 0 = m.getD q 0):l = m:=by
 apply List.ext_getElem h
 intro q h1 h2
 have:=hg q h1
 rw [List.getD_eq_getElem?_getD,List.getD_eq_getElem?_getD,List.getElem?_eq_getElem h1,List.getElem?_eq_getElem h2] at this
 exact this
theorem sw_zero (p:List Int):sw p 0 = p:=q7W (z1M p 0) fun q hq=>by
 rw [z1M] at hq
 rw [sw_get p 0 q hq,if_neg (by omega)]
theorem sw_end (p:List Int) (i:Nat) (h:p.length ≤ 2 * i + 1):sw p i = p.reverse:=by
 refine q7W (by rw [z1M,List.length_reverse]) fun q hq=>?_
 rw [z1M] at hq
 have hr:p.reverse.getD q 0 = p.getD (p.length - 1 - q) 0:=by
   rw [List.getD_eq_getElem?_getD,List.getD_eq_getElem?_getD,List.getElem?_reverse hq]
 rw [sw_get p i q hq,hr]
 split
 · rfl
 · congr 1;omega
theorem sw_step (p:List Int) (i:Nat) (h:2 * i + 1 < p.length):((sw p i).set i ((sw p i).getD (p.length - 1 - i) 0)).set (p.length - 1 - i) ((sw p i).getD i 0) = sw p (i + 1):=by
 refine q7W (by simp [z1M]) fun q hq=>?_
 simp only [List.length_set,z1M] at hq
 rw [q2Q _ _ _ _ (by simp [z1M];omega),q2Q _ _ _ _ (by rw [z1M];omega),sw_get p (i + 1) q hq,sw_get p i i (by omega),sw_get p i (p.length - 1 - i) (by omega),sw_get p i q hq]
 rw [if_neg (show ¬ (i < i ∨ p.length - i ≤ i) by omega),if_neg (show ¬ (p.length - 1 - i < i ∨ p.length - i ≤ p.length - 1 - i) by omega)]
 by_cases h1:q = p.length - 1 - i
 · rw [if_pos h1,if_pos (by omega)];congr 1;omega
 · rw [if_neg h1]
   by_cases h2:q = i
   · rw [if_pos h2,if_pos (by omega)];congr 1;omega
   · rw [if_neg h2]
     by_cases h3:q < i ∨ p.length - i ≤ q
     · rw [if_pos h3,if_pos (by omega)]
     · rw [if_neg h3,if_neg (by omega)]
theorem rev_loop (N:Nat) {C:Type} (k0:List Int→Option C) (p:List Int) (hp:p.length ≤ 1000) :
   ∀ (F i:Nat),p.length - i < F→2 * i ≤ p.length + 1→z4I N F k0 (i:Int) ((p.length:Int) - 1 - (i:Int)) (sw p i) = k0 p.reverse
 | 0,i,hF,_=>by omega
 | F + 1,i,hF,hi=>by
   rw [z4Z]
   unfold z0E
   by_cases hlt:2 * i + 1 < p.length
   · have e1:decide ((i:Int) < (p.length:Int) - 1 - (i:Int)) = true:=decide_eq_true (by omega)
     have ej:Int.toNat ((p.length:Int) - 1 - (i:Int)) = p.length - 1 - i:=by omega
     have hl:=z1M p i
     rw [e1,cond_true,if_pos ⟨by omega,by omega⟩,if_pos (by omega),if_pos ⟨by omega,by omega⟩,if_pos (by omega),if_pos ⟨by omega,by omega⟩,if_pos (by omega),if_pos ⟨by omega,by rw [List.length_set];omega⟩,if_pos (by rw [List.length_set];omega),ej,Int.toNat_natCast,wn i (by omega),w64 (by omega) (by omega),sw_step p i hlt]
     have:=rev_loop N k0 p hp F (i + 1) (by omega) (by omega)
     rw [show (p.length:Int) - 1 - ((i + 1:Nat):Int) = (p.length:Int) - 1 - (i:Int) - 1 by omega] at this
     exact this
   · have e1:decide ((i:Int) < (p.length:Int) - 1 - (i:Int)) = false:=decide_eq_false (by omega)
     rw [e1,cond_false,sw_end p i (by omega)]
theorem reverse_eq (N:Nat) (hN:1000 < N) (p:List Int) (hp:p.length ≤ 1000):g114x N p = some ((),((),p.reverse,()),()):=by
 unfold g114x
 rw [g114xL6_eq,w64 (by omega) (by omega)]
 have:=rev_loop N (fun e1=>some (((()),((),e1,()),(())):(g114xS).R)) p hp N 0 (by omega) (by omega)
 rw [sw_zero] at this
 simp only [Int.natCast_zero,Int.sub_zero] at this
 exact this
theorem z7C (N:Nat) (hN:1000 < N) {C:Type} (k0 k1:TT→MM→MM→List Int→Bool→How→((TT×Unit)→Option Bool)→Option C) (fd:(TT×Unit)→Option Bool) (hfd:∀ x,fd (x,()) = some x.2.1) (L:List TT) (hL:L.length ≤ 1000) (first:TT) (a b:MM) (w0:List Int) (b0:Bool) (how:How) (hn:NN how)
   (hback:∀ y ∈ L,y.2.1 = true→∃ ws,Bfs.Back (Hh how) first y ws∧ws.length ≤ 100) :
   ∀ (F i:Nat),L.length - i < F→i ≤ L.length →
     ((∀ y ∈ L.drop i,y.2.1 = false)∧q8T N F k0 k1 fd L (L.length:Int) (i:Int) first a b w0 b0 how fd = k1 first a b w0 b0 how fd) ∨
     ∃ y ∈ L,y.2.1 = true∧∃ ws,Bfs.Back (Hh how) first y ws∧q8T N F k0 k1 fd L (L.length:Int) (i:Int) first a b w0 b0 how fd = k0 first a b (ws.reverse.map fun i:Nat=>(i:Int)) true how fd
 | 0,i,hF,_=>by omega
 | F + 1,i,hF,hi=>by
   rw [g97xL938f_succ]
   unfold q8X
   by_cases hlt:i < L.length
   · rw [ltT hlt,cond_true,if_pos (idxT hlt),Int.toNat_natCast,hfd]
     simp only [Option.bind_some]
     have hm:=q0Q hlt (((0,0,()),false,()):TT)
     rw [getD_drop L i ((0,0,()),false,()) hlt]
     cases hy:(L.getD i ((0,0,()),false,())).2.1 with
     | false =>
       simp only [Bool.not_false,cond_true]
       rw [wn i (by omega)]
       rcases z7C N hN k0 k1 fd hfd L hL first a b w0 b0 how hn hback F (i + 1) (by omega) (by omega) with ⟨h1,h2⟩ | h
       · refine .inl ⟨fun y hy'=>?_,h2⟩
         rcases List.mem_cons.1 hy' with rfl | hy'
         · exact hy
         · exact h1 y hy'
       · exact .inr h
     | true =>
       simp only [Bool.not_true,cond_false]
       obtain ⟨ws,hB,hl⟩:=hback _ hm hy
       refine .inr ⟨_,hm,hy,ws,hB,?_⟩
       rw [g97xL960924_eq,back_loop N _ first a b w0 b0 how hn fd ws _ N [] hB (by omega) (by simp;omega)]
       rw [reverse_eq N hN _ (by simp;omega)]
       simp [List.map_reverse]
   · rw [ltF hlt,cond_false,List.drop_eq_nil_of_le (by omega)]
     exact .inl ⟨by simp,rfl⟩
end Go.Pv
namespace Go.Pv
open Bfs
theorem Back_uniq {H:TT→Option (TT×Nat)} {first:TT}:∀ {y:TT} {ws vs:List Nat},Bfs.Back H first y ws→Bfs.Back H first y vs→ws = vs:=by
 intro y ws vs h
 induction h generalizing vs with
 | nil =>
   intro h2
   cases h2 with
   | nil=>rfl
   | cons hne _ _=>exact absurd rfl hne
 | cons hne hH hB ih =>
   intro h2
   cases h2 with
   | nil=>exact absurd rfl hne
   | cons hne2 hH2 hB2 =>
     rw [hH] at hH2
     obtain ⟨rfl,rfl⟩:=Prod.mk.inj (Option.some.inj hH2)
     rw [ih hB2]
def Ends (a b:MM) (k:Nat) (first:TT) (ws:List Nat):Prop:=∃ y,run (eP a b) k first ws = some y∧y.2.1 = true∧∀ d,d < ws.length→∀ z,R (eP a b) k first d z→z.2.1 = false
def Never (a b:MM) (k:Nat) (first:TT):Prop:=∀ d z,R (eP a b) k first d z→z.2.1 = false
theorem levels_loop {a b:MM} {k:Nat} (ha:Pm a k) (hb:Pm b k) (N:Nat) (hN:1000 < N) {t:Ty} {run0:CB t} {st:How→t.T} {stF:List Int→How→t.T} (hd:Does a b k run0 st) (first:TT)
   (hy0:∀ how L,(∀ y ∈ L,y.2.1 = false)→NN how→L.length ≤ 1000→run0.y (st how) [.dat (.lst tTT) L] = some (st how,true))
   (hy1:∀ how L,NN how→L.length ≤ 1000→(∀ y ∈ L,y.2.1 = true→∃ ws,Bfs.Back (Hh how) first y ws∧ws.length ≤ 100)→¬ (∀ y ∈ L,y.2.1 = false)→∃ y ∈ L,y.2.1 = true∧∃ ws,Bfs.Back (Hh how) first y ws∧run0.y (st how) [.dat (.lst tTT) L] = some (stF (ws.reverse.map fun i:Nat=>(i:Int)) how,false))
   {C:Type} (k0 k1:CB t→t.T→TT→Int→Option C) (f:TT) :
   ∀ (F j:Nat) (how:How) (L K:List TT),73 - j < F→LInv (eP a b) k first j (Hh how) L→NN how→L.Nodup→(∀ y ∈ L,VP a b y)→K.Nodup→(∀ y ∈ K,VP a b y∧(Hh how y).isSome = true)→j + L.length ≤ K.length→(∀ d,d < j→∀ z,R (eP a b) k first d z→z.2.1 = false) →
     (∃ ws how',Ends a b k first ws∧z0I N F t k0 k1 L run0 (st how) f (k:Int) = k0 run0 (stF (ws.map fun i:Nat=>(i:Int)) how') f (k:Int)) ∨
     (∃ how',Never a b k first∧z0I N F t k0 k1 L run0 (st how) f (k:Int) = k1 run0 (st how') f (k:Int))
 | 0,j,how,L,K,hF,_,_,_,_,_,_,_,_=>by omega
 | F + 1,j,how,L,K,hF,hI,hn,hLn,hLv,hKn,hKv,hjK,hno=>by
   have hK72:=few72 ha hb hKn (fun y hy=>(hKv y hy).1)
   have hL72:=few72 ha hb hLn hLv
   rw [g134xL6f_succ]
   unfold z3I
   by_cases hl0:L.length = 0
   · have e1:decide ((0:Int) < ((L.length:Nat):Int)) = false:=decide_eq_false (by omega)
     rw [e1,cond_false]
     refine .inr ⟨how,?_,rfl⟩
     obtain rfl:=List.eq_nil_of_length_eq_zero hl0
     intro d z hr
     obtain ⟨d',hd',hr'⟩:=hI.all d z hr
     exact hno d' hd' z hr'
   · have e1:decide ((0:Int) < ((L.length:Nat):Int)) = true:=decide_eq_true (by omega)
     have hj:j ≤ 72:=by omega
     have hback:∀ y ∈ L,y.2.1 = true→∃ ws,Bfs.Back (Hh how) first y ws∧ws.length ≤ 100:=fun y hy _=>by
       obtain ⟨h1,h2⟩:=(hI.level y).1 hy
       obtain ⟨ws,w1,w2,_⟩:=hI.back j y (Nat.le_refl j) h1 h2
       exact ⟨ws,w1,by omega⟩
     rw [e1,cond_true]
     by_cases hall:∀ y ∈ L,y.2.1 = false
     · show (_ ∨ _)
       have ey:run0.y (st how) [.dat (.lst (.pair (.pair (.int .i64) (.pair (.int .i64) .unit)) (.pair .bool .unit))) L] = some (st how,true):=hy0 how L hall hn (by omega)
       rw [ey]
       simp only [Option.bind_some,Bool.not_true,cond_false]
       rw [g134xL1626_eq]
       obtain ⟨how',more,b1,b2,b3,e⟩:=level_loop ha hb N (by omega) hd (fun e12 e13 e14 e15 e16=>z0I N F t k0 k1 e12 e13 e14 e15 e16) (Hh how) L (by omega) hLv f N 0 how [] (by omega) (by omega) (BInv.start (Hh how) L) hn (by simp) (by simp)
       simp only [Int.natCast_zero] at e
       rw [e]
       have hno':∀ d,d < j + 1→∀ z,R (eP a b) k first d z→z.2.1 = false:=fun d hd' z hr=>by
         by_cases hdj:d < j
         · exact hno d hdj z hr
         · obtain rfl:d = j:=by omega
           by_cases hex:∃ d',d' < d∧R (eP a b) k first d' z
           · obtain ⟨d',h1,h2⟩:=hex
             exact hno d' h1 z h2
           · exact hall z ((hI.level z).2 ⟨hr,fun d' h1 h2=>hex ⟨d',h1,h2⟩⟩)
       have hold:∀ y,(Hh how y).isSome = true→(Hh how' y).isSome = true:=fun y hy=>by
         obtain ⟨v,hv⟩:=Option.isSome_iff_exists.1 hy
         rw [b1.old y v hv];rfl
       exact levels_loop ha hb N hN hd first hy0 hy1 k0 k1 f F (j + 1) how' more (K ++ more) (by omega) (hI.step b1) b2 b1.nodup b3
         (by
           rw [List.nodup_append]
           refine ⟨hKn,b1.nodup,fun y hy z hz hyz=>?_⟩
           subst hyz
           have h1:=((b1.new y).1 hz).2
           have h2:=(hKv y hy).2
           rw [h1] at h2;cases h2)
         (fun y hy=>by
           rcases List.mem_append.1 hy with hy | hy
           · exact ⟨(hKv y hy).1,hold y (hKv y hy).2⟩
           · exact ⟨b3 y hy,((b1.new y).1 hy).1⟩)
         (by rw [List.length_append];omega) hno'
     · obtain ⟨y,hy,hyt,ws,hB,e⟩:=hy1 how L hn (by omega) hback hall
       obtain ⟨h1,h2⟩:=(hI.level y).1 hy
       obtain ⟨vs,w1,w2,w3⟩:=hI.back j y (Nat.le_refl j) h1 h2
       obtain rfl:=Back_uniq hB w1
       have e:run0.y (st how) [.dat (.lst (.pair (.pair (.int .i64) (.pair (.int .i64) .unit)) (.pair .bool .unit))) L] = some (stF (ws.reverse.map fun i:Nat=>(i:Int)) how,false):=e
       rw [e]
       refine .inl ⟨ws.reverse,how,⟨y,w3,hyt,fun d hd' z hr=>hno d (by simp at hd';omega) z hr⟩,rfl⟩
abbrev tSt:Ty:=(.pair (.int .i64) (tyO [.box (.d (.pair (.pair (.int .i64) (.pair (.int .i64) .unit)) (.pair .bool .unit))) (.a (.d (.pair (.pair (.int .i64) (.pair (.int .i64) .unit)) (.pair .bool .unit)))),.box .leaf (.fn 99 [.p (.pair (.lst (.lst (.int .i64))) (.pair (.lst (.lst (.int .i64))) .unit)),.p (.pair (.lst (.lst (.int .i64))) (.pair (.lst (.lst (.int .i64))) .unit))]),.box (.d (.lst (.int .i64))) (.a (.d (.lst (.int .i64)))),.box (.d .bool) (.a (.d .bool)),.box .leaf (.a (.mp 15 0)),.map (.pair (.pair (.int .i64) (.pair (.int .i64) .unit)) (.pair .bool .unit)) (.pair (.pair (.pair (.int .i64) (.pair (.int .i64) .unit)) (.pair .bool .unit)) (.pair (.int .i64) .unit)),.gone]))
noncomputable abbrev runA (N:Nat) (fd:(TT×Unit)→Option Bool):CB tSt:=⟨(q7M N).told.run [(.ref 4 0 []),(.eptr (.clo (.pair (.pair (.pair (.int .i64) (.pair (.int .i64) .unit)) (.pair .bool .unit)) .unit) .bool fd)),(.ref 8 0 []),(.ref 9 0 []),(.ref 10 0 []),(.ref 7 0 [])],(q7M N).told.f [(.ref 4 0 []),(.eptr (.clo (.pair (.pair (.pair (.int .i64) (.pair (.int .i64) .unit)) (.pair .bool .unit)) .unit) .bool fd)),(.ref 8 0 []),(.ref 9 0 []),(.ref 10 0 []),(.ref 7 0 [])]⟩
abbrev stA (first:TT) (a b:MM) (how:How):tSt.T:=((0:Int),(first,(a,b,()),([]:List Int),false,(),how,(),()))
abbrev stB (first:TT) (a b:MM) (w:List Int) (how:How):tSt.T:=((1:Int),(first,(a,b,()),w,true,(),how,(),()))
theorem apart_eq {a b:MM} {k:Nat} (ha:Pm a k) (hb:Pm b k) (N:Nat) (hN:1000 < N) (s t:Int) (hs:0 ≤ s∧s < (a.1.length:Int)) (ht:0 ≤ t∧t < (b.1.length:Int)) :
   (∃ ws,Ends a b k ((s,t,()),false,()) ws∧g72 N a b (s,t,()) = some (ws.map fun i:Nat=>(i:Int),true,())) ∨
   (Never a b k ((s,t,()),false,())∧g72 N a b (s,t,()) = some ([],false,())):=by
 obtain ⟨first,hfirst⟩:∃ f:TT,f = ((s,t,()),false,()):=⟨_,rfl⟩
 obtain ⟨fd,hfd⟩:∃ f:(TT×Unit)→Option Bool,f = (fun (x2:TT×Unit)=>Option.bind (g98 N x2.1) fun y3=>some y3):=⟨_,rfl⟩
 have hfd':∀ x,fd (x,()) = some x.2.1:=fun x=>by rw [hfd];rfl
 have hv:VP a b first:=by rw [hfirst];exact ⟨hs,ht⟩
 obtain ⟨how0,hhow0⟩:∃ h:How,h = q0S (Ty.beq tTT) first (((0,0,()),false,()),0,()) []:=⟨_,rfl⟩
 have hH0:∀ y,(Hh how0 y).isSome = true ↔ y = first:=fun y=>by
   unfold Hh
   rw [hhow0,q2L _ beqT]
   by_cases h:y = first
   · rw [if_pos h];simp [h]
   · rw [if_neg h];simp [q0C,h]
 have hN0:NN how0:=fun y v hv=>by
   rw [hhow0,q2L _ beqT] at hv
   split at hv
   · obtain rfl:=Option.some.inj hv;exact Int.le_refl 0
   · cases hv
 unfold g72
 rw [ha.inputs N]
 simp only [Option.bind_some]
 rw [← hfirst,← hfd]
 unfold g97x g116x
 simp only [Option.bind_some]
 rw [show q0S (Ty.beq (.pair (.pair (.int .i64) (.pair (.int .i64) .unit)) (.pair .bool .unit))) first (((0,0,()),false,()),0,()) [] = how0 from hhow0.symm]
 unfold g134x
 rw [g134xL6_eq]
 have hd:Does a b k (runA N fd) (stA first a b):=by
   intro how x i hx hi
   obtain ⟨y,ok,how',e,hc⟩:=cb_eq ha hb N hx hi how
   refine ⟨y,ok,how',?_,hc⟩
   refine (g97xR58_f N fd first a b [] false how 0 x (i:Int)).trans ?_
   rw [if_pos rfl]
   unfold g97xR58F
   rw [e]
   rfl
 have hy0:∀ how L,(∀ y ∈ L,y.2.1 = false)→NN how→L.length ≤ 1000→(runA N fd).y (stA first a b how) [.dat (.lst tTT) L] = some (stA first a b how,true):=by
   intro how L hall hn hl
   refine (j1N N fd first a b [] false how 0 L).trans ?_
   rw [if_pos rfl]
   unfold z8S
   rw [g97xL938_eq]
   rcases z7C N hN (fun e13 e14 e15 e16 e17 e18 e19=>some (((1:Int),(e13,(e14,e15,()),e16,e17,(),e18,(),())),false)) (fun e20 e21 e22 e23 e24 e25 e26=>some (((0:Int),(e20,(e21,e22,()),e23,e24,(),e25,(),())),true)) fd hfd' L hl first a b [] false how hn (fun y hy ht=>by rw [hall y hy] at ht;cases ht) N 0 (by omega) (by omega) with ⟨_,e⟩ | ⟨y,hy,ht,_⟩
   · exact e
   · rw [hall y hy] at ht;cases ht
 have hy1:∀ how L,NN how→L.length ≤ 1000→(∀ y ∈ L,y.2.1 = true→∃ ws,Bfs.Back (Hh how) first y ws∧ws.length ≤ 100)→¬ (∀ y ∈ L,y.2.1 = false)→∃ y ∈ L,y.2.1 = true∧∃ ws,Bfs.Back (Hh how) first y ws∧(runA N fd).y (stA first a b how) [.dat (.lst tTT) L] = some (stB first a b (ws.reverse.map fun i:Nat=>(i:Int)) how,false):=by
   intro how L hn hl hback hnall
   rcases z7C N hN (fun e13 e14 e15 e16 e17 e18 e19=>some (((1:Int),(e13,(e14,e15,()),e16,e17,(),e18,(),())),false)) (fun e20 e21 e22 e23 e24 e25 e26=>some (((0:Int),(e20,(e21,e22,()),e23,e24,(),e25,(),())),true)) fd hfd' L hl first a b [] false how hn hback N 0 (by omega) (by omega) with ⟨h,_⟩ | ⟨y,hy,ht,ws,hB,e⟩
   · exact absurd (by simpa using h) hnall
   · refine ⟨y,hy,ht,ws,hB,?_⟩
     refine (j1N N fd first a b [] false how 0 L).trans ?_
     rw [if_pos rfl]
     unfold z8S
     rw [g97xL938_eq]
     exact e
 have main:=levels_loop ha hb N hN hd first hy0 hy1 (C:=(g134xS tSt).R) (fun e17 e18 e19 e20=>some ((()),((e17,e18),e19,e20,(),()),(()))) (fun e21 e22 e23 e24=>some ((()),((e21,e22),e23,e24,(),()),(()))) first N 0 how0 [first] [first] (by omega) (LInv.start (Hh how0) hH0) hN0 (by simp) (fun y hy=>by rw [List.mem_singleton.1 hy];exact hv) (by simp) (fun y hy=>by rw [List.mem_singleton.1 hy];exact ⟨hv,(hH0 first).2 rfl⟩) (by simp) (fun d hd=>by omega)
 rcases main with ⟨ws,how',hE,e⟩ | ⟨how',hE,e⟩
 · refine .inl ⟨ws,hE,?_⟩
   refine Eq.trans (congrArg (fun o=>Option.bind (Option.bind o _) _) e) ?_
   rfl
 · refine .inr ⟨hE,?_⟩
   refine Eq.trans (congrArg (fun o=>Option.bind (Option.bind o _) _) e) ?_
   rfl
end Go.Pv
namespace Go.Pv
open Bfs
abbrev wd (ws:List Nat):List Int:=ws.map fun i:Nat=>(i:Int)
def Diff (a b:MM) (s t:Int) (w:List Int):Prop:=(sayL a s w).1 ≠ (sayL b t w).1
theorem run_same (a b:MM) (k:Nat):∀ (ws:List Nat) (s t:Int),(∀ i ∈ ws,i < k)→¬ Diff a b s t (wd ws)→run (eP a b) k ((s,t,()),false,()) ws = some (((sayL a s (wd ws)).2,(sayL b t (wd ws)).2,()),false,())
 | [],s,t,_,_=>rfl
 | i :: ws,s,t,hi,hn=>by
   have hik:=hi i List.mem_cons_self
   have hn:¬ ((sayL a s (wd (i :: ws))).1 ≠ (sayL b t (wd (i :: ws))).1):=hn
   have hcons:(ou a s i :: (sayL a (nx a s i) (wd ws)).1) = (ou b t i :: (sayL b (nx b t i) (wd ws)).1):=Classical.not_not.1 hn
   obtain ⟨h1,h2⟩:=List.cons.inj hcons
   have he:eP a b ((s,t,()),false,()) i = some ((nx a s i,nx b t i,()),false,()):=by
     unfold eP
     simp only [Bool.false_eq_true,if_false]
     rw [show ieq (ou a s (i:Int)) (ou b t (i:Int)) = true from decide_eq_true h1]
     rfl
   show (if i < k then (eP a b ((s,t,()),false,()) i).bind fun y=>run (eP a b) k y ws else none) = _
   rw [if_pos hik,he]
   exact run_same a b k ws (nx a s i) (nx b t i) (fun j hj=>hi j (List.mem_cons_of_mem _ hj)) (fun hd=>hd h2)
theorem run_lt (a b:MM) (k:Nat):∀ (ws:List Nat) (x y:TT),run (eP a b) k x ws = some y→∀ i ∈ ws,i < k
 | [],_,_,_,i,hi=>by simp at hi
 | j :: ws,x,y,h,i,hi=>by
   have h:(if j < k then (eP a b x j).bind fun z=>run (eP a b) k z ws else none) = some y:=h
   split at h
   · rename_i hj
     cases hz:eP a b x j with
     | none=>rw [hz] at h;cases h
     | some z =>
       rw [hz] at h
       rcases List.mem_cons.1 hi with rfl | hi
       · exact hj
       · exact run_lt a b k ws z y h i hi
   · cases h
theorem z3P (a b:MM) (k:Nat):∀ (ws:List Nat) (s t:Int) (y:TT),run (eP a b) k ((s,t,()),false,()) ws = some y→(y.2.1 = true ↔ Diff a b s t (wd ws))
 | [],s,t,y,h=>by
   obtain rfl:=Option.some.inj h
   exact ⟨fun h=>(by cases h),fun h=>absurd rfl h⟩
 | i :: ws,s,t,y,h=>by
   have h:(if i < k then (eP a b ((s,t,()),false,()) i).bind fun z=>run (eP a b) k z ws else none) = some y:=h
   split at h
   · have hD:Diff a b s t (wd (i :: ws)) ↔ ou a s i ≠ ou b t i ∨ Diff a b (nx a s i) (nx b t i) (wd ws):=by
       show (ou a s i :: (sayL a (nx a s i) (wd ws)).1) ≠ (ou b t i :: (sayL b (nx b t i) (wd ws)).1) ↔ _
       rw [Ne,List.cons.injEq]
       unfold Diff
       by_cases h1:ou a s (i:Int) = ou b t (i:Int) <;> simp [h1]
     rw [hD]
     unfold eP at h
     simp only [Bool.false_eq_true,if_false,Option.bind_some] at h
     by_cases h1:ou a s (i:Int) = ou b t (i:Int)
     · rw [show ieq (ou a s (i:Int)) (ou b t (i:Int)) = true from decide_eq_true h1] at h
       have:=z3P a b k ws (nx a s i) (nx b t i) y h
       rw [this]
       simp [h1]
     · rw [show ieq (ou a s (i:Int)) (ou b t (i:Int)) = false from decide_eq_false h1] at h
       have:ws = []:=by
         cases ws with
         | nil=>rfl
         | cons j ws =>
           have h:(if j < k then (eP a b ((nx a s i,nx b t i,()),true,()) j).bind fun z=>run (eP a b) k z ws else none) = some y:=h
           split at h
           · simp [eP] at h
           · cases h
       subst this
       obtain rfl:=Option.some.inj h
       exact ⟨fun _=>.inl h1,fun _=>rfl⟩
   · cases h
def Least (a b:MM) (k:Nat) (s t:Int) (ws:List Nat):Prop:=(∀ i ∈ ws,i < k)∧Diff a b s t (wd ws)∧∀ vs:List Nat,(∀ i ∈ vs,i < k)→vs.length < ws.length→¬ Diff a b s t (wd vs)
theorem Ends.least {a b:MM} {k:Nat} {s t:Int} {ws:List Nat} (h:Ends a b k ((s,t,()),false,()) ws):Least a b k s t ws:=by
 obtain ⟨y,h1,h2,h3⟩:=h
 refine ⟨run_lt a b k ws _ _ h1,(z3P a b k ws s t y h1).1 h2,?_⟩
 intro vs
 -- by the length: a shorter word that says something different has a shortest beginning that does
 induction hn:vs.length using Nat.strongRecOn generalizing vs with
 | ind n ih =>
   intro hv hl hd
   rcases List.eq_nil_or_concat vs with rfl | ⟨us,i,rfl⟩
   · exact hd rfl
   · have hul:us.length < n:=by rw [← hn];simp
     have hus:∀ j ∈ us,j < k:=fun j hj=>hv j (by simp [hj])
     have hnd:¬ Diff a b s t (wd us):=ih us.length hul us rfl hus (by omega)
     have hr:=run_same a b k us s t hus hnd
     have hi:i < k:=hv i (by simp)
     have hrun:∃ z,run (eP a b) k ((s,t,()),false,()) (us ++ [i]) = some z:=by
       rw [z3F,hr]
       simp [hi,eP]
     obtain ⟨z,hz⟩:=hrun
     have hzt:=(z3P a b k (us ++ [i]) s t z hz).2 (by simpa using hd)
     have:=h3 (us ++ [i]).length (by simp at hn ⊢;omega) z ⟨us ++ [i],rfl,hz⟩
     rw [hzt] at this
     cases this
theorem Never.none {a b:MM} {k:Nat} {s t:Int} (h:Never a b k ((s,t,()),false,())):∀ vs:List Nat,(∀ i ∈ vs,i < k)→¬ Diff a b s t (wd vs):=by
 intro vs
 induction hn:vs.length using Nat.strongRecOn generalizing vs with
 | ind n ih =>
   intro hv hd
   rcases List.eq_nil_or_concat vs with rfl | ⟨us,i,rfl⟩
   · exact hd rfl
   · have hul:us.length < n:=by rw [← hn];simp
     have hus:∀ j ∈ us,j < k:=fun j hj=>hv j (by simp [hj])
     have hnd:¬ Diff a b s t (wd us):=ih us.length hul us rfl hus
     have hr:=run_same a b k us s t hus hnd
     have hi:i < k:=hv i (by simp)
     have hrun:∃ z,run (eP a b) k ((s,t,()),false,()) (us ++ [i]) = some z:=by
       rw [z3F,hr]
       simp [hi,eP]
     obtain ⟨z,hz⟩:=hrun
     have hzt:=(z3P a b k (us ++ [i]) s t z hz).2 (by simpa using hd)
     have:=h (us ++ [i]).length z ⟨us ++ [i],rfl,hz⟩
     rw [hzt] at this
     cases this
end Go.Pv
namespace Go.Pv
def sd (x:MM) (w:List Int) (s:Nat):List Int:=(sayL x (s:Int) w).1
def en (x:MM) (w:List Int) (s:Nat):Int:=(sayL x (s:Int) w).2
theorem end_inner (N:Nat) {C:Type} (k0:Bool→Int→Int→GG→Option C) (k1:Int→Int→GG→Option C) (g:GG) (n s:Nat) (hs:s < n) (hn:n ≤ 6) :
   ∀ (F i:Nat),s - i < F→i ≤ s→z5C N F k0 k1 (s:Int) (n:Int) (s:Int) (s:Int) (i:Int) g =
     bif allN (s - i) i (fun t=>!(decide (g.1.getD s 0 = g.1.getD t 0) && !decide (g.2.1.getD s 0 = g.2.1.getD t 0))) then k1 (n:Int) (s:Int) g else k0 false (n:Int) (s:Int) g
 | 0,i,hF,_=>by omega
 | F + 1,i,hF,hi=>by
   rw [g65L6758f_succ]
   unfold q9O
   by_cases hlt:i < s
   · have s6:idx (s:Int) 6:=⟨by omega,by omega⟩
     have i6:idx (i:Int) 6:=⟨by omega,by omega⟩
     rw [ltT hlt,cond_true,if_pos s6,if_pos i6,if_pos s6,if_pos i6,Int.toNat_natCast,Int.toNat_natCast,wn i (by omega),allN_step hlt]
     by_cases h1:g.1.getD s 0 = g.1.getD i 0
     · rw [show ieq (g.1.getD s 0) (g.1.getD i 0) = true from decide_eq_true h1,cond_true,decide_eq_true h1,Bool.true_and]
       by_cases h2:g.2.1.getD s 0 = g.2.1.getD i 0
       · rw [show ieq (g.2.1.getD s 0) (g.2.1.getD i 0) = true from decide_eq_true h2,decide_eq_true h2]
         simp only [Bool.not_true,Bool.not_false,cond_false,Bool.true_and]
         exact end_inner N k0 k1 g n s hs hn F (i + 1) (by omega) (by omega)
       · rw [show ieq (g.2.1.getD s 0) (g.2.1.getD i 0) = false from decide_eq_false h2,decide_eq_false h2]
         rfl
     · rw [show ieq (g.1.getD s 0) (g.1.getD i 0) = false from decide_eq_false h1,cond_false,decide_eq_false h1]
       simp only [Bool.false_and,Bool.not_false,Bool.true_and]
       exact end_inner N k0 k1 g n s hs hn F (i + 1) (by omega) (by omega)
   · rw [ltF hlt,cond_false,allN_end hlt];rfl
theorem end_outer (N:Nat) (hN:10 < N) {C:Type} (k0:Bool→GG→Option C) (k1:GG→Option C) (g:GG) (n:Nat) (hn:n ≤ 6) :
   ∀ (F i:Nat),n - i < F→i ≤ n→j1H N F k0 k1 (n:Int) (i:Int) g =
     bif allN (n - i) i (fun s=>allN s 0 (fun t=>!(decide (g.1.getD s 0 = g.1.getD t 0) && !decide (g.2.1.getD s 0 = g.2.1.getD t 0)))) then k1 g else k0 false g
 | 0,i,hF,_=>by omega
 | F + 1,i,hF,hi=>by
   rw [g65L26f_succ]
   unfold g65L26B
   by_cases hlt:i < n
   · rw [ltT hlt,cond_true,g65L6758_eq]
     have e:=end_inner N (fun e2 e3 e4 e5=>k0 e2 e5) (fun e6 e7 e8=>j1H N F k0 k1 e6 (IntKind.wrap .i64 (e7 + 1)) e8) g n i hlt hn N 0 (by omega) (by omega)
     simp only [Int.natCast_zero,Nat.sub_zero] at e
     rw [allN_step hlt]
     refine Eq.trans e ?_
     cases allN i 0 (fun t=>!(decide (g.1.getD i 0 = g.1.getD t 0) && !decide (g.2.1.getD i 0 = g.2.1.getD t 0))) with
     | false=>rfl
     | true =>
       rw [cond_true,Bool.true_and,wn i (by omega)]
       exact end_outer N hN k0 k1 g n hn F (i + 1) (by omega) (by omega)
   · rw [ltF hlt,cond_false,allN_end hlt];rfl
theorem Pm.tellsEnd {x:MM} {k:Nat} (h:Pm x k) (N:Nat) (hN:10 < N) (g:GG):g65 N x g = some (allN x.1.length 0 (fun s=>allN s 0 (fun t=>!(decide (g.1.getD s 0 = g.1.getD t 0) && !decide (g.2.1.getD s 0 = g.2.1.getD t 0))))):=by
 have:=h.n6
 unfold g65
 have e:g76 N x = some (x.1.length:Int):=rfl
 rw [e]
 simp only [Option.bind_some]
 rw [g65L26_eq]
 have e:=end_outer N hN (fun e9 e10=>some e9) (fun e11=>some true) g x.1.length h.n6 N 0 (by omega) (by omega)
 simp only [Int.natCast_zero,Nat.sub_zero] at e
 rw [e]
 cases allN x.1.length 0 (fun s=>allN s 0 (fun t=>!(decide (g.1.getD s 0 = g.1.getD t 0) && !decide (g.2.1.getD s 0 = g.2.1.getD t 0)))) <;> rfl
theorem sd_len (x:MM) (w:List Int) (s:Nat):(sd x w s).length = w.length:=sayL_len x s w
theorem Gr.end_same {x:MM} {w:List Int} {g:GG} (hg:Gr x w g):allN x.1.length 0 (fun s=>allN s 0 (fun t=>!(decide (g.1.getD s 0 = g.1.getD t 0) && !decide (g.2.1.getD s 0 = g.2.1.getD t 0)))) = allN x.1.length 0 (fun s=>allN s 0 (fun t=>!(decide (sd x w s = sd x w t) && !decide (en x w s = en x w t)))):=by
 refine allN_congr fun s _ hs=>allN_congr fun t _ ht=>?_
 have h1:=hg.grp s t (by omega) (by omega)
 have h2:=hg.now s (by omega)
 have h3:=hg.now t (by omega)
 rw [h2,h3,decide_eq_decide.2 h1]
 rfl
end Go.Pv
namespace Go.Pv
open Bfs
structure VG (n:Nat) (g:GG):Prop where
 l1:g.1.length = 6
 l2:g.2.1.length = 6
 g1:∀ s,s < n→0 ≤ g.1.getD s 0∧g.1.getD s 0 ≤ (s:Int)
 g2:∀ s,n ≤ s→g.1.getD s 0 = 0
 n1:∀ s,s < n→0 ≤ g.2.1.getD s 0∧g.2.1.getD s 0 < (n:Int)
 n2:∀ s,n ≤ s→g.2.1.getD s 0 = 0
theorem rep6 (j:Nat):(List.replicate 6 (0:Int)).getD j 0 = 0:=by
 rw [List.getD_eq_getElem?_getD,List.getElem?_replicate];split <;> rfl
theorem j0J (N:Nat) {C:Type} (k0:GG→GG→Option C) (n:Nat) (hn:n ≤ 6) (z:GG) :
   ∀ (F i:Nat) (now:List Int),n - i < F→i ≤ n→now.length = 6→(∀ s,s < i→now.getD s 0 = (s:Int))→(∀ s,n ≤ s→now.getD s 0 = 0) →
     ∃ now':List Int,now'.length = 6∧(∀ s,s < n→now'.getD s 0 = (s:Int))∧(∀ s,n ≤ s→now'.getD s 0 = 0)∧g92L58f N F k0 (n:Int) (i:Int) z (List.replicate 6 0,now,()) = k0 z (List.replicate 6 0,now',())
 | 0,i,now,h,_,_,_,_=>by omega
 | F + 1,i,now,h,hi,hl,hb,hz=>by
   rw [g92L58f_succ]
   unfold g92L58B
   by_cases hlt:i < n
   · rw [ltT hlt,cond_true,if_pos ⟨by omega,by omega⟩,Int.toNat_natCast,wn i (by omega)]
     exact j0J N k0 n hn z F (i + 1) (now.set i (i:Int)) (by omega) (by omega) (by simp [hl]) (fun s hs=>by
       rw [q2Q now i s _ (by omega)]
       split
       · rename_i he;rw [he]
       · exact hb s (by omega)) (fun s hs=>by
       rw [q2Q now i s _ (by omega),if_neg (by omega)]
       exact hz s hs)
   · rw [ltF hlt,cond_false]
     exact ⟨now,hl,fun s hs=>hb s (by omega),hz,rfl⟩
theorem Pm.begun2 {x:MM} {k:Nat} (h:Pm x k) (N:Nat) (hN:10 < N):∃ g,g92 N x = some g∧Gr x [] g∧VG x.1.length g:=by
 unfold g92
 have e:g76 N x = some (x.1.length:Int):=rfl
 rw [e]
 simp only [Option.bind_some]
 rw [g92L58_eq]
 obtain ⟨now,l,b,b0,e⟩:=j0J N (fun e2 e3=>some e3) x.1.length h.n6 ((List.replicate 6 0),(List.replicate 6 0),()) N 0 (List.replicate 6 0) (by have:=h.n6;omega) (by omega) (by simp) (by omega) (fun s _=>rep6 s)
 exact ⟨_,e,⟨by simp,l,fun s hs=>b s hs,fun s t hs ht=>⟨fun _=>rfl,fun _=>(rep6 s).trans (rep6 t).symm⟩⟩,
   ⟨by simp,l,fun s _=>⟨Int.le_of_eq (rep6 s).symm,by show (List.replicate 6 (0:Int)).getD s 0 ≤ (s:Int);rw [rep6];omega⟩,fun s _=>rep6 s,fun s hs=>by show 0 ≤ now.getD s 0∧now.getD s 0 < _;rw [b s hs];omega,b0⟩⟩
theorem j0Z {x:MM} {k:Nat} (h:Pm x k) {w:List Int} (hw:InW k w) {g:GG} (hg:Gr x w g) {a:Int} (a0:0 ≤ a) (a1:a < (k:Int)) (N:Nat) {C:Type} (k0:MM→GG→GG→GG→List ((Int×Int×Unit)×Int)→Option C) (z:GG) :
   ∀ (F i:Nat) (o1 o2:List Int) (m:List ((Int×Int×Unit)×Int)),x.1.length - i < F→i ≤ x.1.length→o1.length = 6→o2.length = 6 →
     (∀ t,t < i→q0C (Ty.beq KT) (kyOf x g a t) m = some (o1.getD t 0))→(∀ ky v,q0C (Ty.beq KT) ky m = some v→∃ t:Nat,t < i∧kyOf x g a t = ky∧v = (t:Int)) →
     (∀ t,t < i→o2.getD t 0 = nx x (g.2.1.getD t 0) a) →
     (∀ t,t < i→0 ≤ o1.getD t 0∧o1.getD t 0 ≤ (t:Int))→(∀ t,x.1.length ≤ t→o1.getD t 0 = 0)→(∀ t,x.1.length ≤ t→o2.getD t 0 = 0) →
     ∃ o1' o2' m',(o1'.length = 6∧o2'.length = 6∧(∀ s t,s < x.1.length→t < x.1.length→(o1'.getD s 0 = o1'.getD t 0 ↔ kyOf x g a s = kyOf x g a t))∧(∀ t,t < x.1.length→o2'.getD t 0 = nx x (g.2.1.getD t 0) a)) ∧
       ((∀ t,t < x.1.length→0 ≤ o1'.getD t 0∧o1'.getD t 0 ≤ (t:Int))∧(∀ t,x.1.length ≤ t→o1'.getD t 0 = 0)∧(∀ t,x.1.length ≤ t→o2'.getD t 0 = 0)) ∧
       z3G N F k0 a (x.1.length:Int) (i:Int) x g z (o1,o2,()) m = k0 x g z (o1',o2',()) m'
 | 0,i,o1,o2,m,hF,_,_,_,_,_,_,_,_,_=>by omega
 | F + 1,i,o1,o2,m,hF,hi,l1,l2,b1,b2,b3,b4,b5,b6=>by
   rw [g94L122f_succ]
   unfold z2W
   have n6:=h.n6
   by_cases hlt:i < x.1.length
   · have i6:idx (i:Int) 6:=⟨by omega,by omega⟩
     have hnow:=hg.now i hlt
     obtain ⟨e0,e1⟩:=h.end_in w (i:Int) (by omega) (by omega) hw
     rw [← hnow] at e0 e1
     obtain ⟨q1,q2,q3,q4,_,_⟩:=h.step e0 e1 a0 a1
     rw [ltT hlt,cond_true,if_pos i6,if_pos i6]
     simp only [Int.toNat_natCast]
     rw [if_pos q2,if_pos q4,wn i (by omega)]
     -- the key
     have hky:((g.1.getD i 0,((x.2.1.getD (g.2.1.getD i 0).toNat []).getD a.toNat 0),()):Int×Int×Unit) = kyOf x g a i:=rfl
     have hnx:(x.1.getD (g.2.1.getD i 0).toNat []).getD a.toNat 0 = nx x (g.2.1.getD i 0) a:=rfl
     rw [hky,hnx]
     have nxt:∀ (v:Int) (m2:List ((Int×Int×Unit)×Int)),0 ≤ v∧v ≤ (i:Int)→q0C (Ty.beq KT) (kyOf x g a i) m2 = some v→(∀ t,t < i→q0C (Ty.beq KT) (kyOf x g a t) m2 = some (o1.getD t 0))→(∀ ky u,q0C (Ty.beq KT) ky m2 = some u→∃ t:Nat,t < i + 1∧kyOf x g a t = ky∧u = (t:Int)) →
         ∃ o1' o2' m',(o1'.length = 6∧o2'.length = 6∧(∀ s t,s < x.1.length→t < x.1.length→(o1'.getD s 0 = o1'.getD t 0 ↔ kyOf x g a s = kyOf x g a t))∧(∀ t,t < x.1.length→o2'.getD t 0 = nx x (g.2.1.getD t 0) a)) ∧
           ((∀ t,t < x.1.length→0 ≤ o1'.getD t 0∧o1'.getD t 0 ≤ (t:Int))∧(∀ t,x.1.length ≤ t→o1'.getD t 0 = 0)∧(∀ t,x.1.length ≤ t→o2'.getD t 0 = 0)) ∧
           z3G N F k0 a (x.1.length:Int) ((i + 1:Nat):Int) x g z (o1.set i v,o2.set i (nx x (g.2.1.getD i 0) a),()) m2 = k0 x g z (o1',o2',()) m':=fun v m2 hv c1 c2 c3 =>
       j0Z h hw hg a0 a1 N k0 z F (i + 1) (o1.set i v) (o2.set i (nx x (g.2.1.getD i 0) a)) m2 (by omega) (by omega) (by simp [l1]) (by simp [l2])
         (fun t ht=>by
           rw [q2Q o1 i t _ (by omega)]
           split
           · rename_i he;rw [he];exact c1
           · exact c2 t (by omega)) c3
         (fun t ht=>by
           rw [q2Q o2 i t _ (by omega)]
           split
           · rename_i he;rw [he]
           · exact b3 t (by omega))
         (fun t ht=>by
           rw [q2Q o1 i t _ (by omega)]
           split
           · rename_i he;rw [he];exact hv
           · exact b4 t (by omega))
         (fun t ht=>by rw [q2Q o1 i t _ (by omega),if_neg (by omega)];exact b5 t ht)
         (fun t ht=>by rw [q2Q o2 i t _ (by omega),if_neg (by omega)];exact b6 t ht)
     cases hf:q0C (Ty.beq KT) (kyOf x g a i) m with
     | none =>
       simp only [Option.isSome_none,Bool.not_false,cond_true]
       rw [if_pos i6,if_pos i6,if_pos q1,if_pos q3,if_pos i6,q5H]
       refine nxt (i:Int) _ (by omega) (q5H _ _ _) (fun t ht=>?_) (fun ky u hu=>?_)
       · rw [q6R]
         · exact b1 t ht
         · intro he
           have:=b1 t ht
           rw [he,hf] at this
           cases this
       · by_cases hk:ky = kyOf x g a i
         · subst hk
           rw [q5H] at hu
           exact ⟨i,by omega,rfl,(Option.some.inj hu).symm⟩
         · rw [q6R _ hk] at hu
           obtain ⟨t,t1,t2,t3⟩:=b2 ky u hu
           exact ⟨t,by omega,t2,t3⟩
     | some v =>
       simp only [Option.isSome_some,Bool.not_true,cond_false,Option.getD_some]
       rw [if_pos i6,if_pos i6,if_pos q1,if_pos q3,if_pos i6]
       refine nxt v m ?_ hf b1 fun ky u hu=>?_
       · obtain ⟨t,t1,t2,t3⟩:=b2 _ _ hf
         omega
       · obtain ⟨t,t1,t2,t3⟩:=b2 ky u hu
         exact ⟨t,by omega,t2,t3⟩
   · rw [ltF hlt,cond_false]
     have hn:i = x.1.length:=by omega
     subst hn
     refine ⟨o1,o2,m,⟨l1,l2,fun s t hs ht=>⟨fun he=>?_,fun he=>?_⟩,b3⟩,⟨b4,b5,b6⟩,rfl⟩
     · have f1:=b1 s hs
       have f2:=b1 t ht
       obtain ⟨s',_,s2,s3⟩:=b2 _ _ f1
       obtain ⟨t',_,t2,t3⟩:=b2 _ _ f2
       have:s' = t':=by rw [s3,t3] at he;omega
       rw [← s2,← t2,this]
     · have f1:=b1 s hs
       have f2:=b1 t ht
       rw [he,f2] at f1
       exact (Option.some.inj f1).symm
theorem Pm.after2 {x:MM} {k:Nat} (h:Pm x k) {w:List Int} (hw:InW k w) {g:GG} (hg:Gr x w g) (hv:VG x.1.length g) {a:Int} (a0:0 ≤ a) (a1:a < (k:Int)) (N:Nat) (hN:10 < N):∃ g',g94 N x g a = some g'∧Gr x (w ++ [a]) g'∧VG x.1.length g':=by
 unfold g94
 have e:g76 N x = some (x.1.length:Int):=rfl
 rw [e]
 simp only [Option.bind_some]
 rw [g94L122_eq]
 obtain ⟨o1,o2,m,⟨l1,l2,c1,c2⟩,⟨d1,d2,d3⟩,e⟩:=j0Z h hw hg a0 a1 N (fun e2 e3 e4 e5 e6=>some e5) ((List.replicate 6 0),(List.replicate 6 0),()) N 0 g.1 g.2.1 [] (by have:=h.n6;omega) (by omega) hg.l1 hg.l2 (by omega) (by simp [q0C]) (by omega) (by omega) hv.g2 hv.n2
 refine ⟨_,e,⟨l1,l2,fun s hs=>?_,fun s t hs ht=>?_⟩,⟨l1,l2,d1,d2,fun s hs=>?_,d3⟩⟩
 · rw [z3R]
   show o2.getD s 0 = _
   rw [c2 s hs,hg.now s hs]
 · rw [z3R,z3R]
   show o1.getD s 0 = o1.getD t 0 ↔ _
   rw [c1 s t hs ht]
   unfold kyOf
   rw [hg.now s hs,hg.now t ht,Prod.mk.injEq,Prod.mk.injEq,hg.grp s t hs ht]
   constructor
   · rintro ⟨h1,h2,_⟩
     rw [h1,h2]
   · intro he
     obtain ⟨h1,h2⟩:=List.append_inj' he rfl
     exact ⟨h1,by simpa using h2,rfl⟩
 · show 0 ≤ o2.getD s 0∧o2.getD s 0 < _
   rw [c2 s hs]
   obtain ⟨v1,v2⟩:=hv.n1 s hs
   obtain ⟨_,_,_,_,q5,_⟩:=h.step v1 v2 a0 a1
   exact q5
def z3A:List Nat→List (List Int)
 | []=>[[]]
 | b :: bs=>(List.range b).flatMap fun (i:Nat)=>(z3A bs).map fun l=>(i:Int) :: l
theorem flat_len {α:Type} (L:List α) (f:Nat→α→α):∀ b:Nat,((List.range b).flatMap fun i=>L.map (f i)).length = b * L.length
 | 0=>by simp
 | b + 1=>by
   rw [List.range_succ,List.flatMap_append,List.length_append,flat_len L f b]
   simp [Nat.add_mul]
theorem z5Z:∀ bs:List Nat,(z3A bs).length = bs.foldr (· * ·) 1
 | []=>rfl
 | b :: bs=>by
   have:=flat_len (z3A bs) (fun (i:Nat) l=>(i:Int) :: l) b
   simp only [z3A,List.foldr_cons]
   rw [this,z5Z bs]
theorem z0H:∀ (bs:List Nat) (l:List Int),l.length = bs.length→(∀ i,i < bs.length→0 ≤ l.getD i 0∧l.getD i 0 < (bs.getD i 0:Int))→l ∈ z3A bs
 | [],l,h,_=>by
   obtain rfl:=List.eq_nil_of_length_eq_zero h
   exact List.mem_cons_self
 | b :: bs,[],h,_=>by simp at h
 | b :: bs,v :: l,h,hb=>by
   simp only [z3A,List.mem_flatMap,List.mem_range,List.mem_map]
   have h0:=hb 0 (by simp)
   simp only [List.getD_cons_zero] at h0
   refine ⟨v.toNat,by omega,l,z0H bs l (by simpa using h) fun i hi=>?_,?_⟩
   · have:=hb (i + 1) (by simp;omega)
     simpa using this
   · rw [Int.toNat_of_nonneg h0.1]
def univG:List GG:=(z3A [1,2,3,4,5,6]).flatMap fun a=>(z3A [6,6,6,6,6,6]).map fun b=>(a,b,())
theorem wn2 (i:Nat) (h:i < 1000000000000):IntKind.wrap .i64 ((i:Int) + 1) = ((i + 1:Nat):Int):=by rw [w64 (by omega) (by omega)];simp
theorem flat_len2 {α β γ:Type} (M:List β) (f:α→β→γ):∀ L:List α,(L.flatMap fun a=>M.map (f a)).length = L.length * M.length
 | []=>by simp
 | a :: L=>by
   rw [List.flatMap_cons,List.length_append,flat_len2 M f L]
   simp [Nat.add_mul,Nat.add_comm]
theorem univG_len:univG.length = 33592320:=by
 unfold univG
 rw [flat_len2,z5Z,z5Z]
 rfl
theorem VG.univ {n:Nat} (hn:n ≤ 6) {g:GG} (hg:VG n g):g ∈ univG:=by
 obtain ⟨a,b,u⟩:=g
 have l1:=hg.l1
 have l2:=hg.l2
 unfold univG
 rw [List.mem_flatMap]
 refine ⟨a,z0H _ _ l1 fun i hi=>?_,?_⟩
 · by_cases h:i < n
   · have:=hg.g1 i h
     simp only at this
     have hi:i < 6:=hi
     have e:([1,2,3,4,5,6]:List Nat).getD i 0 = i + 1:=by
       rcases i with _ | _ | _ | _ | _ | _ | i
       · rfl
       · rfl
       · rfl
       · rfl
       · rfl
       · rfl
       · omega
     rw [e];omega
   · have:=hg.g2 i (by omega)
     simp only at this
     have hi:i < 6:=hi
     have e:1 ≤ ([1,2,3,4,5,6]:List Nat).getD i 0:=by
       rcases i with _ | _ | _ | _ | _ | _ | i <;> first | decide | omega
     rw [this];omega
 · rw [List.mem_map]
   refine ⟨b,z0H _ _ l2 fun i hi=>?_,rfl⟩
   have hi:i < 6:=hi
   by_cases h:i < n
   · have:=hg.n1 i h
     simp only at this
     have e:([6,6,6,6,6,6]:List Nat).getD i 0 = 6:=by
       rcases i with _ | _ | _ | _ | _ | _ | i
       · rfl
       · rfl
       · rfl
       · rfl
       · rfl
       · rfl
       · omega
     rw [e];omega
   · have:=hg.n2 i (by omega)
     simp only at this
     have e:1 ≤ ([6,6,6,6,6,6]:List Nat).getD i 0:=by
       rcases i with _ | _ | _ | _ | _ | _ | i <;> first | decide | omega
     rw [this];omega
theorem fewG {n:Nat} (hn:n ≤ 6) {L:List GG} (hd:L.Nodup) (hv:∀ y ∈ L,VG n y):L.length ≤ 33592320:=by
 have:=q4I hd (fun y hy=>(hv y hy).univ hn)
 rw [univG_len] at this
 exact this
noncomputable def eG (N:Nat) (x:MM) (g:GG) (i:Nat):Option GG:=g94 N x g (i:Int)
theorem run_groups {x:MM} {k:Nat} (h:Pm x k) (N:Nat) (hN:10 < N):∀ (ws:List Nat) (w:List Int) (g:GG),InW k w→Gr x w g→VG x.1.length g→(∀ i ∈ ws,i < k)→∃ z,run (eG N x) k g ws = some z∧Gr x (w ++ wd ws) z∧VG x.1.length z
 | [],w,g,_,hg,hv,_=>⟨g,rfl,by simpa using hg,hv⟩
 | i :: ws,w,g,hw,hg,hv,hi=>by
   have hik:=hi i List.mem_cons_self
   obtain ⟨g',e,hg',hv'⟩:=h.after2 hw hg hv (a:=(i:Int)) (by omega) (by omega) N hN
   obtain ⟨z,z1,z2,z3⟩:=run_groups h N hN ws (w ++ [(i:Int)]) g' (fun j hj=>by
     rcases List.mem_append.1 hj with hj | hj
     · exact hw j hj
     · rw [List.mem_singleton.1 hj];omega) hg' hv' (fun j hj=>hi j (List.mem_cons_of_mem _ hj))
   refine ⟨z,?_,by rw [show w ++ wd (i :: ws) = (w ++ [(i:Int)]) ++ wd ws by simp];exact z2,z3⟩
   show (if i < k then (eG N x g i).bind fun y=>run (eG N x) k y ws else none) = _
   rw [if_pos hik,show eG N x g i = some g' from e]
   exact z1
theorem z2G {α:Type} {e:α→Nat→Option α} {m:Nat}:∀ (ws:List Nat) (x y:α),run e m x ws = some y→∀ i ∈ ws,i < m
 | [],_,_,_,i,hi=>by simp at hi
 | j :: ws,x,y,h,i,hi=>by
   have h:(if j < m then (e x j).bind fun z=>run e m z ws else none) = some y:=h
   split at h
   · rename_i hj
     cases hz:e x j with
     | none=>rw [hz] at h;cases h
     | some z =>
       rw [hz] at h
       rcases List.mem_cons.1 hi with rfl | hi
       · exact hj
       · exact z2G ws z y h i hi
   · cases h
end Go.Pv
namespace Go.Pv.Bfs
variable {α:Type} [DecidableEq α] {e:α→Nat→Option α} {m:Nat} {first dflt:α}
structure Qu (e:α→Nat→Option α) (m:Nat) (first dflt:α) (i x:Nat) (l:List α) (lg:List Int):Prop where
 len:lg.length = l.length
 nod:l.Nodup
 way:∀ q,q < l.length→∃ j:Nat,lg.getD q 0 = (j:Int)∧R e m first j (l.getD q dflt)
 small:∀ q,q < l.length→lg.getD q 0 ≤ (q:Int)
 mono:∀ q r,q ≤ r→r < l.length→lg.getD q 0 ≤ lg.getD r 0
 top:i < l.length→∀ q,q < l.length→lg.getD q 0 ≤ lg.getD i 0 + 1
 beg:0 < l.length∧l.getD 0 dflt = first∧lg.getD 0 0 = 0
 done:∀ q j,q < l.length→j < m→(q < i ∨ q = i∧j < x)→∀ y,e (l.getD q dflt) j = some y→∃ r,r < l.length∧l.getD r dflt = y∧lg.getD r 0 ≤ lg.getD q 0 + 1
theorem Qu.short {i x:Nat} {l:List α} {lg:List Int} (h:Qu e m first dflt i x l lg) (bound:Int) (hb:∀ q,q < l.length→lg.getD q 0 < bound→q < i) :
   ∀ (n:Nat) (y:α),(n:Int) ≤ bound→R e m first n y→∃ q,q < l.length∧l.getD q dflt = y∧lg.getD q 0 ≤ (n:Int)
 | 0,y,_,hr=>by
   obtain rfl:=(j1J y).1 hr
   exact ⟨0,h.beg.1,h.beg.2.1,by have:=h.beg.2.2;omega⟩
 | n + 1,y,hbd,hr=>by
   obtain ⟨z,hz,j,hj,he⟩:=(z2S n y).1 hr
   obtain ⟨q,q1,q2,q3⟩:=h.short bound hb n z (by omega) hz
   obtain ⟨r,r1,r2,r3⟩:=h.done q j q1 hj (.inl (hb q q1 (by omega))) y (by rw [q2];exact he)
   exact ⟨r,r1,r2,by omega⟩
theorem Qu.lt {i x:Nat} {l:List α} {lg:List Int} (h:Qu e m first dflt i x l lg) (hi:i < l.length):∀ q,q < l.length→lg.getD q 0 < lg.getD i 0→q < i:=by
 intro q hq hlt
 by_cases hqi:q < i
 · exact hqi
 · have:=h.mono i q (by omega) hq;omega
theorem Qu.all {x:Nat} {l:List α} {lg:List Int} {i:Nat} (h:Qu e m first dflt i x l lg) (hi:l.length ≤ i) (n:Nat) (y:α) (hr:R e m first n y):y ∈ l:=by
 obtain ⟨q,q1,q2,_⟩:=h.short (n:Int) (fun q hq _=>by omega) n y (Int.le_refl _) hr
 rw [← q2,List.getD_eq_getElem?_getD,List.getElem?_eq_getElem q1]
 exact List.getElem_mem q1
theorem q9V {β:Type} (l:List β) (v d:β) (q:Nat):(l ++ [v]).getD q d = if q < l.length then l.getD q d else if q = l.length then v else d:=by
 rw [List.getD_eq_getElem?_getD,List.getD_eq_getElem?_getD,List.getElem?_append]
 split
 · rfl
 · rename_i h
   by_cases h2:q = l.length
   · subst h2;simp
   · rw [if_neg h2,List.getElem?_eq_none (by simp;omega)];rfl
theorem Qu.skip {i x:Nat} {l:List α} {lg:List Int} (h:Qu e m first dflt i x l lg) (hi:i < l.length) (hs:∀ y,e (l.getD i dflt) x = some y→y ∈ l):Qu e m first dflt i (x + 1) l lg:=by
 refine ⟨h.len,h.nod,h.way,h.small,h.mono,h.top,h.beg,fun q j hq hj hqj y hy=>?_⟩
 by_cases hx:q = i∧j = x
 · obtain ⟨rfl,rfl⟩:=hx
   obtain ⟨r,r1,r2⟩:=List.mem_iff_getElem.1 (hs y hy)
   exact ⟨r,r1,by rw [List.getD_eq_getElem?_getD,List.getElem?_eq_getElem r1];exact r2,h.top hi r r1⟩
 · exact h.done q j hq hj (by omega) y hy
theorem Qu.add {i x:Nat} {l:List α} {lg:List Int} (h:Qu e m first dflt i x l lg) (hi:i < l.length) (hx:x < m) (p:α) (hp:e (l.getD i dflt) x = some p) (hm:p ∉ l) :
   Qu e m first dflt i (x + 1) (l ++ [p]) (lg ++ [lg.getD i 0 + 1]):=by
 have hle:=h.len
 have g1:∀ q,q < l.length→(l ++ [p]).getD q dflt = l.getD q dflt:=fun q hq=>by rw [q9V,if_pos hq]
 have g2:(l ++ [p]).getD l.length dflt = p:=by rw [q9V,if_neg (by omega),if_pos rfl]
 have g3:∀ q,q < l.length→(lg ++ [lg.getD i 0 + 1]).getD q 0 = lg.getD q 0:=fun q hq=>by rw [q9V,if_pos (by omega)]
 have g4:(lg ++ [lg.getD i 0 + 1]).getD l.length 0 = lg.getD i 0 + 1:=by rw [q9V,if_neg (by omega),if_pos (by omega)]
 have hln:(l ++ [p]).length = l.length + 1:=by simp
 refine ⟨by simp [hle],?_,fun q hq=>?_,fun q hq=>?_,fun q r hqr hr=>?_,fun _ q hq=>?_,?_,fun q j hq hj hqj y hy=>?_⟩
 · rw [List.nodup_append]
   exact ⟨h.nod,by simp,fun u hu v hv huv=>hm (by rw [List.mem_singleton.1 hv] at huv;exact huv ▸ hu)⟩
 · by_cases hql:q < l.length
   · rw [g1 q hql,g3 q hql];exact h.way q hql
   · obtain rfl:q = l.length:=by omega
     rw [g2,g4]
     obtain ⟨j,j1,j2⟩:=h.way i hi
     exact ⟨j + 1,by rw [j1];omega,(z2S j p).2 ⟨_,j2,x,hx,hp⟩⟩
 · by_cases hql:q < l.length
   · rw [g3 q hql];exact h.small q hql
   · obtain rfl:q = l.length:=by omega
     rw [g4]
     have:=h.small i hi
     omega
 · by_cases hrl:r < l.length
   · rw [g3 q (by omega),g3 r hrl];exact h.mono q r hqr hrl
   · obtain rfl:r = l.length:=by omega
     rw [g4]
     by_cases hql:q < l.length
     · rw [g3 q hql];exact h.top hi q hql
     · obtain rfl:q = l.length:=by omega
       rw [g4];exact Int.le_refl _
 · rw [g3 i hi]
   by_cases hql:q < l.length
   · rw [g3 q hql];exact h.top hi q hql
   · obtain rfl:q = l.length:=by omega
     rw [g4];exact Int.le_refl _
 · exact ⟨by omega,by rw [g1 0 h.beg.1];exact h.beg.2.1,by rw [g3 0 h.beg.1];exact h.beg.2.2⟩
 · by_cases hqx:q = i∧j = x
   · obtain ⟨rfl,rfl⟩:=hqx
     rw [g1 q hi,hp] at hy
     obtain rfl:=Option.some.inj hy
     rw [g3 q hi]
     exact ⟨l.length,by omega,g2,by rw [g4];exact Int.le_refl _⟩
   · have hql:q < l.length:=by omega
     rw [g1 q hql] at hy
     obtain ⟨r,r1,r2,r3⟩:=h.done q j hql hj (by omega) y hy
     rw [g3 q hql]
     exact ⟨r,by omega,by rw [g1 r r1];exact r2,by rw [g3 r r1];exact r3⟩
theorem Qu.next {i:Nat} {l:List α} {lg:List Int} (h:Qu e m first dflt i m l lg) (hi:i < l.length):Qu e m first dflt (i + 1) 0 l lg :=
 ⟨h.len,h.nod,h.way,h.small,h.mono,fun hi2 q hq=>by have h1:=h.top hi q hq;have h2:=h.mono i (i + 1) (by omega) hi2;omega,h.beg,fun q j hq hj hqj=>h.done q j hq hj (by omega)⟩
theorem Qu.start:Qu e m first dflt 0 0 [first] [0]:=by
 refine ⟨rfl,by simp,fun q hq=>?_,fun q hq=>?_,fun q r hqr hr=>?_,fun _ q hq=>?_,⟨by simp,rfl,rfl⟩,fun q j hq hj hqj=>?_⟩
 · obtain rfl:q = 0:=by simpa using hq
   exact ⟨0,rfl,(j1J first).2 rfl⟩
 · obtain rfl:q = 0:=by simpa using hq
   exact Int.le_refl 0
 · obtain rfl:r = 0:=by simpa using hr
   obtain rfl:q = 0:=by omega
   exact Int.le_refl 0
 · obtain rfl:q = 0:=by simpa using hq
   show (0:Int) ≤ 0 + 1
   omega
 · omega
end Go.Pv.Bfs
namespace Go.Pv
open Bfs
def badT (kd s u v:Int) (ne:Bool):Bool:=(decide (kd = 0) && ne) || (decide (kd = 1) || (decide (kd = 2) && (decide (u = s) || decide (v = s))))
def toldB (n:Nat) (kd s:Int) (x:List Int):Bool:=allN n 0 (fun u=>allN u 0 (fun v=>!(decide (x.getD u 0 = x.getD v 0) && badT kd s (u:Int) (v:Int) (!decide (x.getD (n + u) 0 = x.getD (n + v) 0)))))
theorem getD_rep0 (m j:Nat):(List.replicate m (0:Int)).getD j 0 = 0:=by
 rw [List.getD_eq_getElem?_getD,List.getElem?_replicate];split <;> rfl
def badD (kd s u v:Int):Bool:=decide (kd = 1) || (decide (kd = 2) && (decide (u = s) || decide (v = s)))
def aliveB (n:Nat) (kd s:Int) (x:List Int):Bool:=allN n 0 (fun u=>allN u 0 (fun v=>!(decide (x.getD u 0 = x.getD v 0) && (decide (x.getD (n + u) 0 = x.getD (n + v) 0) && badD kd s (u:Int) (v:Int)))))
def markL (n s:Nat) (x:List Int):List Int:=(List.range n).map (fun v=>if x.getD v 0 = x.getD s 0 then x.getD s 0 else (v:Int)) ++ (List.range n).map (fun v=>if x.getD v 0 = x.getD s 0 then x.getD (n + v) 0 else 0)
theorem z8J (n:Nat) (f g:Nat→Int) (v:Nat):((List.range n).map f ++ (List.range n).map g).getD v 0 = if v < n then f v else if v < 2 * n then g (v - n) else 0:=by
 rw [List.getD_eq_getElem?_getD,List.getElem?_append]
 simp only [List.length_map,List.length_range,List.getElem?_map]
 by_cases h1:v < n
 · simp [h1]
 · by_cases h2:v < 2 * n
   · have:v - n < n:=by omega
     simp [h1,h2,this]
   · have:¬ v - n < n:=by omega
     simp [h1,h2,this]
def needL (n:Nat) (kd:Int) (s:Nat) (x:List Int):List Int:=bif aliveB n kd (s:Int) x then (if kd = 2 then markL n s x else x) else []
def keyL (x:List Int):List UInt8:=x.map fun n:Int=>n.toNat.toUInt8
end Go.Pv
namespace Go.Pv
open Bfs
def lw (f:Nat→Bool):Nat→Nat→Nat
 | 0,c=>c
 | j + 1,c=>lw f j (bif f j then j else c)
theorem lw_spec (f:Nat→Bool):∀ (j c:Nat),(lw f j c = c∧∀ u,u < j→f u = false) ∨ (lw f j c < j∧f (lw f j c) = true∧∀ u,u < lw f j c→f u = false)
 | 0,c=>.inl ⟨rfl,fun u h=>by omega⟩
 | j + 1,c=>by
   simp only [lw]
   cases hf:f j with
   | false =>
     simp only [cond_false]
     rcases lw_spec f j c with ⟨h1,h2⟩ | ⟨h1,h2,h3⟩
     · exact .inl ⟨h1,fun u hu=>by
         by_cases hj:u = j
         · rw [hj];exact hf
         · exact h2 u (by omega)⟩
     · exact .inr ⟨by omega,h2,h3⟩
   | true =>
     simp only [cond_true]
     rcases lw_spec f j j with ⟨h1,h2⟩ | ⟨h1,h2,h3⟩
     · exact .inr ⟨by omega,by rw [h1];exact hf,by rw [h1];exact h2⟩
     · exact .inr ⟨by omega,h2,h3⟩
def alikeF (n:Nat) (m:MM) (X:List Int) (a:Int) (v u:Nat):Bool:=decide (X.getD u 0 = X.getD v 0) && decide (ou m (X.getD (n + u) 0) a = ou m (X.getD (n + v) 0) a)
def nextL (n:Nat) (m:MM) (X:List Int) (a:Int):List Int:=(List.range n).map (fun v=>((lw (alikeF n m X a v) v v:Nat):Int)) ++ (List.range n).map (fun v=>nx m (X.getD (n + v) 0) a)
structure VX (n:Nat) (X:List Int):Prop where
 len:X.length = 2 * n
 cl:∀ v,v < n→0 ≤ X.getD v 0∧X.getD v 0 ≤ (v:Int)
 nw:∀ v,v < n→0 ≤ X.getD (n + v) 0∧X.getD (n + v) 0 < (n:Int)
theorem set_self (o:List Int) (v:Nat) (c:Int) (h:o.getD v 0 = c) (hv:v < o.length):o.set v c = o:=by
 refine q7W (by simp) fun q hq=>?_
 rw [q2Q _ _ _ _ hv]
 split
 · rename_i e;rw [e,h]
 · rfl
theorem z4J (o:List Int) (v:Nat) (c:Int) (h:v < o.length):(o.set v c).getD v 0 = c:=by rw [q2Q _ _ _ _ h,if_pos rfl]
theorem set_set (o:List Int) (v:Nat) (c d:Int):(o.set v c).set v d = o.set v d:=by simp
abbrev KN:=List (List UInt8×Bool)
theorem lw_le (f:Nat→Bool) (v:Nat):lw f v v ≤ v:=by
 rcases lw_spec f v v with ⟨h,_⟩ | ⟨h,_⟩ <;> omega
theorem VX.next {m:MM} {k:Nat} (hm:Pm m k) {X:List Int} (hX:VX m.1.length X) {a:Nat} (ha:a < k):VX m.1.length (nextL m.1.length m X a):=by
 refine ⟨by unfold nextL;simp;omega,fun v hv=>?_,fun v hv=>?_⟩
 · unfold nextL
   rw [z8J,if_pos hv]
   have:=lw_le (alikeF m.1.length m X a v) v
   omega
 · unfold nextL
   rw [z8J,if_neg (by omega),if_pos (by omega),show m.1.length + v - m.1.length = v by omega]
   obtain ⟨u1,u2⟩:=hX.nw v hv
   exact (hm.step u1 u2 (i:=(a:Int)) (by omega) (by omega)).2.2.2.2.1
theorem VX.mark {n:Nat} {X:List Int} (hX:VX n X) (s:Nat) (h1:1 ≤ n):VX n (markL n s X):=by
 refine ⟨by unfold markL;simp;omega,fun v hv=>?_,fun v hv=>?_⟩
 · unfold markL
   rw [z8J,if_pos hv]
   have:=hX.cl v hv
   split
   · rename_i e;rw [← e];exact this
   · omega
 · unfold markL
   rw [z8J,if_neg (by omega),if_pos (by omega),show n + v - n = v by omega]
   have:=hX.nw v hv
   split
   · exact this
   · omega
def eR (m:MM) (kd:Int) (s:Nat) (X:List Int) (a:Nat):Option (List Int):=if 0 < (needL m.1.length kd s (nextL m.1.length m X a)).length then some (needL m.1.length kd s (nextL m.1.length m X a)) else none
theorem VX.step {m:MM} {k:Nat} (hm:Pm m k) {X:List Int} (hX:VX m.1.length X) {a:Nat} (ha:a < k) {kd:Int} {s:Nat} {Y:List Int} (h:eR m kd s X a = some Y):VX m.1.length Y:=by
 have h1:=hm.n1
 have hn:=hX.next hm ha
 unfold eR at h
 split at h
 · rename_i hpos
   obtain rfl:=Option.some.inj h
   unfold needL at hpos ⊢
   cases hb:aliveB m.1.length kd (s:Int) (nextL m.1.length m X a) with
   | false=>rw [hb] at hpos;simp at hpos
   | true =>
     simp only [cond_true]
     split
     · exact hn.mark s h1
     · exact hn
 · cases h
def boundX (n:Nat):List Nat:=(List.range n).map (· + 1) ++ List.replicate n n
theorem bound_get (n i:Nat) (hi:i < 2 * n):(boundX n).getD i 0 = if i < n then i + 1 else n:=by
 unfold boundX
 rw [List.getD_eq_getElem?_getD,List.getElem?_append]
 by_cases h:i < n
 · simp [h]
 · have h2:i - n < n:=by omega
   simp [h,h2]
theorem VX.univ {n:Nat} {X:List Int} (hX:VX n X):X ∈ z3A (boundX n):=by
 have hl:=hX.len
 refine z0H _ _ (by unfold boundX;simp;omega) fun i hi=>?_
 have hi:i < 2 * n:=by unfold boundX at hi;simp at hi;omega
 rw [bound_get n i hi]
 by_cases h:i < n
 · have:=hX.cl i h
   rw [if_pos h];omega
 · have:=hX.nw (i - n) (by omega)
   rw [show n + (i - n) = i by omega] at this
   rw [if_neg h];omega
structure QK (m:MM) (k:Nat) (kd:Int) (s:Nat) (first:List Int) (i x:Nat) (l:List (List Int)) (lg:List Int) (kn:KN):Prop extends Qu (eR m kd s) k first [] i x l lg where
 vx:∀ y ∈ l,VX m.1.length y
 known:∀ y,VX m.1.length y→Option.getD (q0C (Ty.beq .str) (keyL y) kn) false = decide (y ∈ l)
 none:∀ q,q < i→toldB m.1.length kd (s:Int) (l.getD q []) = false
end Go.Pv
namespace Go.Pv
open Bfs
def cls (x:MM) (w:List Int) (v:Nat):Nat:=lw (fun u=>decide (sd x w u = sd x w v)) v v
def LeastT (k:Nat) (T:List Int→Bool) (ws:List Nat):Prop:=(∀ i ∈ ws,i < k)∧T (wd ws) = true∧∀ vs:List Nat,(∀ i ∈ vs,i < k)→vs.length < ws.length→T (wd vs) = false
theorem LeastT.same {k:Nat} {T:List Int→Bool} {ws vs:List Nat} (h1:LeastT k T ws) (h2:LeastT k T vs):ws.length = vs.length:=by
 have n1:¬ ws.length < vs.length:=fun hl=>by have:=h2.2.2 ws h1.1 hl;rw [h1.2.1] at this;cases this
 have n2:¬ vs.length < ws.length:=fun hl=>by have:=h1.2.2 vs h2.1 hl;rw [h2.2.1] at this;cases this
 omega
end Go.Pv
namespace Go.Pv
open Bfs
abbrev tGG:Ty:=.pair (.arr 6 (.int .i64)) (.pair (.arr 6 (.int .i64)) .unit)
theorem go_ieq:∀ a b:List Int,Ty.beq.go (fun x y:Int=>ieq x y) a b = decide (a = b)
 | [],[]=>rfl
 | [],_ :: _=>rfl
 | _ :: _,[]=>rfl
 | x :: a,y :: b=>by
   simp only [Ty.beq.go,go_ieq a b,List.cons.injEq,ieq]
   by_cases h1:x = y <;> by_cases h2:a = b <;> simp [h1,h2]
theorem beqG (a b:GG):Ty.beq tGG a b = decide (a = b):=by
 obtain ⟨a1,a2,a3⟩:=a
 obtain ⟨b1,b2,b3⟩:=b
 have e1:=go_ieq a1 b1
 have e2:=go_ieq a2 b2
 simp only [Ty.beq,Bool.and_true,Prod.mk.injEq]
 rw [e1,e2]
 by_cases h1:a1 = b1 <;> by_cases h2:a2 = b2 <;> simp [h1,h2]
abbrev HowG:=List (GG×GG×Int×Unit)
def HhG (how:HowG) (y:GG):Option (GG×Nat):=(q0C (Ty.beq tGG) y how).map fun v=>(v.1,v.2.1.toNat)
theorem HhG_put (how:HowG) (y x:GG) (i:Nat):HhG (q0S (Ty.beq tGG) y (x,(i:Int),()) how) = fun z=>if z = y then some (x,i) else HhG how z:=by
 funext z
 unfold HhG
 rw [q2L _ beqG]
 by_cases h:z = y
 · rw [if_pos h,if_pos h];rfl
 · rw [if_neg h,if_neg h]
def VW (m:MM) (k:Nat) (g:GG):Prop:=VG m.1.length g∧∃ w,InW k w∧Gr m w g
theorem VW.step {m:MM} {k:Nat} (hm:Pm m k) (N:Nat) (hN:10 < N) {x:GG} (hx:VW m k x) {i:Nat} (hi:i < k):∃ y,eG N m x i = some y∧VW m k y:=by
 obtain ⟨h1,w,h2,h3⟩:=hx
 obtain ⟨g',e,h4,h5⟩:=hm.after2 h2 h3 h1 (a:=(i:Int)) (by omega) (by omega) N hN
 refine ⟨g',e,h5,w ++ [(i:Int)],fun j hj=>?_,h4⟩
 rcases List.mem_append.1 hj with hj | hj
 · exact h2 j hj
 · rw [List.mem_singleton.1 hj];omega
theorem cbG_eq {m:MM} {k:Nat} (hm:Pm m k) (N:Nat) (hN:10 < N) {x:GG} (hx:VW m k x) {i:Nat} (hi:i < k) (how:HowG) :
   ∃ (y:GG) (ok:Bool) (how':HowG),g113x N x (i:Int) m how = some ((y,ok,()),((),(m,()),(),how',()),()) ∧
     ((ok = false∧how' = how∧∀ z,eG N m x i = some z→(HhG how z).isSome = true) ∨ (ok = true∧eG N m x i = some y∧VW m k y∧HhG how y = none∧how' = q0S (Ty.beq tGG) y (x,(i:Int),()) how)):=by
 unfold g113x g93
 obtain ⟨y,hy,hv⟩:=hx.step hm N hN hi
 have hy':g94 N m x (i:Int) = some y:=hy
 rw [hy']
 simp only [Option.bind_some,Bool.not_true,cond_false]
 cases hf:q0C (Ty.beq tGG) y how with
 | none =>
   refine ⟨y,true,q0S (Ty.beq tGG) y (x,(i:Int),()) how,?_,.inr ⟨rfl,hy,hv,by unfold HhG;rw [hf];rfl,rfl⟩⟩
   rfl
 | some v =>
   refine ⟨y,false,how,?_,.inl ⟨rfl,rfl,fun z h=>by rw [hy] at h;obtain rfl:=Option.some.inj h;unfold HhG;rw [hf];rfl⟩⟩
   rfl
def NNG (how:HowG):Prop:=∀ y v,q0C (Ty.beq tGG) y how = some v→0 ≤ v.2.1
theorem NNG.put {how:HowG} (h:NNG how) (y x:GG) (i:Nat):NNG (q0S (Ty.beq tGG) y (x,(i:Int),()) how):=by
 intro z v hv
 rw [q2L _ beqG] at hv
 split at hv
 · obtain rfl:=Option.some.inj hv
   show (0:Int) ≤ (i:Int)
   omega
 · exact h z v hv
abbrev CBG (t:Ty):=CbF t (.pair tGG (.pair .bool .unit))
def DoesG (N:Nat) (m:MM) (k:Nat) {t:Ty} (run:CBG t) (st:HowG→t.T):Prop :=
 ∀ (how:HowG) (x:GG) (i:Nat),VW m k x→i < k→∃ (y:GG) (ok:Bool) (how':HowG),run.f (st how) [.dat tGG x,.dat (.int .i64) (i:Int)] = some (st how',(y,ok,())) ∧
   ((ok = false∧how' = how∧∀ z,eG N m x i = some z→(HhG how z).isSome = true) ∨ (ok = true∧eG N m x i = some y∧VW m k y∧HhG how y = none∧how' = q0S (Ty.beq tGG) y (x,(i:Int),()) how))
abbrev dG:GG:=((List.replicate 6 0),(List.replicate 6 0),())
theorem q9G {m:MM} {k:Nat} (hm:Pm m k) (N:Nat) {t:Ty} {run:CBG t} {st:HowG→t.T} (hd:DoesG N m k run st) {C:Type} (k0:List GG→Int→Int→List GG→GG→CBG t→t.T→GG→Int→Option C)
   (H0:GG→Option (GG×Nat)) (L:List GG) (hL:L.length ≤ 34000000) (p:Nat) (x:GG) (hx:L[p]? = some x) (hv:VW m k x) (q1 q2:Int) (f:GG) :
   ∀ (F i:Nat) (how:HowG) (more:List GG),k - i < F→i ≤ k→BInv (eG N m) k H0 L p i (HhG how) more→NNG how→(∀ y ∈ more,VW m k y)→more.length ≤ p * k + i →
     ∃ (how':HowG) (more':List GG),BInv (eG N m) k H0 L p k (HhG how') more'∧NNG how'∧(∀ y ∈ more',VW m k y)∧more'.length ≤ p * k + k ∧
       q4Z N F t k0 L q1 q2 (k:Int) (i:Int) more x run (st how) f (k:Int) = k0 L q1 q2 more' x run (st how') f (k:Int)
 | 0,i,how,more,hF,_,_,_,_,_=>by omega
 | F + 1,i,how,more,hF,hi,hB,hn,hmv,hl=>by
   have k3:=hm.k3
   have hp:p < L.length:=(List.getElem?_eq_some_iff.1 hx).1
   have hpk:p * k ≤ 34000000 * 3:=Nat.mul_le_mul (by omega) k3
   rw [z3B]
   unfold q3I
   by_cases hlt:i < k
   · obtain ⟨y,ok,how',e,hc⟩:=hd how x i hv hlt
     rw [ltT hlt,cond_true,e]
     simp only [Option.bind_some]
     rw [wn2 i (by omega)]
     rcases hc with ⟨rfl,rfl,hs⟩ | ⟨rfl,hy,hyv,hno,rfl⟩
     · rw [cond_false]
       exact q9G hm N hd k0 H0 L hL p x hx hv q1 q2 f F (i + 1) how' more (by omega) (by omega) (hB.skip x hx hs) hn hmv (by omega)
     · rw [cond_true,if_pos (by simp [maxCount];omega)]
       have hB':=hB.add x hx hlt y hy hno
       rw [← HhG_put] at hB'
       exact q9G hm N hd k0 H0 L hL p x hx hv q1 q2 f F (i + 1) _ (more ++ [y]) (by omega) (by omega) hB' (hn.put y x i) (fun z hz=>by
         rcases List.mem_append.1 hz with hz | hz
         · exact hmv z hz
         · rw [List.mem_singleton.1 hz];exact hyv) (by simp;omega)
   · rw [ltF hlt,cond_false]
     have:i = k:=by omega
     subst this
     exact ⟨how,more,hB,hn,hmv,hl,rfl⟩
theorem levelG_loop {m:MM} {k:Nat} (hm:Pm m k) (N:Nat) (hN:10 < N) {t:Ty} {run:CBG t} {st:HowG→t.T} (hd:DoesG N m k run st) {C:Type} (k0:List GG→CBG t→t.T→GG→Int→Option C)
   (H0:GG→Option (GG×Nat)) (L:List GG) (hL:L.length ≤ 34000000) (hLv:∀ y ∈ L,VW m k y) (f:GG) :
   ∀ (F p:Nat) (how:HowG) (more:List GG),L.length - p < F→p ≤ L.length→BInv (eG N m) k H0 L p 0 (HhG how) more→NNG how→(∀ y ∈ more,VW m k y)→more.length ≤ p * k →
     ∃ (how':HowG) (more':List GG),BInv (eG N m) k H0 L L.length 0 (HhG how') more'∧NNG how'∧(∀ y ∈ more',VW m k y) ∧
       q5Q N F t k0 L (L.length:Int) (p:Int) more run (st how) f (k:Int) = k0 more' run (st how') f (k:Int)
 | 0,p,how,more,hF,_,_,_,_,_=>by omega
 | F + 1,p,how,more,hF,hp,hB,hn,hmv,hl=>by
   have k3:=hm.k3
   rw [z8B]
   unfold q5U
   by_cases hlt:p < L.length
   · have hx:L[p]? = some (L.getD p dG):=by rw [List.getElem?_eq_getElem hlt];simp [hlt]
     obtain ⟨how',more',b1,b2,b3,b4,e⟩:=q9G hm N hd (fun e3 e4 e5 e6 e7 e8 e9 e10 e11=>q5Q N F t k0 e3 e4 (IntKind.wrap .i64 (e5 + 1)) e6 e8 e9 e10 e11) H0 L hL p (L.getD p dG) hx (hLv _ (q0Q hlt _)) (L.length:Int) (p:Int) f N 0 how more (by omega) (by omega) hB hn hmv (by omega)
     rw [ltT hlt,cond_true,if_pos (idxT hlt),Int.toNat_natCast,g133xL416358_eq]
     refine Exists.imp (fun how2=>Exists.imp fun more2 h=>?_) (levelG_loop hm N hN hd k0 H0 L hL hLv f F (p + 1) how' more' (by omega) (by omega) b1.next b2 b3 (by rw [Nat.add_mul,Nat.one_mul];exact b4))
     refine ⟨h.1,h.2.1,h.2.2.1,?_⟩
     refine Eq.trans e ?_
     rw [wn2 p (by omega)]
     exact h.2.2.2
   · rw [ltF hlt,cond_false]
     have:p = L.length:=by omega
     subst this
     exact ⟨how,more,hB,hn,hmv,rfl⟩
theorem backG_loop (N:Nat) {C:Type} (k0:GG→MM→List Int→Bool→GG→List Int→HowG→((GG×Unit)→Option Bool)→Option C) (first:GG) (a:MM) (w0:List Int) (b0:Bool) (how:HowG) (hn:NNG how) (fd:(GG×Unit)→Option Bool) :
   ∀ (ws:List Nat) (y:GG) (F:Nat) (w:List Int),Bfs.Back (HhG how) first y ws→ws.length < F→w.length + ws.length ≤ 200000000 →
     q4F N F k0 first a w0 b0 y w how fd = k0 first a w0 b0 first (w ++ ws.map fun i:Nat=>(i:Int)) how fd:=by
 intro ws
 induction ws with
 | nil =>
   intro y F w hb hF hl
   cases hb
   obtain ⟨F,rfl⟩:∃ F',F = F' + 1:=⟨F - 1,by simp at hF;omega⟩
   rw [q6Y]
   unfold q3D
   show (bif (!Ty.beq tGG first first) then _ else _) = _
   rw [beqG,decide_eq_true rfl]
   simp
 | cons i ws ih =>
   intro y F w hb hF hl
   obtain ⟨F,rfl⟩:∃ F',F = F' + 1:=⟨F - 1,by simp at hF;omega⟩
   cases hb with
   | cons hne hH hB =>
     rename_i x
     rw [q6Y]
     unfold q3D
     show (bif (!Ty.beq tGG y first) then (if w.length + [(Option.getD (q0C (Ty.beq tGG) y how) (dG,0,())).2.1].length ≤ maxCount then q4F N F k0 first a w0 b0 (Option.getD (q0C (Ty.beq tGG) y how) (dG,0,())).1 (w ++ [(Option.getD (q0C (Ty.beq tGG) y how) (dG,0,())).2.1]) how fd else none) else _) = _
     rw [beqG,decide_eq_false hne,Bool.not_false,cond_true]
     unfold HhG at hH
     cases hf:q0C (Ty.beq tGG) y how with
     | none=>rw [hf] at hH;cases hH
     | some v =>
       rw [hf] at hH
       have hH:=Option.some.inj hH
       have hv:=hn y v hf
       simp only [Prod.mk.injEq] at hH
       obtain ⟨h1,h2⟩:=hH
       simp only [List.length_cons] at hF hl
       simp only [Option.getD_some]
       rw [if_pos (by simp [maxCount];omega),h1,show v.2.1 = ((i:Nat):Int) by omega,ih x F _ hB (by omega) (by simp;omega)]
       simp
theorem rev_loop2 (N:Nat) {C:Type} (k0:List Int→Option C) (p:List Int) (hp:p.length ≤ 200000000) :
   ∀ (F i:Nat),p.length - i < F→2 * i ≤ p.length + 1→z4I N F k0 (i:Int) ((p.length:Int) - 1 - (i:Int)) (sw p i) = k0 p.reverse
 | 0,i,hF,_=>by omega
 | F + 1,i,hF,hi=>by
   rw [z4Z]
   unfold z0E
   by_cases hlt:2 * i + 1 < p.length
   · have e1:decide ((i:Int) < (p.length:Int) - 1 - (i:Int)) = true:=decide_eq_true (by omega)
     have ej:Int.toNat ((p.length:Int) - 1 - (i:Int)) = p.length - 1 - i:=by omega
     have hl:=z1M p i
     rw [e1,cond_true,if_pos ⟨by omega,by omega⟩,if_pos (by omega),if_pos ⟨by omega,by omega⟩,if_pos (by omega),if_pos ⟨by omega,by omega⟩,if_pos (by omega),if_pos ⟨by omega,by rw [List.length_set];omega⟩,if_pos (by rw [List.length_set];omega),ej,Int.toNat_natCast,wn2 i (by omega),w64 (by omega) (by omega),sw_step p i hlt]
     have:=rev_loop2 N k0 p hp F (i + 1) (by omega) (by omega)
     rw [show (p.length:Int) - 1 - ((i + 1:Nat):Int) = (p.length:Int) - 1 - (i:Int) - 1 by omega] at this
     exact this
   · have e1:decide ((i:Int) < (p.length:Int) - 1 - (i:Int)) = false:=decide_eq_false (by omega)
     rw [e1,cond_false,sw_end p i (by omega)]
theorem reverse_eq2 (N:Nat) (p:List Int) (hN:p.length < N) (hp:p.length ≤ 200000000):g114x N p = some ((),((),p.reverse,()),()):=by
 unfold g114x
 rw [g114xL6_eq,w64 (by omega) (by omega)]
 have:=rev_loop2 N (fun e1=>some (((()),((),e1,()),(())):(g114xS).R)) p hp N 0 (by omega) (by omega)
 rw [sw_zero] at this
 simp only [Int.natCast_zero,Int.sub_zero] at this
 exact this
theorem z1V {m:MM} {k:Nat} (N:Nat) (hN:200000000 < N) {C:Type} (k0 k1:GG→MM→List Int→Bool→HowG→((GG×Unit)→Option Bool)→Option C) (fd:(GG×Unit)→Option Bool) (p:GG→Bool) (hfd:∀ x,VW m k x→fd (x,()) = some (p x)) (L:List GG) (hL:L.length ≤ 34000000) (hLv:∀ y ∈ L,VW m k y) (first:GG) (a:MM) (w0:List Int) (b0:Bool) (how:HowG) (hn:NNG how)
   (hback:∀ y ∈ L,p y = true→∃ ws,Bfs.Back (HhG how) first y ws∧ws.length ≤ 34000000) :
   ∀ (F i:Nat),L.length - i < F→i ≤ L.length →
     ((∀ y ∈ L.drop i,p y = false)∧q9L N F k0 k1 fd L (L.length:Int) (i:Int) first a w0 b0 how fd = k1 first a w0 b0 how fd) ∨
     ∃ y ∈ L,p y = true∧∃ ws,Bfs.Back (HhG how) first y ws∧q9L N F k0 k1 fd L (L.length:Int) (i:Int) first a w0 b0 how fd = k0 first a (ws.reverse.map fun i:Nat=>(i:Int)) true how fd
 | 0,i,hF,_=>by omega
 | F + 1,i,hF,hi=>by
   rw [g91xL938f_succ]
   unfold q8Q
   by_cases hlt:i < L.length
   · have hm:=q0Q hlt dG
     rw [ltT hlt,cond_true,if_pos (idxT hlt),Int.toNat_natCast,hfd _ (hLv _ hm)]
     simp only [Option.bind_some]
     rw [getD_drop L i dG hlt]
     cases hy:p (L.getD i dG) with
     | false =>
       simp only [Bool.not_false,cond_true]
       rw [wn2 i (by omega)]
       rcases z1V N hN k0 k1 fd p hfd L hL hLv first a w0 b0 how hn hback F (i + 1) (by omega) (by omega) with ⟨h1,h2⟩ | h
       · refine .inl ⟨fun y hy'=>?_,h2⟩
         rcases List.mem_cons.1 hy' with rfl | hy'
         · exact hy
         · exact h1 y hy'
       · exact .inr h
     | true =>
       simp only [Bool.not_true,cond_false]
       obtain ⟨ws,hB,hl⟩:=hback _ hm hy
       refine .inr ⟨_,hm,hy,ws,hB,?_⟩
       rw [g91xL960924_eq,backG_loop N _ first a w0 b0 how hn fd ws _ N [] hB (by omega) (by simp;omega)]
       rw [reverse_eq2 N _ (by simp;omega) (by simp;omega)]
       simp [List.map_reverse]
   · rw [ltF hlt,cond_false,List.drop_eq_nil_of_le (by omega)]
     exact .inl ⟨by simp,rfl⟩
end Go.Pv
