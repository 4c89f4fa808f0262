/- Plain texts, merged: QpA, QpS, QpB, QpC, QpD, QpT, QpU, QpV, QpW, QpE, QpG, QpSq, QpK, QpL. -/
import Derived.Test.YtiinfljjfceckaaDoorPvL09
set_option linter.unusedSectionVars false
/- Seat 09, plain: lists in ranges, copies, machines as they should be. -/
set_option linter.unusedVariables false
set_option linter.unusedSimpArgs false
namespace Go.Pv
abbrev MM:=List (List Int)×List (List Int)×Unit
theorem w64 {x:Int} (h1:-9223372036854775808 ≤ x) (h2:x < 9223372036854775808):IntKind.wrap .i64 x = x:=by rw [IntKind.wrap_i64];omega
theorem wu64 (x:Int):IntKind.wrap .u64 x = x % 18446744073709551616:=by simp only [IntKind.wrap,IntKind.signed,IntKind.bits];simp
theorem wu64n {x:Int} (h1:0 ≤ x) (h2:x < 18446744073709551616):IntKind.wrap .u64 x = x:=by rw [wu64];omega
theorem wn (i:Nat) (h:i < 1000000):IntKind.wrap .i64 ((i:Int) + 1) = ((i + 1:Nat):Int):=by rw [w64 (by omega) (by omega)];simp
@[simp] theorem ieq_self (x:Int):ieq x x = true:=by simp only [ieq,decide_true]
theorem low (x:Int) {m:Int} (hm:0 < m) (hm2:m < 1000000):∃ r:Int,IntKind.wrap .i64 (Int.tmod (IntKind.wrap .u64 x) m) = r∧0 ≤ r∧r < m:=by
 refine ⟨(x % 18446744073709551616) % m,?_,Int.emod_nonneg _ (by omega),Int.emod_lt_of_pos _ hm⟩
 rw [wu64,Int.tmod_eq_emod_of_nonneg (Int.emod_nonneg _ (by decide))]
 have h1:=Int.emod_nonneg (x % 18446744073709551616) (show m ≠ 0 by omega)
 have h2:=Int.emod_lt_of_pos (x % 18446744073709551616) hm
 exact w64 (by omega) (by omega)
theorem getD_mem {α:Type} {l:List α} {i:Nat} (h:i < l.length) (d:α):l.getD i d ∈ l:=by
 rw [List.getD_eq_getElem?_getD,List.getElem?_eq_getElem h];simp
theorem getD_drop {α:Type} (l:List α) (i:Nat) (d:α) (h:i < l.length):l.drop i = l.getD i d :: l.drop (i + 1):=by
 rw [List.drop_eq_getElem_cons h];simp [h]
theorem take_getD {α:Type} (l:List α) (i:Nat) (d:α) (h:i < l.length):l.take i ++ [l.getD i d] = l.take (i + 1):=by
 rw [List.take_add_one];simp [h]
theorem idxT {i:Nat} {n:Nat} (h:i < n):idx (i:Int) n:=⟨by omega,by omega⟩
theorem ltT {i n:Nat} (h:i < n):decide ((i:Int) < (n:Int)) = true:=by simp;omega
theorem ltF {i n:Nat} (h:¬ i < n):decide ((i:Int) < (n:Int)) = false:=by simp;omega
theorem any_loop (N:Nat) {C:Type} (k0:Int→Option C) (k1:Option C) (l:List Int) (f:(Int×Unit)→Option Bool) (p:Int→Bool) (hf:∀ x,f (x,()) = some (p x)) (hl:l.length < 4611686018427387904) :
   ∀ (F i:Nat),l.length - i < F→i ≤ l.length→((l.drop i).any p = true∧∃ j:Nat,g121L26f N F k0 k1 l f (l.length:Int) (i:Int) = k0 j) ∨ ((l.drop i).any p = false∧g121L26f N F k0 k1 l f (l.length:Int) (i:Int) = k1)
 | 0,i,h,_=>by omega
 | F + 1,i,h,hi=>by
   rw [g121L26f_succ]
   unfold g121L26B
   by_cases hlt:i < l.length
   · rw [ltT hlt,cond_true,if_pos (idxT hlt),Int.toNat_natCast,hf]
     simp only [Option.bind_some]
     rw [getD_drop l i 0 hlt,List.any_cons]
     cases hp:p (l.getD i 0) with
     | true=>exact .inl ⟨by simp,i,rfl⟩
     | false =>
       simp only [cond_false,Bool.false_or]
       have e3:IntKind.wrap .i64 ((i:Int) + 1) = ((i + 1:Nat):Int):=by rw [w64 (by omega) (by omega)];simp
       rw [e3]
       exact any_loop N k0 k1 l f p hf hl F (i + 1) (by omega) (by omega)
   · rw [ltF hlt,cond_false,List.drop_eq_nil_of_le (by omega)]
     exact .inr ⟨rfl,rfl⟩
theorem are_eq (N:Nat) (lo hi:Int) (l:List Int) (hN:l.length < N) (hl:l.length < 4611686018427387904):g82 N lo hi l = some (l.all fun x=>decide (lo ≤ x) && decide (x ≤ hi)):=by
 unfold g82 g106 g121
 rw [g121L26_eq]
 have:=any_loop N (fun e2=>some e2) (some (-1)) l (fun (x1:(Int)×(Unit))=>Option.bind (g107 N x1.1 lo hi) fun y2=>some y2) (fun x=>decide (x < lo) || decide (hi < x))
   (fun x=>by
     simp only [g107]
     cases h:decide (x < lo) <;> simp) hl N 0 (by omega) (by omega)
 simp only [Int.natCast_zero,List.drop_zero] at this
 have hx:(l.all fun x=>decide (lo ≤ x) && decide (x ≤ hi)) = !(l.any fun x=>decide (x < lo) || decide (hi < x)):=by
   rw [List.not_any_eq_all_not]
   congr 1
   funext x
   by_cases h1:x < lo <;> by_cases h2:hi < x <;> simp [h1,h2] <;> omega
 rcases this with ⟨h1,j,h2⟩ | ⟨h1,h2⟩
 · rw [h2,hx,h1]
   simp
 · rw [h2,hx,h1]
   simp
theorem are_true (N:Nat) (lo hi:Int) (l:List Int) (hN:l.length < N) (hl:l.length < 1000000) (h:∀ x ∈ l,lo ≤ x∧x ≤ hi):g82 N lo hi l = some true:=by
 rw [are_eq N lo hi l hN (by omega)]
 congr 1
 rw [List.all_eq_true]
 intro x hx
 have:=h x hx
 simp;exact this
theorem few_eq (N:Nat) (l:List Int) (k:Int) (h0:0 ≤ k) (hk:k ≤ 1000):g42 N l k = some (l.take k.toNat):=by
 unfold g42
 have e:imin (l.length:Int) k = ((min l.length k.toNat:Nat):Int):=by simp only [imin];split <;> omega
 rw [e,if_pos ⟨by omega,by omega,by omega⟩]
 have:List.take (min l.length k.toNat) l = l.take k.toNat:=by
   rcases Nat.le_total l.length k.toNat with h | h
   · rw [Nat.min_eq_left h,List.take_of_length_le h,List.take_length]
   · rw [Nat.min_eq_right h]
 simp [this,maxCount]
 omega
theorem inputs_eq (N:Nat) (k:Int):∃ r:Nat,g16 N k = some (r:Int)∧1 ≤ r∧r ≤ 3:=by
 obtain ⟨v,e,h1,h2⟩:=low k (m:=3) (by omega) (by omega)
 refine ⟨(1 + v).toNat,?_,by omega,by omega⟩
 unfold g16
 rw [e,w64 (by omega) (by omega)]
 congr 1
 omega
structure Pm (x:MM) (k:Nat):Prop where
 n1:1 ≤ x.1.length
 n6:x.1.length ≤ 6
 out:x.2.1.length = x.1.length
 k1:1 ≤ k
 k3:k ≤ 3
 rowN:∀ r ∈ x.1,r.length = k∧∀ t ∈ r,0 ≤ t∧t < (x.1.length:Int)
 rowO:∀ r ∈ x.2.1,r.length = k∧∀ t ∈ r,0 ≤ t∧t ≤ 3
theorem Pm.inputs {x:MM} {k:Nat} (h:Pm x k) (N:Nat):g85 N x = some (k:Int):=by
 unfold g85
 have:=h.n1
 rw [if_pos ⟨by omega,by omega⟩]
 have:=(h.rowN _ (getD_mem (i:=0) (by omega) [])).1
 simp only [show Int.toNat 0 = 0 from rfl,this]
theorem Pm.inputs41 {x:MM} {k:Nat} (h:Pm x k) (N:Nat):g41 N x = some (k:Int):=h.inputs N
theorem Pm.check_loop {x:MM} {k:Nat} (h:Pm x k) (N:Nat) (hN:20 < N) {C:Type} (k0:Int→MM→Option C) (k1:MM→Option C) :
   ∀ (F i:Nat),x.1.length - i < F→i ≤ x.1.length→g57L122f N F k0 k1 (x.1.length:Int) x.1 (x.1.length:Int) (i:Int) x = k1 x
 | 0,i,hF,_=>by omega
 | F + 1,i,hF,hi=>by
   rw [g57L122f_succ]
   unfold g57L122B
   have:=h.n6;have:=h.k3
   by_cases hlt:i < x.1.length
   · have ho:i < x.2.1.length:=by rw [h.out];exact hlt
     obtain ⟨r1,r2⟩:=h.rowN _ (getD_mem hlt [])
     obtain ⟨o1,o2⟩:=h.rowO _ (getD_mem ho [])
     have e1:g82 N 0 (IntKind.wrap .i64 ((x.1.length:Int) - 1)) (x.1.getD i []) = some true:=by
       rw [w64 (by omega) (by omega)]
       exact are_true N _ _ _ (by omega) (by omega) fun t ht=>by have:=r2 t ht;omega
     have e2:g82 N 0 3 (x.2.1.getD i []) = some true:=are_true N _ _ _ (by omega) (by omega) o2
     rw [ltT hlt,cond_true,if_pos (idxT hlt),h.inputs N]
     simp only [Option.bind_some,Int.toNat_natCast,r1,ieq_self,Bool.not_true,cond_false]
     rw [if_pos (idxT ho),o1,ieq_self,Bool.not_true,cond_false,e1]
     simp only [Option.bind_some,Bool.not_true,cond_false]
     rw [if_pos (idxT ho),e2]
     simp only [Option.bind_some,Bool.not_true,cond_false]
     rw [wn i (by omega)]
     exact h.check_loop N hN k0 k1 F (i + 1) (by omega) (by omega)
   · rw [ltF hlt,cond_false]
theorem Pm.check {x:MM} {k:Nat} (h:Pm x k) (N:Nat) (hN:20 < N):g57 N x = some 0:=by
 have:=h.n1;have:=h.n6;have:=h.k1;have:=h.k3
 unfold g57
 rw [are_true N 1 6 [((x.1.length:Nat):Int)] (by simp;omega) (by simp) (by simp;omega)]
 simp only [Option.bind_some,Bool.not_true,cond_false,h.out,ieq_self]
 rw [if_pos ⟨by omega,by omega⟩]
 have r1:=(h.rowN _ (getD_mem (i:=0) (by omega) [])).1
 simp only [show Int.toNat 0 = 0 from rfl,r1]
 rw [are_true N 1 3 [(k:Int)] (by simp;omega) (by simp) (by simp;omega)]
 simp only [Option.bind_some,Bool.not_true,cond_false]
 rw [g57L122_eq]
 exact h.check_loop N hN _ _ N 0 (by omega) (by omega)
theorem rows_loop (N:Nat) {C:Type} (k0:List (List Int)→Option C) (l:List (List Int)) (hl:l.length ≤ 6) (hr:∀ r ∈ l,r.length ≤ 4) :
   ∀ (F i:Nat),l.length - i < F→i ≤ l.length→g59L58f N F k0 l (i:Int) (l.take i) = k0 l
 | 0,i,h,_=>by omega
 | F + 1,i,h,hi=>by
   rw [g59L58f_succ]
   unfold g59L58B
   by_cases hlt:i < l.length
   · have e2:decide ((i:Int) ≤ 6) = true:=by simp;omega
     rw [ltT hlt,cond_true,e2,cond_true,if_pos (idxT hlt),Int.toNat_natCast,few_eq N _ 4 (by omega) (by omega)]
     simp only [Option.bind_some,show Int.toNat 4 = 4 from rfl,List.take_of_length_le (hr _ (getD_mem hlt []))]
     rw [if_pos (by simp [maxCount];omega),take_getD l i [] hlt,wn i (by omega)]
     exact rows_loop N k0 l hl hr F (i + 1) (by omega) (by omega)
   · rw [ltF hlt,cond_false,List.take_of_length_le (by omega)]
theorem rows_eq (N:Nat) (hN:10 < N) (l:List (List Int)) (hl:l.length ≤ 6) (hr:∀ r ∈ l,r.length ≤ 4):g59 N l = some l:=by
 unfold g59
 rw [g59L58_eq]
 exact rows_loop N _ l hl hr N 0 (by omega) (by omega)
theorem Pm.given {x:MM} {k:Nat} (h:Pm x k) (N:Nat) (hN:10 < N):g18 N x = some x:=by
 have:=h.n6;have:=h.k3;have:=h.out
 unfold g18
 rw [rows_eq N hN x.1 (by omega) fun r hr=>by have:=(h.rowN r hr).1;omega,rows_eq N hN x.2.1 (by omega) fun r hr=>by have:=(h.rowO r hr).1;omega]
 rfl
theorem Pm.own {x:MM} {k:Nat} (h:Pm x k) (N:Nat) (hN:10 < N):g23 N x = some x:=h.given N hN
theorem tame_row (N:Nat) {C:Type} (k0:Int→Int→Int→MM→List Int→List Int→List (List Int)→List (List Int)→List (List Int)→List (List Int)→Option C) (k n i:Nat) (hk:k ≤ 3) (hn1:1 ≤ n) (hn:n ≤ 6) (x:MM) (c1 c2 c3 c4:List (List Int)) :
   ∀ (F j:Nat) (p q:List Int),k - j < F→j ≤ k→p.length = j→q.length = j→(∀ t ∈ p,0 ≤ t∧t < (n:Int))→(∀ t ∈ q,0 ≤ t∧t ≤ 3) →
     ∃ p' q':List Int,p'.length = k∧q'.length = k∧(∀ t ∈ p',0 ≤ t∧t < (n:Int))∧(∀ t ∈ q',0 ≤ t∧t ≤ 3) ∧
       g15L31306f N F k0 (k:Int) (n:Int) (i:Int) (j:Int) x p q c1 c2 c3 c4 = k0 (k:Int) (n:Int) (i:Int) x p' q' c1 c2 c3 c4
 | 0,j,p,q,h,_,_,_,_,_=>by omega
 | F + 1,j,p,q,h,hj,hp,hq,hpb,hqb=>by
   rw [g15L31306f_succ]
   unfold g15L31306B
   by_cases hlt:j < k
   · have add:∀ v o:Int,0 ≤ v→v < (n:Int)→0 ≤ o→o < 4→∃ p' q':List Int,p'.length = k∧q'.length = k∧(∀ t ∈ p',0 ≤ t∧t < (n:Int))∧(∀ t ∈ q',0 ≤ t∧t ≤ 3) ∧
         g15L31306f N F k0 (k:Int) (n:Int) (i:Int) ((j + 1:Nat):Int) x (p ++ [v]) (q ++ [o]) c1 c2 c3 c4 = k0 (k:Int) (n:Int) (i:Int) x p' q' c1 c2 c3 c4:=fun v o h1 h2 h3 h4 =>
       tame_row N k0 k n i hk hn1 hn x c1 c2 c3 c4 F (j + 1) (p ++ [v]) (q ++ [o]) (by omega) (by omega) (by simp [hp]) (by simp [hq])
         (fun t ht=>by
           rcases List.mem_append.1 ht with ht | ht
           · exact hpb t ht
           · obtain rfl:=List.mem_singleton.1 ht;exact ⟨h1,h2⟩)
         (fun t ht=>by
           rcases List.mem_append.1 ht with ht | ht
           · exact hqb t ht
           · obtain rfl:=List.mem_singleton.1 ht;omega)
     have hw:IntKind.wrap .u64 (n:Int) = (n:Int):=wu64n (by omega) (by omega)
     have hz:(((n:Int) = 0) = False):=eq_false (by omega)
     have mp:∀ v:Int,((p.length + [v].length ≤ maxCount) = True):=fun v=>eq_true (by simp [maxCount];omega)
     have mq:∀ v:Int,((q.length + [v].length ≤ maxCount) = True):=fun v=>eq_true (by simp [maxCount];omega)
     have mp0:((p.length + List.length ([0]:List Nat) ≤ maxCount) = True):=eq_true (by simp [maxCount];omega)
     have mq0:((q.length + List.length ([0]:List Nat) ≤ maxCount) = True):=eq_true (by simp [maxCount];omega)
     obtain ⟨v,ev,v1,v2⟩:=low ((x.1.getD i []).getD j 0) (m:=(n:Int)) (by omega) (by omega)
     obtain ⟨o,eo,o1,o2⟩:=low ((x.2.1.getD i []).getD j 0) (m:=4) (by omega) (by omega)
     rw [ltT hlt,cond_true,wn j (by omega),hw]
     by_cases a1:i < x.1.length
     · by_cases a2:j < (x.1.getD i []).length
       · by_cases b1:i < x.2.1.length
         · by_cases b2:j < (x.2.1.getD i []).length
           · simp only [Int.toNat_natCast,ltT a1,ltT a2,ltT b1,ltT b2,eq_true (idxT a1),eq_true (idxT a2),eq_true (idxT b1),eq_true (idxT b2),cond_true,if_true,hz,if_false,ev,eo,mp,mq]
             exact add v o v1 v2 o1 o2
           · simp only [Int.toNat_natCast,ltT a1,ltT a2,ltT b1,ltF b2,eq_true (idxT a1),eq_true (idxT a2),eq_true (idxT b1),cond_true,cond_false,if_true,hz,if_false,ev,mp,mq,mp0,mq0]
             exact add v 0 v1 v2 (by omega) (by omega)
         · simp only [Int.toNat_natCast,ltT a1,ltT a2,ltF b1,eq_true (idxT a1),eq_true (idxT a2),cond_true,cond_false,if_true,hz,if_false,ev,mp,mq,mp0,mq0]
           exact add v 0 v1 v2 (by omega) (by omega)
       · by_cases b1:i < x.2.1.length
         · by_cases b2:j < (x.2.1.getD i []).length
           · simp only [Int.toNat_natCast,ltT a1,ltF a2,ltT b1,ltT b2,eq_true (idxT a1),eq_true (idxT b1),eq_true (idxT b2),cond_true,cond_false,if_true,hz,if_false,eo,mp,mq,mp0,mq0]
             exact add 0 o (by omega) (by omega) o1 o2
           · simp only [Int.toNat_natCast,ltT a1,ltF a2,ltT b1,ltF b2,eq_true (idxT a1),eq_true (idxT b1),cond_true,cond_false,if_true,hz,if_false,mp,mq,mp0,mq0]
             exact add 0 0 (by omega) (by omega) (by omega) (by omega)
         · simp only [Int.toNat_natCast,ltT a1,ltF a2,ltF b1,eq_true (idxT a1),cond_true,cond_false,if_true,hz,if_false,mp,mq,mp0,mq0]
           exact add 0 0 (by omega) (by omega) (by omega) (by omega)
     · by_cases b1:i < x.2.1.length
       · by_cases b2:j < (x.2.1.getD i []).length
         · simp only [Int.toNat_natCast,ltF a1,ltT b1,ltT b2,eq_true (idxT b1),eq_true (idxT b2),cond_true,cond_false,if_true,hz,if_false,eo,mp,mq,mp0,mq0]
           exact add 0 o (by omega) (by omega) o1 o2
         · simp only [Int.toNat_natCast,ltF a1,ltT b1,ltF b2,eq_true (idxT b1),cond_true,cond_false,if_true,hz,if_false,mp,mq,mp0,mq0]
           exact add 0 0 (by omega) (by omega) (by omega) (by omega)
       · simp only [Int.toNat_natCast,ltF a1,ltF b1,cond_true,cond_false,if_true,hz,if_false,mp,mq,mp0,mq0]
         exact add 0 0 (by omega) (by omega) (by omega) (by omega)
   · rw [ltF hlt,cond_false]
     exact ⟨p,q,by omega,by omega,hpb,hqb,rfl⟩
theorem tame_loop (N:Nat) (hN:10 < N) {C:Type} (k0:MM→List (List Int)→List (List Int)→List (List Int)→List (List Int)→Option C) (k n:Nat) (hk:k ≤ 3) (hn1:1 ≤ n) (hn:n ≤ 6) (x:MM) :
   ∀ (F i:Nat) (c1 c2 c3 c4:List (List Int)),n - i < F→i ≤ n→c3.length = i→c4.length = i→(∀ r ∈ c3,r.length = k∧∀ t ∈ r,0 ≤ t∧t < (n:Int))→(∀ r ∈ c4,r.length = k∧∀ t ∈ r,0 ≤ t∧t ≤ 3) →
     ∃ d1 d2 d3 d4:List (List Int),d3.length = n∧d4.length = n∧(∀ r ∈ d3,r.length = k∧∀ t ∈ r,0 ≤ t∧t < (n:Int))∧(∀ r ∈ d4,r.length = k∧∀ t ∈ r,0 ≤ t∧t ≤ 3) ∧
       g15L122f N F k0 (k:Int) (n:Int) (i:Int) x c1 c2 c3 c4 = k0 x d1 d2 d3 d4
 | 0,i,c1,c2,c3,c4,h,_,_,_,_,_=>by omega
 | F + 1,i,c1,c2,c3,c4,h,hi,h3,h4,hb3,hb4=>by
   rw [g15L122f_succ]
   unfold g15L122B
   by_cases hlt:i < n
   · rw [ltT hlt,cond_true,g15L31306_eq]
     obtain ⟨p,q,hp,hq,hpb,hqb,e⟩:=tame_row N (fun e1 e2 e3 e4 e5 e6 e7 e8 e9 e10=>if e9.length + [e5].length ≤ maxCount then if e10.length + [e6].length ≤ maxCount then (g15L122f N F k0 e1 e2 (IntKind.wrap .i64 (e3 + 1)) e4 e7 e8 (e9 ++ [e5]) (e10 ++ [e6])) else none else none) k n i hk hn1 hn x c1 c2 c3 c4 N 0 [] [] (by omega) (by omega) rfl rfl (by simp) (by simp)
     simp only [Int.natCast_zero] at e
     rw [e,if_pos (by simp [maxCount];omega),if_pos (by simp [maxCount];omega),wn i (by omega)]
     exact tame_loop N hN k0 k n hk hn1 hn x F (i + 1) c1 c2 (c3 ++ [p]) (c4 ++ [q]) (by omega) (by omega) (by simp [h3]) (by simp [h4])
       (fun r hr=>by
         rcases List.mem_append.1 hr with hr | hr
         · exact hb3 r hr
         · obtain rfl:=List.mem_singleton.1 hr;exact ⟨hp,hpb⟩)
       (fun r hr=>by
         rcases List.mem_append.1 hr with hr | hr
         · exact hb4 r hr
         · obtain rfl:=List.mem_singleton.1 hr;exact ⟨hq,hqb⟩)
   · rw [ltF hlt,cond_false]
     exact ⟨c1,c2,c3,c4,by omega,by omega,hb3,hb4,rfl⟩
theorem tame_eq (N:Nat) (hN:10 < N) (x:MM) (most:Int) (h1:1 ≤ most) (h6:most ≤ 6) (k:Nat) (hk1:1 ≤ k) (hk:k ≤ 3):∃ y:MM,g15 N x most (k:Int) = some y∧Pm y k∧(y.1.length:Int) ≤ most:=by
 unfold g15
 obtain ⟨n,hn,n1,n6⟩:∃ n:Nat,imax 1 (imin ((x.1.length:Nat):Int) most) = (n:Int)∧1 ≤ n∧(n:Int) ≤ most:=by
   refine ⟨(imax 1 (imin ((x.1.length:Nat):Int) most)).toNat,?_,?_,?_⟩ <;> simp only [imax,imin] <;> split <;> split <;> omega
 rw [hn,g15L122_eq]
 obtain ⟨d1,d2,d3,d4,l3,l4,b3,b4,e⟩:=tame_loop N hN (fun e11 e12 e13 e14 e15=>some (e14,e15,())) k n hk n1 (by omega) x N 0 [] [] [] [] (by omega) (by omega) rfl rfl (by simp) (by simp)
 simp only [Int.natCast_zero] at e
 refine ⟨(d3,d4,()),e,⟨by simp only;omega,by simp only;omega,by simp only;omega,hk1,hk,fun r hr=>⟨(b3 r hr).1,fun t ht=>by have:=(b3 r hr).2 t ht;simp only [l3];exact this⟩,b4⟩,by simp only [l3];exact n6⟩
end Go.Pv
namespace Go.Pv.Bfs
variable {α:Type} [DecidableEq α] (e:α→Nat→Option α) (m:Nat) (first:α)
def run:α→List Nat→Option α
 | x,[]=>some x
 | x,i :: w=>if i < m then (e x i).bind fun y=>run y w else none
theorem run_snoc (w:List Nat) (i:Nat):∀ x:α,run e m x (w ++ [i]) = (run e m x w).bind fun y=>if i < m then e y i else none:=by
 induction w with
 | nil=>intro x;simp only [List.nil_append,run,Option.bind_some];split <;> simp
 | cons j w ih =>
   intro x
   simp only [List.cons_append,run]
   split
   · cases e x j with
     | none=>rfl
     | some y=>simp only [Option.bind_some];exact ih y
   · rfl
def R (j:Nat) (y:α):Prop:=∃ w:List Nat,w.length = j∧run e m first w = some y
variable {e m first}
theorem R_zero (y:α):R e m first 0 y ↔ y = first:=by
 constructor
 · rintro ⟨w,h1,h2⟩
   obtain rfl:=List.eq_nil_of_length_eq_zero h1
   exact (Option.some.inj h2).symm
 · rintro rfl;exact ⟨[],rfl,rfl⟩
theorem R_succ (j:Nat) (y:α):R e m first (j + 1) y ↔ ∃ x,R e m first j x∧∃ i,i < m∧e x i = some y:=by
 constructor
 · rintro ⟨w,h1,h2⟩
   have hne:w ≠ []:=by intro h;rw [h] at h1;simp at h1
   obtain ⟨v,i,rfl⟩:∃ v i,w = v ++ [i]:=⟨w.dropLast,w.getLast hne,(List.dropLast_concat_getLast hne).symm⟩
   rw [run_snoc] at h2
   cases hv:run e m first v with
   | none=>rw [hv] at h2;cases h2
   | some x =>
     rw [hv] at h2
     simp only [Option.bind_some] at h2
     split at h2
     · rename_i hi
       exact ⟨x,⟨v,by simpa using h1,hv⟩,i,hi,h2⟩
     · cases h2
 · rintro ⟨x,⟨v,h1,h2⟩,i,hi,he⟩
   exact ⟨v ++ [i],by simp [h1],by rw [run_snoc,h2];simp [hi,he]⟩
structure BInv (e:α→Nat→Option α) (m:Nat) (H0:α→Option (α×Nat)) (L:List α) (p i:Nat) (H:α→Option (α×Nat)) (more:List α):Prop where
 old:∀ y v,H0 y = some v→H y = some v
 new:∀ y,y ∈ more ↔ (H y).isSome = true∧H0 y = none
 src:∀ y,y ∈ more→∃ x,x ∈ L∧∃ k:Nat,k < m∧e x k = some y∧H y = some (x,k)
 done:∀ q k,(q < p ∨ q = p∧k < i)→∀ x,L[q]? = some x→k < m→∀ y,e x k = some y→(H y).isSome = true
 nodup:more.Nodup
theorem BInv.start (H0:α→Option (α×Nat)) (L:List α):BInv e m H0 L 0 0 H0 [] :=
 ⟨fun _ _ h=>h,fun y=>⟨fun h=>by simp at h,fun ⟨h1,h2⟩=>by rw [h2] at h1;cases h1⟩,fun y h=>by simp at h,fun q k h=>by omega,List.nodup_nil⟩
theorem BInv.skip {H0 H:α→Option (α×Nat)} {L more:List α} {p i:Nat} (h:BInv e m H0 L p i H more) (x:α) (hx:L[p]? = some x) (hs:∀ y,e x i = some y→(H y).isSome = true):BInv e m H0 L p (i + 1) H more:=by
 refine ⟨h.old,h.new,h.src,fun q k hq z hz hk y hy=>?_,h.nodup⟩
 by_cases hqk:q = p∧k = i
 · obtain ⟨rfl,rfl⟩:=hqk
   rw [hx] at hz
   obtain rfl:=Option.some.inj hz
   exact hs y hy
 · exact h.done q k (by omega) z hz hk y hy
theorem BInv.add {H0 H:α→Option (α×Nat)} {L more:List α} {p i:Nat} (h:BInv e m H0 L p i H more) (x:α) (hx:L[p]? = some x) (hi:i < m) (y:α) (hy:e x i = some y) (hn:H y = none) :
   BInv e m H0 L p (i + 1) (fun z=>if z = y then some (x,i) else H z) (more ++ [y]):=by
 have h0:H0 y = none:=by
   cases hq:H0 y with
   | none=>rfl
   | some v=>rw [h.old y v hq] at hn;cases hn
 have hnm:y ∉ more:=fun hm=>by
   have:=((h.new y).1 hm).1
   rw [hn] at this;cases this
 refine ⟨fun z v hz=>?_,fun z=>?_,fun z hz=>?_,fun q k hq w hw hk z hz=>?_,?_⟩
 · have:z ≠ y:=fun hzy=>by rw [hzy,h0] at hz;cases hz
   simp only [if_neg this]
   exact h.old z v hz
 · rw [List.mem_append,List.mem_singleton]
   by_cases hzy:z = y
   · subst hzy
     simp [h0]
   · simp only [hzy,or_false,if_false]
     exact h.new z
 · by_cases hzy:z = y
   · subst hzy
     exact ⟨x,List.mem_of_getElem? hx,i,hi,hy,by simp⟩
   · have hz:z ∈ more:=by simpa [hzy] using hz
     obtain ⟨w,w1,k,w2,w3,w4⟩:=h.src z hz
     exact ⟨w,w1,k,w2,w3,by simp [hzy,w4]⟩
 · by_cases hzy:z = y
   · simp [hzy]
   · simp only [if_neg hzy]
     by_cases hqk:q = p∧k = i
     · obtain ⟨rfl,rfl⟩:=hqk
       rw [hx] at hw
       obtain rfl:=Option.some.inj hw
       rw [hy] at hz
       exact absurd (Option.some.inj hz).symm hzy
     · exact h.done q k (by omega) w hw hk z hz
 · rw [List.nodup_append]
   exact ⟨h.nodup,by simp,fun a ha b hb=>by rw [List.mem_singleton.1 hb];exact fun hab=>hnm (hab ▸ ha)⟩
theorem BInv.next {H0 H:α→Option (α×Nat)} {L more:List α} {p:Nat} (h:BInv e m H0 L p m H more):BInv e m H0 L (p + 1) 0 H more :=
 ⟨h.old,h.new,h.src,fun q k hq x hx hk y hy=>h.done q k (by omega) x hx hk y hy,h.nodup⟩
structure LInv (e:α→Nat→Option α) (m:Nat) (first:α) (j:Nat) (H:α→Option (α×Nat)) (L:List α):Prop where
 known:∀ y,(H y).isSome = true ↔ ∃ d,d ≤ j∧R e m first d y
 level:∀ y,y ∈ L ↔ R e m first j y∧∀ d,d < j→¬ R e m first d y
 par:∀ y,(H y).isSome = true→y ≠ first→∃ x i d,H y = some (x,i)∧i < m∧e x i = some y∧R e m first d x∧∀ d',d' < d + 1→¬ R e m first d' y
theorem LInv.start (H:α→Option (α×Nat)) (hH:∀ y,(H y).isSome = true ↔ y = first):LInv e m first 0 H [first] :=
 ⟨fun y=>by
   rw [hH]
   constructor
   · intro h;exact ⟨0,Nat.le_refl 0,(R_zero y).2 h⟩
   · rintro ⟨d,hd,h⟩;obtain rfl:d = 0:=by omega
     exact (R_zero y).1 h,
  fun y=>by
   rw [List.mem_singleton,R_zero]
   exact ⟨fun h=>⟨h,fun d hd=>by omega⟩,fun h=>h.1⟩,
  fun y h hne=>absurd ((hH y).1 h) hne⟩
theorem LInv.step {j:Nat} {H H':α→Option (α×Nat)} {L more:List α} (h:LInv e m first j H L) (b:BInv e m H L L.length 0 H' more):LInv e m first (j + 1) H' more:=by
 have knownNew:∀ y,(H' y).isSome = true ↔ ∃ d,d ≤ j + 1∧R e m first d y:=by
   intro y
   constructor
   · intro hy
     cases h0:H y with
     | some v =>
       obtain ⟨d,hd,hr⟩:=(h.known y).1 (by rw [h0];rfl)
       exact ⟨d,by omega,hr⟩
     | none =>
       obtain ⟨x,hx,i,hi,he,_⟩:=b.src y ((b.new y).2 ⟨hy,h0⟩)
       exact ⟨j + 1,Nat.le_refl _,(R_succ j y).2 ⟨x,((h.level x).1 hx).1,i,hi,he⟩⟩
   · rintro ⟨d,hd,hr⟩
     by_cases hk:(H y).isSome = true
     · obtain ⟨v,hv⟩:=Option.isSome_iff_exists.1 hk
       rw [b.old y v hv];rfl
     · have hd:d = j + 1:=by
         by_cases hdj:d ≤ j
         · exact absurd ((h.known y).2 ⟨d,hdj,hr⟩) hk
         · omega
       subst hd
       obtain ⟨x,hx,i,hi,he⟩:=(R_succ j y).1 hr
       have hxL:x ∈ L:=(h.level x).2 ⟨hx,fun d hd hrx=>hk ((h.known y).2 ⟨d + 1,by omega,(R_succ d y).2 ⟨x,hrx,i,hi,he⟩⟩)⟩
       obtain ⟨q,hq⟩:=List.mem_iff_getElem?.1 hxL
       have hql:q < L.length:=(List.getElem?_eq_some_iff.1 hq).1
       exact b.done q i (.inl hql) x hq hi y he
 refine ⟨knownNew,fun y=>?_,fun y hy hne=>?_⟩
 · rw [b.new]
   constructor
   · rintro ⟨h1,h2⟩
     have hno:∀ d,d < j + 1→¬ R e m first d y:=fun d hd hr=>by
       have:=(h.known y).2 ⟨d,by omega,hr⟩
       rw [h2] at this;cases this
     obtain ⟨d,hd,hr⟩:=(knownNew y).1 h1
     have:d = j + 1:=by
       by_cases hdj:d < j + 1
       · exact absurd hr (hno d hdj)
       · omega
     exact ⟨this ▸ hr,hno⟩
   · rintro ⟨h1,h2⟩
     refine ⟨(knownNew y).2 ⟨j + 1,Nat.le_refl _,h1⟩,?_⟩
     cases h0:H y with
     | none=>rfl
     | some v =>
       obtain ⟨d,hd,hr⟩:=(h.known y).1 (by rw [h0];rfl)
       exact absurd hr (h2 d (by omega))
 · cases h0:H y with
   | some v =>
     obtain ⟨x,i,d,g1,g2,g3,g4,g5⟩:=h.par y (by rw [h0];rfl) hne
     exact ⟨x,i,d,b.old y _ g1,g2,g3,g4,g5⟩
   | none =>
     obtain ⟨x,hx,i,hi,he,hH⟩:=b.src y ((b.new y).2 ⟨hy,h0⟩)
     exact ⟨x,i,j,hH,hi,he,((h.level x).1 hx).1,fun d hd hr=>by
       have:=(h.known y).2 ⟨d,by omega,hr⟩
       rw [h0] at this;cases this⟩
inductive Back (H:α→Option (α×Nat)) (first:α):α→List Nat→Prop
 | nil:Back H first first []
 | cons {y x:α} {i:Nat} {ws:List Nat}:y ≠ first→H y = some (x,i)→Back H first x ws→Back H first y (i :: ws)
theorem LInv.back {j:Nat} {H:α→Option (α×Nat)} {L:List α} (h:LInv e m first j H L):∀ (d:Nat) (y:α),d ≤ j→R e m first d y→(∀ d',d' < d→¬ R e m first d' y)→∃ ws,Back H first y ws∧ws.length = d∧run e m first ws.reverse = some y
 | 0,y,_,hr,_=>by
   obtain rfl:=(R_zero y).1 hr
   exact ⟨[],.nil,rfl,rfl⟩
 | d + 1,y,hd,hr,hmin=>by
   have hne:y ≠ first:=fun hy=>hmin 0 (by omega) ((R_zero y).2 hy)
   obtain ⟨x,i,d',g1,g2,g3,g4,g5⟩:=h.par y ((h.known y).2 ⟨d + 1,hd,hr⟩) hne
   have hd':d' = d:=by
     have h1:R e m first (d' + 1) y:=(R_succ d' y).2 ⟨x,g4,i,g2,g3⟩
     have h2:¬ d' + 1 < d + 1:=fun hl=>hmin _ hl h1
     have h3:¬ d + 1 < d' + 1:=fun hl=>g5 _ hl hr
     omega
   subst hd'
   obtain ⟨ws,w1,w2,w3⟩:=h.back d' x (by omega) g4 fun c hc hrx=>hmin (c + 1) (by omega) ((R_succ c y).2 ⟨x,hrx,i,g2,g3⟩)
   refine ⟨i :: ws,.cons hne g1 w1,by simp [w2],?_⟩
   rw [List.reverse_cons,run_snoc,w3]
   simp [g2,g3]
theorem LInv.all {j:Nat} {H:α→Option (α×Nat)} (h:LInv e m first j H []):∀ (d:Nat) (y:α),R e m first d y→∃ d',d' < j∧R e m first d' y:=by
 have lt:∀ d y,d ≤ j→R e m first d y→∃ d',d' < j∧R e m first d' y:=by
   intro d y hd hr
   by_cases hdj:d < j
   · exact ⟨d,hdj,hr⟩
   · obtain rfl:d = j:=by omega
     by_cases hex:∃ d',d' < d∧R e m first d' y
     · exact hex
     · have:=(h.level y).2 ⟨hr,fun d' hd' hr'=>hex ⟨d',hd',hr'⟩⟩
       simp at this
 intro d
 induction d with
 | zero=>intro y hr;exact lt 0 y (by omega) hr
 | succ d ih =>
   intro y hr
   obtain ⟨x,hx,i,hi,he⟩:=(R_succ d y).1 hr
   obtain ⟨d',hd',hr'⟩:=ih x hx
   exact lt (d' + 1) y (by omega) ((R_succ d' y).2 ⟨x,hr',i,hi,he⟩)
end Go.Pv.Bfs
namespace Go.Pv
def nx (x:MM) (s i:Int):Int:=(x.1.getD s.toNat []).getD i.toNat 0
def ou (x:MM) (s i:Int):Int:=(x.2.1.getD s.toNat []).getD i.toNat 0
def sayL (x:MM):Int→List Int→List Int×Int
 | s,[]=>([],s)
 | s,i :: w=>(ou x s i :: (sayL x (nx x s i) w).1,(sayL x (nx x s i) w).2)
theorem sayL_len (x:MM):∀ (s:Int) (w:List Int),(sayL x s w).1.length = w.length
 | s,[]=>rfl
 | s,i :: w=>by simp [sayL,sayL_len x _ w]
def InW (k:Nat) (w:List Int):Prop:=∀ i ∈ w,0 ≤ i∧i < (k:Int)
theorem Pm.step {x:MM} {k:Nat} (h:Pm x k) {s i:Int} (s0:0 ≤ s) (s1:s < (x.1.length:Int)) (i0:0 ≤ i) (i1:i < (k:Int)) :
   idx s x.1.length∧idx s x.2.1.length∧idx i (x.1.getD s.toNat []).length∧idx i (x.2.1.getD s.toNat []).length∧(0 ≤ nx x s i∧nx x s i < (x.1.length:Int))∧0 ≤ ou x s i∧ou x s i ≤ 3:=by
 obtain ⟨a1,a2⟩:=h.rowN _ (getD_mem (l:=x.1) (i:=s.toNat) (by omega) [])
 obtain ⟨b1,b2⟩:=h.rowO _ (getD_mem (l:=x.2.1) (i:=s.toNat) (by rw [h.out];omega) [])
 have ho:=h.out
 exact ⟨⟨s0,s1⟩,⟨s0,by rw [ho];exact s1⟩,⟨i0,by rw [a1];exact i1⟩,⟨i0,by rw [b1];exact i1⟩,a2 _ (getD_mem (by omega) 0),b2 _ (getD_mem (by omega) 0)⟩
theorem Pm.end_in {x:MM} {k:Nat} (h:Pm x k):∀ (w:List Int) (s:Int),0 ≤ s→s < (x.1.length:Int)→InW k w→0 ≤ (sayL x s w).2∧(sayL x s w).2 < (x.1.length:Int)
 | [],s,h0,h1,_=>⟨h0,h1⟩
 | i :: w,s,h0,h1,hw=>by
   obtain ⟨i0,i1⟩:=hw i List.mem_cons_self
   obtain ⟨_,_,_,_,n,_⟩:=h.step h0 h1 i0 i1
   exact h.end_in w _ n.1 n.2 fun j hj=>hw j (List.mem_cons_of_mem _ hj)
theorem open_checks (N:Nat) (hN:20 < N) {C:Type} (k0:List MM→Int→List (List Int)→Int→Option C) (k1:List MM→Int→List (List Int)→Option C) (l:List MM) (s:Int) (ws:List (List Int)) (hl:l.length ≤ 10) (hp:∀ m ∈ l,∃ k,Pm m k) :
   ∀ (F i:Nat),l.length - i < F→i ≤ l.length→g62L26f N F k0 k1 l s ws l (l.length:Int) (i:Int) = k1 l s ws
 | 0,i,hF,_=>by omega
 | F + 1,i,hF,hi=>by
   rw [g62L26f_succ]
   unfold g62L26B
   by_cases hlt:i < l.length
   · obtain ⟨k,hk⟩:=hp _ (getD_mem hlt (([]:List (List Int)),([]:List (List Int)),()))
     rw [ltT hlt,cond_true,if_pos (idxT hlt),Int.toNat_natCast,hk.check N hN]
     simp only [Option.bind_some,ieq_self,Bool.not_true,cond_false]
     rw [wn i (by omega)]
     exact open_checks N hN k0 k1 l s ws hl hp F (i + 1) (by omega) (by omega)
   · rw [ltF hlt,cond_false]
theorem open_checks0 (N:Nat) (hN:20 < N) {C:Type} (k0:List MM→Int→List (List Int)→Int→Option C) (k1:List MM→Int→List (List Int)→Option C) (l:List MM) (s:Int) (ws:List (List Int)) (hl:l.length ≤ 10) (hp:∀ m ∈ l,∃ k,Pm m k):g62L26f N N k0 k1 l s ws l (l.length:Int) 0 = k1 l s ws :=
 open_checks N hN k0 k1 l s ws hl hp N 0 (by omega) (by omega)
theorem open_inputs (N:Nat) {C:Type} (k0:List MM→Int→List (List Int)→Int→Option C) (k1:List MM→Int→List (List Int)→Option C) (l:List MM) (k:Nat) (s:Int) (ws:List (List Int)) (hl:l.length ≤ 10) (h1:1 ≤ l.length) (h0:g85 N (l.getD 0 ([],[],())) = some (k:Int))
   (K:MM→Int) (hK:∀ m ∈ l,g85 N m = some (K m)) :
   ∀ (F i:Nat),l.length - i < F→i ≤ l.length→g62L58f N F k0 k1 l s ws l (l.length:Int) (i:Int) = bif (l.drop i).all (fun m=>ieq (K m) (k:Int)) then k1 l s ws else k0 l s ws 1
 | 0,i,hF,_=>by omega
 | F + 1,i,hF,hi=>by
   rw [g62L58f_succ]
   unfold g62L58B
   by_cases hlt:i < l.length
   · rw [ltT hlt,cond_true,if_pos (idxT hlt),Int.toNat_natCast,hK _ (getD_mem hlt _)]
     simp only [Option.bind_some]
     rw [if_pos ⟨by omega,by omega⟩]
     simp only [show Int.toNat 0 = 0 from rfl]
     rw [h0]
     simp only [Option.bind_some]
     rw [getD_drop l i (([]:List (List Int)),([]:List (List Int)),()) hlt,List.all_cons]
     cases hq:ieq (K (l.getD i (([]:List (List Int)),([]:List (List Int)),()))) (k:Int) with
     | false=>simp
     | true =>
       simp only [Bool.not_true,cond_false,Bool.true_and]
       rw [wn i (by omega)]
       exact open_inputs N k0 k1 l k s ws hl h1 h0 K hK F (i + 1) (by omega) (by omega)
   · rw [ltF hlt,cond_false,List.drop_eq_nil_of_le (by omega)];rfl
theorem open_inputs0 (N:Nat) (hN:20 < N) {C:Type} (k0:List MM→Int→List (List Int)→Int→Option C) (k1:List MM→Int→List (List Int)→Option C) (l:List MM) (k:Nat) (s:Int) (ws:List (List Int)) (hl:l.length ≤ 10) (h1:1 ≤ l.length) (h0:g85 N (l.getD 0 ([],[],())) = some (k:Int))
   (K:MM→Int) (hK:∀ m ∈ l,g85 N m = some (K m)):g62L58f N N k0 k1 l s ws l (l.length:Int) 0 = bif l.all (fun m=>ieq (K m) (k:Int)) then k1 l s ws else k0 l s ws 1:=by
 have:=open_inputs N k0 k1 l k s ws hl h1 h0 K hK N 0 (by omega) (by omega)
 simpa using this
def wordB (k:Nat) (w:List Int):Bool:=decide (w.length ≤ 100) && w.all fun x=>decide (0 ≤ x) && decide (x ≤ (k:Int) - 1)
theorem open_words (N:Nat) (hN:1000 < N) {C:Type} (k0:Int→Option C) (k1:Option C) (l:List MM) (k:Nat) (hk:k ≤ 3) (h1:1 ≤ l.length) (h0:g85 N (l.getD 0 ([],[],())) = some (k:Int)) (ws:List (List Int)) (hw:ws.length ≤ 1000) :
   ∀ (F i:Nat),ws.length - i < F→i ≤ ws.length→g62L250f N F k0 k1 l ws (ws.length:Int) (i:Int) = bif (ws.drop i).all (wordB k) then k1 else k0 1
 | 0,i,hF,_=>by omega
 | F + 1,i,hF,hi=>by
   rw [g62L250f_succ]
   unfold g62L250B
   by_cases hlt:i < ws.length
   · rw [ltT hlt,cond_true,if_pos (idxT hlt),Int.toNat_natCast,getD_drop ws i [] hlt,List.all_cons]
     by_cases h100:(ws.getD i []).length ≤ 100
     · have e1:decide ((100:Int) < ((ws.getD i []).length:Int)) = false:=decide_eq_false (by omega)
       rw [e1,cond_false,if_pos ⟨by omega,by omega⟩]
       simp only [show Int.toNat 0 = 0 from rfl]
       rw [h0]
       simp only [Option.bind_some]
       rw [w64 (by omega) (by omega),are_eq N _ _ _ (by omega) (by omega)]
       simp only [Option.bind_some]
       have e2:wordB k (ws.getD i []) = (ws.getD i []).all fun x=>decide (0 ≤ x) && decide (x ≤ (k:Int) - 1):=by
         unfold wordB
         rw [decide_eq_true h100,Bool.true_and]
       rw [e2]
       cases hq:(ws.getD i []).all fun x=>decide (0 ≤ x) && decide (x ≤ (k:Int) - 1) with
       | false=>simp
       | true =>
         simp only [Bool.not_true,cond_false,Bool.true_and]
         rw [wn i (by omega)]
         exact open_words N hN k0 k1 l k hk h1 h0 ws hw F (i + 1) (by omega) (by omega)
     · have e1:decide ((100:Int) < ((ws.getD i []).length:Int)) = true:=decide_eq_true (by omega)
       have e2:wordB k (ws.getD i []) = false:=by
         unfold wordB
         rw [decide_eq_false h100,Bool.false_and]
       rw [e1,cond_true,e2];simp
   · rw [ltF hlt,cond_false,List.drop_eq_nil_of_le (by omega)];rfl
theorem open_words0 (N:Nat) (hN:1000 < N) {C:Type} (k0:Int→Option C) (k1:Option C) (l:List MM) (k:Nat) (hk:k ≤ 3) (h1:1 ≤ l.length) (h0:g85 N (l.getD 0 ([],[],())) = some (k:Int)) (ws:List (List Int)) (hw:ws.length ≤ 1000) :
   g62L250f N N k0 k1 l ws (ws.length:Int) 0 = bif ws.all (wordB k) then k1 else k0 1:=by
 have:=open_words N hN k0 k1 l k hk h1 h0 ws hw N 0 (by omega) (by omega)
 simpa using this
theorem open_eq (N:Nat) (hN:1000 < N) (l:List MM) (k:Nat) (s:Int) (ws:List (List Int)) (hl:l.length ≤ 10) (h1:1 ≤ l.length) (hp:∀ m ∈ l,Pm m k) (s0:0 ≤ s) (s1:s < ((l.getD 0 ([],[],())).1.length:Int)) (hw:ws.length ≤ 1000) :
   g62 N l s ws = some (bif ws.all (wordB k) then 0 else 1):=by
 have hm:=getD_mem (l:=l) (i:=0) (by omega) (([]:List (List Int)),([]:List (List Int)),())
 have h0:=(hp _ hm).inputs N
 have hk:=(hp _ hm).k3
 have hn:=(hp _ hm).n6
 unfold g62
 rw [g62L26_eq,open_checks0 N (by omega) _ _ l s ws hl (fun m h=>⟨k,hp m h⟩)]
 rw [g62L58_eq,open_inputs0 N (by omega) _ _ l k s ws hl h1 h0 (fun _=>(k:Int)) (fun m h=>(hp m h).inputs N)]
 simp only [ieq_self,List.all_eq_true,implies_true,show l.all (fun m=>true) = true from by simp,cond_true]
 rw [if_pos ⟨by omega,by omega⟩]
 have e1:g76 N (l.getD (Int.toNat 0) ([],[],())) = some ((l.getD 0 ([],[],())).1.length:Int):=rfl
 rw [e1]
 simp only [Option.bind_some]
 rw [w64 (by omega) (by omega),are_true N _ _ [s] (by simp;omega) (by simp) (fun t ht=>by obtain rfl:=List.mem_singleton.1 ht;omega)]
 simp only [Option.bind_some,Bool.not_true,cond_false]
 rw [g62L250_eq,open_words0 N hN _ _ l k hk h1 h0 ws hw]
 cases ws.all (wordB k) <;> rfl
end Go.Pv
namespace Go.Pv
theorem drop_eq_cons {a b:List Int} {i:Nat} (ha:i < a.length) (hb:i < b.length):(a.drop i = b.drop i) ↔ a.getD i 0 = b.getD i 0∧a.drop (i + 1) = b.drop (i + 1):=by
 rw [getD_drop a i 0 ha,getD_drop b i 0 hb,List.cons.injEq]
end Go.Pv
namespace Go.Pv
def allN:Nat→Nat→(Nat→Bool)→Bool
 | 0,_,_=>true
 | m + 1,i,f=>f i && allN m (i + 1) f
theorem allN_step {n i:Nat} (h:i < n) (f:Nat→Bool):allN (n - i) i f = (f i && allN (n - (i + 1)) (i + 1) f):=by
 rw [show n - i = (n - (i + 1)) + 1 by omega];rfl
theorem allN_end {n i:Nat} (h:¬ i < n) (f:Nat→Bool):allN (n - i) i f = true:=by
 rw [show n - i = 0 by omega];rfl
theorem allN_iff:∀ (m i:Nat) (f:Nat→Bool),allN m i f = true ↔ ∀ j,i ≤ j→j < i + m→f j = true
 | 0,i,f=>⟨fun _ j h1 h2=>by omega,fun _=>rfl⟩
 | m + 1,i,f=>by
   simp only [allN,Bool.and_eq_true,allN_iff m (i + 1) f]
   constructor
   · rintro ⟨h1,h2⟩ j h3 h4
     by_cases hj:j = i
     · rw [hj];exact h1
     · exact h2 j (by omega) (by omega)
   · intro h
     exact ⟨h i (by omega) (by omega),fun j h1 h2=>h j (by omega) (by omega)⟩
theorem allN_congr {m i:Nat} {f g:Nat→Bool} (h:∀ j,i ≤ j→j < i + m→f j = g j):allN m i f = allN m i g:=by
 rw [Bool.eq_iff_iff,allN_iff,allN_iff]
 exact forall_congr' fun j=>forall_congr' fun h1=>forall_congr' fun h2=>by rw [h j h1 h2]
abbrev KT:Ty:=.pair (.int .i64) (.pair (.int .i64) .unit)
theorem beqK (a b:Int×Int×Unit):Ty.beq KT a b = decide (a = b):=by
 obtain ⟨a1,a2,a3⟩:=a
 obtain ⟨b1,b2,b3⟩:=b
 simp only [Ty.beq,ieq,Bool.and_true,Prod.mk.injEq]
 by_cases h1:a1 = b1 <;> by_cases h2:a2 = b2 <;> simp [h1,h2]
theorem find_put_self (k:Int×Int×Unit) (v:Int):∀ l:List ((Int×Int×Unit)×Int),mapFind (Ty.beq KT) k (mapPut (Ty.beq KT) k v l) = some v
 | []=>by simp [mapPut,mapFind,beqK]
 | q :: r=>by
   simp only [mapPut]
   cases h:Ty.beq KT k q.1 with
   | true=>simp [mapFind,beqK]
   | false=>simp only [Bool.false_eq_true,if_false,mapFind,h];exact find_put_self k v r
theorem find_put_other {k k':Int×Int×Unit} (v:Int) (hk:k' ≠ k):∀ l:List ((Int×Int×Unit)×Int),mapFind (Ty.beq KT) k' (mapPut (Ty.beq KT) k v l) = mapFind (Ty.beq KT) k' l
 | []=>by simp [mapPut,mapFind,beqK,hk]
 | q :: r=>by
   simp only [mapPut]
   cases h:Ty.beq KT k q.1 with
   | true =>
     rw [beqK,decide_eq_true_eq] at h
     subst h
     simp [mapFind,beqK,hk]
   | false=>simp only [Bool.false_eq_true,if_false,mapFind];rw [find_put_other v hk r]
theorem sayL_snoc (x:MM) (a:Int):∀ (w:List Int) (s:Int),sayL x s (w ++ [a]) = ((sayL x s w).1 ++ [ou x (sayL x s w).2 a],nx x (sayL x s w).2 a)
 | [],s=>rfl
 | i :: w,s=>by
   show (ou x s i :: (sayL x (nx x s i) (w ++ [a])).1,(sayL x (nx x s i) (w ++ [a])).2) = _
   rw [sayL_snoc x a w (nx x s i)]
   rfl
abbrev GG:=List Int×List Int×Unit
structure Gr (x:MM) (w:List Int) (g:GG):Prop where
 l1:g.1.length = 6
 l2:g.2.1.length = 6
 now:∀ s:Nat,s < x.1.length→g.2.1.getD s 0 = (sayL x (s:Int) w).2
 grp:∀ s t:Nat,s < x.1.length→t < x.1.length→(g.1.getD s 0 = g.1.getD t 0 ↔ (sayL x (s:Int) w).1 = (sayL x (t:Int) w).1)
theorem getD_set (l:List Int) (i j:Nat) (v:Int) (hi:i < l.length):(l.set i v).getD j 0 = if j = i then v else l.getD j 0:=by
 rw [List.getD_eq_getElem?_getD,List.getD_eq_getElem?_getD,List.getElem?_set]
 by_cases h:i = j
 · subst h;simp [hi]
 · rw [if_neg h,if_neg (fun e=>h e.symm)]
def kyOf (x:MM) (g:GG) (a:Int) (s:Nat):Int×Int×Unit:=(g.1.getD s 0,ou x (g.2.1.getD s 0) a,())
end Go.Pv
namespace Go.Pv
open Bfs
theorem find_put {α β:Type} [DecidableEq α] (eq:α→α→Bool) (he:∀ a b,eq a b = decide (a = b)) (k:α) (v:β) (k':α):∀ l:List (α×β),mapFind eq k' (mapPut eq k v l) = if k' = k then some v else mapFind eq k' l
 | []=>by
   simp only [mapPut,mapFind,he,decide_eq_true_eq]
 | q :: r=>by
   simp only [mapPut,he,decide_eq_true_eq]
   by_cases h:k = q.1
   · rw [if_pos h]
     simp only [mapFind,he,decide_eq_true_eq]
     by_cases h2:k' = k
     · rw [if_pos h2,if_pos h2]
     · rw [if_neg h2,if_neg h2,if_neg (by rw [← h];exact h2)]
   · rw [if_neg h]
     simp only [mapFind,he,decide_eq_true_eq]
     by_cases h2:k' = q.1
     · rw [if_pos h2,if_pos h2,if_neg (by rw [h2];exact fun h3=>h h3.symm)]
     · rw [if_neg h2,if_neg h2,find_put eq he k v k' r]
abbrev TT:=(Int×Int×Unit)×Bool×Unit
abbrev tTT:Ty:=.pair (.pair (.int .i64) (.pair (.int .i64) .unit)) (.pair .bool .unit)
theorem beqT (a b:TT):Ty.beq tTT a b = decide (a = b):=by
 obtain ⟨⟨a1,a2,a3⟩,a4,a5⟩:=a
 obtain ⟨⟨b1,b2,b3⟩,b4,b5⟩:=b
 simp only [Ty.beq,ieq,beqB,Bool.and_true,Prod.mk.injEq]
 by_cases h1:a1 = b1 <;> by_cases h2:a2 = b2 <;> cases a4 <;> cases b4 <;> simp [h1,h2]
abbrev How:=List (TT×TT×Int×Unit)
def eP (a b:MM) (x:TT) (i:Nat):Option TT:=if x.2.1 = true then none else some ((nx a x.1.1 i,nx b x.1.2.1 i,()),!ieq (ou a x.1.1 i) (ou b x.1.2.1 i),())
def VP (a b:MM) (x:TT):Prop:=(0 ≤ x.1.1∧x.1.1 < (a.1.length:Int))∧0 ≤ x.1.2.1∧x.1.2.1 < (b.1.length:Int)
theorem VP.step {a b:MM} {k:Nat} (ha:Pm a k) (hb:Pm b k) {x y:TT} (hx:VP a b x) {i:Nat} (hi:i < k) (h:eP a b x i = some y):VP a b y:=by
 unfold eP at h
 split at h
 · cases h
 · obtain rfl:=Option.some.inj h
   obtain ⟨_,_,_,_,n1,_⟩:=ha.step hx.1.1 hx.1.2 (i:=(i:Int)) (by omega) (by omega)
   obtain ⟨_,_,_,_,n2,_⟩:=hb.step hx.2.1 hx.2.2 (i:=(i:Int)) (by omega) (by omega)
   exact ⟨n1,n2⟩
def NN (how:How):Prop:=∀ y v,mapFind (Ty.beq tTT) y how = some v→0 ≤ v.2.1
theorem NN.put {how:How} (h:NN how) (y x:TT) (i:Nat):NN (mapPut (Ty.beq tTT) y (x,(i:Int),()) how):=by
 intro z v hv
 rw [find_put _ beqT] at hv
 split at hv
 · obtain rfl:=Option.some.inj hv
   show (0:Int) ≤ (i:Int)
   omega
 · exact h z v hv
end Go.Pv
namespace Go.Pv
open Bfs
theorem nodup_len {α:Type} [DecidableEq α]:∀ {L M:List α},L.Nodup→(∀ d ∈ L,d ∈ M)→L.length ≤ M.length
 | [],_,_,_=>by simp
 | a :: L,M,h,hm=>by
   have h1:=List.nodup_cons.1 h
   have hmem:a ∈ M:=hm a List.mem_cons_self
   have ih:=nodup_len (L:=L) (M:=M.erase a) h1.2 (fun d hd=>by
     have hne:d ≠ a:=fun he=>h1.1 (he ▸ hd)
     exact (List.mem_erase_of_ne hne).2 (hm d (List.mem_cons_of_mem _ hd)))
   have:=List.length_erase_of_mem hmem
   have hpos:0 < M.length:=List.length_pos_of_mem hmem
   simp only [List.length_cons]
   omega
def univ:List TT:=[0,1,2,3,4,5].flatMap fun s=>[0,1,2,3,4,5].flatMap fun t=>[((s,t,()),false,()),((s,t,()),true,())]
theorem six (s:Int) (h0:0 ≤ s) (h6:s < 6):s ∈ [(0:Int),1,2,3,4,5]:=by
 simp only [List.mem_cons,List.not_mem_nil,or_false];omega
theorem VP.univ {a b:MM} {k:Nat} (ha:Pm a k) (hb:Pm b k) {x:TT} (hx:VP a b x):x ∈ Go.Pv.univ:=by
 have h1:=ha.n6
 have h2:=hb.n6
 obtain ⟨⟨s,t,u⟩,o,v⟩:=x
 unfold Go.Pv.univ
 rw [List.mem_flatMap]
 refine ⟨s,six s hx.1.1 (by have:=hx.1.2;simp only at this;omega),?_⟩
 rw [List.mem_flatMap]
 refine ⟨t,six t hx.2.1 (by have:=hx.2.2;simp only at this;omega),?_⟩
 cases o <;> simp
def sw (p:List Int) (i:Nat):List Int:=p.mapIdx fun q v=>if q < i ∨ p.length - i ≤ q then p.getD (p.length - 1 - q) 0 else v
theorem sw_len (p:List Int) (i:Nat):(sw p i).length = p.length:=by simp [sw]
theorem sw_get (p:List Int) (i q:Nat) (hq:q < p.length):(sw p i).getD q 0 = if q < i ∨ p.length - i ≤ q then p.getD (p.length - 1 - q) 0 else p.getD q 0:=by
 unfold sw
 rw [List.getD_eq_getElem?_getD,List.getElem?_mapIdx,List.getElem?_eq_getElem hq]
 simp [hq]
theorem ext_getD {l m:List Int} (h:l.length = m.length) (hg:∀ q,q < l.length→l.getD q 0 = m.getD q 0):l = m:=by
 apply List.ext_getElem h
 intro q h1 h2
 have:=hg q h1
 rw [List.getD_eq_getElem?_getD,List.getD_eq_getElem?_getD,List.getElem?_eq_getElem h1,List.getElem?_eq_getElem h2] at this
 exact this
theorem sw_zero (p:List Int):sw p 0 = p:=ext_getD (sw_len p 0) fun q hq=>by
 rw [sw_len] at hq
 rw [sw_get p 0 q hq,if_neg (by omega)]
theorem sw_end (p:List Int) (i:Nat) (h:p.length ≤ 2 * i + 1):sw p i = p.reverse:=by
 refine ext_getD (by rw [sw_len,List.length_reverse]) fun q hq=>?_
 rw [sw_len] at hq
 have hr:p.reverse.getD q 0 = p.getD (p.length - 1 - q) 0:=by
   rw [List.getD_eq_getElem?_getD,List.getD_eq_getElem?_getD,List.getElem?_reverse hq]
 rw [sw_get p i q hq,hr]
 split
 · rfl
 · congr 1;omega
theorem sw_step (p:List Int) (i:Nat) (h:2 * i + 1 < p.length):((sw p i).set i ((sw p i).getD (p.length - 1 - i) 0)).set (p.length - 1 - i) ((sw p i).getD i 0) = sw p (i + 1):=by
 refine ext_getD (by simp [sw_len]) fun q hq=>?_
 simp only [List.length_set,sw_len] at hq
 rw [getD_set _ _ _ _ (by simp [sw_len];omega),getD_set _ _ _ _ (by rw [sw_len];omega),sw_get p (i + 1) q hq,sw_get p i i (by omega),sw_get p i (p.length - 1 - i) (by omega),sw_get p i q hq]
 rw [if_neg (show ¬ (i < i ∨ p.length - i ≤ i) by omega),if_neg (show ¬ (p.length - 1 - i < i ∨ p.length - i ≤ p.length - 1 - i) by omega)]
 by_cases h1:q = p.length - 1 - i
 · rw [if_pos h1,if_pos (by omega)];congr 1;omega
 · rw [if_neg h1]
   by_cases h2:q = i
   · rw [if_pos h2,if_pos (by omega)];congr 1;omega
   · rw [if_neg h2]
     by_cases h3:q < i ∨ p.length - i ≤ q
     · rw [if_pos h3,if_pos (by omega)]
     · rw [if_neg h3,if_neg (by omega)]
end Go.Pv
namespace Go.Pv
open Bfs
def Never (a b:MM) (k:Nat) (first:TT):Prop:=∀ d z,R (eP a b) k first d z→z.2.1 = false
end Go.Pv
namespace Go.Pv
open Bfs
abbrev wd (ws:List Nat):List Int:=ws.map fun i:Nat=>(i:Int)
def Diff (a b:MM) (s t:Int) (w:List Int):Prop:=(sayL a s w).1 ≠ (sayL b t w).1
theorem run_same (a b:MM) (k:Nat):∀ (ws:List Nat) (s t:Int),(∀ i ∈ ws,i < k)→¬ Diff a b s t (wd ws)→run (eP a b) k ((s,t,()),false,()) ws = some (((sayL a s (wd ws)).2,(sayL b t (wd ws)).2,()),false,())
 | [],s,t,_,_=>rfl
 | i :: ws,s,t,hi,hn=>by
   have hik:=hi i List.mem_cons_self
   have hn:¬ ((sayL a s (wd (i :: ws))).1 ≠ (sayL b t (wd (i :: ws))).1):=hn
   have hcons:(ou a s i :: (sayL a (nx a s i) (wd ws)).1) = (ou b t i :: (sayL b (nx b t i) (wd ws)).1):=Classical.not_not.1 hn
   obtain ⟨h1,h2⟩:=List.cons.inj hcons
   have he:eP a b ((s,t,()),false,()) i = some ((nx a s i,nx b t i,()),false,()):=by
     unfold eP
     simp only [Bool.false_eq_true,if_false]
     rw [show ieq (ou a s (i:Int)) (ou b t (i:Int)) = true from decide_eq_true h1]
     rfl
   show (if i < k then (eP a b ((s,t,()),false,()) i).bind fun y=>run (eP a b) k y ws else none) = _
   rw [if_pos hik,he]
   exact run_same a b k ws (nx a s i) (nx b t i) (fun j hj=>hi j (List.mem_cons_of_mem _ hj)) (fun hd=>hd h2)
theorem run_apart (a b:MM) (k:Nat):∀ (ws:List Nat) (s t:Int) (y:TT),run (eP a b) k ((s,t,()),false,()) ws = some y→(y.2.1 = true ↔ Diff a b s t (wd ws))
 | [],s,t,y,h=>by
   obtain rfl:=Option.some.inj h
   exact ⟨fun h=>(by cases h),fun h=>absurd rfl h⟩
 | i :: ws,s,t,y,h=>by
   have h:(if i < k then (eP a b ((s,t,()),false,()) i).bind fun z=>run (eP a b) k z ws else none) = some y:=h
   split at h
   · have hD:Diff a b s t (wd (i :: ws)) ↔ ou a s i ≠ ou b t i ∨ Diff a b (nx a s i) (nx b t i) (wd ws):=by
       show (ou a s i :: (sayL a (nx a s i) (wd ws)).1) ≠ (ou b t i :: (sayL b (nx b t i) (wd ws)).1) ↔ _
       rw [Ne,List.cons.injEq]
       unfold Diff
       by_cases h1:ou a s (i:Int) = ou b t (i:Int) <;> simp [h1]
     rw [hD]
     unfold eP at h
     simp only [Bool.false_eq_true,if_false,Option.bind_some] at h
     by_cases h1:ou a s (i:Int) = ou b t (i:Int)
     · rw [show ieq (ou a s (i:Int)) (ou b t (i:Int)) = true from decide_eq_true h1] at h
       have:=run_apart a b k ws (nx a s i) (nx b t i) y h
       rw [this]
       simp [h1]
     · rw [show ieq (ou a s (i:Int)) (ou b t (i:Int)) = false from decide_eq_false h1] at h
       have:ws = []:=by
         cases ws with
         | nil=>rfl
         | cons j ws =>
           have h:(if j < k then (eP a b ((nx a s i,nx b t i,()),true,()) j).bind fun z=>run (eP a b) k z ws else none) = some y:=h
           split at h
           · simp [eP] at h
           · cases h
       subst this
       obtain rfl:=Option.some.inj h
       exact ⟨fun _=>.inl h1,fun _=>rfl⟩
   · cases h
theorem Never.none {a b:MM} {k:Nat} {s t:Int} (h:Never a b k ((s,t,()),false,())):∀ vs:List Nat,(∀ i ∈ vs,i < k)→¬ Diff a b s t (wd vs):=by
 intro vs
 induction hn:vs.length using Nat.strongRecOn generalizing vs with
 | ind n ih =>
   intro hv hd
   rcases List.eq_nil_or_concat vs with rfl | ⟨us,i,rfl⟩
   · exact hd rfl
   · have hul:us.length < n:=by rw [← hn];simp
     have hus:∀ j ∈ us,j < k:=fun j hj=>hv j (by simp [hj])
     have hnd:¬ Diff a b s t (wd us):=ih us.length hul us rfl hus
     have hr:=run_same a b k us s t hus hnd
     have hi:i < k:=hv i (by simp)
     have hrun:∃ z,run (eP a b) k ((s,t,()),false,()) (us ++ [i]) = some z:=by
       rw [run_snoc,hr]
       simp [hi,eP]
     obtain ⟨z,hz⟩:=hrun
     have hzt:=(run_apart a b k (us ++ [i]) s t z hz).2 (by simpa using hd)
     have:=h (us ++ [i]).length z ⟨us ++ [i],rfl,hz⟩
     rw [hzt] at this
     cases this
end Go.Pv
namespace Go.Pv
def sd (x:MM) (w:List Int) (s:Nat):List Int:=(sayL x (s:Int) w).1
def en (x:MM) (w:List Int) (s:Nat):Int:=(sayL x (s:Int) w).2
theorem end_inner (N:Nat) {C:Type} (k0:Bool→Int→Int→GG→Option C) (k1:Int→Int→GG→Option C) (g:GG) (n s:Nat) (hs:s < n) (hn:n ≤ 6) :
   ∀ (F i:Nat),s - i < F→i ≤ s→g65L6758f N F k0 k1 (s:Int) (n:Int) (s:Int) (s:Int) (i:Int) g =
     bif allN (s - i) i (fun t=>!(decide (g.1.getD s 0 = g.1.getD t 0) && !decide (g.2.1.getD s 0 = g.2.1.getD t 0))) then k1 (n:Int) (s:Int) g else k0 false (n:Int) (s:Int) g
 | 0,i,hF,_=>by omega
 | F + 1,i,hF,hi=>by
   rw [g65L6758f_succ]
   unfold g65L6758B
   by_cases hlt:i < s
   · have s6:idx (s:Int) 6:=⟨by omega,by omega⟩
     have i6:idx (i:Int) 6:=⟨by omega,by omega⟩
     rw [ltT hlt,cond_true,if_pos s6,if_pos i6,if_pos s6,if_pos i6,Int.toNat_natCast,Int.toNat_natCast,wn i (by omega),allN_step hlt]
     by_cases h1:g.1.getD s 0 = g.1.getD i 0
     · rw [show ieq (g.1.getD s 0) (g.1.getD i 0) = true from decide_eq_true h1,cond_true,decide_eq_true h1,Bool.true_and]
       by_cases h2:g.2.1.getD s 0 = g.2.1.getD i 0
       · rw [show ieq (g.2.1.getD s 0) (g.2.1.getD i 0) = true from decide_eq_true h2,decide_eq_true h2]
         simp only [Bool.not_true,Bool.not_false,cond_false,Bool.true_and]
         exact end_inner N k0 k1 g n s hs hn F (i + 1) (by omega) (by omega)
       · rw [show ieq (g.2.1.getD s 0) (g.2.1.getD i 0) = false from decide_eq_false h2,decide_eq_false h2]
         rfl
     · rw [show ieq (g.1.getD s 0) (g.1.getD i 0) = false from decide_eq_false h1,cond_false,decide_eq_false h1]
       simp only [Bool.false_and,Bool.not_false,Bool.true_and]
       exact end_inner N k0 k1 g n s hs hn F (i + 1) (by omega) (by omega)
   · rw [ltF hlt,cond_false,allN_end hlt];rfl
theorem end_outer (N:Nat) (hN:10 < N) {C:Type} (k0:Bool→GG→Option C) (k1:GG→Option C) (g:GG) (n:Nat) (hn:n ≤ 6) :
   ∀ (F i:Nat),n - i < F→i ≤ n→g65L26f N F k0 k1 (n:Int) (i:Int) g =
     bif allN (n - i) i (fun s=>allN s 0 (fun t=>!(decide (g.1.getD s 0 = g.1.getD t 0) && !decide (g.2.1.getD s 0 = g.2.1.getD t 0)))) then k1 g else k0 false g
 | 0,i,hF,_=>by omega
 | F + 1,i,hF,hi=>by
   rw [g65L26f_succ]
   unfold g65L26B
   by_cases hlt:i < n
   · rw [ltT hlt,cond_true,g65L6758_eq]
     have e:=end_inner N (fun e2 e3 e4 e5=>k0 e2 e5) (fun e6 e7 e8=>g65L26f N F k0 k1 e6 (IntKind.wrap .i64 (e7 + 1)) e8) g n i hlt hn N 0 (by omega) (by omega)
     simp only [Int.natCast_zero,Nat.sub_zero] at e
     rw [allN_step hlt]
     refine Eq.trans e ?_
     cases allN i 0 (fun t=>!(decide (g.1.getD i 0 = g.1.getD t 0) && !decide (g.2.1.getD i 0 = g.2.1.getD t 0))) with
     | false=>rfl
     | true =>
       rw [cond_true,Bool.true_and,wn i (by omega)]
       exact end_outer N hN k0 k1 g n hn F (i + 1) (by omega) (by omega)
   · rw [ltF hlt,cond_false,allN_end hlt];rfl
theorem Pm.tellsEnd {x:MM} {k:Nat} (h:Pm x k) (N:Nat) (hN:10 < N) (g:GG):g65 N x g = some (allN x.1.length 0 (fun s=>allN s 0 (fun t=>!(decide (g.1.getD s 0 = g.1.getD t 0) && !decide (g.2.1.getD s 0 = g.2.1.getD t 0))))):=by
 have:=h.n6
 unfold g65
 have e:g76 N x = some (x.1.length:Int):=rfl
 rw [e]
 simp only [Option.bind_some]
 rw [g65L26_eq]
 have e:=end_outer N hN (fun e9 e10=>some e9) (fun e11=>some true) g x.1.length h.n6 N 0 (by omega) (by omega)
 simp only [Int.natCast_zero,Nat.sub_zero] at e
 rw [e]
 cases allN x.1.length 0 (fun s=>allN s 0 (fun t=>!(decide (g.1.getD s 0 = g.1.getD t 0) && !decide (g.2.1.getD s 0 = g.2.1.getD t 0)))) <;> rfl
theorem index_loop (N:Nat) {C:Type} (k0:Int→Option C) (k1:Option C) (l:List Int) (v:Int) (hl:l.length ≤ 1000) :
   ∀ (F i:Nat),l.length - i < F→i ≤ l.length→(v ∈ l.drop i∧∃ j:Nat,g115L26f N F k0 k1 l v (l.length:Int) (i:Int) = k0 j) ∨ (v ∉ l.drop i∧g115L26f N F k0 k1 l v (l.length:Int) (i:Int) = k1)
 | 0,i,hF,_=>by omega
 | F + 1,i,hF,hi=>by
   rw [g115L26f_succ]
   unfold g115L26B
   by_cases hlt:i < l.length
   · rw [ltT hlt,cond_true,if_pos (idxT hlt),Int.toNat_natCast,wn i (by omega),getD_drop l i 0 hlt]
     by_cases hv:v = l.getD i 0
     · rw [show ieq v (l.getD i 0) = true from decide_eq_true hv]
       exact .inl ⟨by rw [hv];exact List.mem_cons_self,i,rfl⟩
     · rw [show ieq v (l.getD i 0) = false from decide_eq_false hv,cond_false]
       rcases index_loop N k0 k1 l v hl F (i + 1) (by omega) (by omega) with ⟨h1,h2⟩ | ⟨h1,h2⟩
       · exact .inl ⟨List.mem_cons_of_mem _ h1,h2⟩
       · exact .inr ⟨fun hm=>by
           rcases List.mem_cons.1 hm with hm | hm
           · exact hv hm
           · exact h1 hm,h2⟩
   · rw [ltF hlt,cond_false,List.drop_eq_nil_of_le (by omega)]
     exact .inr ⟨by simp,rfl⟩
theorem contains_eq (N:Nat) (hN:1000 < N) (l:List Int) (v:Int) (hl:l.length ≤ 1000):g95 N l v = some (decide (v ∈ l)):=by
 unfold g95 g115
 rw [g115L26_eq]
 rcases index_loop N (fun e1=>some e1) (some (-1)) l v hl N 0 (by omega) (by omega) with ⟨h1,j,h2⟩ | ⟨h1,h2⟩
 · simp only [Int.natCast_zero,List.drop_zero] at h1 h2
   rw [h2,decide_eq_true h1]
   simp
 · simp only [Int.natCast_zero,List.drop_zero] at h1 h2
   rw [h2,decide_eq_false h1]
   rfl
theorem begin_loop (N:Nat) (hN:1000 < N) {C:Type} (k0:Bool→Option C) (k1:Option C) (g:GG) (hg:g.1.length = 6) (n:Nat) (hn:n ≤ 6) :
   ∀ (F i:Nat),n - i < F→i ≤ n→g66L26f N F k0 k1 g (n:Int) (i:Int) = bif allN (n - i) i (fun s=>!decide (g.1.getD s 0 ∈ g.1.take s)) then k1 else k0 false
 | 0,i,hF,_=>by omega
 | F + 1,i,hF,hi=>by
   rw [g66L26f_succ]
   unfold g66L26B
   by_cases hlt:i < n
   · rw [ltT hlt,cond_true,if_pos ⟨by omega,by omega,by omega⟩,if_pos ⟨by omega,by omega⟩,Int.toNat_natCast,show Int.toNat 0 = 0 from rfl,List.drop_zero,contains_eq N hN _ _ (by simp;omega),wn i (by omega),allN_step hlt]
     simp only [Option.bind_some]
     cases decide (g.1.getD i 0 ∈ g.1.take i) with
     | true=>rfl
     | false =>
       simp only [cond_false,Bool.not_false,Bool.true_and]
       exact begin_loop N hN k0 k1 g hg n hn F (i + 1) (by omega) (by omega)
   · rw [ltF hlt,cond_false,allN_end hlt];rfl
theorem Pm.tellsBeginning {x:MM} {k:Nat} (h:Pm x k) (N:Nat) (hN:1000 < N) (g:GG) (hg:g.1.length = 6):g66 N x g = some (allN x.1.length 0 (fun s=>!decide (g.1.getD s 0 ∈ g.1.take s))):=by
 have:=h.n6
 unfold g66
 have e:g76 N x = some (x.1.length:Int):=rfl
 rw [e]
 simp only [Option.bind_some]
 rw [g66L26_eq]
 have e:=begin_loop N hN (fun e3=>some e3) (some true) g hg x.1.length h.n6 N 0 (by omega) (by omega)
 simp only [Int.natCast_zero,Nat.sub_zero] at e
 rw [e]
 cases allN x.1.length 0 (fun s=>!decide (g.1.getD s 0 ∈ g.1.take s)) <;> rfl
theorem state_loop (N:Nat) {C:Type} (k0:Bool→GG→Option C) (k1:GG→Option C) (g:GG) (n s:Nat) (hs:s < 6) (hn:n ≤ 6) :
   ∀ (F i:Nat),n - i < F→i ≤ n→g68L26f N F k0 k1 (s:Int) (n:Int) (i:Int) g = bif allN (n - i) i (fun t=>decide (t = s) || !decide (g.1.getD t 0 = g.1.getD s 0)) then k1 g else k0 false g
 | 0,i,hF,_=>by omega
 | F + 1,i,hF,hi=>by
   rw [g68L26f_succ]
   unfold g68L26B
   by_cases hlt:i < n
   · rw [ltT hlt,cond_true,if_pos ⟨by omega,by omega⟩,if_pos ⟨by omega,by omega⟩,Int.toNat_natCast,Int.toNat_natCast,wn i (by omega),allN_step hlt]
     by_cases h1:i = s
     · rw [show ieq (i:Int) (s:Int) = true from decide_eq_true (by omega),Bool.not_true,cond_false,decide_eq_true h1,Bool.true_or,Bool.true_and]
       exact state_loop N k0 k1 g n s hs hn F (i + 1) (by omega) (by omega)
     · rw [show ieq (i:Int) (s:Int) = false from decide_eq_false (by omega),Bool.not_false,cond_true,decide_eq_false h1,Bool.false_or]
       by_cases h2:g.1.getD i 0 = g.1.getD s 0
       · rw [show ieq (g.1.getD i 0) (g.1.getD s 0) = true from decide_eq_true h2,decide_eq_true h2];rfl
       · rw [show ieq (g.1.getD i 0) (g.1.getD s 0) = false from decide_eq_false h2,decide_eq_false h2,cond_false,Bool.not_false,Bool.true_and]
         exact state_loop N k0 k1 g n s hs hn F (i + 1) (by omega) (by omega)
   · rw [ltF hlt,cond_false,allN_end hlt];rfl
theorem Pm.tellsState {x:MM} {k:Nat} (h:Pm x k) (N:Nat) (hN:10 < N) (g:GG) (s:Nat) (hs:s < x.1.length):g68 N x g (s:Int) = some (allN x.1.length 0 (fun t=>decide (t = s) || !decide (g.1.getD t 0 = g.1.getD s 0))):=by
 have:=h.n6
 unfold g68
 have e:g76 N x = some (x.1.length:Int):=rfl
 rw [e]
 simp only [Option.bind_some]
 rw [g68L26_eq]
 have e:=state_loop N (fun e2 e3=>some e2) (fun e4=>some true) g x.1.length s (by omega) h.n6 N 0 (by omega) (by omega)
 simp only [Int.natCast_zero,Nat.sub_zero] at e
 rw [e]
 cases allN x.1.length 0 (fun t=>decide (t = s) || !decide (g.1.getD t 0 = g.1.getD s 0)) <;> rfl
theorem sd_len (x:MM) (w:List Int) (s:Nat):(sd x w s).length = w.length:=sayL_len x s w
theorem Gr.end_same {x:MM} {w:List Int} {g:GG} (hg:Gr x w g):allN x.1.length 0 (fun s=>allN s 0 (fun t=>!(decide (g.1.getD s 0 = g.1.getD t 0) && !decide (g.2.1.getD s 0 = g.2.1.getD t 0)))) = allN x.1.length 0 (fun s=>allN s 0 (fun t=>!(decide (sd x w s = sd x w t) && !decide (en x w s = en x w t)))):=by
 refine allN_congr fun s _ hs=>allN_congr fun t _ ht=>?_
 have h1:=hg.grp s t (by omega) (by omega)
 have h2:=hg.now s (by omega)
 have h3:=hg.now t (by omega)
 rw [h2,h3,decide_eq_decide.2 h1]
 rfl
theorem Gr.state_same {x:MM} {w:List Int} {g:GG} (hg:Gr x w g) (s:Nat) (hs:s < x.1.length):allN x.1.length 0 (fun t=>decide (t = s) || !decide (g.1.getD t 0 = g.1.getD s 0)) = allN x.1.length 0 (fun t=>decide (t = s) || !decide (sd x w t = sd x w s)):=by
 refine allN_congr fun t _ ht=>?_
 rw [decide_eq_decide.2 (hg.grp t s (by omega) (by omega))]
 rfl
theorem mem_take (l:List Int) (v:Int) (s:Nat) (hs:s ≤ l.length):v ∈ l.take s ↔ ∃ t,t < s∧l.getD t 0 = v:=by
 rw [List.mem_iff_getElem?]
 constructor
 · rintro ⟨t,ht⟩
   rw [List.getElem?_take] at ht
   split at ht
   · rename_i h1
     exact ⟨t,h1,by rw [List.getD_eq_getElem?_getD,ht];rfl⟩
   · cases ht
 · rintro ⟨t,h1,h2⟩
   refine ⟨t,?_⟩
   rw [List.getElem?_take,if_pos h1,List.getElem?_eq_getElem (by omega)]
   rw [List.getD_eq_getElem?_getD,List.getElem?_eq_getElem (by omega)] at h2
   exact congrArg some h2
theorem Gr.begin_same {x:MM} {w:List Int} {g:GG} (hg:Gr x w g) (hn:x.1.length ≤ 6):allN x.1.length 0 (fun s=>!decide (g.1.getD s 0 ∈ g.1.take s)) = allN x.1.length 0 (fun s=>allN x.1.length 0 (fun t=>decide (t = s) || !decide (sd x w t = sd x w s))):=by
 rw [Bool.eq_iff_iff,allN_iff,allN_iff]
 constructor
 · intro h s _ hs
   rw [allN_iff]
   intro t _ ht
   by_cases hts:t = s
   · rw [decide_eq_true hts];rfl
   · rw [decide_eq_false hts,Bool.false_or,Bool.not_eq_true',decide_eq_false_iff_not]
     intro he
     have hG:=(hg.grp t s (by omega) (by omega)).2 he
     rcases Nat.lt_or_gt_of_ne hts with h1 | h1
     · have:=h s (by omega) hs
       rw [Bool.not_eq_true',decide_eq_false_iff_not,mem_take _ _ _ (by rw [hg.l1];omega)] at this
       exact this ⟨t,h1,hG⟩
     · have:=h t (by omega) ht
       rw [Bool.not_eq_true',decide_eq_false_iff_not,mem_take _ _ _ (by rw [hg.l1];omega)] at this
       exact this ⟨s,h1,hG.symm⟩
 · intro h s _ hs
   rw [Bool.not_eq_true',decide_eq_false_iff_not,mem_take _ _ _ (by rw [hg.l1];omega)]
   rintro ⟨t,h1,h2⟩
   have:=(allN_iff _ _ _).1 (h s (by omega) hs) t (by omega) (by omega)
   rw [decide_eq_false (by omega),Bool.false_or,Bool.not_eq_true',decide_eq_false_iff_not] at this
   exact this ((hg.grp t s (by omega) (by omega)).1 h2)
end Go.Pv
namespace Go.Pv
open Bfs
structure VG (n:Nat) (g:GG):Prop where
 l1:g.1.length = 6
 l2:g.2.1.length = 6
 g1:∀ s,s < n→0 ≤ g.1.getD s 0∧g.1.getD s 0 ≤ (s:Int)
 g2:∀ s,n ≤ s→g.1.getD s 0 = 0
 n1:∀ s,s < n→0 ≤ g.2.1.getD s 0∧g.2.1.getD s 0 < (n:Int)
 n2:∀ s,n ≤ s→g.2.1.getD s 0 = 0
theorem rep6 (j:Nat):(List.replicate 6 (0:Int)).getD j 0 = 0:=by
 rw [List.getD_eq_getElem?_getD,List.getElem?_replicate];split <;> rfl
theorem begun_loop2 (N:Nat) {C:Type} (k0:GG→GG→Option C) (n:Nat) (hn:n ≤ 6) (z:GG) :
   ∀ (F i:Nat) (now:List Int),n - i < F→i ≤ n→now.length = 6→(∀ s,s < i→now.getD s 0 = (s:Int))→(∀ s,n ≤ s→now.getD s 0 = 0) →
     ∃ now':List Int,now'.length = 6∧(∀ s,s < n→now'.getD s 0 = (s:Int))∧(∀ s,n ≤ s→now'.getD s 0 = 0)∧g92L58f N F k0 (n:Int) (i:Int) z (List.replicate 6 0,now,()) = k0 z (List.replicate 6 0,now',())
 | 0,i,now,h,_,_,_,_=>by omega
 | F + 1,i,now,h,hi,hl,hb,hz=>by
   rw [g92L58f_succ]
   unfold g92L58B
   by_cases hlt:i < n
   · rw [ltT hlt,cond_true,if_pos ⟨by omega,by omega⟩,Int.toNat_natCast,wn i (by omega)]
     exact begun_loop2 N k0 n hn z F (i + 1) (now.set i (i:Int)) (by omega) (by omega) (by simp [hl]) (fun s hs=>by
       rw [getD_set now i s _ (by omega)]
       split
       · rename_i he;rw [he]
       · exact hb s (by omega)) (fun s hs=>by
       rw [getD_set now i s _ (by omega),if_neg (by omega)]
       exact hz s hs)
   · rw [ltF hlt,cond_false]
     exact ⟨now,hl,fun s hs=>hb s (by omega),hz,rfl⟩
theorem Pm.begun2 {x:MM} {k:Nat} (h:Pm x k) (N:Nat) (hN:10 < N):∃ g,g92 N x = some g∧Gr x [] g∧VG x.1.length g:=by
 unfold g92
 have e:g76 N x = some (x.1.length:Int):=rfl
 rw [e]
 simp only [Option.bind_some]
 rw [g92L58_eq]
 obtain ⟨now,l,b,b0,e⟩:=begun_loop2 N (fun e2 e3=>some e3) x.1.length h.n6 ((List.replicate 6 0),(List.replicate 6 0),()) N 0 (List.replicate 6 0) (by have:=h.n6;omega) (by omega) (by simp) (by omega) (fun s _=>rep6 s)
 exact ⟨_,e,⟨by simp,l,fun s hs=>b s hs,fun s t hs ht=>⟨fun _=>rfl,fun _=>(rep6 s).trans (rep6 t).symm⟩⟩,
   ⟨by simp,l,fun s _=>⟨Int.le_of_eq (rep6 s).symm,by show (List.replicate 6 (0:Int)).getD s 0 ≤ (s:Int);rw [rep6];omega⟩,fun s _=>rep6 s,fun s hs=>by show 0 ≤ now.getD s 0∧now.getD s 0 < _;rw [b s hs];omega,b0⟩⟩
theorem after_loop2 {x:MM} {k:Nat} (h:Pm x k) {w:List Int} (hw:InW k w) {g:GG} (hg:Gr x w g) {a:Int} (a0:0 ≤ a) (a1:a < (k:Int)) (N:Nat) {C:Type} (k0:MM→GG→GG→GG→List ((Int×Int×Unit)×Int)→Option C) (z:GG) :
   ∀ (F i:Nat) (o1 o2:List Int) (m:List ((Int×Int×Unit)×Int)),x.1.length - i < F→i ≤ x.1.length→o1.length = 6→o2.length = 6 →
     (∀ t,t < i→mapFind (Ty.beq KT) (kyOf x g a t) m = some (o1.getD t 0))→(∀ ky v,mapFind (Ty.beq KT) ky m = some v→∃ t:Nat,t < i∧kyOf x g a t = ky∧v = (t:Int)) →
     (∀ t,t < i→o2.getD t 0 = nx x (g.2.1.getD t 0) a) →
     (∀ t,t < i→0 ≤ o1.getD t 0∧o1.getD t 0 ≤ (t:Int))→(∀ t,x.1.length ≤ t→o1.getD t 0 = 0)→(∀ t,x.1.length ≤ t→o2.getD t 0 = 0) →
     ∃ o1' o2' m',(o1'.length = 6∧o2'.length = 6∧(∀ s t,s < x.1.length→t < x.1.length→(o1'.getD s 0 = o1'.getD t 0 ↔ kyOf x g a s = kyOf x g a t))∧(∀ t,t < x.1.length→o2'.getD t 0 = nx x (g.2.1.getD t 0) a)) ∧
       ((∀ t,t < x.1.length→0 ≤ o1'.getD t 0∧o1'.getD t 0 ≤ (t:Int))∧(∀ t,x.1.length ≤ t→o1'.getD t 0 = 0)∧(∀ t,x.1.length ≤ t→o2'.getD t 0 = 0)) ∧
       g94L122f N F k0 a (x.1.length:Int) (i:Int) x g z (o1,o2,()) m = k0 x g z (o1',o2',()) m'
 | 0,i,o1,o2,m,hF,_,_,_,_,_,_,_,_,_=>by omega
 | F + 1,i,o1,o2,m,hF,hi,l1,l2,b1,b2,b3,b4,b5,b6=>by
   rw [g94L122f_succ]
   unfold g94L122B
   have n6:=h.n6
   by_cases hlt:i < x.1.length
   · have i6:idx (i:Int) 6:=⟨by omega,by omega⟩
     have hnow:=hg.now i hlt
     obtain ⟨e0,e1⟩:=h.end_in w (i:Int) (by omega) (by omega) hw
     rw [← hnow] at e0 e1
     obtain ⟨q1,q2,q3,q4,_,_⟩:=h.step e0 e1 a0 a1
     rw [ltT hlt,cond_true,if_pos i6,if_pos i6]
     simp only [Int.toNat_natCast]
     rw [if_pos q2,if_pos q4,wn i (by omega)]
     -- the key
     have hky:((g.1.getD i 0,((x.2.1.getD (g.2.1.getD i 0).toNat []).getD a.toNat 0),()):Int×Int×Unit) = kyOf x g a i:=rfl
     have hnx:(x.1.getD (g.2.1.getD i 0).toNat []).getD a.toNat 0 = nx x (g.2.1.getD i 0) a:=rfl
     rw [hky,hnx]
     have nxt:∀ (v:Int) (m2:List ((Int×Int×Unit)×Int)),0 ≤ v∧v ≤ (i:Int)→mapFind (Ty.beq KT) (kyOf x g a i) m2 = some v→(∀ t,t < i→mapFind (Ty.beq KT) (kyOf x g a t) m2 = some (o1.getD t 0))→(∀ ky u,mapFind (Ty.beq KT) ky m2 = some u→∃ t:Nat,t < i + 1∧kyOf x g a t = ky∧u = (t:Int)) →
         ∃ o1' o2' m',(o1'.length = 6∧o2'.length = 6∧(∀ s t,s < x.1.length→t < x.1.length→(o1'.getD s 0 = o1'.getD t 0 ↔ kyOf x g a s = kyOf x g a t))∧(∀ t,t < x.1.length→o2'.getD t 0 = nx x (g.2.1.getD t 0) a)) ∧
           ((∀ t,t < x.1.length→0 ≤ o1'.getD t 0∧o1'.getD t 0 ≤ (t:Int))∧(∀ t,x.1.length ≤ t→o1'.getD t 0 = 0)∧(∀ t,x.1.length ≤ t→o2'.getD t 0 = 0)) ∧
           g94L122f N F k0 a (x.1.length:Int) ((i + 1:Nat):Int) x g z (o1.set i v,o2.set i (nx x (g.2.1.getD i 0) a),()) m2 = k0 x g z (o1',o2',()) m':=fun v m2 hv c1 c2 c3 =>
       after_loop2 h hw hg a0 a1 N k0 z F (i + 1) (o1.set i v) (o2.set i (nx x (g.2.1.getD i 0) a)) m2 (by omega) (by omega) (by simp [l1]) (by simp [l2])
         (fun t ht=>by
           rw [getD_set o1 i t _ (by omega)]
           split
           · rename_i he;rw [he];exact c1
           · exact c2 t (by omega)) c3
         (fun t ht=>by
           rw [getD_set o2 i t _ (by omega)]
           split
           · rename_i he;rw [he]
           · exact b3 t (by omega))
         (fun t ht=>by
           rw [getD_set o1 i t _ (by omega)]
           split
           · rename_i he;rw [he];exact hv
           · exact b4 t (by omega))
         (fun t ht=>by rw [getD_set o1 i t _ (by omega),if_neg (by omega)];exact b5 t ht)
         (fun t ht=>by rw [getD_set o2 i t _ (by omega),if_neg (by omega)];exact b6 t ht)
     cases hf:mapFind (Ty.beq KT) (kyOf x g a i) m with
     | none =>
       simp only [Option.isSome_none,Bool.not_false,cond_true]
       rw [if_pos i6,if_pos i6,if_pos q1,if_pos q3,if_pos i6,find_put_self]
       refine nxt (i:Int) _ (by omega) (find_put_self _ _ _) (fun t ht=>?_) (fun ky u hu=>?_)
       · rw [find_put_other]
         · exact b1 t ht
         · intro he
           have:=b1 t ht
           rw [he,hf] at this
           cases this
       · by_cases hk:ky = kyOf x g a i
         · subst hk
           rw [find_put_self] at hu
           exact ⟨i,by omega,rfl,(Option.some.inj hu).symm⟩
         · rw [find_put_other _ hk] at hu
           obtain ⟨t,t1,t2,t3⟩:=b2 ky u hu
           exact ⟨t,by omega,t2,t3⟩
     | some v =>
       simp only [Option.isSome_some,Bool.not_true,cond_false,Option.getD_some]
       rw [if_pos i6,if_pos i6,if_pos q1,if_pos q3,if_pos i6]
       refine nxt v m ?_ hf b1 fun ky u hu=>?_
       · obtain ⟨t,t1,t2,t3⟩:=b2 _ _ hf
         omega
       · obtain ⟨t,t1,t2,t3⟩:=b2 ky u hu
         exact ⟨t,by omega,t2,t3⟩
   · rw [ltF hlt,cond_false]
     have hn:i = x.1.length:=by omega
     subst hn
     refine ⟨o1,o2,m,⟨l1,l2,fun s t hs ht=>⟨fun he=>?_,fun he=>?_⟩,b3⟩,⟨b4,b5,b6⟩,rfl⟩
     · have f1:=b1 s hs
       have f2:=b1 t ht
       obtain ⟨s',_,s2,s3⟩:=b2 _ _ f1
       obtain ⟨t',_,t2,t3⟩:=b2 _ _ f2
       have:s' = t':=by rw [s3,t3] at he;omega
       rw [← s2,← t2,this]
     · have f1:=b1 s hs
       have f2:=b1 t ht
       rw [he,f2] at f1
       exact (Option.some.inj f1).symm
theorem Pm.after2 {x:MM} {k:Nat} (h:Pm x k) {w:List Int} (hw:InW k w) {g:GG} (hg:Gr x w g) (hv:VG x.1.length g) {a:Int} (a0:0 ≤ a) (a1:a < (k:Int)) (N:Nat) (hN:10 < N):∃ g',g94 N x g a = some g'∧Gr x (w ++ [a]) g'∧VG x.1.length g':=by
 unfold g94
 have e:g76 N x = some (x.1.length:Int):=rfl
 rw [e]
 simp only [Option.bind_some]
 rw [g94L122_eq]
 obtain ⟨o1,o2,m,⟨l1,l2,c1,c2⟩,⟨d1,d2,d3⟩,e⟩:=after_loop2 h hw hg a0 a1 N (fun e2 e3 e4 e5 e6=>some e5) ((List.replicate 6 0),(List.replicate 6 0),()) N 0 g.1 g.2.1 [] (by have:=h.n6;omega) (by omega) hg.l1 hg.l2 (by omega) (by simp [mapFind]) (by omega) (by omega) hv.g2 hv.n2
 refine ⟨_,e,⟨l1,l2,fun s hs=>?_,fun s t hs ht=>?_⟩,⟨l1,l2,d1,d2,fun s hs=>?_,d3⟩⟩
 · rw [sayL_snoc]
   show o2.getD s 0 = _
   rw [c2 s hs,hg.now s hs]
 · rw [sayL_snoc,sayL_snoc]
   show o1.getD s 0 = o1.getD t 0 ↔ _
   rw [c1 s t hs ht]
   unfold kyOf
   rw [hg.now s hs,hg.now t ht,Prod.mk.injEq,Prod.mk.injEq,hg.grp s t hs ht]
   constructor
   · rintro ⟨h1,h2,_⟩
     rw [h1,h2]
   · intro he
     obtain ⟨h1,h2⟩:=List.append_inj' he rfl
     exact ⟨h1,by simpa using h2,rfl⟩
 · show 0 ≤ o2.getD s 0∧o2.getD s 0 < _
   rw [c2 s hs]
   obtain ⟨v1,v2⟩:=hv.n1 s hs
   obtain ⟨_,_,_,_,q5,_⟩:=h.step v1 v2 a0 a1
   exact q5
def listsB:List Nat→List (List Int)
 | []=>[[]]
 | b :: bs=>(List.range b).flatMap fun (i:Nat)=>(listsB bs).map fun l=>(i:Int) :: l
theorem flat_len {α:Type} (L:List α) (f:Nat→α→α):∀ b:Nat,((List.range b).flatMap fun i=>L.map (f i)).length = b * L.length
 | 0=>by simp
 | b + 1=>by
   rw [List.range_succ,List.flatMap_append,List.length_append,flat_len L f b]
   simp [Nat.add_mul]
theorem listsB_len:∀ bs:List Nat,(listsB bs).length = bs.foldr (· * ·) 1
 | []=>rfl
 | b :: bs=>by
   have:=flat_len (listsB bs) (fun (i:Nat) l=>(i:Int) :: l) b
   simp only [listsB,List.foldr_cons]
   rw [this,listsB_len bs]
theorem mem_listsB:∀ (bs:List Nat) (l:List Int),l.length = bs.length→(∀ i,i < bs.length→0 ≤ l.getD i 0∧l.getD i 0 < (bs.getD i 0:Int))→l ∈ listsB bs
 | [],l,h,_=>by
   obtain rfl:=List.eq_nil_of_length_eq_zero h
   exact List.mem_cons_self
 | b :: bs,[],h,_=>by simp at h
 | b :: bs,v :: l,h,hb=>by
   simp only [listsB,List.mem_flatMap,List.mem_range,List.mem_map]
   have h0:=hb 0 (by simp)
   simp only [List.getD_cons_zero] at h0
   refine ⟨v.toNat,by omega,l,mem_listsB bs l (by simpa using h) fun i hi=>?_,?_⟩
   · have:=hb (i + 1) (by simp;omega)
     simpa using this
   · rw [Int.toNat_of_nonneg h0.1]
def univG:List GG:=(listsB [1,2,3,4,5,1]).flatMap fun a=>(listsB [5,5,5,5,5,1]).map fun b=>(a,b,())
theorem flat_len2 {α β γ:Type} (M:List β) (f:α→β→γ):∀ L:List α,(L.flatMap fun a=>M.map (f a)).length = L.length * M.length
 | []=>by simp
 | a :: L=>by
   rw [List.flatMap_cons,List.length_append,flat_len2 M f L]
   simp [Nat.add_mul,Nat.add_comm]
theorem univG_len:univG.length = 375000:=by
 unfold univG
 rw [flat_len2,listsB_len,listsB_len]
 rfl
theorem VG.univ {n:Nat} (hn:n ≤ 5) {g:GG} (hg:VG n g):g ∈ univG:=by
 obtain ⟨a,b,u⟩:=g
 have l1:=hg.l1
 have l2:=hg.l2
 unfold univG
 rw [List.mem_flatMap]
 refine ⟨a,mem_listsB _ _ l1 fun i hi=>?_,?_⟩
 · by_cases h:i < n
   · have:=hg.g1 i h
     simp only at this
     have hi:i < 6:=hi
     have e:([1,2,3,4,5,1]:List Nat).getD i 0 = i + 1:=by
       rcases i with _ | _ | _ | _ | _ | i
       · rfl
       · rfl
       · rfl
       · rfl
       · rfl
       · omega
     rw [e];omega
   · have:=hg.g2 i (by omega)
     simp only at this
     have hi:i < 6:=hi
     have e:1 ≤ ([1,2,3,4,5,1]:List Nat).getD i 0:=by
       rcases i with _ | _ | _ | _ | _ | _ | i <;> first | decide | omega
     rw [this];omega
 · rw [List.mem_map]
   refine ⟨b,mem_listsB _ _ l2 fun i hi=>?_,rfl⟩
   have hi:i < 6:=hi
   by_cases h:i < n
   · have:=hg.n1 i h
     simp only at this
     have e:([5,5,5,5,5,1]:List Nat).getD i 0 = 5:=by
       rcases i with _ | _ | _ | _ | _ | i
       · rfl
       · rfl
       · rfl
       · rfl
       · rfl
       · omega
     rw [e];omega
   · have:=hg.n2 i (by omega)
     simp only at this
     have e:1 ≤ ([5,5,5,5,5,1]:List Nat).getD i 0:=by
       rcases i with _ | _ | _ | _ | _ | _ | i <;> first | decide | omega
     rw [this];omega
theorem fewG {n:Nat} (hn:n ≤ 5) {L:List GG} (hd:L.Nodup) (hv:∀ y ∈ L,VG n y):L.length ≤ 375000:=by
 have:=nodup_len hd (fun y hy=>(hv y hy).univ hn)
 rw [univG_len] at this
 exact this
noncomputable def eG (N:Nat) (x:MM) (g:GG) (i:Nat):Option GG:=g94 N x g (i:Int)
theorem run_groups {x:MM} {k:Nat} (h:Pm x k) (N:Nat) (hN:10 < N):∀ (ws:List Nat) (w:List Int) (g:GG),InW k w→Gr x w g→VG x.1.length g→(∀ i ∈ ws,i < k)→∃ z,run (eG N x) k g ws = some z∧Gr x (w ++ wd ws) z∧VG x.1.length z
 | [],w,g,_,hg,hv,_=>⟨g,rfl,by simpa using hg,hv⟩
 | i :: ws,w,g,hw,hg,hv,hi=>by
   have hik:=hi i List.mem_cons_self
   obtain ⟨g',e,hg',hv'⟩:=h.after2 hw hg hv (a:=(i:Int)) (by omega) (by omega) N hN
   obtain ⟨z,z1,z2,z3⟩:=run_groups h N hN ws (w ++ [(i:Int)]) g' (fun j hj=>by
     rcases List.mem_append.1 hj with hj | hj
     · exact hw j hj
     · rw [List.mem_singleton.1 hj];omega) hg' hv' (fun j hj=>hi j (List.mem_cons_of_mem _ hj))
   refine ⟨z,?_,by rw [show w ++ wd (i :: ws) = (w ++ [(i:Int)]) ++ wd ws by simp];exact z2,z3⟩
   show (if i < k then (eG N x g i).bind fun y=>run (eG N x) k y ws else none) = _
   rw [if_pos hik,show eG N x g i = some g' from e]
   exact z1
theorem run_letters {α:Type} {e:α→Nat→Option α} {m:Nat}:∀ (ws:List Nat) (x y:α),run e m x ws = some y→∀ i ∈ ws,i < m
 | [],_,_,_,i,hi=>by simp at hi
 | j :: ws,x,y,h,i,hi=>by
   have h:(if j < m then (e x j).bind fun z=>run e m z ws else none) = some y:=h
   split at h
   · rename_i hj
     cases hz:e x j with
     | none=>rw [hz] at h;cases h
     | some z =>
       rw [hz] at h
       rcases List.mem_cons.1 hi with rfl | hi
       · exact hj
       · exact run_letters ws z y h i hi
   · cases h
end Go.Pv
namespace Go.Pv.Bfs
variable {α:Type} [DecidableEq α] {e:α→Nat→Option α} {m:Nat} {first dflt:α}
structure Qu (e:α→Nat→Option α) (m:Nat) (first dflt:α) (i x:Nat) (l:List α) (lg:List Int):Prop where
 len:lg.length = l.length
 nod:l.Nodup
 way:∀ q,q < l.length→∃ j:Nat,lg.getD q 0 = (j:Int)∧R e m first j (l.getD q dflt)
 small:∀ q,q < l.length→lg.getD q 0 ≤ (q:Int)
 mono:∀ q r,q ≤ r→r < l.length→lg.getD q 0 ≤ lg.getD r 0
 top:i < l.length→∀ q,q < l.length→lg.getD q 0 ≤ lg.getD i 0 + 1
 beg:0 < l.length∧l.getD 0 dflt = first∧lg.getD 0 0 = 0
 done:∀ q j,q < l.length→j < m→(q < i ∨ q = i∧j < x)→∀ y,e (l.getD q dflt) j = some y→∃ r,r < l.length∧l.getD r dflt = y∧lg.getD r 0 ≤ lg.getD q 0 + 1
theorem Qu.short {i x:Nat} {l:List α} {lg:List Int} (h:Qu e m first dflt i x l lg) (bound:Int) (hb:∀ q,q < l.length→lg.getD q 0 < bound→q < i) :
   ∀ (n:Nat) (y:α),(n:Int) ≤ bound→R e m first n y→∃ q,q < l.length∧l.getD q dflt = y∧lg.getD q 0 ≤ (n:Int)
 | 0,y,_,hr=>by
   obtain rfl:=(R_zero y).1 hr
   exact ⟨0,h.beg.1,h.beg.2.1,by have:=h.beg.2.2;omega⟩
 | n + 1,y,hbd,hr=>by
   obtain ⟨z,hz,j,hj,he⟩:=(R_succ n y).1 hr
   obtain ⟨q,q1,q2,q3⟩:=h.short bound hb n z (by omega) hz
   obtain ⟨r,r1,r2,r3⟩:=h.done q j q1 hj (.inl (hb q q1 (by omega))) y (by rw [q2];exact he)
   exact ⟨r,r1,r2,by omega⟩
theorem Qu.lt {i x:Nat} {l:List α} {lg:List Int} (h:Qu e m first dflt i x l lg) (hi:i < l.length):∀ q,q < l.length→lg.getD q 0 < lg.getD i 0→q < i:=by
 intro q hq hlt
 by_cases hqi:q < i
 · exact hqi
 · have:=h.mono i q (by omega) hq;omega
theorem Qu.all {x:Nat} {l:List α} {lg:List Int} {i:Nat} (h:Qu e m first dflt i x l lg) (hi:l.length ≤ i) (n:Nat) (y:α) (hr:R e m first n y):y ∈ l:=by
 obtain ⟨q,q1,q2,_⟩:=h.short (n:Int) (fun q hq _=>by omega) n y (Int.le_refl _) hr
 rw [← q2,List.getD_eq_getElem?_getD,List.getElem?_eq_getElem q1]
 exact List.getElem_mem q1
theorem getDapp {β:Type} (l:List β) (v d:β) (q:Nat):(l ++ [v]).getD q d = if q < l.length then l.getD q d else if q = l.length then v else d:=by
 rw [List.getD_eq_getElem?_getD,List.getD_eq_getElem?_getD,List.getElem?_append]
 split
 · rfl
 · rename_i h
   by_cases h2:q = l.length
   · subst h2;simp
   · rw [if_neg h2,List.getElem?_eq_none (by simp;omega)];rfl
theorem Qu.skip {i x:Nat} {l:List α} {lg:List Int} (h:Qu e m first dflt i x l lg) (hi:i < l.length) (hs:∀ y,e (l.getD i dflt) x = some y→y ∈ l):Qu e m first dflt i (x + 1) l lg:=by
 refine ⟨h.len,h.nod,h.way,h.small,h.mono,h.top,h.beg,fun q j hq hj hqj y hy=>?_⟩
 by_cases hx:q = i∧j = x
 · obtain ⟨rfl,rfl⟩:=hx
   obtain ⟨r,r1,r2⟩:=List.mem_iff_getElem.1 (hs y hy)
   exact ⟨r,r1,by rw [List.getD_eq_getElem?_getD,List.getElem?_eq_getElem r1];exact r2,h.top hi r r1⟩
 · exact h.done q j hq hj (by omega) y hy
theorem Qu.add {i x:Nat} {l:List α} {lg:List Int} (h:Qu e m first dflt i x l lg) (hi:i < l.length) (hx:x < m) (p:α) (hp:e (l.getD i dflt) x = some p) (hm:p ∉ l) :
   Qu e m first dflt i (x + 1) (l ++ [p]) (lg ++ [lg.getD i 0 + 1]):=by
 have hle:=h.len
 have g1:∀ q,q < l.length→(l ++ [p]).getD q dflt = l.getD q dflt:=fun q hq=>by rw [getDapp,if_pos hq]
 have g2:(l ++ [p]).getD l.length dflt = p:=by rw [getDapp,if_neg (by omega),if_pos rfl]
 have g3:∀ q,q < l.length→(lg ++ [lg.getD i 0 + 1]).getD q 0 = lg.getD q 0:=fun q hq=>by rw [getDapp,if_pos (by omega)]
 have g4:(lg ++ [lg.getD i 0 + 1]).getD l.length 0 = lg.getD i 0 + 1:=by rw [getDapp,if_neg (by omega),if_pos (by omega)]
 have hln:(l ++ [p]).length = l.length + 1:=by simp
 refine ⟨by simp [hle],?_,fun q hq=>?_,fun q hq=>?_,fun q r hqr hr=>?_,fun _ q hq=>?_,?_,fun q j hq hj hqj y hy=>?_⟩
 · rw [List.nodup_append]
   exact ⟨h.nod,by simp,fun u hu v hv huv=>hm (by rw [List.mem_singleton.1 hv] at huv;exact huv ▸ hu)⟩
 · by_cases hql:q < l.length
   · rw [g1 q hql,g3 q hql];exact h.way q hql
   · obtain rfl:q = l.length:=by omega
     rw [g2,g4]
     obtain ⟨j,j1,j2⟩:=h.way i hi
     exact ⟨j + 1,by rw [j1];omega,(R_succ j p).2 ⟨_,j2,x,hx,hp⟩⟩
 · by_cases hql:q < l.length
   · rw [g3 q hql];exact h.small q hql
   · obtain rfl:q = l.length:=by omega
     rw [g4]
     have:=h.small i hi
     omega
 · by_cases hrl:r < l.length
   · rw [g3 q (by omega),g3 r hrl];exact h.mono q r hqr hrl
   · obtain rfl:r = l.length:=by omega
     rw [g4]
     by_cases hql:q < l.length
     · rw [g3 q hql];exact h.top hi q hql
     · obtain rfl:q = l.length:=by omega
       rw [g4];exact Int.le_refl _
 · rw [g3 i hi]
   by_cases hql:q < l.length
   · rw [g3 q hql];exact h.top hi q hql
   · obtain rfl:q = l.length:=by omega
     rw [g4];exact Int.le_refl _
 · exact ⟨by omega,by rw [g1 0 h.beg.1];exact h.beg.2.1,by rw [g3 0 h.beg.1];exact h.beg.2.2⟩
 · by_cases hqx:q = i∧j = x
   · obtain ⟨rfl,rfl⟩:=hqx
     rw [g1 q hi,hp] at hy
     obtain rfl:=Option.some.inj hy
     rw [g3 q hi]
     exact ⟨l.length,by omega,g2,by rw [g4];exact Int.le_refl _⟩
   · have hql:q < l.length:=by omega
     rw [g1 q hql] at hy
     obtain ⟨r,r1,r2,r3⟩:=h.done q j hql hj (by omega) y hy
     rw [g3 q hql]
     exact ⟨r,by omega,by rw [g1 r r1];exact r2,by rw [g3 r r1];exact r3⟩
theorem Qu.next {i:Nat} {l:List α} {lg:List Int} (h:Qu e m first dflt i m l lg) (hi:i < l.length):Qu e m first dflt (i + 1) 0 l lg :=
 ⟨h.len,h.nod,h.way,h.small,h.mono,fun hi2 q hq=>by have h1:=h.top hi q hq;have h2:=h.mono i (i + 1) (by omega) hi2;omega,h.beg,fun q j hq hj hqj=>h.done q j hq hj (by omega)⟩
theorem Qu.start:Qu e m first dflt 0 0 [first] [0]:=by
 refine ⟨rfl,by simp,fun q hq=>?_,fun q hq=>?_,fun q r hqr hr=>?_,fun _ q hq=>?_,⟨by simp,rfl,rfl⟩,fun q j hq hj hqj=>?_⟩
 · obtain rfl:q = 0:=by simpa using hq
   exact ⟨0,rfl,(R_zero first).2 rfl⟩
 · obtain rfl:q = 0:=by simpa using hq
   exact Int.le_refl 0
 · obtain rfl:r = 0:=by simpa using hr
   obtain rfl:q = 0:=by omega
   exact Int.le_refl 0
 · obtain rfl:q = 0:=by simpa using hq
   show (0:Int) ≤ 0 + 1
   omega
 · omega
end Go.Pv.Bfs
namespace Go.Pv
open Bfs
def badT (kd s u v:Int) (ne:Bool):Bool:=(decide (kd = 0) && ne) || (decide (kd = 1) || (decide (kd = 2) && (decide (u = s) || decide (v = s))))
theorem wsum (n v:Nat) (hn:n ≤ 6) (hv:v ≤ 6):IntKind.wrap .i64 ((n:Int) + (v:Int)) = ((n + v:Nat):Int):=by rw [w64 (by omega) (by omega)];omega
theorem told_inner (N:Nat) {C:Type} (k0:List Int→Int→Int→Int→Bool→Int→Option C) (k1:List Int→Int→Int→Int→Int→Option C) (x:List Int) (n u:Nat) (hx:x.length = 2 * n) (hu:u < n) (hn:n ≤ 6) (kd s:Int) :
   ∀ (F i:Nat),u - i < F→i ≤ u→g70L1682f N F k0 k1 x (n:Int) kd s (u:Int) (i:Int) =
     bif allN (u - i) i (fun v=>!(decide (x.getD u 0 = x.getD v 0) && badT kd s (u:Int) (v:Int) (!decide (x.getD (n + u) 0 = x.getD (n + v) 0)))) then k1 x (n:Int) kd s (u:Int) else k0 x (n:Int) kd s false (u:Int)
 | 0,i,hF,_=>by omega
 | F + 1,i,hF,hi=>by
   rw [g70L1682f_succ]
   unfold g70L1682B
   by_cases hlt:i < u
   · have ih:=told_inner N k0 k1 x n u hx hu hn kd s F (i + 1) (by omega) (by omega)
     rw [ltT hlt,cond_true,if_pos (show idx (u:Int) x.length from ⟨by omega,by omega⟩),if_pos (show idx (i:Int) x.length from ⟨by omega,by omega⟩),wsum n u hn (by omega),wsum n i hn (by omega),
       if_pos (show idx ((n + u:Nat):Int) x.length from ⟨by omega,by omega⟩),if_pos (show idx ((n + i:Nat):Int) x.length from ⟨by omega,by omega⟩),wn i (by omega),allN_step hlt]
     simp only [Int.toNat_natCast,ih,ieq]
     unfold badT
     cases decide (x.getD u 0 = x.getD i 0) <;> cases decide (kd = 0) <;> cases decide (x.getD (n + u) 0 = x.getD (n + i) 0) <;> cases decide (kd = 1) <;> cases decide (kd = 2) <;> cases decide ((u:Int) = s) <;> cases decide ((i:Int) = s) <;> rfl
   · rw [ltF hlt,cond_false,allN_end hlt];rfl
theorem told_outer (N:Nat) (hN:10 < N) {C:Type} (k0:Bool→Option C) (k1:Option C) (x:List Int) (n:Nat) (hx:x.length = 2 * n) (hn:n ≤ 6) (kd s:Int) :
   ∀ (F i:Nat),n - i < F→i ≤ n→g70L26f N F k0 k1 x (n:Int) kd s (i:Int) =
     bif allN (n - i) i (fun u=>allN u 0 (fun v=>!(decide (x.getD u 0 = x.getD v 0) && badT kd s (u:Int) (v:Int) (!decide (x.getD (n + u) 0 = x.getD (n + v) 0))))) then k1 else k0 false
 | 0,i,hF,_=>by omega
 | F + 1,i,hF,hi=>by
   rw [g70L26f_succ]
   unfold g70L26B
   by_cases hlt:i < n
   · rw [ltT hlt,cond_true,g70L1682_eq]
     have e:=told_inner N (fun e1 e2 e3 e4 e5 e6=>k0 e5) (fun e7 e8 e9 e10 e11=>g70L26f N F k0 k1 e7 e8 e9 e10 (IntKind.wrap .i64 (e11 + 1))) x n i hx hlt hn kd s N 0 (by omega) (by omega)
     simp only [Int.natCast_zero,Nat.sub_zero] at e
     rw [allN_step hlt]
     refine Eq.trans e ?_
     cases allN i 0 (fun v=>!(decide (x.getD i 0 = x.getD v 0) && badT kd s (i:Int) (v:Int) (!decide (x.getD (n + i) 0 = x.getD (n + v) 0)))) with
     | false=>rfl
     | true =>
       rw [cond_true,Bool.true_and,wn i (by omega)]
       exact told_outer N hN k0 k1 x n hx hn kd s F (i + 1) (by omega) (by omega)
   · rw [ltF hlt,cond_false,allN_end hlt];rfl
def toldB (n:Nat) (kd s:Int) (x:List Int):Bool:=allN n 0 (fun u=>allN u 0 (fun v=>!(decide (x.getD u 0 = x.getD v 0) && badT kd s (u:Int) (v:Int) (!decide (x.getD (n + u) 0 = x.getD (n + v) 0)))))
theorem told_eq (N:Nat) (hN:10 < N) (x:List Int) (n:Nat) (hx:x.length = 2 * n) (hn:n ≤ 6) (kd s:Int):g70 N x (n:Int) kd s = some (toldB n kd s x):=by
 unfold g70
 rw [g70L26_eq]
 have e:=told_outer N hN (fun e12=>some e12) (some true) x n hx hn kd s N 0 (by omega) (by omega)
 simp only [Int.natCast_zero,Nat.sub_zero] at e
 rw [e]
 unfold toldB
 cases allN n 0 (fun u=>allN u 0 (fun v=>!(decide (x.getD u 0 = x.getD v 0) && badT kd s (u:Int) (v:Int) (!decide (x.getD (n + u) 0 = x.getD (n + v) 0))))) <;> rfl
theorem mark_loop (N:Nat) {C:Type} (k0:List Int→Option C) (x:List Int) (n s:Nat) (hx:x.length = 2 * n) (hs:s < n) (hn:n ≤ 6) :
   ∀ (F i:Nat) (o:List Int),n - i < F→i ≤ n→o.length = 2 * n →
     (∀ v,v < i→o.getD v 0 = if x.getD v 0 = x.getD s 0 then x.getD s 0 else (v:Int))→(∀ v,v < i→o.getD (n + v) 0 = if x.getD v 0 = x.getD s 0 then x.getD (n + v) 0 else 0)→(∀ v,i ≤ v→v < n→o.getD (n + v) 0 = 0) →
     ∃ o':List Int,g96L58f N F k0 x (n:Int) (s:Int) (i:Int) o = k0 o'∧o'.length = 2 * n∧(∀ v,v < n→o'.getD v 0 = if x.getD v 0 = x.getD s 0 then x.getD s 0 else (v:Int))∧(∀ v,v < n→o'.getD (n + v) 0 = if x.getD v 0 = x.getD s 0 then x.getD (n + v) 0 else 0)
 | 0,i,o,hF,_,_,_,_,_=>by omega
 | F + 1,i,o,hF,hi,hl,b1,b2,b3=>by
   rw [g96L58f_succ]
   unfold g96L58B
   by_cases hlt:i < n
   · have d1:∀ (l:List Int),l.length = 2 * n→(idx (i:Int) l.length) = True:=fun l h=>eq_true ⟨by omega,by omega⟩
     have d2:∀ (l:List Int),l.length = 2 * n→(idx ((n + i:Nat):Int) l.length) = True:=fun l h=>eq_true ⟨by omega,by omega⟩
     have d3:(idx (s:Int) x.length) = True:=eq_true ⟨by omega,by omega⟩
     have c1:∀ (l:List Int),l.length = 2 * n→(i < l.length) = True:=fun l h=>eq_true (by omega)
     have c2:∀ (l:List Int),l.length = 2 * n→(n + i < l.length) = True:=fun l h=>eq_true (by omega)
     rw [ltT hlt,cond_true,wsum n i hn (by omega),wn i (by omega)]
     simp only [Int.toNat_natCast,d1 o hl,d1 x hx,d3,c1 o hl,if_true,d1 (o.set i (i:Int)) (by simp [hl]),c1 (o.set i (i:Int)) (by simp [hl]),d2 x hx,d2 ((o.set i (i:Int)).set i (x.getD s 0)) (by simp [hl]),c2 ((o.set i (i:Int)).set i (x.getD s 0)) (by simp [hl])]
     by_cases he:x.getD i 0 = x.getD s 0
     · rw [show ieq (x.getD i 0) (x.getD s 0) = true from decide_eq_true he,cond_true]
       refine mark_loop N k0 x n s hx hs hn F (i + 1) _ (by omega) (by omega) (by simp [hl]) (fun v hv=>?_) (fun v hv=>?_) (fun v h1 h2=>?_)
       · rw [getD_set _ _ _ _ (by simp [hl];omega),if_neg (by omega),getD_set _ _ _ _ (by simp [hl];omega)]
         by_cases hvi:v = i
         · rw [if_pos hvi,hvi,if_pos he]
         · rw [if_neg hvi,getD_set _ _ _ _ (by omega),if_neg hvi];exact b1 v (by omega)
       · rw [getD_set _ _ _ _ (by simp [hl];omega)]
         by_cases hvi:v = i
         · rw [if_pos (by omega),hvi,if_pos he]
         · rw [if_neg (by omega),getD_set _ _ _ _ (by simp [hl];omega),if_neg (by omega),getD_set _ _ _ _ (by omega),if_neg (by omega)];exact b2 v (by omega)
       · rw [getD_set _ _ _ _ (by simp [hl];omega),if_neg (by omega),getD_set _ _ _ _ (by simp [hl];omega),if_neg (by omega),getD_set _ _ _ _ (by omega),if_neg (by omega)];exact b3 v (by omega) h2
     · rw [show ieq (x.getD i 0) (x.getD s 0) = false from decide_eq_false he,cond_false]
       refine mark_loop N k0 x n s hx hs hn F (i + 1) _ (by omega) (by omega) (by simp [hl]) (fun v hv=>?_) (fun v hv=>?_) (fun v h1 h2=>?_)
       · rw [getD_set _ _ _ _ (by omega)]
         by_cases hvi:v = i
         · rw [if_pos hvi,hvi,if_neg he]
         · rw [if_neg hvi];exact b1 v (by omega)
       · rw [getD_set _ _ _ _ (by omega),if_neg (by omega)]
         by_cases hvi:v = i
         · rw [hvi,if_neg he];exact b3 i (by omega) hlt
         · exact b2 v (by omega)
       · rw [getD_set _ _ _ _ (by omega),if_neg (by omega)];exact b3 v (by omega) h2
   · rw [ltF hlt,cond_false]
     have:i = n:=by omega
     subst this
     exact ⟨o,rfl,hl,b1,b2⟩
theorem mkOk2 (n:Nat) (hn:n ≤ 6):mkOk (IntKind.wrap .i64 (2 * (n:Int))) (IntKind.wrap .i64 (2 * (n:Int)))∧Int.toNat (IntKind.wrap .i64 (2 * (n:Int))) = 2 * n:=by
 rw [w64 (by omega) (by omega)]
 exact ⟨⟨rfl,by omega,by omega⟩,by omega⟩
theorem getD_rep0 (m j:Nat):(List.replicate m (0:Int)).getD j 0 = 0:=by
 rw [List.getD_eq_getElem?_getD,List.getElem?_replicate];split <;> rfl
theorem mark_eq (N:Nat) (hN:10 < N) (x:List Int) (n s:Nat) (hx:x.length = 2 * n) (hs:s < n) (hn:n ≤ 6):∃ o',g96 N x (n:Int) (s:Int) = some o'∧o'.length = 2 * n∧(∀ v,v < n→o'.getD v 0 = if x.getD v 0 = x.getD s 0 then x.getD s 0 else (v:Int))∧(∀ v,v < n→o'.getD (n + v) 0 = if x.getD v 0 = x.getD s 0 then x.getD (n + v) 0 else 0):=by
 unfold g96
 obtain ⟨h1,h2⟩:=mkOk2 n hn
 rw [if_pos h1,h2,g96L58_eq]
 exact mark_loop N (fun e1=>some e1) x n s hx hs hn N 0 (List.replicate (2 * n) 0) (by omega) (by omega) (by simp) (by omega) (by omega) (fun v _ _=>getD_rep0 _ _)
def badD (kd s u v:Int):Bool:=decide (kd = 1) || (decide (kd = 2) && (decide (u = s) || decide (v = s)))
def aliveB (n:Nat) (kd s:Int) (x:List Int):Bool:=allN n 0 (fun u=>allN u 0 (fun v=>!(decide (x.getD u 0 = x.getD v 0) && (decide (x.getD (n + u) 0 = x.getD (n + v) 0) && badD kd s (u:Int) (v:Int)))))
theorem needed_inner (N:Nat) {C:Type} (k0 k1:List Int→Int→Int→Int→Int→Option C) (x:List Int) (n u:Nat) (hx:x.length = 2 * n) (hu:u < n) (hn:n ≤ 6) (kd s:Int) :
   ∀ (F i:Nat),u - i < F→i ≤ u→g71L1682f N F k0 k1 x (n:Int) kd s (u:Int) (i:Int) =
     bif allN (u - i) i (fun v=>!(decide (x.getD u 0 = x.getD v 0) && (decide (x.getD (n + u) 0 = x.getD (n + v) 0) && badD kd s (u:Int) (v:Int)))) then k1 x (n:Int) kd s (u:Int) else k0 x (n:Int) kd s (u:Int)
 | 0,i,hF,_=>by omega
 | F + 1,i,hF,hi=>by
   rw [g71L1682f_succ]
   unfold g71L1682B
   by_cases hlt:i < u
   · have ih:=needed_inner N k0 k1 x n u hx hu hn kd s F (i + 1) (by omega) (by omega)
     rw [ltT hlt,cond_true,if_pos (show idx (u:Int) x.length from ⟨by omega,by omega⟩),if_pos (show idx (i:Int) x.length from ⟨by omega,by omega⟩),wsum n u hn (by omega),wsum n i hn (by omega),
       if_pos (show idx ((n + u:Nat):Int) x.length from ⟨by omega,by omega⟩),if_pos (show idx ((n + i:Nat):Int) x.length from ⟨by omega,by omega⟩),wn i (by omega),allN_step hlt]
     simp only [Int.toNat_natCast,ih,ieq]
     unfold badD
     cases decide (x.getD u 0 = x.getD i 0) <;> cases decide (x.getD (n + u) 0 = x.getD (n + i) 0) <;> cases decide (kd = 1) <;> cases decide (kd = 2) <;> cases decide ((u:Int) = s) <;> cases decide ((i:Int) = s) <;> rfl
   · rw [ltF hlt,cond_false,allN_end hlt];rfl
theorem needed_outer (N:Nat) (hN:10 < N) {C:Type} (k0 k1:List Int→Int→Int→Int→Option C) (x:List Int) (n:Nat) (hx:x.length = 2 * n) (hn:n ≤ 6) (kd s:Int) :
   ∀ (F i:Nat),n - i < F→i ≤ n→g71L26f N F k0 k1 x (n:Int) kd s (i:Int) =
     bif allN (n - i) i (fun u=>allN u 0 (fun v=>!(decide (x.getD u 0 = x.getD v 0) && (decide (x.getD (n + u) 0 = x.getD (n + v) 0) && badD kd s (u:Int) (v:Int))))) then k1 x (n:Int) kd s else k0 x (n:Int) kd s
 | 0,i,hF,_=>by omega
 | F + 1,i,hF,hi=>by
   rw [g71L26f_succ]
   unfold g71L26B
   by_cases hlt:i < n
   · rw [ltT hlt,cond_true,g71L1682_eq]
     have e:=needed_inner N (fun e1 e2 e3 e4 e5=>k0 e1 e2 e3 e4) (fun e6 e7 e8 e9 e10=>g71L26f N F k0 k1 e6 e7 e8 e9 (IntKind.wrap .i64 (e10 + 1))) x n i hx hlt hn kd s N 0 (by omega) (by omega)
     simp only [Int.natCast_zero,Nat.sub_zero] at e
     rw [allN_step hlt]
     refine Eq.trans e ?_
     cases allN i 0 (fun v=>!(decide (x.getD i 0 = x.getD v 0) && (decide (x.getD (n + i) 0 = x.getD (n + v) 0) && badD kd s (i:Int) (v:Int)))) with
     | false=>rfl
     | true =>
       rw [cond_true,Bool.true_and,wn i (by omega)]
       exact needed_outer N hN k0 k1 x n hx hn kd s F (i + 1) (by omega) (by omega)
   · rw [ltF hlt,cond_false,allN_end hlt];rfl
def markL (n s:Nat) (x:List Int):List Int:=(List.range n).map (fun v=>if x.getD v 0 = x.getD s 0 then x.getD s 0 else (v:Int)) ++ (List.range n).map (fun v=>if x.getD v 0 = x.getD s 0 then x.getD (n + v) 0 else 0)
theorem getD_two (n:Nat) (f g:Nat→Int) (v:Nat):((List.range n).map f ++ (List.range n).map g).getD v 0 = if v < n then f v else if v < 2 * n then g (v - n) else 0:=by
 rw [List.getD_eq_getElem?_getD,List.getElem?_append]
 simp only [List.length_map,List.length_range,List.getElem?_map]
 by_cases h1:v < n
 · simp [h1]
 · by_cases h2:v < 2 * n
   · have:v - n < n:=by omega
     simp [h1,h2,this]
   · have:¬ v - n < n:=by omega
     simp [h1,h2,this]
theorem ext_two {n:Nat} {l:List Int} {f g:Nat→Int} (hl:l.length = 2 * n) (h1:∀ v,v < n→l.getD v 0 = f v) (h2:∀ v,v < n→l.getD (n + v) 0 = g v):l = (List.range n).map f ++ (List.range n).map g:=by
 apply List.ext_getElem
 · simp;omega
 · intro q q1 q2
   have e:l.getD q 0 = ((List.range n).map f ++ (List.range n).map g).getD q 0:=by
     rw [getD_two]
     by_cases hq:q < n
     · rw [if_pos hq];exact h1 q hq
     · rw [if_neg hq,if_pos (by omega),← h2 (q - n) (by omega)];congr 1;omega
   rw [List.getD_eq_getElem?_getD,List.getD_eq_getElem?_getD,List.getElem?_eq_getElem q1,List.getElem?_eq_getElem q2] at e
   exact e
def needL (n:Nat) (kd:Int) (s:Nat) (x:List Int):List Int:=bif aliveB n kd (s:Int) x then (if kd = 2 then markL n s x else x) else []
theorem needed_eq (N:Nat) (hN:10 < N) (x:List Int) (n:Nat) (hx:x.length = 2 * n) (hn1:1 ≤ n) (hn:n ≤ 6) (kd:Int) (s:Nat) (hs:s < n):g71 N x (n:Int) kd (s:Int) = some (needL n kd s x):=by
 unfold g71
 rw [g71L26_eq]
 have e:=needed_outer N hN (fun e11 e12 e13 e14=>some ([]:List Int)) (fun e15 e16 e17 e18=>bif (ieq e17 2) then Option.bind (g96 N e15 e16 e18) fun r19=>if 0 < List.length r19 then some r19 else none else if 0 < List.length e15 then some e15 else none) x n hx hn kd (s:Int) N 0 (by omega) (by omega)
 simp only [Int.natCast_zero,Nat.sub_zero] at e
 rw [e]
 unfold needL aliveB
 cases allN n 0 (fun u=>allN u 0 (fun v=>!(decide (x.getD u 0 = x.getD v 0) && (decide (x.getD (n + u) 0 = x.getD (n + v) 0) && badD kd (s:Int) (u:Int) (v:Int))))) with
 | false=>rfl
 | true =>
   simp only [cond_true]
   by_cases hk:kd = 2
   · rw [show ieq kd 2 = true from decide_eq_true hk,cond_true,if_pos hk]
     obtain ⟨o',e1,e2,e3,e4⟩:=mark_eq N hN x n s hx hs hn
     rw [e1]
     simp only [Option.bind_some]
     rw [if_pos (by omega),ext_two e2 e3 e4]
     rfl
   · rw [show ieq kd 2 = false from decide_eq_false hk,cond_false,if_neg hk,if_pos (by omega)]
theorem wu8 (x:Int):IntKind.wrap .u8 x = x % 256:=by simp only [IntKind.wrap,IntKind.signed,IntKind.bits];simp
theorem key_loop (N:Nat) {C:Type} (k0:List Int→Option C) (x:List Int) (hl:x.length ≤ 1000) (hx:∀ v ∈ x,0 ≤ v∧v < 256) :
   ∀ (F i:Nat),x.length - i < F→i ≤ x.length→g69L58f N F k0 x (i:Int) (x.take i) = k0 x
 | 0,i,hF,_=>by omega
 | F + 1,i,hF,hi=>by
   rw [g69L58f_succ]
   unfold g69L58B
   by_cases hlt:i < x.length
   · have hv:=hx _ (getD_mem hlt 0)
     have hw:IntKind.wrap .u8 (x.getD i 0) = x.getD i 0:=by rw [wu8];omega
     rw [ltT hlt,cond_true,if_pos (idxT hlt),Int.toNat_natCast,hw,if_pos (by simp [maxCount];omega),take_getD x i 0 hlt,wn i (by omega)]
     exact key_loop N k0 x hl hx F (i + 1) (by omega) (by omega)
   · rw [ltF hlt,cond_false,List.take_of_length_le (by omega)]
def keyL (x:List Int):List UInt8:=x.map fun n:Int=>n.toNat.toUInt8
theorem keyL_eq (N:Nat) (hN:1000 < N) (x:List Int) (hl:x.length ≤ 1000) (hx:∀ v ∈ x,0 ≤ v∧v < 256):g69 N x = some (keyL x):=by
 unfold g69
 rw [g69L58_eq]
 exact key_loop N _ x hl hx N 0 (by omega) (by omega)
theorem keyL_inj:∀ {x y:List Int},(∀ v ∈ x,0 ≤ v∧v < 256)→(∀ v ∈ y,0 ≤ v∧v < 256)→keyL x = keyL y→x = y
 | [],[],_,_,_=>rfl
 | [],_ :: _,_,_,h=>by simp [keyL] at h
 | _ :: _,[],_,_,h=>by simp [keyL] at h
 | a :: x,b :: y,hx,hy,h=>by
   simp only [keyL,List.map_cons,List.cons.injEq] at h
   have ha:=hx a List.mem_cons_self
   have hb:=hy b List.mem_cons_self
   have h1:a = b:=by
     have:=congrArg UInt8.toNat h.1
     simp only [Nat.toUInt8,UInt8.toNat_ofNat'] at this
     omega
   rw [h1,keyL_inj (fun v hv=>hx v (List.mem_cons_of_mem _ hv)) (fun v hv=>hy v (List.mem_cons_of_mem _ hv)) h.2]
end Go.Pv
namespace Go.Pv
open Bfs
def lw (f:Nat→Bool):Nat→Nat→Nat
 | 0,c=>c
 | j + 1,c=>lw f j (bif f j then j else c)
theorem lw_spec (f:Nat→Bool):∀ (j c:Nat),(lw f j c = c∧∀ u,u < j→f u = false) ∨ (lw f j c < j∧f (lw f j c) = true∧∀ u,u < lw f j c→f u = false)
 | 0,c=>.inl ⟨rfl,fun u h=>by omega⟩
 | j + 1,c=>by
   simp only [lw]
   cases hf:f j with
   | false =>
     simp only [cond_false]
     rcases lw_spec f j c with ⟨h1,h2⟩ | ⟨h1,h2,h3⟩
     · exact .inl ⟨h1,fun u hu=>by
         by_cases hj:u = j
         · rw [hj];exact hf
         · exact h2 u (by omega)⟩
     · exact .inr ⟨by omega,h2,h3⟩
   | true =>
     simp only [cond_true]
     rcases lw_spec f j j with ⟨h1,h2⟩ | ⟨h1,h2,h3⟩
     · exact .inr ⟨by omega,by rw [h1];exact hf,by rw [h1];exact h2⟩
     · exact .inr ⟨by omega,h2,h3⟩
def alikeF (n:Nat) (m:MM) (X:List Int) (a:Int) (v u:Nat):Bool:=decide (X.getD u 0 = X.getD v 0) && decide (ou m (X.getD (n + u) 0) a = ou m (X.getD (n + v) 0) a)
def nextL (n:Nat) (m:MM) (X:List Int) (a:Int):List Int:=(List.range n).map (fun v=>((lw (alikeF n m X a v) v v:Nat):Int)) ++ (List.range n).map (fun v=>nx m (X.getD (n + v) 0) a)
structure VX (n:Nat) (X:List Int):Prop where
 len:X.length = 2 * n
 cl:∀ v,v < n→0 ≤ X.getD v 0∧X.getD v 0 ≤ (v:Int)
 nw:∀ v,v < n→0 ≤ X.getD (n + v) 0∧X.getD (n + v) 0 < (n:Int)
theorem set_self (o:List Int) (v:Nat) (c:Int) (h:o.getD v 0 = c) (hv:v < o.length):o.set v c = o:=by
 refine ext_getD (by simp) fun q hq=>?_
 rw [getD_set _ _ _ _ hv]
 split
 · rename_i e;rw [e,h]
 · rfl
theorem getD_set_self (o:List Int) (v:Nat) (c:Int) (h:v < o.length):(o.set v c).getD v 0 = c:=by rw [getD_set _ _ _ _ h,if_pos rfl]
theorem set_set (o:List Int) (v:Nat) (c d:Int):(o.set v c).set v d = o.set v d:=by simp
abbrev KN:=List (List UInt8×Bool)
theorem low_loop {m:MM} {k:Nat} (hm:Pm m k) (N:Nat) {C:Type} (k0:Int→Int→Int→Int→Int→Int→MM→List (List Int)→List Int→KN→List Int→Option C) (kd s:Int) (i v a:Nat) (l:List (List Int)) (lg:List Int) (kn:KN) (hi:i < l.length) (hX:VX m.1.length (l.getD i [])) (hv:v < m.1.length) (ha:a < k) :
   ∀ (F j c:Nat) (o:List Int),j < F→j ≤ v→o.length = 2 * m.1.length→o.getD v 0 = (c:Int) →
     g32L8542112334f N F k0 kd s (m.1.length:Int) (i:Int) (a:Int) (v:Int) ((j:Int) - 1) m l lg kn o = k0 kd s (m.1.length:Int) (i:Int) (a:Int) (v:Int) m l lg kn (o.set v ((lw (alikeF m.1.length m (l.getD i []) a v) j c:Nat):Int))
 | 0,j,c,o,hF,_,_,_=>by omega
 | F + 1,0,c,o,hF,_,ho,hc=>by
   rw [g32L8542112334f_succ]
   unfold g32L8542112334B
   rw [show decide ((0:Int) ≤ ((0:Nat):Int) - 1) = false from rfl,cond_false]
   simp only [lw]
   rw [set_self o v _ hc (by omega)]
 | F + 1,j + 1,c,o,hF,hj,ho,hc=>by
   have n6:=hm.n6
   have hl:=hX.len
   rw [g32L8542112334f_succ]
   unfold g32L8542112334B
   obtain ⟨u1,u2⟩:=hX.nw j (by omega)
   obtain ⟨v1,v2⟩:=hX.nw v hv
   obtain ⟨_,a2,a3,a4,_,_⟩:=hm.step u1 u2 (i:=(a:Int)) (by omega) (by omega)
   obtain ⟨_,b2,b3,b4,_,_⟩:=hm.step v1 v2 (i:=(a:Int)) (by omega) (by omega)
   have e1:(((j + 1:Nat):Int) - 1) = (j:Int):=by omega
   have w1:=wsum m.1.length j (by omega) (by omega)
   have w2:=wsum m.1.length v (by omega) (by omega)
   have w3:IntKind.wrap .i64 ((j:Int) - 1) = (j:Int) - 1:=w64 (by omega) (by omega)
   rw [e1,w1,w2,w3,show decide ((0:Int) ≤ (j:Int)) = true from decide_eq_true (by omega),cond_true]
   have i1:(idx (i:Int) l.length) = True:=eq_true (idxT hi)
   have i2:(idx (j:Int) (l.getD i []).length) = True:=eq_true ⟨by omega,by omega⟩
   have i3:(idx (v:Int) (l.getD i []).length) = True:=eq_true ⟨by omega,by omega⟩
   have i4:(idx ((m.1.length + j:Nat):Int) (l.getD i []).length) = True:=eq_true ⟨by omega,by omega⟩
   have i5:(idx ((m.1.length + v:Nat):Int) (l.getD i []).length) = True:=eq_true ⟨by omega,by omega⟩
   have i6:(idx (v:Int) o.length) = True:=eq_true ⟨by omega,by omega⟩
   have i7:(v < o.length) = True:=eq_true (by omega)
   simp only [Int.toNat_natCast,i1,eq_true hi,i2,i3,i4,i5,i6,i7,if_true,eq_true a2,eq_true b2,eq_true a3,eq_true a4,eq_true b3,eq_true b4]
   have ih1:=low_loop hm N k0 kd s i v a l lg kn hi hX hv ha F j c o (by omega) (by omega) ho hc
   have ih2:=low_loop hm N k0 kd s i v a l lg kn hi hX hv ha F j j (o.set v (j:Int)) (by omega) (by omega) (by simp [ho]) (getD_set_self _ _ _ (by omega))
   rw [ih1,ih2,set_set]
   simp only [lw,alikeF,ieq]
   have hou:∀ q:Nat,(m.2.1.getD (Int.toNat ((l.getD i []).getD (m.1.length + q) 0)) []).getD a 0 = ou m ((l.getD i []).getD (m.1.length + q) 0) (a:Int):=fun q=>by unfold ou;rw [Int.toNat_natCast]
   rw [hou,hou]
   by_cases h1:(l.getD i []).getD j 0 = (l.getD i []).getD v 0 <;> by_cases h2:ou m ((l.getD i []).getD (m.1.length + j) 0) (a:Int) = ou m ((l.getD i []).getD (m.1.length + v) 0) (a:Int)
   · rw [decide_eq_true h1,decide_eq_true h2];rfl
   · rw [decide_eq_true h1,decide_eq_false h2];rfl
   · rw [decide_eq_false h1,decide_eq_true h2];rfl
   · rw [decide_eq_false h1,decide_eq_false h2];rfl
theorem next_loop {m:MM} {k:Nat} (hm:Pm m k) (N:Nat) (hN:10 < N) {C:Type} (k0:Int→Int→Int→Int→Int→MM→List (List Int)→List Int→KN→List Int→Option C) (kd s:Int) (i a:Nat) (l:List (List Int)) (lg:List Int) (kn:KN) (hi:i < l.length) (hX:VX m.1.length (l.getD i [])) (ha:a < k) :
   ∀ (F v:Nat) (o:List Int),m.1.length - v < F→v ≤ m.1.length→o.length = 2 * m.1.length →
     (∀ q,q < v→o.getD q 0 = ((lw (alikeF m.1.length m (l.getD i []) a q) q q:Nat):Int))→(∀ q,q < v→o.getD (m.1.length + q) 0 = nx m ((l.getD i []).getD (m.1.length + q) 0) a) →
     g32L33367626f N F k0 kd s (m.1.length:Int) (i:Int) (a:Int) (v:Int) m l lg kn o = k0 kd s (m.1.length:Int) (i:Int) (a:Int) m l lg kn (nextL m.1.length m (l.getD i []) a)
 | 0,v,o,hF,_,_,_,_=>by omega
 | F + 1,v,o,hF,hv,ho,b1,b2=>by
   have n6:=hm.n6
   have hl:=hX.len
   rw [g32L33367626f_succ]
   unfold g32L33367626B
   by_cases hlt:v < m.1.length
   · obtain ⟨v1,v2⟩:=hX.nw v hlt
     obtain ⟨a3,_,a4,_,_,_⟩:=hm.step v1 v2 (i:=(a:Int)) (by omega) (by omega)
     have w2:=wsum m.1.length v (by omega) (by omega)
     have w3:IntKind.wrap .i64 ((v:Int) - 1) = (v:Int) - 1:=w64 (by omega) (by omega)
     have i1:(idx (i:Int) l.length) = True:=eq_true (idxT hi)
     have i5:(idx ((m.1.length + v:Nat):Int) (l.getD i []).length) = True:=eq_true ⟨by omega,by omega⟩
     have i6:(idx ((m.1.length + v:Nat):Int) o.length) = True:=eq_true ⟨by omega,by omega⟩
     have i7:(m.1.length + v < o.length) = True:=eq_true (by omega)
     have i8:∀ z:Int,(idx (v:Int) (o.set (m.1.length + v) z).length) = True:=fun z=>eq_true ⟨by omega,by simp;omega⟩
     have i9:∀ z:Int,(v < (o.set (m.1.length + v) z).length) = True:=fun z=>eq_true (by simp;omega)
     rw [ltT hlt,cond_true,w2,w3]
     simp only [Int.toNat_natCast,i1,eq_true hi,i5,i6,i7,i8,i9,if_true,eq_true a3,eq_true a4]
     rw [g32L8542112334_eq,low_loop hm N (fun e9 e10 e11 e12 e13 e14 e15 e16 e17 e18 e19=>g32L33367626f N F k0 e9 e10 e11 e12 e13 (IntKind.wrap .i64 (e14 + 1)) e15 e16 e17 e18 e19) kd s i v a l lg kn hi hX hlt ha N v v ((o.set (m.1.length + v) ((m.1.getD (Int.toNat ((l.getD i []).getD (m.1.length + v) 0)) []).getD a 0)).set v (v:Int)) (by omega) (by omega) (by simp [ho]) (getD_set_self _ _ _ (by simp;omega)),wn v (by omega),set_set]
     have hnx:(m.1.getD (Int.toNat ((l.getD i []).getD (m.1.length + v) 0)) []).getD a 0 = nx m ((l.getD i []).getD (m.1.length + v) 0) (a:Int):=by unfold nx;rw [Int.toNat_natCast]
     rw [hnx]
     refine next_loop hm N hN k0 kd s i a l lg kn hi hX ha F (v + 1) _ (by omega) (by omega) ?_ (fun q hq=>?_) (fun q hq=>?_)
     · simp [ho]
     · rw [getD_set _ _ _ _ (by simp;omega)]
       split
       · rename_i e;rw [e]
       · rw [getD_set _ _ _ _ (by omega),if_neg (by omega)];exact b1 q (by omega)
     · rw [getD_set _ _ _ _ (by simp;omega),if_neg (by omega),getD_set _ _ _ _ (by omega)]
       split
       · rename_i e;rw [show q = v by omega]
       · exact b2 q (by omega)
   · rw [ltF hlt,cond_false]
     have:v = m.1.length:=by omega
     subst this
     rw [ext_two ho b1 b2]
     rfl
theorem next_loop0 {m:MM} {k:Nat} (hm:Pm m k) (N:Nat) (hN:10 < N) {C:Type} (k0:Int→Int→Int→Int→Int→MM→List (List Int)→List Int→KN→List Int→Option C) (kd s:Int) (i a:Nat) (l:List (List Int)) (lg:List Int) (kn:KN) (hi:i < l.length) (hX:VX m.1.length (l.getD i [])) (ha:a < k) :
   g32L33367626f N N k0 kd s (m.1.length:Int) (i:Int) (a:Int) 0 m l lg kn (List.replicate (2 * m.1.length) 0) = k0 kd s (m.1.length:Int) (i:Int) (a:Int) m l lg kn (nextL m.1.length m (l.getD i []) a):=by
 have n6:=hm.n6
 exact next_loop hm N hN k0 kd s i a l lg kn hi hX ha N 0 (List.replicate (2 * m.1.length) 0) (by omega) (by omega) (by simp) (by omega) (by omega)
theorem lw_le (f:Nat→Bool) (v:Nat):lw f v v ≤ v:=by
 rcases lw_spec f v v with ⟨h,_⟩ | ⟨h,_⟩ <;> omega
theorem VX.next {m:MM} {k:Nat} (hm:Pm m k) {X:List Int} (hX:VX m.1.length X) {a:Nat} (ha:a < k):VX m.1.length (nextL m.1.length m X a):=by
 refine ⟨by unfold nextL;simp;omega,fun v hv=>?_,fun v hv=>?_⟩
 · unfold nextL
   rw [getD_two,if_pos hv]
   have:=lw_le (alikeF m.1.length m X a v) v
   omega
 · unfold nextL
   rw [getD_two,if_neg (by omega),if_pos (by omega),show m.1.length + v - m.1.length = v by omega]
   obtain ⟨u1,u2⟩:=hX.nw v hv
   exact (hm.step u1 u2 (i:=(a:Int)) (by omega) (by omega)).2.2.2.2.1
theorem VX.mark {n:Nat} {X:List Int} (hX:VX n X) (s:Nat) (h1:1 ≤ n):VX n (markL n s X):=by
 refine ⟨by unfold markL;simp;omega,fun v hv=>?_,fun v hv=>?_⟩
 · unfold markL
   rw [getD_two,if_pos hv]
   have:=hX.cl v hv
   split
   · rename_i e;rw [← e];exact this
   · omega
 · unfold markL
   rw [getD_two,if_neg (by omega),if_pos (by omega),show n + v - n = v by omega]
   have:=hX.nw v hv
   split
   · exact this
   · omega
def eR (m:MM) (kd:Int) (s:Nat) (X:List Int) (a:Nat):Option (List Int):=if 0 < (needL m.1.length kd s (nextL m.1.length m X a)).length then some (needL m.1.length kd s (nextL m.1.length m X a)) else none
theorem VX.step {m:MM} {k:Nat} (hm:Pm m k) {X:List Int} (hX:VX m.1.length X) {a:Nat} (ha:a < k) {kd:Int} {s:Nat} {Y:List Int} (h:eR m kd s X a = some Y):VX m.1.length Y:=by
 have h1:=hm.n1
 have hn:=hX.next hm ha
 unfold eR at h
 split at h
 · rename_i hpos
   obtain rfl:=Option.some.inj h
   unfold needL at hpos ⊢
   cases hb:aliveB m.1.length kd (s:Int) (nextL m.1.length m X a) with
   | false=>rw [hb] at hpos;simp at hpos
   | true =>
     simp only [cond_true]
     split
     · exact hn.mark s h1
     · exact hn
 · cases h
theorem VX.bytes {n:Nat} (hn:n ≤ 6) {X:List Int} (hX:VX n X):∀ v ∈ X,0 ≤ v∧v < 256:=by
 intro v hv
 obtain ⟨q,q1,rfl⟩:=List.mem_iff_getElem.1 hv
 have hl:=hX.len
 have e:X[q] = X.getD q 0:=by rw [List.getD_eq_getElem?_getD,List.getElem?_eq_getElem q1];rfl
 rw [e]
 by_cases h:q < n
 · have:=hX.cl q h;omega
 · have:=hX.nw (q - n) (by omega)
   rw [show n + (q - n) = q by omega] at this;omega
def boundX (n:Nat):List Nat:=(List.range n).map (· + 1) ++ List.replicate n n
theorem bound_get (n i:Nat) (hi:i < 2 * n):(boundX n).getD i 0 = if i < n then i + 1 else n:=by
 unfold boundX
 rw [List.getD_eq_getElem?_getD,List.getElem?_append]
 by_cases h:i < n
 · simp [h]
 · have h2:i - n < n:=by omega
   simp [h,h2]
theorem VX.univ {n:Nat} {X:List Int} (hX:VX n X):X ∈ listsB (boundX n):=by
 have hl:=hX.len
 refine mem_listsB _ _ (by unfold boundX;simp;omega) fun i hi=>?_
 have hi:i < 2 * n:=by unfold boundX at hi;simp at hi;omega
 rw [bound_get n i hi]
 by_cases h:i < n
 · have:=hX.cl i h
   rw [if_pos h];omega
 · have:=hX.nw (i - n) (by omega)
   rw [show n + (i - n) = i by omega] at this
   rw [if_neg h];omega
theorem fewX {n:Nat} (h5:n ≤ 5) {L:List (List Int)} (hd:L.Nodup) (hv:∀ y ∈ L,VX n y):L.length ≤ 375000:=by
 have:=nodup_len hd (fun y hy=>(hv y hy).univ)
 rw [listsB_len] at this
 refine Nat.le_trans this ?_
 rcases n with _ | _ | _ | _ | _ | _ | n
 all_goals first | omega | (exact Nat.le_of_ble_eq_true rfl)
theorem beqS_eq (a b:List UInt8):Ty.beq .str a b = decide (a = b):=by
 simp only [Ty.beq,beqS]
 by_cases h:a = b <;> simp [h]
structure QK (m:MM) (k:Nat) (kd:Int) (s:Nat) (first:List Int) (i x:Nat) (l:List (List Int)) (lg:List Int) (kn:KN):Prop extends Qu (eR m kd s) k first [] i x l lg where
 vx:∀ y ∈ l,VX m.1.length y
 known:∀ y,VX m.1.length y→Option.getD (mapFind (Ty.beq .str) (keyL y) kn) false = decide (y ∈ l)
 none:∀ q,q < i→toldB m.1.length kd (s:Int) (l.getD q []) = false
theorem QK.few {m:MM} {k:Nat} {kd:Int} {s:Nat} {first:List Int} {i x:Nat} {l:List (List Int)} {lg:List Int} {kn:KN} (h:QK m k kd s first i x l lg kn) (h5:m.1.length ≤ 5):l.length ≤ 375000:=fewX h5 h.nod h.vx
theorem input_loop {m:MM} {k:Nat} (hm:Pm m k) (h5:m.1.length ≤ 5) (N:Nat) (hN:1000 < N) {C:Type} (k0:Int→Int→Int→Int→MM→List (List Int)→List Int→KN→Option C) (kd:Int) (s:Nat) (hs:s < m.1.length) (first:List Int) (i:Nat) :
   ∀ (F x:Nat) (l:List (List Int)) (lg:List Int) (kn:KN),k - x < F→x ≤ k→i < l.length→QK m k kd s first i x l lg kn →
     ∃ l' lg' kn',i < l'.length∧(∀ q,q < l.length→l'.getD q [] = l.getD q [])∧QK m k kd s first i k l' lg' kn'∧g32L130342f N F k0 kd (s:Int) (m.1.length:Int) (i:Int) (x:Int) m l lg kn = k0 kd (s:Int) (m.1.length:Int) (i:Int) m l' lg' kn'
 | 0,x,l,lg,kn,hF,_,_,_=>by omega
 | F + 1,x,l,lg,kn,hF,hx,hi,h=>by
   have k3:=hm.k3
   have n6:=hm.n6
   have n1:=hm.n1
   rw [g32L130342f_succ]
   unfold g32L130342B
   rw [hm.inputs41 N]
   simp only [Option.bind_some]
   by_cases hlt:x < k
   · have hX:=h.vx _ (getD_mem hi [])
     obtain ⟨m1,m2⟩:=mkOk2 m.1.length n6
     have hfew:=h.few h5
     rw [ltT hlt,cond_true,if_pos m1,m2,g32L33367626_eq]
     rw [next_loop0 hm N (by omega) _ kd (s:Int) i x l lg kn hi hX hlt]
     have hnx:=hX.next hm hlt
     rw [needed_eq N (by omega) _ m.1.length hnx.len n1 n6 kd s hs]
     simp only [Option.bind_some]
     have he:eR m kd s (l.getD i []) x = if 0 < (needL m.1.length kd s (nextL m.1.length m (l.getD i []) x)).length then some (needL m.1.length kd s (nextL m.1.length m (l.getD i []) x)) else none:=rfl
     generalize needL m.1.length kd s (nextL m.1.length m (l.getD i []) x) = z at he
     by_cases hpos:0 < z.length
     · rw [if_pos hpos] at he
       have hz:=hX.step hm hlt he
       rw [if_pos hpos,if_pos hpos,keyL_eq N hN z (by rw [hz.len];omega) (hz.bytes n6)]
       simp only [Option.bind_some,h.known z hz]
       by_cases hmem:z ∈ l
       · rw [decide_eq_true hmem,cond_true,wn x (by omega)]
         exact input_loop hm h5 N hN k0 kd s hs first i F (x + 1) l lg kn (by omega) (by omega) hi
           ⟨h.toQu.skip hi (fun y hy=>by rw [he] at hy;obtain rfl:=Option.some.inj hy;exact hmem),h.vx,h.known,h.none⟩
       · have hil:i < lg.length:=by rw [h.len];exact hi
         have hsm:=h.small i hi
         obtain ⟨dj,j1,_⟩:=h.way i hi
         have hq:IntKind.wrap .i64 (lg.getD i 0 + 1) = lg.getD i 0 + 1:=w64 (by omega) (by omega)
         have hle:=h.len
         rw [decide_eq_false hmem,cond_false,if_pos (show l.length + [z].length ≤ maxCount by simp [maxCount];omega),if_pos (idxT hil),Int.toNat_natCast,if_pos hil,if_pos (show lg.length + [IntKind.wrap .i64 (lg.getD i 0 + 1)].length ≤ maxCount by simp [maxCount];omega),hq,wn x (by omega)]
         have hqu:=h.toQu.add hi hlt z he hmem
         have hQ:QK m k kd s first i (x + 1) (l ++ [z]) (lg ++ [lg.getD i 0 + 1]) (mapPut (Ty.beq .str) (keyL z) true kn):=by
           refine ⟨hqu,fun y hy=>?_,fun y hy=>?_,fun q hq=>?_⟩
           · rcases List.mem_append.1 hy with hy | hy
             · exact h.vx y hy
             · rw [List.mem_singleton.1 hy];exact hz
           · rw [find_put _ beqS_eq]
             by_cases hyz:keyL y = keyL z
             · have:=keyL_inj (hy.bytes n6) (hz.bytes n6) hyz
               rw [if_pos hyz];simp [this]
             · rw [if_neg hyz,h.known y hy]
               have:y ≠ z:=fun e=>hyz (by rw [e])
               simp [this]
           · rw [getDapp,if_pos (by omega)];exact h.none q hq
         exact Exists.imp (fun l'=>Exists.imp fun lg'=>Exists.imp fun kn' hh=>⟨hh.1,fun q hq=>by rw [hh.2.1 q (by simp;omega),getDapp,if_pos hq],hh.2.2⟩) (input_loop hm h5 N hN k0 kd s hs first i F (x + 1) (l ++ [z]) (lg ++ [lg.getD i 0 + 1]) (mapPut (Ty.beq .str) (keyL z) true kn) (by omega) (by omega) (by simp;omega) hQ)
     · rw [if_neg hpos] at he
       rw [if_neg hpos,wn x (by omega)]
       exact input_loop hm h5 N hN k0 kd s hs first i F (x + 1) l lg kn (by omega) (by omega) hi
         ⟨h.toQu.skip hi (fun y hy=>by rw [he] at hy;cases hy),h.vx,h.known,h.none⟩
   · rw [ltF hlt,cond_false]
     have:x = k:=by omega
     subst this
     exact ⟨l,lg,kn,hi,fun _ _=>rfl,h,rfl⟩
theorem queue_loop {m:MM} {k:Nat} (hm:Pm m k) (h5:m.1.length ≤ 5) (N:Nat) (hN:400000 < N) {C:Type} (k0:Int→MM→List (List Int)→List Int→KN→Option C) (k1:MM→List (List Int)→List Int→KN→Option C) (kd:Int) (s:Nat) (hs:s < m.1.length) (first:List Int) :
   ∀ (F i:Nat) (l:List (List Int)) (lg:List Int) (kn:KN),375001 - i < F→i ≤ l.length→QK m k kd s first i 0 l lg kn →
     (∃ (d:Nat) (y:List Int) (l':List (List Int)) (lg':List Int) (kn':KN),(R (eR m kd s) k first d y∧toldB m.1.length kd (s:Int) y = true∧∀ d',d' < d→∀ z,R (eR m kd s) k first d' z→toldB m.1.length kd (s:Int) z = false)∧g32L1018f N F k0 k1 kd (s:Int) (m.1.length:Int) (i:Int) m l lg kn = k0 (d:Int) m l' lg' kn') ∨
     ((∀ d z,R (eR m kd s) k first d z→toldB m.1.length kd (s:Int) z = false)∧∃ l' lg' kn',g32L1018f N F k0 k1 kd (s:Int) (m.1.length:Int) (i:Int) m l lg kn = k1 m l' lg' kn')
 | 0,i,l,lg,kn,hF,hi,h=>by have:=h.few h5;omega
 | F + 1,i,l,lg,kn,hF,hi,h=>by
   have n6:=hm.n6
   have hfew:=h.few h5
   have hle:=h.len
   have none':∀ z,z ∈ l→(∀ q,q < l.length→l.getD q [] = z→q < i)→toldB m.1.length kd (s:Int) z = false:=by
     intro z hz hq
     obtain ⟨q,q1,q2⟩:=List.mem_iff_getElem.1 hz
     have e:l.getD q [] = z:=by rw [List.getD_eq_getElem?_getD,List.getElem?_eq_getElem q1];exact q2
     rw [← e];exact h.none q (hq q q1 e)
   rw [g32L1018f_succ]
   unfold g32L1018B
   by_cases hlt:i < l.length
   · have hX:=h.vx _ (getD_mem hlt [])
     rw [ltT hlt,cond_true,if_pos (idxT hlt),Int.toNat_natCast,if_pos hlt,told_eq N (by omega) _ m.1.length hX.len n6 kd (s:Int)]
     simp only [Option.bind_some]
     cases ht:toldB m.1.length kd (s:Int) (l.getD i []) with
     | true =>
       obtain ⟨dj,j1,j2⟩:=h.way i hlt
       rw [cond_true,if_pos (show idx (i:Int) lg.length from ⟨by omega,by omega⟩),if_pos (by omega)]
       refine .inl ⟨dj,_,l,lg,kn,⟨j2,ht,fun d' hd' z hz=>?_⟩,by rw [j1]⟩
       obtain ⟨q,q1,q2,q3⟩:=h.toQu.short (lg.getD i 0) (h.toQu.lt hlt) d' z (by omega) hz
       rw [← q2]
       exact h.none q (h.toQu.lt hlt q q1 (by omega))
     | false =>
       rw [cond_false,g32L130342_eq]
       obtain ⟨l',lg',kn',hi',hpre0,h',e⟩:=input_loop hm h5 N (by omega) (fun e33 e34 e35 e36 e37 e38 e39 e40=>g32L1018f N F k0 k1 e33 e34 e35 (IntKind.wrap .i64 (e36 + 1)) e37 e38 e39 e40) kd s hs first i N 0 l lg kn (by have:=hm.k3;omega) (by omega) hlt h
       have e:g32L130342f N N (fun e33 e34 e35 e36 e37 e38 e39 e40=>g32L1018f N F k0 k1 e33 e34 e35 (IntKind.wrap .i64 (e36 + 1)) e37 e38 e39 e40) kd (s:Int) (m.1.length:Int) (i:Int) 0 m l lg kn = _:=e
       rw [e,wn i (by omega)]
       have hpre:l'.getD i [] = l.getD i []:=hpre0 i hlt
       exact queue_loop hm h5 N hN k0 k1 kd s hs first F (i + 1) l' lg' kn' (by omega) (by omega) ⟨h'.toQu.next hi',h'.vx,h'.known,fun q hq=>by
         by_cases hqi:q = i
         · rw [hqi,hpre];exact ht
         · exact h'.none q (by omega)⟩
   · rw [ltF hlt,cond_false]
     have:i = l.length:=by omega
     refine .inr ⟨fun d z hz=>none' z (h.toQu.all (by omega) d z hz) fun q hq _=>by omega,l,lg,kn,rfl⟩
end Go.Pv
