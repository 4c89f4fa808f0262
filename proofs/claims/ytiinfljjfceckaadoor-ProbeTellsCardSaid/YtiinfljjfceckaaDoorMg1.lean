/- Plain texts, merged: QpA, QpB, QpC, QpD, QpE, QpAw. -/
import Derived.Test.YtiinfljjfceckaaDoorPvL09
import Derived.Test.YtiinfljjfceckaaDoorPvG09
import Derived.KernelRfl
/- Seat 09, plain: lists in ranges, copies, machines as they should be. -/
set_option linter.unusedVariables false
set_option linter.unusedSimpArgs false
namespace Go.Pv
abbrev MM:=List (List Int)×List (List Int)×Unit
theorem w64 {x:Int} (h1:-9223372036854775808 ≤ x) (h2:x < 9223372036854775808):IntKind.wrap .i64 x = x:=by rw [IntKind.wrap_i64];omega
theorem wu64 (x:Int):IntKind.wrap .u64 x = x % 18446744073709551616:=by simp only [IntKind.wrap,IntKind.signed,IntKind.bits];simp
theorem wu64n {x:Int} (h1:0 ≤ x) (h2:x < 18446744073709551616):IntKind.wrap .u64 x = x:=by rw [wu64];omega
theorem wn (i:Nat) (h:i < 1000000):IntKind.wrap .i64 ((i:Int) + 1) = ((i + 1:Nat):Int):=by rw [w64 (by omega) (by omega)];simp
@[simp] theorem ieq_self (x:Int):ieq x x = true:=by simp only [ieq,decide_true]
theorem low (x:Int) {m:Int} (hm:0 < m) (hm2:m < 1000000):∃ r:Int,IntKind.wrap .i64 (Int.tmod (IntKind.wrap .u64 x) m) = r∧0 ≤ r∧r < m:=by
 refine ⟨(x % 18446744073709551616) % m,?_,Int.emod_nonneg _ (by omega),Int.emod_lt_of_pos _ hm⟩
 rw [wu64,Int.tmod_eq_emod_of_nonneg (Int.emod_nonneg _ (by decide))]
 have h1:=Int.emod_nonneg (x % 18446744073709551616) (show m ≠ 0 by omega)
 have h2:=Int.emod_lt_of_pos (x % 18446744073709551616) hm
 exact w64 (by omega) (by omega)
theorem getD_mem {α:Type} {l:List α} {i:Nat} (h:i < l.length) (d:α):l.getD i d ∈ l:=by
 rw [List.getD_eq_getElem?_getD,List.getElem?_eq_getElem h];simp
theorem getD_drop {α:Type} (l:List α) (i:Nat) (d:α) (h:i < l.length):l.drop i = l.getD i d :: l.drop (i + 1):=by
 rw [List.drop_eq_getElem_cons h];simp [h]
theorem take_getD {α:Type} (l:List α) (i:Nat) (d:α) (h:i < l.length):l.take i ++ [l.getD i d] = l.take (i + 1):=by
 rw [List.take_add_one];simp [h]
theorem idxT {i:Nat} {n:Nat} (h:i < n):idx (i:Int) n:=⟨by omega,by omega⟩
theorem ltT {i n:Nat} (h:i < n):decide ((i:Int) < (n:Int)) = true:=by simp;omega
theorem ltF {i n:Nat} (h:¬ i < n):decide ((i:Int) < (n:Int)) = false:=by simp;omega
theorem any_loop (N:Nat) {C:Type} (k0:Int→Option C) (k1:Option C) (l:List Int) (f:(Int×Unit)→Option Bool) (p:Int→Bool) (hf:∀ x,f (x,()) = some (p x)) (hl:l.length < 4611686018427387904) :
   ∀ (F i:Nat),l.length - i < F→i ≤ l.length→((l.drop i).any p = true∧∃ j:Nat,g121L26f N F k0 k1 l f (l.length:Int) (i:Int) = k0 j) ∨ ((l.drop i).any p = false∧g121L26f N F k0 k1 l f (l.length:Int) (i:Int) = k1)
 | 0,i,h,_=>by omega
 | F + 1,i,h,hi=>by
   rw [g121L26f_succ]
   unfold g121L26B
   by_cases hlt:i < l.length
   · rw [ltT hlt,cond_true,if_pos (idxT hlt),Int.toNat_natCast,hf]
     simp only [Option.bind_some]
     rw [getD_drop l i 0 hlt,List.any_cons]
     cases hp:p (l.getD i 0) with
     | true=>exact .inl ⟨by simp,i,rfl⟩
     | false =>
       simp only [cond_false,Bool.false_or]
       have e3:IntKind.wrap .i64 ((i:Int) + 1) = ((i + 1:Nat):Int):=by rw [w64 (by omega) (by omega)];simp
       rw [e3]
       exact any_loop N k0 k1 l f p hf hl F (i + 1) (by omega) (by omega)
   · rw [ltF hlt,cond_false,List.drop_eq_nil_of_le (by omega)]
     exact .inr ⟨rfl,rfl⟩
theorem are_eq (N:Nat) (lo hi:Int) (l:List Int) (hN:l.length < N) (hl:l.length < 4611686018427387904):g82 N lo hi l = some (l.all fun x=>decide (lo ≤ x) && decide (x ≤ hi)):=by
 unfold g82 g106 g121
 rw [g121L26_eq]
 have:=any_loop N (fun e2=>some e2) (some (-1)) l (fun (x1:(Int)×(Unit))=>Option.bind (g107 N x1.1 lo hi) fun y2=>some y2) (fun x=>decide (x < lo) || decide (hi < x))
   (fun x=>by
     simp only [g107]
     cases h:decide (x < lo) <;> simp) hl N 0 (by omega) (by omega)
 simp only [Int.natCast_zero,List.drop_zero] at this
 have hx:(l.all fun x=>decide (lo ≤ x) && decide (x ≤ hi)) = !(l.any fun x=>decide (x < lo) || decide (hi < x)):=by
   rw [List.not_any_eq_all_not]
   congr 1
   funext x
   by_cases h1:x < lo <;> by_cases h2:hi < x <;> simp [h1,h2] <;> omega
 rcases this with ⟨h1,j,h2⟩ | ⟨h1,h2⟩
 · rw [h2,hx,h1]
   simp
 · rw [h2,hx,h1]
   simp
theorem are_true (N:Nat) (lo hi:Int) (l:List Int) (hN:l.length < N) (hl:l.length < 1000000) (h:∀ x ∈ l,lo ≤ x∧x ≤ hi):g82 N lo hi l = some true:=by
 rw [are_eq N lo hi l hN (by omega)]
 congr 1
 rw [List.all_eq_true]
 intro x hx
 have:=h x hx
 simp;exact this
theorem few_eq (N:Nat) (l:List Int) (k:Int) (h0:0 ≤ k) (hk:k ≤ 1000):g42 N l k = some (l.take k.toNat):=by
 unfold g42
 have e:imin (l.length:Int) k = ((min l.length k.toNat:Nat):Int):=by simp only [imin];split <;> omega
 rw [e,if_pos ⟨by omega,by omega,by omega⟩]
 have:List.take (min l.length k.toNat) l = l.take k.toNat:=by
   rcases Nat.le_total l.length k.toNat with h | h
   · rw [Nat.min_eq_left h,List.take_of_length_le h,List.take_length]
   · rw [Nat.min_eq_right h]
 simp [this,maxCount]
 omega
theorem inputs_eq (N:Nat) (k:Int):∃ r:Nat,g16 N k = some (r:Int)∧1 ≤ r∧r ≤ 3:=by
 obtain ⟨v,e,h1,h2⟩:=low k (m:=3) (by omega) (by omega)
 refine ⟨(1 + v).toNat,?_,by omega,by omega⟩
 unfold g16
 rw [e,w64 (by omega) (by omega)]
 congr 1
 omega
structure Pm (x:MM) (k:Nat):Prop where
 n1:1 ≤ x.1.length
 n6:x.1.length ≤ 6
 out:x.2.1.length = x.1.length
 k1:1 ≤ k
 k3:k ≤ 3
 rowN:∀ r ∈ x.1,r.length = k∧∀ t ∈ r,0 ≤ t∧t < (x.1.length:Int)
 rowO:∀ r ∈ x.2.1,r.length = k∧∀ t ∈ r,0 ≤ t∧t ≤ 3
theorem Pm.inputs {x:MM} {k:Nat} (h:Pm x k) (N:Nat):g85 N x = some (k:Int):=by
 unfold g85
 have:=h.n1
 rw [if_pos ⟨by omega,by omega⟩]
 have:=(h.rowN _ (getD_mem (i:=0) (by omega) [])).1
 simp only [show Int.toNat 0 = 0 from rfl,this]
theorem Pm.inputs41 {x:MM} {k:Nat} (h:Pm x k) (N:Nat):g41 N x = some (k:Int):=h.inputs N
theorem Pm.check_loop {x:MM} {k:Nat} (h:Pm x k) (N:Nat) (hN:20 < N) {C:Type} (k0:Int→MM→Option C) (k1:MM→Option C) :
   ∀ (F i:Nat),x.1.length - i < F→i ≤ x.1.length→g57L122f N F k0 k1 (x.1.length:Int) x.1 (x.1.length:Int) (i:Int) x = k1 x
 | 0,i,hF,_=>by omega
 | F + 1,i,hF,hi=>by
   rw [g57L122f_succ]
   unfold g57L122B
   have:=h.n6;have:=h.k3
   by_cases hlt:i < x.1.length
   · have ho:i < x.2.1.length:=by rw [h.out];exact hlt
     obtain ⟨r1,r2⟩:=h.rowN _ (getD_mem hlt [])
     obtain ⟨o1,o2⟩:=h.rowO _ (getD_mem ho [])
     have e1:g82 N 0 (IntKind.wrap .i64 ((x.1.length:Int) - 1)) (x.1.getD i []) = some true:=by
       rw [w64 (by omega) (by omega)]
       exact are_true N _ _ _ (by omega) (by omega) fun t ht=>by have:=r2 t ht;omega
     have e2:g82 N 0 3 (x.2.1.getD i []) = some true:=are_true N _ _ _ (by omega) (by omega) o2
     rw [ltT hlt,cond_true,if_pos (idxT hlt),h.inputs N]
     simp only [Option.bind_some,Int.toNat_natCast,r1,ieq_self,Bool.not_true,cond_false]
     rw [if_pos (idxT ho),o1,ieq_self,Bool.not_true,cond_false,e1]
     simp only [Option.bind_some,Bool.not_true,cond_false]
     rw [if_pos (idxT ho),e2]
     simp only [Option.bind_some,Bool.not_true,cond_false]
     rw [wn i (by omega)]
     exact h.check_loop N hN k0 k1 F (i + 1) (by omega) (by omega)
   · rw [ltF hlt,cond_false]
theorem Pm.check {x:MM} {k:Nat} (h:Pm x k) (N:Nat) (hN:20 < N):g57 N x = some 0:=by
 have:=h.n1;have:=h.n6;have:=h.k1;have:=h.k3
 unfold g57
 rw [are_true N 1 6 [((x.1.length:Nat):Int)] (by simp;omega) (by simp) (by simp;omega)]
 simp only [Option.bind_some,Bool.not_true,cond_false,h.out,ieq_self]
 rw [if_pos ⟨by omega,by omega⟩]
 have r1:=(h.rowN _ (getD_mem (i:=0) (by omega) [])).1
 simp only [show Int.toNat 0 = 0 from rfl,r1]
 rw [are_true N 1 3 [(k:Int)] (by simp;omega) (by simp) (by simp;omega)]
 simp only [Option.bind_some,Bool.not_true,cond_false]
 rw [g57L122_eq]
 exact h.check_loop N hN _ _ N 0 (by omega) (by omega)
theorem rows_loop (N:Nat) {C:Type} (k0:List (List Int)→Option C) (l:List (List Int)) (hl:l.length ≤ 6) (hr:∀ r ∈ l,r.length ≤ 4) :
   ∀ (F i:Nat),l.length - i < F→i ≤ l.length→g59L58f N F k0 l (i:Int) (l.take i) = k0 l
 | 0,i,h,_=>by omega
 | F + 1,i,h,hi=>by
   rw [g59L58f_succ]
   unfold g59L58B
   by_cases hlt:i < l.length
   · have e2:decide ((i:Int) ≤ 6) = true:=by simp;omega
     rw [ltT hlt,cond_true,e2,cond_true,if_pos (idxT hlt),Int.toNat_natCast,few_eq N _ 4 (by omega) (by omega)]
     simp only [Option.bind_some,show Int.toNat 4 = 4 from rfl,List.take_of_length_le (hr _ (getD_mem hlt []))]
     rw [if_pos (by simp [maxCount];omega),take_getD l i [] hlt,wn i (by omega)]
     exact rows_loop N k0 l hl hr F (i + 1) (by omega) (by omega)
   · rw [ltF hlt,cond_false,List.take_of_length_le (by omega)]
theorem rows_eq (N:Nat) (hN:10 < N) (l:List (List Int)) (hl:l.length ≤ 6) (hr:∀ r ∈ l,r.length ≤ 4):g59 N l = some l:=by
 unfold g59
 rw [g59L58_eq]
 exact rows_loop N _ l hl hr N 0 (by omega) (by omega)
theorem Pm.given {x:MM} {k:Nat} (h:Pm x k) (N:Nat) (hN:10 < N):g18 N x = some x:=by
 have:=h.n6;have:=h.k3;have:=h.out
 unfold g18
 rw [rows_eq N hN x.1 (by omega) fun r hr=>by have:=(h.rowN r hr).1;omega,rows_eq N hN x.2.1 (by omega) fun r hr=>by have:=(h.rowO r hr).1;omega]
 rfl
theorem Pm.own {x:MM} {k:Nat} (h:Pm x k) (N:Nat) (hN:10 < N):g23 N x = some x:=h.given N hN
theorem tame_row (N:Nat) {C:Type} (k0:Int→Int→Int→MM→List Int→List Int→List (List Int)→List (List Int)→List (List Int)→List (List Int)→Option C) (k n i:Nat) (hk:k ≤ 3) (hn1:1 ≤ n) (hn:n ≤ 6) (x:MM) (c1 c2 c3 c4:List (List Int)) :
   ∀ (F j:Nat) (p q:List Int),k - j < F→j ≤ k→p.length = j→q.length = j→(∀ t ∈ p,0 ≤ t∧t < (n:Int))→(∀ t ∈ q,0 ≤ t∧t ≤ 3) →
     ∃ p' q':List Int,p'.length = k∧q'.length = k∧(∀ t ∈ p',0 ≤ t∧t < (n:Int))∧(∀ t ∈ q',0 ≤ t∧t ≤ 3) ∧
       g15L31306f N F k0 (k:Int) (n:Int) (i:Int) (j:Int) x p q c1 c2 c3 c4 = k0 (k:Int) (n:Int) (i:Int) x p' q' c1 c2 c3 c4
 | 0,j,p,q,h,_,_,_,_,_=>by omega
 | F + 1,j,p,q,h,hj,hp,hq,hpb,hqb=>by
   rw [g15L31306f_succ]
   unfold g15L31306B
   by_cases hlt:j < k
   · have add:∀ v o:Int,0 ≤ v→v < (n:Int)→0 ≤ o→o < 4→∃ p' q':List Int,p'.length = k∧q'.length = k∧(∀ t ∈ p',0 ≤ t∧t < (n:Int))∧(∀ t ∈ q',0 ≤ t∧t ≤ 3) ∧
         g15L31306f N F k0 (k:Int) (n:Int) (i:Int) ((j + 1:Nat):Int) x (p ++ [v]) (q ++ [o]) c1 c2 c3 c4 = k0 (k:Int) (n:Int) (i:Int) x p' q' c1 c2 c3 c4:=fun v o h1 h2 h3 h4 =>
       tame_row N k0 k n i hk hn1 hn x c1 c2 c3 c4 F (j + 1) (p ++ [v]) (q ++ [o]) (by omega) (by omega) (by simp [hp]) (by simp [hq])
         (fun t ht=>by
           rcases List.mem_append.1 ht with ht | ht
           · exact hpb t ht
           · obtain rfl:=List.mem_singleton.1 ht;exact ⟨h1,h2⟩)
         (fun t ht=>by
           rcases List.mem_append.1 ht with ht | ht
           · exact hqb t ht
           · obtain rfl:=List.mem_singleton.1 ht;omega)
     have hw:IntKind.wrap .u64 (n:Int) = (n:Int):=wu64n (by omega) (by omega)
     have hz:(((n:Int) = 0) = False):=eq_false (by omega)
     have mp:∀ v:Int,((p.length + [v].length ≤ maxCount) = True):=fun v=>eq_true (by simp [maxCount];omega)
     have mq:∀ v:Int,((q.length + [v].length ≤ maxCount) = True):=fun v=>eq_true (by simp [maxCount];omega)
     have mp0:((p.length + List.length ([0]:List Nat) ≤ maxCount) = True):=eq_true (by simp [maxCount];omega)
     have mq0:((q.length + List.length ([0]:List Nat) ≤ maxCount) = True):=eq_true (by simp [maxCount];omega)
     obtain ⟨v,ev,v1,v2⟩:=low ((x.1.getD i []).getD j 0) (m:=(n:Int)) (by omega) (by omega)
     obtain ⟨o,eo,o1,o2⟩:=low ((x.2.1.getD i []).getD j 0) (m:=4) (by omega) (by omega)
     rw [ltT hlt,cond_true,wn j (by omega),hw]
     by_cases a1:i < x.1.length
     · by_cases a2:j < (x.1.getD i []).length
       · by_cases b1:i < x.2.1.length
         · by_cases b2:j < (x.2.1.getD i []).length
           · simp only [Int.toNat_natCast,ltT a1,ltT a2,ltT b1,ltT b2,eq_true (idxT a1),eq_true (idxT a2),eq_true (idxT b1),eq_true (idxT b2),cond_true,if_true,hz,if_false,ev,eo,mp,mq]
             exact add v o v1 v2 o1 o2
           · simp only [Int.toNat_natCast,ltT a1,ltT a2,ltT b1,ltF b2,eq_true (idxT a1),eq_true (idxT a2),eq_true (idxT b1),cond_true,cond_false,if_true,hz,if_false,ev,mp,mq,mp0,mq0]
             exact add v 0 v1 v2 (by omega) (by omega)
         · simp only [Int.toNat_natCast,ltT a1,ltT a2,ltF b1,eq_true (idxT a1),eq_true (idxT a2),cond_true,cond_false,if_true,hz,if_false,ev,mp,mq,mp0,mq0]
           exact add v 0 v1 v2 (by omega) (by omega)
       · by_cases b1:i < x.2.1.length
         · by_cases b2:j < (x.2.1.getD i []).length
           · simp only [Int.toNat_natCast,ltT a1,ltF a2,ltT b1,ltT b2,eq_true (idxT a1),eq_true (idxT b1),eq_true (idxT b2),cond_true,cond_false,if_true,hz,if_false,eo,mp,mq,mp0,mq0]
             exact add 0 o (by omega) (by omega) o1 o2
           · simp only [Int.toNat_natCast,ltT a1,ltF a2,ltT b1,ltF b2,eq_true (idxT a1),eq_true (idxT b1),cond_true,cond_false,if_true,hz,if_false,mp,mq,mp0,mq0]
             exact add 0 0 (by omega) (by omega) (by omega) (by omega)
         · simp only [Int.toNat_natCast,ltT a1,ltF a2,ltF b1,eq_true (idxT a1),cond_true,cond_false,if_true,hz,if_false,mp,mq,mp0,mq0]
           exact add 0 0 (by omega) (by omega) (by omega) (by omega)
     · by_cases b1:i < x.2.1.length
       · by_cases b2:j < (x.2.1.getD i []).length
         · simp only [Int.toNat_natCast,ltF a1,ltT b1,ltT b2,eq_true (idxT b1),eq_true (idxT b2),cond_true,cond_false,if_true,hz,if_false,eo,mp,mq,mp0,mq0]
           exact add 0 o (by omega) (by omega) o1 o2
         · simp only [Int.toNat_natCast,ltF a1,ltT b1,ltF b2,eq_true (idxT b1),cond_true,cond_false,if_true,hz,if_false,mp,mq,mp0,mq0]
           exact add 0 0 (by omega) (by omega) (by omega) (by omega)
       · simp only [Int.toNat_natCast,ltF a1,ltF b1,cond_true,cond_false,if_true,hz,if_false,mp,mq,mp0,mq0]
         exact add 0 0 (by omega) (by omega) (by omega) (by omega)
   · rw [ltF hlt,cond_false]
     exact ⟨p,q,by omega,by omega,hpb,hqb,rfl⟩
theorem tame_loop (N:Nat) (hN:10 < N) {C:Type} (k0:MM→List (List Int)→List (List Int)→List (List Int)→List (List Int)→Option C) (k n:Nat) (hk:k ≤ 3) (hn1:1 ≤ n) (hn:n ≤ 6) (x:MM) :
   ∀ (F i:Nat) (c1 c2 c3 c4:List (List Int)),n - i < F→i ≤ n→c3.length = i→c4.length = i→(∀ r ∈ c3,r.length = k∧∀ t ∈ r,0 ≤ t∧t < (n:Int))→(∀ r ∈ c4,r.length = k∧∀ t ∈ r,0 ≤ t∧t ≤ 3) →
     ∃ d1 d2 d3 d4:List (List Int),d3.length = n∧d4.length = n∧(∀ r ∈ d3,r.length = k∧∀ t ∈ r,0 ≤ t∧t < (n:Int))∧(∀ r ∈ d4,r.length = k∧∀ t ∈ r,0 ≤ t∧t ≤ 3) ∧
       g15L122f N F k0 (k:Int) (n:Int) (i:Int) x c1 c2 c3 c4 = k0 x d1 d2 d3 d4
 | 0,i,c1,c2,c3,c4,h,_,_,_,_,_=>by omega
 | F + 1,i,c1,c2,c3,c4,h,hi,h3,h4,hb3,hb4=>by
   rw [g15L122f_succ]
   unfold g15L122B
   by_cases hlt:i < n
   · rw [ltT hlt,cond_true,g15L31306_eq]
     obtain ⟨p,q,hp,hq,hpb,hqb,e⟩:=tame_row N (fun e1 e2 e3 e4 e5 e6 e7 e8 e9 e10=>if e9.length + [e5].length ≤ maxCount then if e10.length + [e6].length ≤ maxCount then (g15L122f N F k0 e1 e2 (IntKind.wrap .i64 (e3 + 1)) e4 e7 e8 (e9 ++ [e5]) (e10 ++ [e6])) else none else none) k n i hk hn1 hn x c1 c2 c3 c4 N 0 [] [] (by omega) (by omega) rfl rfl (by simp) (by simp)
     simp only [Int.natCast_zero] at e
     rw [e,if_pos (by simp [maxCount];omega),if_pos (by simp [maxCount];omega),wn i (by omega)]
     exact tame_loop N hN k0 k n hk hn1 hn x F (i + 1) c1 c2 (c3 ++ [p]) (c4 ++ [q]) (by omega) (by omega) (by simp [h3]) (by simp [h4])
       (fun r hr=>by
         rcases List.mem_append.1 hr with hr | hr
         · exact hb3 r hr
         · obtain rfl:=List.mem_singleton.1 hr;exact ⟨hp,hpb⟩)
       (fun r hr=>by
         rcases List.mem_append.1 hr with hr | hr
         · exact hb4 r hr
         · obtain rfl:=List.mem_singleton.1 hr;exact ⟨hq,hqb⟩)
   · rw [ltF hlt,cond_false]
     exact ⟨c1,c2,c3,c4,by omega,by omega,hb3,hb4,rfl⟩
theorem tame_eq (N:Nat) (hN:10 < N) (x:MM) (most:Int) (h1:1 ≤ most) (h6:most ≤ 6) (k:Nat) (hk1:1 ≤ k) (hk:k ≤ 3):∃ y:MM,g15 N x most (k:Int) = some y∧Pm y k∧(y.1.length:Int) ≤ most:=by
 unfold g15
 obtain ⟨n,hn,n1,n6⟩:∃ n:Nat,imax 1 (imin ((x.1.length:Nat):Int) most) = (n:Int)∧1 ≤ n∧(n:Int) ≤ most:=by
   refine ⟨(imax 1 (imin ((x.1.length:Nat):Int) most)).toNat,?_,?_,?_⟩ <;> simp only [imax,imin] <;> split <;> split <;> omega
 rw [hn,g15L122_eq]
 obtain ⟨d1,d2,d3,d4,l3,l4,b3,b4,e⟩:=tame_loop N hN (fun e11 e12 e13 e14 e15=>some (e14,e15,())) k n hk n1 (by omega) x N 0 [] [] [] [] (by omega) (by omega) rfl rfl (by simp) (by simp)
 simp only [Int.natCast_zero] at e
 refine ⟨(d3,d4,()),e,⟨by simp only;omega,by simp only;omega,by simp only;omega,hk1,hk,fun r hr=>⟨(b3 r hr).1,fun t ht=>by have:=(b3 r hr).2 t ht;simp only [l3];exact this⟩,b4⟩,by simp only [l3];exact n6⟩
end Go.Pv
namespace Go.Pv
def nx (x:MM) (s i:Int):Int:=(x.1.getD s.toNat []).getD i.toNat 0
def ou (x:MM) (s i:Int):Int:=(x.2.1.getD s.toNat []).getD i.toNat 0
def sayL (x:MM):Int→List Int→List Int×Int
 | s,[]=>([],s)
 | s,i :: w=>(ou x s i :: (sayL x (nx x s i) w).1,(sayL x (nx x s i) w).2)
theorem sayL_len (x:MM):∀ (s:Int) (w:List Int),(sayL x s w).1.length = w.length
 | s,[]=>rfl
 | s,i :: w=>by simp [sayL,sayL_len x _ w]
def InW (k:Nat) (w:List Int):Prop:=∀ i ∈ w,0 ≤ i∧i < (k:Int)
theorem Pm.step {x:MM} {k:Nat} (h:Pm x k) {s i:Int} (s0:0 ≤ s) (s1:s < (x.1.length:Int)) (i0:0 ≤ i) (i1:i < (k:Int)) :
   idx s x.1.length∧idx s x.2.1.length∧idx i (x.1.getD s.toNat []).length∧idx i (x.2.1.getD s.toNat []).length∧(0 ≤ nx x s i∧nx x s i < (x.1.length:Int))∧0 ≤ ou x s i∧ou x s i ≤ 3:=by
 obtain ⟨a1,a2⟩:=h.rowN _ (getD_mem (l:=x.1) (i:=s.toNat) (by omega) [])
 obtain ⟨b1,b2⟩:=h.rowO _ (getD_mem (l:=x.2.1) (i:=s.toNat) (by rw [h.out];omega) [])
 have ho:=h.out
 exact ⟨⟨s0,s1⟩,⟨s0,by rw [ho];exact s1⟩,⟨i0,by rw [a1];exact i1⟩,⟨i0,by rw [b1];exact i1⟩,a2 _ (getD_mem (by omega) 0),b2 _ (getD_mem (by omega) 0)⟩
theorem Pm.end_in {x:MM} {k:Nat} (h:Pm x k):∀ (w:List Int) (s:Int),0 ≤ s→s < (x.1.length:Int)→InW k w→0 ≤ (sayL x s w).2∧(sayL x s w).2 < (x.1.length:Int)
 | [],s,h0,h1,_=>⟨h0,h1⟩
 | i :: w,s,h0,h1,hw=>by
   obtain ⟨i0,i1⟩:=hw i List.mem_cons_self
   obtain ⟨_,_,_,_,n,_⟩:=h.step h0 h1 i0 i1
   exact h.end_in w _ n.1 n.2 fun j hj=>hw j (List.mem_cons_of_mem _ hj)
theorem Pm.say_loop {x:MM} {k:Nat} (h:Pm x k) (N:Nat) {C:Type} (k0:Int→MM→List Int→Option C) (w:List Int) (hw:InW k w) (hl:w.length ≤ 1000) :
   ∀ (F i:Nat) (s:Int) (o:List Int),w.length - i < F→i ≤ w.length→0 ≤ s→s < (x.1.length:Int)→o.length = i →
     g28L58f N F k0 s w (i:Int) x o = k0 (sayL x s (w.drop i)).2 x (o ++ (sayL x s (w.drop i)).1)
 | 0,i,s,o,hF,_,_,_,_=>by omega
 | F + 1,i,s,o,hF,hi,s0,s1,ho=>by
   rw [g28L58f_succ]
   unfold g28L58B
   by_cases hlt:i < w.length
   · obtain ⟨i0,i1⟩:=hw _ (getD_mem hlt 0)
     obtain ⟨q1,q2,q3,q4,n,_⟩:=h.step s0 s1 i0 i1
     rw [ltT hlt,cond_true,if_pos q2,if_pos (idxT hlt),Int.toNat_natCast,if_pos q4,if_pos (by simp [maxCount];omega),if_pos q1,if_pos (idxT hlt),if_pos q3,wn i (by omega)]
     show g28L58f N F k0 (nx x s (w.getD i 0)) w ((i + 1:Nat):Int) x (o ++ [ou x s (w.getD i 0)]) = _
     rw [h.say_loop N k0 w hw hl F (i + 1) (nx x s (w.getD i 0)) (o ++ [ou x s (w.getD i 0)]) (by omega) (by omega) n.1 n.2 (by simp [ho]),getD_drop w i 0 hlt]
     simp [sayL]
   · rw [ltF hlt,cond_false,List.drop_eq_nil_of_le (by omega)]
     simp [sayL]
theorem Pm.say {x:MM} {k:Nat} (h:Pm x k) (N:Nat) (hN:1000 < N) (w:List Int) (hw:InW k w) (hl:w.length ≤ 1000) (s:Int) (s0:0 ≤ s) (s1:s < (x.1.length:Int)):g28 N x s w = some ((sayL x s w).1,(sayL x s w).2,()):=by
 unfold g28
 rw [g28L58_eq]
 have:=h.say_loop N (fun e1 e2 e3=>some (e3,e1,())) w hw hl N 0 s [] (by omega) (by omega) s0 s1 rfl
 simpa using this
theorem Pm.word_loop {x:MM} {k:Nat} (h:Pm x k) (N:Nat) {C:Type} (k0:MM→List Int→Option C) (l:List Int) (m:Nat) (hm:m ≤ 1000) :
   ∀ (F i:Nat) (o:List Int),m - i < F→i ≤ m→o.length = i→InW k o→∃ w,InW k w∧w.length ≤ m∧g26L58f N F k0 l (m:Int) (i:Int) x o = k0 x w
 | 0,i,o,hF,_,_,_=>by omega
 | F + 1,i,o,hF,hi,ho,hb=>by
   rw [g26L58f_succ]
   unfold g26L58B
   have:=h.k1;have:=h.k3
   by_cases hl:i < l.length
   · rw [ltT hl,cond_true]
     by_cases hlt:i < m
     · obtain ⟨v,ev,v0,v1⟩:=low (l.getD i 0) (m:=(k:Int)) (by omega) (by omega)
       have hw:IntKind.wrap .u64 (k:Int) = (k:Int):=wu64n (by omega) (by omega)
       rw [ltT hlt,cond_true,if_pos (idxT hl),h.inputs41 N,Int.toNat_natCast]
       simp only [Option.bind_some]
       rw [hw,if_neg (by omega),ev,if_pos (by simp [maxCount];omega),wn i (by omega)]
       exact h.word_loop N k0 l m hm F (i + 1) (o ++ [v]) (by omega) (by omega) (by simp [ho]) fun j hj=>by
         rcases List.mem_append.1 hj with hj | hj
         · exact hb j hj
         · obtain rfl:=List.mem_singleton.1 hj;exact ⟨v0,v1⟩
     · rw [ltF hlt,cond_false]
       exact ⟨o,hb,by omega,rfl⟩
   · rw [ltF hl,cond_false]
     exact ⟨o,hb,by omega,rfl⟩
theorem Pm.word {x:MM} {k:Nat} (h:Pm x k) (N:Nat) (hN:1000 < N) (l:List Int) (m:Nat) (hm:m ≤ 1000):∃ w,InW k w∧w.length ≤ m∧g26 N x l (m:Int) = some w:=by
 unfold g26
 rw [g26L58_eq]
 exact h.word_loop N (fun e2 e3=>some e3) l m hm N 0 [] (by omega) (by omega) rfl (by intro i hi;simp at hi)
theorem open_checks (N:Nat) (hN:20 < N) {C:Type} (k0:List MM→Int→List (List Int)→Int→Option C) (k1:List MM→Int→List (List Int)→Option C) (l:List MM) (s:Int) (ws:List (List Int)) (hl:l.length ≤ 10) (hp:∀ m ∈ l,∃ k,Pm m k) :
   ∀ (F i:Nat),l.length - i < F→i ≤ l.length→g62L26f N F k0 k1 l s ws l (l.length:Int) (i:Int) = k1 l s ws
 | 0,i,hF,_=>by omega
 | F + 1,i,hF,hi=>by
   rw [g62L26f_succ]
   unfold g62L26B
   by_cases hlt:i < l.length
   · obtain ⟨k,hk⟩:=hp _ (getD_mem hlt (([]:List (List Int)),([]:List (List Int)),()))
     rw [ltT hlt,cond_true,if_pos (idxT hlt),Int.toNat_natCast,hk.check N hN]
     simp only [Option.bind_some,ieq_self,Bool.not_true,cond_false]
     rw [wn i (by omega)]
     exact open_checks N hN k0 k1 l s ws hl hp F (i + 1) (by omega) (by omega)
   · rw [ltF hlt,cond_false]
theorem open_checks0 (N:Nat) (hN:20 < N) {C:Type} (k0:List MM→Int→List (List Int)→Int→Option C) (k1:List MM→Int→List (List Int)→Option C) (l:List MM) (s:Int) (ws:List (List Int)) (hl:l.length ≤ 10) (hp:∀ m ∈ l,∃ k,Pm m k):g62L26f N N k0 k1 l s ws l (l.length:Int) 0 = k1 l s ws :=
 open_checks N hN k0 k1 l s ws hl hp N 0 (by omega) (by omega)
theorem open_inputs (N:Nat) {C:Type} (k0:List MM→Int→List (List Int)→Int→Option C) (k1:List MM→Int→List (List Int)→Option C) (l:List MM) (k:Nat) (s:Int) (ws:List (List Int)) (hl:l.length ≤ 10) (h1:1 ≤ l.length) (h0:g85 N (l.getD 0 ([],[],())) = some (k:Int))
   (K:MM→Int) (hK:∀ m ∈ l,g85 N m = some (K m)) :
   ∀ (F i:Nat),l.length - i < F→i ≤ l.length→g62L58f N F k0 k1 l s ws l (l.length:Int) (i:Int) = bif (l.drop i).all (fun m=>ieq (K m) (k:Int)) then k1 l s ws else k0 l s ws 1
 | 0,i,hF,_=>by omega
 | F + 1,i,hF,hi=>by
   rw [g62L58f_succ]
   unfold g62L58B
   by_cases hlt:i < l.length
   · rw [ltT hlt,cond_true,if_pos (idxT hlt),Int.toNat_natCast,hK _ (getD_mem hlt _)]
     simp only [Option.bind_some]
     rw [if_pos ⟨by omega,by omega⟩]
     simp only [show Int.toNat 0 = 0 from rfl]
     rw [h0]
     simp only [Option.bind_some]
     rw [getD_drop l i (([]:List (List Int)),([]:List (List Int)),()) hlt,List.all_cons]
     cases hq:ieq (K (l.getD i (([]:List (List Int)),([]:List (List Int)),()))) (k:Int) with
     | false=>simp
     | true =>
       simp only [Bool.not_true,cond_false,Bool.true_and]
       rw [wn i (by omega)]
       exact open_inputs N k0 k1 l k s ws hl h1 h0 K hK F (i + 1) (by omega) (by omega)
   · rw [ltF hlt,cond_false,List.drop_eq_nil_of_le (by omega)];rfl
theorem open_inputs0 (N:Nat) (hN:20 < N) {C:Type} (k0:List MM→Int→List (List Int)→Int→Option C) (k1:List MM→Int→List (List Int)→Option C) (l:List MM) (k:Nat) (s:Int) (ws:List (List Int)) (hl:l.length ≤ 10) (h1:1 ≤ l.length) (h0:g85 N (l.getD 0 ([],[],())) = some (k:Int))
   (K:MM→Int) (hK:∀ m ∈ l,g85 N m = some (K m)):g62L58f N N k0 k1 l s ws l (l.length:Int) 0 = bif l.all (fun m=>ieq (K m) (k:Int)) then k1 l s ws else k0 l s ws 1:=by
 have:=open_inputs N k0 k1 l k s ws hl h1 h0 K hK N 0 (by omega) (by omega)
 simpa using this
def wordB (k:Nat) (w:List Int):Bool:=decide (w.length ≤ 100) && w.all fun x=>decide (0 ≤ x) && decide (x ≤ (k:Int) - 1)
theorem wordB_iff (k:Nat) (w:List Int):wordB k w = true ↔ w.length ≤ 100∧InW k w:=by
 unfold wordB InW
 rw [Bool.and_eq_true,List.all_eq_true,decide_eq_true_eq]
 refine and_congr Iff.rfl ⟨fun h i hi=>?_,fun h i hi=>?_⟩
 · have:=h i hi;simp at this;omega
 · have:=h i hi;simp;omega
theorem open_words (N:Nat) (hN:1000 < N) {C:Type} (k0:Int→Option C) (k1:Option C) (l:List MM) (k:Nat) (hk:k ≤ 3) (h1:1 ≤ l.length) (h0:g85 N (l.getD 0 ([],[],())) = some (k:Int)) (ws:List (List Int)) (hw:ws.length ≤ 1000) :
   ∀ (F i:Nat),ws.length - i < F→i ≤ ws.length→g62L250f N F k0 k1 l ws (ws.length:Int) (i:Int) = bif (ws.drop i).all (wordB k) then k1 else k0 1
 | 0,i,hF,_=>by omega
 | F + 1,i,hF,hi=>by
   rw [g62L250f_succ]
   unfold g62L250B
   by_cases hlt:i < ws.length
   · rw [ltT hlt,cond_true,if_pos (idxT hlt),Int.toNat_natCast,getD_drop ws i [] hlt,List.all_cons]
     by_cases h100:(ws.getD i []).length ≤ 100
     · have e1:decide ((100:Int) < ((ws.getD i []).length:Int)) = false:=decide_eq_false (by omega)
       rw [e1,cond_false,if_pos ⟨by omega,by omega⟩]
       simp only [show Int.toNat 0 = 0 from rfl]
       rw [h0]
       simp only [Option.bind_some]
       rw [w64 (by omega) (by omega),are_eq N _ _ _ (by omega) (by omega)]
       simp only [Option.bind_some]
       have e2:wordB k (ws.getD i []) = (ws.getD i []).all fun x=>decide (0 ≤ x) && decide (x ≤ (k:Int) - 1):=by
         unfold wordB
         rw [decide_eq_true h100,Bool.true_and]
       rw [e2]
       cases hq:(ws.getD i []).all fun x=>decide (0 ≤ x) && decide (x ≤ (k:Int) - 1) with
       | false=>simp
       | true =>
         simp only [Bool.not_true,cond_false,Bool.true_and]
         rw [wn i (by omega)]
         exact open_words N hN k0 k1 l k hk h1 h0 ws hw F (i + 1) (by omega) (by omega)
     · have e1:decide ((100:Int) < ((ws.getD i []).length:Int)) = true:=decide_eq_true (by omega)
       have e2:wordB k (ws.getD i []) = false:=by
         unfold wordB
         rw [decide_eq_false h100,Bool.false_and]
       rw [e1,cond_true,e2];simp
   · rw [ltF hlt,cond_false,List.drop_eq_nil_of_le (by omega)];rfl
theorem open_words0 (N:Nat) (hN:1000 < N) {C:Type} (k0:Int→Option C) (k1:Option C) (l:List MM) (k:Nat) (hk:k ≤ 3) (h1:1 ≤ l.length) (h0:g85 N (l.getD 0 ([],[],())) = some (k:Int)) (ws:List (List Int)) (hw:ws.length ≤ 1000) :
   g62L250f N N k0 k1 l ws (ws.length:Int) 0 = bif ws.all (wordB k) then k1 else k0 1:=by
 have:=open_words N hN k0 k1 l k hk h1 h0 ws hw N 0 (by omega) (by omega)
 simpa using this
theorem open_eq (N:Nat) (hN:1000 < N) (l:List MM) (k:Nat) (s:Int) (ws:List (List Int)) (hl:l.length ≤ 10) (h1:1 ≤ l.length) (hp:∀ m ∈ l,Pm m k) (s0:0 ≤ s) (s1:s < ((l.getD 0 ([],[],())).1.length:Int)) (hw:ws.length ≤ 1000) :
   g62 N l s ws = some (bif ws.all (wordB k) then 0 else 1):=by
 have hm:=getD_mem (l:=l) (i:=0) (by omega) (([]:List (List Int)),([]:List (List Int)),())
 have h0:=(hp _ hm).inputs N
 have hk:=(hp _ hm).k3
 have hn:=(hp _ hm).n6
 unfold g62
 rw [g62L26_eq,open_checks0 N (by omega) _ _ l s ws hl (fun m h=>⟨k,hp m h⟩)]
 rw [g62L58_eq,open_inputs0 N (by omega) _ _ l k s ws hl h1 h0 (fun _=>(k:Int)) (fun m h=>(hp m h).inputs N)]
 simp only [ieq_self,List.all_eq_true,implies_true,show l.all (fun m=>true) = true from by simp,cond_true]
 rw [if_pos ⟨by omega,by omega⟩]
 have e1:g76 N (l.getD (Int.toNat 0) ([],[],())) = some ((l.getD 0 ([],[],())).1.length:Int):=rfl
 rw [e1]
 simp only [Option.bind_some]
 rw [w64 (by omega) (by omega),are_true N _ _ [s] (by simp;omega) (by simp) (fun t ht=>by obtain rfl:=List.mem_singleton.1 ht;omega)]
 simp only [Option.bind_some,Bool.not_true,cond_false]
 rw [g62L250_eq,open_words0 N hN _ _ l k hk h1 h0 ws hw]
 cases ws.all (wordB k) <;> rfl
end Go.Pv
namespace Go.Pv
theorem drop_eq_cons {a b:List Int} {i:Nat} (ha:i < a.length) (hb:i < b.length):(a.drop i = b.drop i) ↔ a.getD i 0 = b.getD i 0∧a.drop (i + 1) = b.drop (i + 1):=by
 rw [getD_drop a i 0 ha,getD_drop b i 0 hb,List.cons.injEq]
theorem eq20_loop (N:Nat) {C:Type} (k0:Bool→Option C) (k1:Option C) (a b:List Int) (hab:a.length = b.length) (hc:a.length ≤ 1000) :
   ∀ (F i:Nat),a.length - i < F→i ≤ a.length→g20L58f N F k0 k1 a b (i:Int) = if a.drop i = b.drop i then k1 else k0 false
 | 0,i,h,_=>by omega
 | F + 1,i,h,hi=>by
   rw [g20L58f_succ]
   unfold g20L58B
   by_cases hlt:i < a.length
   · rw [ltT hlt,cond_true,if_pos (idxT hlt),if_pos (idxT (hab ▸ hlt)),Int.toNat_natCast,wn i (by omega)]
     by_cases he:a.getD i 0 = b.getD i 0
     · rw [show ieq (a.getD i 0) (b.getD i 0) = true from decide_eq_true he,Bool.not_true,cond_false]
       refine (eq20_loop N k0 k1 a b hab hc F (i + 1) (by omega) (by omega)).trans ?_
       by_cases h2:a.drop (i + 1) = b.drop (i + 1)
       · rw [if_pos h2,if_pos ((drop_eq_cons hlt (hab ▸ hlt)).2 ⟨he,h2⟩)]
       · rw [if_neg h2,if_neg fun h'=>h2 ((drop_eq_cons hlt (hab ▸ hlt)).1 h').2]
     · rw [show ieq (a.getD i 0) (b.getD i 0) = false from decide_eq_false he,Bool.not_false,cond_true,if_neg]
       intro h'
       exact he ((drop_eq_cons hlt (hab ▸ hlt)).1 h').1
   · rw [ltF hlt,cond_false,if_pos]
     rw [List.drop_eq_nil_of_le (by omega),List.drop_eq_nil_of_le (by omega)]
theorem eq20 (N:Nat) (a b:List Int) (hc:a.length ≤ 1000) (hN:1000 < N):g20 N a b = some (decide (a = b)):=by
 unfold g20
 by_cases h:a.length = b.length
 · rw [show ieq ((a.length:Nat):Int) ((b.length:Nat):Int) = true from decide_eq_true (by omega),Bool.not_true,cond_false,g20L58_eq]
   have:=eq20_loop N (fun e1=>some e1) (some true) a b h hc N 0 (by omega) (by omega)
   simp only [Int.natCast_zero,List.drop_zero] at this
   rw [this]
   by_cases he:a = b <;> simp [he]
 · rw [show ieq ((a.length:Nat):Int) ((b.length:Nat):Int) = false from decide_eq_false (by omega),Bool.not_false,cond_true]
   rw [decide_eq_false (fun he=>h (by rw [he]))]
end Go.Pv
namespace Go.Pv
def allN:Nat→Nat→(Nat→Bool)→Bool
 | 0,_,_=>true
 | m + 1,i,f=>f i && allN m (i + 1) f
theorem allN_step {n i:Nat} (h:i < n) (f:Nat→Bool):allN (n - i) i f = (f i && allN (n - (i + 1)) (i + 1) f):=by
 rw [show n - i = (n - (i + 1)) + 1 by omega];rfl
theorem allN_end {n i:Nat} (h:¬ i < n) (f:Nat→Bool):allN (n - i) i f = true:=by
 rw [show n - i = 0 by omega];rfl
theorem allN_iff:∀ (m i:Nat) (f:Nat→Bool),allN m i f = true ↔ ∀ j,i ≤ j→j < i + m→f j = true
 | 0,i,f=>⟨fun _ j h1 h2=>by omega,fun _=>rfl⟩
 | m + 1,i,f=>by
   simp only [allN,Bool.and_eq_true,allN_iff m (i + 1) f]
   constructor
   · rintro ⟨h1,h2⟩ j h3 h4
     by_cases hj:j = i
     · rw [hj];exact h1
     · exact h2 j (by omega) (by omega)
   · intro h
     exact ⟨h i (by omega) (by omega),fun j h1 h2=>h j (by omega) (by omega)⟩
theorem allN_congr {m i:Nat} {f g:Nat→Bool} (h:∀ j,i ≤ j→j < i + m→f j = g j):allN m i f = allN m i g:=by
 rw [Bool.eq_iff_iff,allN_iff,allN_iff]
 exact forall_congr' fun j=>forall_congr' fun h1=>forall_congr' fun h2=>by rw [h j h1 h2]
abbrev KT:Ty:=.pair (.int .i64) (.pair (.int .i64) .unit)
theorem beqK (a b:Int×Int×Unit):Ty.beq KT a b = decide (a = b):=by
 obtain ⟨a1,a2,a3⟩:=a
 obtain ⟨b1,b2,b3⟩:=b
 simp only [Ty.beq,ieq,Bool.and_true,Prod.mk.injEq]
 by_cases h1:a1 = b1 <;> by_cases h2:a2 = b2 <;> simp [h1,h2]
theorem find_put_self (k:Int×Int×Unit) (v:Int):∀ l:List ((Int×Int×Unit)×Int),mapFind (Ty.beq KT) k (mapPut (Ty.beq KT) k v l) = some v
 | []=>by simp [mapPut,mapFind,beqK]
 | q :: r=>by
   simp only [mapPut]
   cases h:Ty.beq KT k q.1 with
   | true=>simp [mapFind,beqK]
   | false=>simp only [Bool.false_eq_true,if_false,mapFind,h];exact find_put_self k v r
theorem find_put_other {k k':Int×Int×Unit} (v:Int) (hk:k' ≠ k):∀ l:List ((Int×Int×Unit)×Int),mapFind (Ty.beq KT) k' (mapPut (Ty.beq KT) k v l) = mapFind (Ty.beq KT) k' l
 | []=>by simp [mapPut,mapFind,beqK,hk]
 | q :: r=>by
   simp only [mapPut]
   cases h:Ty.beq KT k q.1 with
   | true =>
     rw [beqK,decide_eq_true_eq] at h
     subst h
     simp [mapFind,beqK,hk]
   | false=>simp only [Bool.false_eq_true,if_false,mapFind];rw [find_put_other v hk r]
theorem sayL_snoc (x:MM) (a:Int):∀ (w:List Int) (s:Int),sayL x s (w ++ [a]) = ((sayL x s w).1 ++ [ou x (sayL x s w).2 a],nx x (sayL x s w).2 a)
 | [],s=>rfl
 | i :: w,s=>by
   show (ou x s i :: (sayL x (nx x s i) (w ++ [a])).1,(sayL x (nx x s i) (w ++ [a])).2) = _
   rw [sayL_snoc x a w (nx x s i)]
   rfl
abbrev GG:=List Int×List Int×Unit
structure Gr (x:MM) (w:List Int) (g:GG):Prop where
 l1:g.1.length = 6
 l2:g.2.1.length = 6
 now:∀ s:Nat,s < x.1.length→g.2.1.getD s 0 = (sayL x (s:Int) w).2
 grp:∀ s t:Nat,s < x.1.length→t < x.1.length→(g.1.getD s 0 = g.1.getD t 0 ↔ (sayL x (s:Int) w).1 = (sayL x (t:Int) w).1)
theorem getD_set (l:List Int) (i j:Nat) (v:Int) (hi:i < l.length):(l.set i v).getD j 0 = if j = i then v else l.getD j 0:=by
 rw [List.getD_eq_getElem?_getD,List.getD_eq_getElem?_getD,List.getElem?_set]
 by_cases h:i = j
 · subst h;simp [hi]
 · rw [if_neg h,if_neg (fun e=>h e.symm)]
theorem begun_loop (N:Nat) {C:Type} (k0:GG→GG→Option C) (n:Nat) (hn:n ≤ 6) (z:GG) :
   ∀ (F i:Nat) (now:List Int),n - i < F→i ≤ n→now.length = 6→(∀ s,s < i→now.getD s 0 = (s:Int)) →
     ∃ now':List Int,now'.length = 6∧(∀ s,s < n→now'.getD s 0 = (s:Int))∧g92L58f N F k0 (n:Int) (i:Int) z (List.replicate 6 0,now,()) = k0 z (List.replicate 6 0,now',())
 | 0,i,now,h,_,_,_=>by omega
 | F + 1,i,now,h,hi,hl,hb=>by
   rw [g92L58f_succ]
   unfold g92L58B
   by_cases hlt:i < n
   · rw [ltT hlt,cond_true,if_pos ⟨by omega,by omega⟩,Int.toNat_natCast,wn i (by omega)]
     exact begun_loop N k0 n hn z F (i + 1) (now.set i (i:Int)) (by omega) (by omega) (by simp [hl]) fun s hs=>by
       rw [getD_set now i s _ (by omega)]
       split
       · rename_i he;rw [he]
       · exact hb s (by omega)
   · rw [ltF hlt,cond_false]
     exact ⟨now,hl,fun s hs=>hb s (by omega),rfl⟩
theorem Pm.begun {x:MM} {k:Nat} (h:Pm x k) (N:Nat) (hN:10 < N):∃ g,g92 N x = some g∧Gr x [] g:=by
 unfold g92
 have e:g76 N x = some (x.1.length:Int):=rfl
 rw [e]
 simp only [Option.bind_some]
 rw [g92L58_eq]
 obtain ⟨now,l,b,e⟩:=begun_loop N (fun e2 e3=>some e3) x.1.length h.n6 ((List.replicate 6 0),(List.replicate 6 0),()) N 0 (List.replicate 6 0) (by have:=h.n6;omega) (by omega) (by simp) (by omega)
 exact ⟨_,e,⟨by simp,l,fun s hs=>b s hs,fun s t hs ht=>⟨fun _=>rfl,fun _=>by
   have z:∀ j:Nat,(List.replicate 6 (0:Int)).getD j 0 = 0:=fun j=>by rw [List.getD_eq_getElem?_getD,List.getElem?_replicate];split <;> rfl
   exact (z s).trans (z t).symm⟩⟩⟩
def kyOf (x:MM) (g:GG) (a:Int) (s:Nat):Int×Int×Unit:=(g.1.getD s 0,ou x (g.2.1.getD s 0) a,())
theorem after_loop {x:MM} {k:Nat} (h:Pm x k) {w:List Int} (hw:InW k w) {g:GG} (hg:Gr x w g) {a:Int} (a0:0 ≤ a) (a1:a < (k:Int)) (N:Nat) {C:Type} (k0:MM→GG→GG→GG→List ((Int×Int×Unit)×Int)→Option C) (z:GG) :
   ∀ (F i:Nat) (o1 o2:List Int) (m:List ((Int×Int×Unit)×Int)),x.1.length - i < F→i ≤ x.1.length→o1.length = 6→o2.length = 6 →
     (∀ t,t < i→mapFind (Ty.beq KT) (kyOf x g a t) m = some (o1.getD t 0))→(∀ ky v,mapFind (Ty.beq KT) ky m = some v→∃ t:Nat,t < i∧kyOf x g a t = ky∧v = (t:Int)) →
     (∀ t,t < i→o2.getD t 0 = nx x (g.2.1.getD t 0) a) →
     ∃ o1' o2' m',o1'.length = 6∧o2'.length = 6∧(∀ s t,s < x.1.length→t < x.1.length→(o1'.getD s 0 = o1'.getD t 0 ↔ kyOf x g a s = kyOf x g a t))∧(∀ t,t < x.1.length→o2'.getD t 0 = nx x (g.2.1.getD t 0) a) ∧
       g94L122f N F k0 a (x.1.length:Int) (i:Int) x g z (o1,o2,()) m = k0 x g z (o1',o2',()) m'
 | 0,i,o1,o2,m,hF,_,_,_,_,_,_=>by omega
 | F + 1,i,o1,o2,m,hF,hi,l1,l2,b1,b2,b3=>by
   rw [g94L122f_succ]
   unfold g94L122B
   have n6:=h.n6
   by_cases hlt:i < x.1.length
   · have i6:idx (i:Int) 6:=⟨by omega,by omega⟩
     have hnow:=hg.now i hlt
     obtain ⟨e0,e1⟩:=h.end_in w (i:Int) (by omega) (by omega) hw
     rw [← hnow] at e0 e1
     obtain ⟨q1,q2,q3,q4,_,_⟩:=h.step e0 e1 a0 a1
     rw [ltT hlt,cond_true,if_pos i6,if_pos i6]
     simp only [Int.toNat_natCast]
     rw [if_pos q2,if_pos q4,wn i (by omega)]
     -- the key
     have hky:((g.1.getD i 0,((x.2.1.getD (g.2.1.getD i 0).toNat []).getD a.toNat 0),()):Int×Int×Unit) = kyOf x g a i:=rfl
     have hnx:(x.1.getD (g.2.1.getD i 0).toNat []).getD a.toNat 0 = nx x (g.2.1.getD i 0) a:=rfl
     rw [hky,hnx]
     have nxt:∀ (v:Int) (m2:List ((Int×Int×Unit)×Int)),mapFind (Ty.beq KT) (kyOf x g a i) m2 = some v→(∀ t,t < i→mapFind (Ty.beq KT) (kyOf x g a t) m2 = some (o1.getD t 0))→(∀ ky u,mapFind (Ty.beq KT) ky m2 = some u→∃ t:Nat,t < i + 1∧kyOf x g a t = ky∧u = (t:Int)) →
         ∃ o1' o2' m',o1'.length = 6∧o2'.length = 6∧(∀ s t,s < x.1.length→t < x.1.length→(o1'.getD s 0 = o1'.getD t 0 ↔ kyOf x g a s = kyOf x g a t))∧(∀ t,t < x.1.length→o2'.getD t 0 = nx x (g.2.1.getD t 0) a) ∧
           g94L122f N F k0 a (x.1.length:Int) ((i + 1:Nat):Int) x g z (o1.set i v,o2.set i (nx x (g.2.1.getD i 0) a),()) m2 = k0 x g z (o1',o2',()) m':=fun v m2 c1 c2 c3 =>
       after_loop h hw hg a0 a1 N k0 z F (i + 1) (o1.set i v) (o2.set i (nx x (g.2.1.getD i 0) a)) m2 (by omega) (by omega) (by simp [l1]) (by simp [l2])
         (fun t ht=>by
           rw [getD_set o1 i t _ (by omega)]
           split
           · rename_i he;rw [he];exact c1
           · exact c2 t (by omega)) c3
         (fun t ht=>by
           rw [getD_set o2 i t _ (by omega)]
           split
           · rename_i he;rw [he]
           · exact b3 t (by omega))
     cases hf:mapFind (Ty.beq KT) (kyOf x g a i) m with
     | none =>
       simp only [Option.isSome_none,Bool.not_false,cond_true]
       rw [if_pos i6,if_pos i6,if_pos q1,if_pos q3,if_pos i6,find_put_self]
       refine nxt (i:Int) _ (find_put_self _ _ _) (fun t ht=>?_) (fun ky u hu=>?_)
       · rw [find_put_other]
         · exact b1 t ht
         · intro he
           have:=b1 t ht
           rw [he,hf] at this
           cases this
       · by_cases hk:ky = kyOf x g a i
         · subst hk
           rw [find_put_self] at hu
           exact ⟨i,by omega,rfl,(Option.some.inj hu).symm⟩
         · rw [find_put_other _ hk] at hu
           obtain ⟨t,t1,t2,t3⟩:=b2 ky u hu
           exact ⟨t,by omega,t2,t3⟩
     | some v =>
       simp only [Option.isSome_some,Bool.not_true,cond_false,Option.getD_some]
       rw [if_pos i6,if_pos i6,if_pos q1,if_pos q3,if_pos i6]
       exact nxt v m hf b1 fun ky u hu=>by
         obtain ⟨t,t1,t2,t3⟩:=b2 ky u hu
         exact ⟨t,by omega,t2,t3⟩
   · rw [ltF hlt,cond_false]
     have hn:i = x.1.length:=by omega
     subst hn
     refine ⟨o1,o2,m,l1,l2,fun s t hs ht=>⟨fun he=>?_,fun he=>?_⟩,b3,rfl⟩
     · have f1:=b1 s hs
       have f2:=b1 t ht
       obtain ⟨s',_,s2,s3⟩:=b2 _ _ f1
       obtain ⟨t',_,t2,t3⟩:=b2 _ _ f2
       have:s' = t':=by rw [s3,t3] at he;omega
       rw [← s2,← t2,this]
     · have f1:=b1 s hs
       have f2:=b1 t ht
       rw [he,f2] at f1
       exact (Option.some.inj f1).symm
theorem Pm.after {x:MM} {k:Nat} (h:Pm x k) {w:List Int} (hw:InW k w) {g:GG} (hg:Gr x w g) {a:Int} (a0:0 ≤ a) (a1:a < (k:Int)) (N:Nat) (hN:10 < N):∃ g',g94 N x g a = some g'∧Gr x (w ++ [a]) g':=by
 unfold g94
 have e:g76 N x = some (x.1.length:Int):=rfl
 rw [e]
 simp only [Option.bind_some]
 rw [g94L122_eq]
 obtain ⟨o1,o2,m,l1,l2,c1,c2,e⟩:=after_loop h hw hg a0 a1 N (fun e2 e3 e4 e5 e6=>some e5) ((List.replicate 6 0),(List.replicate 6 0),()) N 0 g.1 g.2.1 [] (by have:=h.n6;omega) (by omega) hg.l1 hg.l2 (by omega) (by simp [mapFind]) (by omega)
 refine ⟨_,e,⟨l1,l2,fun s hs=>?_,fun s t hs ht=>?_⟩⟩
 · rw [sayL_snoc]
   show o2.getD s 0 = _
   rw [c2 s hs,hg.now s hs]
 · rw [sayL_snoc,sayL_snoc]
   show o1.getD s 0 = o1.getD t 0 ↔ _
   rw [c1 s t hs ht]
   unfold kyOf
   rw [hg.now s hs,hg.now t ht,Prod.mk.injEq,Prod.mk.injEq,hg.grp s t hs ht]
   constructor
   · rintro ⟨h1,h2,_⟩
     rw [h1,h2]
   · intro he
     obtain ⟨h1,h2⟩:=List.append_inj' he rfl
     exact ⟨h1,by simpa using h2,rfl⟩
theorem Pm.read_loop {x:MM} {k:Nat} (h:Pm x k) (N:Nat) (hN:10 < N) {C:Type} (k0:MM→GG→GG→Option C) (w:List Int) (hw:InW k w) (hl:w.length ≤ 1000) (z:GG) :
   ∀ (F i:Nat) (g:GG),w.length - i < F→i ≤ w.length→Gr x (w.take i) g→∃ g',Gr x w g'∧g74L58f N F k0 w (w.length:Int) (i:Int) x z g = k0 x z g'
 | 0,i,g,hF,_,_=>by omega
 | F + 1,i,g,hF,hi,hg=>by
   rw [g74L58f_succ]
   unfold g74L58B
   by_cases hlt:i < w.length
   · obtain ⟨i0,i1⟩:=hw _ (getD_mem hlt 0)
     obtain ⟨g',e,hg'⟩:=h.after (fun j hj=>hw j (List.mem_of_mem_take hj)) hg i0 i1 N hN
     rw [ltT hlt,cond_true,if_pos (idxT hlt),Int.toNat_natCast,e,wn i (by omega)]
     simp only [Option.bind_some]
     rw [take_getD w i 0 hlt] at hg'
     exact h.read_loop N hN k0 w hw hl z F (i + 1) g' (by omega) (by omega) hg'
   · rw [ltF hlt,cond_false]
     rw [List.take_of_length_le (by omega)] at hg
     exact ⟨g,hg,rfl⟩
theorem Pm.read {x:MM} {k:Nat} (h:Pm x k) (N:Nat) (hN:1010 < N) (w:List Int) (hw:InW k w) (hl:w.length ≤ 1000):∃ g,g74 N x w = some g∧Gr x w g:=by
 unfold g74
 obtain ⟨g0,e0,hg0⟩:=h.begun N (by omega)
 rw [e0]
 simp only [Option.bind_some]
 rw [g74L58_eq]
 obtain ⟨g,hg,e⟩:=h.read_loop N (by omega) (fun e3 e4 e5=>some e5) w hw hl ((List.replicate 6 0),(List.replicate 6 0),()) N 0 g0 (by omega) (by omega) hg0
 exact ⟨g,e,hg⟩
end Go.Pv
namespace Go.Pv
def sd (x:MM) (w:List Int) (s:Nat):List Int:=(sayL x (s:Int) w).1
def en (x:MM) (w:List Int) (s:Nat):Int:=(sayL x (s:Int) w).2
theorem end_inner (N:Nat) {C:Type} (k0:Bool→Int→Int→GG→Option C) (k1:Int→Int→GG→Option C) (g:GG) (n s:Nat) (hs:s < n) (hn:n ≤ 6) :
   ∀ (F i:Nat),s - i < F→i ≤ s→g65L6758f N F k0 k1 (s:Int) (n:Int) (s:Int) (s:Int) (i:Int) g =
     bif allN (s - i) i (fun t=>!(decide (g.1.getD s 0 = g.1.getD t 0) && !decide (g.2.1.getD s 0 = g.2.1.getD t 0))) then k1 (n:Int) (s:Int) g else k0 false (n:Int) (s:Int) g
 | 0,i,hF,_=>by omega
 | F + 1,i,hF,hi=>by
   rw [g65L6758f_succ]
   unfold g65L6758B
   by_cases hlt:i < s
   · have s6:idx (s:Int) 6:=⟨by omega,by omega⟩
     have i6:idx (i:Int) 6:=⟨by omega,by omega⟩
     rw [ltT hlt,cond_true,if_pos s6,if_pos i6,if_pos s6,if_pos i6,Int.toNat_natCast,Int.toNat_natCast,wn i (by omega),allN_step hlt]
     by_cases h1:g.1.getD s 0 = g.1.getD i 0
     · rw [show ieq (g.1.getD s 0) (g.1.getD i 0) = true from decide_eq_true h1,cond_true,decide_eq_true h1,Bool.true_and]
       by_cases h2:g.2.1.getD s 0 = g.2.1.getD i 0
       · rw [show ieq (g.2.1.getD s 0) (g.2.1.getD i 0) = true from decide_eq_true h2,decide_eq_true h2]
         simp only [Bool.not_true,Bool.not_false,cond_false,Bool.true_and]
         exact end_inner N k0 k1 g n s hs hn F (i + 1) (by omega) (by omega)
       · rw [show ieq (g.2.1.getD s 0) (g.2.1.getD i 0) = false from decide_eq_false h2,decide_eq_false h2]
         rfl
     · rw [show ieq (g.1.getD s 0) (g.1.getD i 0) = false from decide_eq_false h1,cond_false,decide_eq_false h1]
       simp only [Bool.false_and,Bool.not_false,Bool.true_and]
       exact end_inner N k0 k1 g n s hs hn F (i + 1) (by omega) (by omega)
   · rw [ltF hlt,cond_false,allN_end hlt];rfl
theorem end_outer (N:Nat) (hN:10 < N) {C:Type} (k0:Bool→GG→Option C) (k1:GG→Option C) (g:GG) (n:Nat) (hn:n ≤ 6) :
   ∀ (F i:Nat),n - i < F→i ≤ n→g65L26f N F k0 k1 (n:Int) (i:Int) g =
     bif allN (n - i) i (fun s=>allN s 0 (fun t=>!(decide (g.1.getD s 0 = g.1.getD t 0) && !decide (g.2.1.getD s 0 = g.2.1.getD t 0)))) then k1 g else k0 false g
 | 0,i,hF,_=>by omega
 | F + 1,i,hF,hi=>by
   rw [g65L26f_succ]
   unfold g65L26B
   by_cases hlt:i < n
   · rw [ltT hlt,cond_true,g65L6758_eq]
     have e:=end_inner N (fun e2 e3 e4 e5=>k0 e2 e5) (fun e6 e7 e8=>g65L26f N F k0 k1 e6 (IntKind.wrap .i64 (e7 + 1)) e8) g n i hlt hn N 0 (by omega) (by omega)
     simp only [Int.natCast_zero,Nat.sub_zero] at e
     rw [allN_step hlt]
     refine Eq.trans e ?_
     cases allN i 0 (fun t=>!(decide (g.1.getD i 0 = g.1.getD t 0) && !decide (g.2.1.getD i 0 = g.2.1.getD t 0))) with
     | false=>rfl
     | true =>
       rw [cond_true,Bool.true_and,wn i (by omega)]
       exact end_outer N hN k0 k1 g n hn F (i + 1) (by omega) (by omega)
   · rw [ltF hlt,cond_false,allN_end hlt];rfl
theorem Pm.tellsEnd {x:MM} {k:Nat} (h:Pm x k) (N:Nat) (hN:10 < N) (g:GG):g65 N x g = some (allN x.1.length 0 (fun s=>allN s 0 (fun t=>!(decide (g.1.getD s 0 = g.1.getD t 0) && !decide (g.2.1.getD s 0 = g.2.1.getD t 0))))):=by
 have:=h.n6
 unfold g65
 have e:g76 N x = some (x.1.length:Int):=rfl
 rw [e]
 simp only [Option.bind_some]
 rw [g65L26_eq]
 have e:=end_outer N hN (fun e9 e10=>some e9) (fun e11=>some true) g x.1.length h.n6 N 0 (by omega) (by omega)
 simp only [Int.natCast_zero,Nat.sub_zero] at e
 rw [e]
 cases allN x.1.length 0 (fun s=>allN s 0 (fun t=>!(decide (g.1.getD s 0 = g.1.getD t 0) && !decide (g.2.1.getD s 0 = g.2.1.getD t 0)))) <;> rfl
theorem index_loop (N:Nat) {C:Type} (k0:Int→Option C) (k1:Option C) (l:List Int) (v:Int) (hl:l.length ≤ 1000) :
   ∀ (F i:Nat),l.length - i < F→i ≤ l.length→(v ∈ l.drop i∧∃ j:Nat,g115L26f N F k0 k1 l v (l.length:Int) (i:Int) = k0 j) ∨ (v ∉ l.drop i∧g115L26f N F k0 k1 l v (l.length:Int) (i:Int) = k1)
 | 0,i,hF,_=>by omega
 | F + 1,i,hF,hi=>by
   rw [g115L26f_succ]
   unfold g115L26B
   by_cases hlt:i < l.length
   · rw [ltT hlt,cond_true,if_pos (idxT hlt),Int.toNat_natCast,wn i (by omega),getD_drop l i 0 hlt]
     by_cases hv:v = l.getD i 0
     · rw [show ieq v (l.getD i 0) = true from decide_eq_true hv]
       exact .inl ⟨by rw [hv];exact List.mem_cons_self,i,rfl⟩
     · rw [show ieq v (l.getD i 0) = false from decide_eq_false hv,cond_false]
       rcases index_loop N k0 k1 l v hl F (i + 1) (by omega) (by omega) with ⟨h1,h2⟩ | ⟨h1,h2⟩
       · exact .inl ⟨List.mem_cons_of_mem _ h1,h2⟩
       · exact .inr ⟨fun hm=>by
           rcases List.mem_cons.1 hm with hm | hm
           · exact hv hm
           · exact h1 hm,h2⟩
   · rw [ltF hlt,cond_false,List.drop_eq_nil_of_le (by omega)]
     exact .inr ⟨by simp,rfl⟩
theorem contains_eq (N:Nat) (hN:1000 < N) (l:List Int) (v:Int) (hl:l.length ≤ 1000):g95 N l v = some (decide (v ∈ l)):=by
 unfold g95 g115
 rw [g115L26_eq]
 rcases index_loop N (fun e1=>some e1) (some (-1)) l v hl N 0 (by omega) (by omega) with ⟨h1,j,h2⟩ | ⟨h1,h2⟩
 · simp only [Int.natCast_zero,List.drop_zero] at h1 h2
   rw [h2,decide_eq_true h1]
   simp
 · simp only [Int.natCast_zero,List.drop_zero] at h1 h2
   rw [h2,decide_eq_false h1]
   rfl
theorem begin_loop (N:Nat) (hN:1000 < N) {C:Type} (k0:Bool→Option C) (k1:Option C) (g:GG) (hg:g.1.length = 6) (n:Nat) (hn:n ≤ 6) :
   ∀ (F i:Nat),n - i < F→i ≤ n→g66L26f N F k0 k1 g (n:Int) (i:Int) = bif allN (n - i) i (fun s=>!decide (g.1.getD s 0 ∈ g.1.take s)) then k1 else k0 false
 | 0,i,hF,_=>by omega
 | F + 1,i,hF,hi=>by
   rw [g66L26f_succ]
   unfold g66L26B
   by_cases hlt:i < n
   · rw [ltT hlt,cond_true,if_pos ⟨by omega,by omega,by omega⟩,if_pos ⟨by omega,by omega⟩,Int.toNat_natCast,show Int.toNat 0 = 0 from rfl,List.drop_zero,contains_eq N hN _ _ (by simp;omega),wn i (by omega),allN_step hlt]
     simp only [Option.bind_some]
     cases decide (g.1.getD i 0 ∈ g.1.take i) with
     | true=>rfl
     | false =>
       simp only [cond_false,Bool.not_false,Bool.true_and]
       exact begin_loop N hN k0 k1 g hg n hn F (i + 1) (by omega) (by omega)
   · rw [ltF hlt,cond_false,allN_end hlt];rfl
theorem Pm.tellsBeginning {x:MM} {k:Nat} (h:Pm x k) (N:Nat) (hN:1000 < N) (g:GG) (hg:g.1.length = 6):g66 N x g = some (allN x.1.length 0 (fun s=>!decide (g.1.getD s 0 ∈ g.1.take s))):=by
 have:=h.n6
 unfold g66
 have e:g76 N x = some (x.1.length:Int):=rfl
 rw [e]
 simp only [Option.bind_some]
 rw [g66L26_eq]
 have e:=begin_loop N hN (fun e3=>some e3) (some true) g hg x.1.length h.n6 N 0 (by omega) (by omega)
 simp only [Int.natCast_zero,Nat.sub_zero] at e
 rw [e]
 cases allN x.1.length 0 (fun s=>!decide (g.1.getD s 0 ∈ g.1.take s)) <;> rfl
theorem state_loop (N:Nat) {C:Type} (k0:Bool→GG→Option C) (k1:GG→Option C) (g:GG) (n s:Nat) (hs:s < 6) (hn:n ≤ 6) :
   ∀ (F i:Nat),n - i < F→i ≤ n→g68L26f N F k0 k1 (s:Int) (n:Int) (i:Int) g = bif allN (n - i) i (fun t=>decide (t = s) || !decide (g.1.getD t 0 = g.1.getD s 0)) then k1 g else k0 false g
 | 0,i,hF,_=>by omega
 | F + 1,i,hF,hi=>by
   rw [g68L26f_succ]
   unfold g68L26B
   by_cases hlt:i < n
   · rw [ltT hlt,cond_true,if_pos ⟨by omega,by omega⟩,if_pos ⟨by omega,by omega⟩,Int.toNat_natCast,Int.toNat_natCast,wn i (by omega),allN_step hlt]
     by_cases h1:i = s
     · rw [show ieq (i:Int) (s:Int) = true from decide_eq_true (by omega),Bool.not_true,cond_false,decide_eq_true h1,Bool.true_or,Bool.true_and]
       exact state_loop N k0 k1 g n s hs hn F (i + 1) (by omega) (by omega)
     · rw [show ieq (i:Int) (s:Int) = false from decide_eq_false (by omega),Bool.not_false,cond_true,decide_eq_false h1,Bool.false_or]
       by_cases h2:g.1.getD i 0 = g.1.getD s 0
       · rw [show ieq (g.1.getD i 0) (g.1.getD s 0) = true from decide_eq_true h2,decide_eq_true h2];rfl
       · rw [show ieq (g.1.getD i 0) (g.1.getD s 0) = false from decide_eq_false h2,decide_eq_false h2,cond_false,Bool.not_false,Bool.true_and]
         exact state_loop N k0 k1 g n s hs hn F (i + 1) (by omega) (by omega)
   · rw [ltF hlt,cond_false,allN_end hlt];rfl
theorem Pm.tellsState {x:MM} {k:Nat} (h:Pm x k) (N:Nat) (hN:10 < N) (g:GG) (s:Nat) (hs:s < x.1.length):g68 N x g (s:Int) = some (allN x.1.length 0 (fun t=>decide (t = s) || !decide (g.1.getD t 0 = g.1.getD s 0))):=by
 have:=h.n6
 unfold g68
 have e:g76 N x = some (x.1.length:Int):=rfl
 rw [e]
 simp only [Option.bind_some]
 rw [g68L26_eq]
 have e:=state_loop N (fun e2 e3=>some e2) (fun e4=>some true) g x.1.length s (by omega) h.n6 N 0 (by omega) (by omega)
 simp only [Int.natCast_zero,Nat.sub_zero] at e
 rw [e]
 cases allN x.1.length 0 (fun t=>decide (t = s) || !decide (g.1.getD t 0 = g.1.getD s 0)) <;> rfl
theorem Pm.say_at {x:MM} {k:Nat} (h:Pm x k) (N:Nat) (hN:1000 < N) (w:List Int) (hw:InW k w) (hl:w.length ≤ 1000) (s:Nat) (hs:s < x.1.length):g28 N x (s:Int) w = some (sd x w s,en x w s,()):=h.say N hN w hw hl s (by omega) (by omega)
theorem sd_len (x:MM) (w:List Int) (s:Nat):(sd x w s).length = w.length:=sayL_len x s w
theorem Pm.rend_inner {x:MM} {k:Nat} (h:Pm x k) (N:Nat) (hN:1000 < N) (w:List Int) (hw:InW k w) (hl:w.length ≤ 1000) {C:Type} (k0:List Int→Bool→Int→MM→Option C) (k1:List Int→Int→MM→Option C) (s:Nat) (hs:s < x.1.length) :
   ∀ (F i:Nat),s - i < F→i ≤ s→g34L3366f N F k0 k1 w (s:Int) (sd x w s) (en x w s) (i:Int) x =
     bif allN (s - i) i (fun t=>!(decide (sd x w s = sd x w t) && !decide (en x w s = en x w t))) then k1 w (s:Int) x else k0 w false (s:Int) x
 | 0,i,hF,_=>by omega
 | F + 1,i,hF,hi=>by
   have:=h.n6
   rw [g34L3366f_succ]
   unfold g34L3366B
   by_cases hlt:i < s
   · rw [ltT hlt,cond_true,h.say_at N hN w hw hl i (by omega)]
     simp only [Option.bind_some]
     rw [eq20 N _ _ (by rw [sd_len];omega) hN,wn i (by omega),allN_step hlt]
     simp only [Option.bind_some]
     by_cases h1:sd x w s = sd x w i
     · rw [decide_eq_true h1,cond_true,Bool.true_and]
       by_cases h2:en x w s = en x w i
       · rw [show ieq (en x w s) (en x w i) = true from decide_eq_true h2,decide_eq_true h2]
         simp only [Bool.not_true,Bool.not_false,cond_false,Bool.true_and]
         exact h.rend_inner N hN w hw hl k0 k1 s hs F (i + 1) (by omega) (by omega)
       · rw [show ieq (en x w s) (en x w i) = false from decide_eq_false h2,decide_eq_false h2]
         rfl
     · rw [decide_eq_false h1,cond_false]
       simp only [Bool.false_and,Bool.not_false,Bool.true_and]
       exact h.rend_inner N hN w hw hl k0 k1 s hs F (i + 1) (by omega) (by omega)
   · rw [ltF hlt,cond_false,allN_end hlt];rfl
theorem Pm.rend_outer {x:MM} {k:Nat} (h:Pm x k) (N:Nat) (hN:1000 < N) (w:List Int) (hw:InW k w) (hl:w.length ≤ 1000) {C:Type} (k0:Bool→MM→Option C) (k1:MM→Option C) :
   ∀ (F i:Nat),x.1.length - i < F→i ≤ x.1.length→g34L26f N F k0 k1 w (i:Int) x =
     bif allN (x.1.length - i) i (fun s=>allN s 0 (fun t=>!(decide (sd x w s = sd x w t) && !decide (en x w s = en x w t)))) then k1 x else k0 false x
 | 0,i,hF,_=>by omega
 | F + 1,i,hF,hi=>by
   have:=h.n6
   rw [g34L26f_succ]
   unfold g34L26B
   by_cases hlt:i < x.1.length
   · rw [ltT hlt,cond_true,h.say_at N hN w hw hl i hlt]
     simp only [Option.bind_some]
     rw [g34L3366_eq]
     have e:=h.rend_inner N hN w hw hl (fun e4 e5 e6 e7=>k0 e5 e7) (fun e8 e9 e10=>g34L26f N F k0 k1 e8 (IntKind.wrap .i64 (e9 + 1)) e10) i hlt N 0 (by omega) (by omega)
     simp only [Int.natCast_zero,Nat.sub_zero] at e
     rw [allN_step hlt]
     refine Eq.trans e ?_
     cases allN i 0 (fun t=>!(decide (sd x w i = sd x w t) && !decide (en x w i = en x w t))) with
     | false=>rfl
     | true =>
       rw [cond_true,Bool.true_and,wn i (by omega)]
       exact h.rend_outer N hN w hw hl k0 k1 F (i + 1) (by omega) (by omega)
   · rw [ltF hlt,cond_false,allN_end hlt];rfl
theorem Pm.refEnd {x:MM} {k:Nat} (h:Pm x k) (N:Nat) (hN:1000 < N) (w:List Int) (hw:InW k w) (hl:w.length ≤ 1000):g34 N x w = some (allN x.1.length 0 (fun s=>allN s 0 (fun t=>!(decide (sd x w s = sd x w t) && !decide (en x w s = en x w t))))):=by
 have:=h.n6
 unfold g34
 rw [g34L26_eq]
 have e:=h.rend_outer N hN w hw hl (fun e11 e12=>some e11) (fun e13=>some true) N 0 (by omega) (by omega)
 simp only [Int.natCast_zero,Nat.sub_zero] at e
 rw [e]
 cases allN x.1.length 0 (fun s=>allN s 0 (fun t=>!(decide (sd x w s = sd x w t) && !decide (en x w s = en x w t)))) <;> rfl
theorem Pm.rstate_loop {x:MM} {k:Nat} (h:Pm x k) (N:Nat) (hN:1000 < N) (w:List Int) (hw:InW k w) (hl:w.length ≤ 1000) {C:Type} (k0:Bool→MM→Option C) (k1:MM→Option C) (s:Nat) :
   ∀ (F i:Nat),x.1.length - i < F→i ≤ x.1.length→g36L58f N F k0 k1 (s:Int) w (sd x w s) (i:Int) x = bif allN (x.1.length - i) i (fun t=>decide (t = s) || !decide (sd x w t = sd x w s)) then k1 x else k0 false x
 | 0,i,hF,_=>by omega
 | F + 1,i,hF,hi=>by
   have:=h.n6
   rw [g36L58f_succ]
   unfold g36L58B
   by_cases hlt:i < x.1.length
   · rw [ltT hlt,cond_true,h.say_at N hN w hw hl i hlt]
     simp only [Option.bind_some]
     rw [wn i (by omega),allN_step hlt]
     by_cases h1:i = s
     · rw [show ieq (i:Int) (s:Int) = true from decide_eq_true (by omega),Bool.not_true,cond_false,decide_eq_true h1,Bool.true_or,Bool.true_and]
       exact h.rstate_loop N hN w hw hl k0 k1 s F (i + 1) (by omega) (by omega)
     · rw [show ieq (i:Int) (s:Int) = false from decide_eq_false (by omega),Bool.not_false,cond_true,decide_eq_false h1,Bool.false_or,eq20 N _ _ (by rw [sd_len];omega) hN]
       simp only [Option.bind_some]
       by_cases h2:sd x w i = sd x w s
       · rw [decide_eq_true h2,decide_eq_true h2.symm];rfl
       · rw [decide_eq_false h2,decide_eq_false (fun e=>h2 e.symm),cond_false,Bool.not_false,Bool.true_and]
         exact h.rstate_loop N hN w hw hl k0 k1 s F (i + 1) (by omega) (by omega)
   · rw [ltF hlt,cond_false,allN_end hlt];rfl
theorem Pm.refState {x:MM} {k:Nat} (h:Pm x k) (N:Nat) (hN:1000 < N) (w:List Int) (hw:InW k w) (hl:w.length ≤ 1000) (s:Nat) (hs:s < x.1.length):g36 N x (s:Int) w = some (allN x.1.length 0 (fun t=>decide (t = s) || !decide (sd x w t = sd x w s))):=by
 have:=h.n6
 unfold g36
 rw [h.say_at N hN w hw hl s hs]
 simp only [Option.bind_some]
 rw [g36L58_eq]
 have e:=h.rstate_loop N hN w hw hl (fun e4 e5=>some e4) (fun e6=>some true) s N 0 (by omega) (by omega)
 simp only [Int.natCast_zero,Nat.sub_zero] at e
 rw [e]
 cases allN x.1.length 0 (fun t=>decide (t = s) || !decide (sd x w t = sd x w s)) <;> rfl
theorem Pm.rbegin_loop {x:MM} {k:Nat} (h:Pm x k) (N:Nat) (hN:1000 < N) (w:List Int) (hw:InW k w) (hl:w.length ≤ 1000) {C:Type} (k0:Bool→MM→Option C) (k1:MM→Option C) :
   ∀ (F i:Nat),x.1.length - i < F→i ≤ x.1.length→g35L26f N F k0 k1 w (i:Int) x = bif allN (x.1.length - i) i (fun s=>allN x.1.length 0 (fun t=>decide (t = s) || !decide (sd x w t = sd x w s))) then k1 x else k0 false x
 | 0,i,hF,_=>by omega
 | F + 1,i,hF,hi=>by
   have:=h.n6
   rw [g35L26f_succ]
   unfold g35L26B
   by_cases hlt:i < x.1.length
   · rw [ltT hlt,cond_true,h.refState N hN w hw hl i hlt]
     simp only [Option.bind_some]
     rw [wn i (by omega),allN_step hlt]
     cases allN x.1.length 0 (fun t=>decide (t = i) || !decide (sd x w t = sd x w i)) with
     | false=>rfl
     | true =>
       simp only [Bool.not_true,cond_false,Bool.true_and]
       exact h.rbegin_loop N hN w hw hl k0 k1 F (i + 1) (by omega) (by omega)
   · rw [ltF hlt,cond_false,allN_end hlt];rfl
theorem Pm.refBeginning {x:MM} {k:Nat} (h:Pm x k) (N:Nat) (hN:1000 < N) (w:List Int) (hw:InW k w) (hl:w.length ≤ 1000):g35 N x w = some (allN x.1.length 0 (fun s=>allN x.1.length 0 (fun t=>decide (t = s) || !decide (sd x w t = sd x w s)))):=by
 have:=h.n6
 unfold g35
 rw [g35L26_eq]
 have e:=h.rbegin_loop N hN w hw hl (fun e2 e3=>some e2) (fun e4=>some true) N 0 (by omega) (by omega)
 simp only [Int.natCast_zero,Nat.sub_zero] at e
 rw [e]
 cases allN x.1.length 0 (fun s=>allN x.1.length 0 (fun t=>decide (t = s) || !decide (sd x w t = sd x w s))) <;> rfl
theorem Gr.end_same {x:MM} {w:List Int} {g:GG} (hg:Gr x w g):allN x.1.length 0 (fun s=>allN s 0 (fun t=>!(decide (g.1.getD s 0 = g.1.getD t 0) && !decide (g.2.1.getD s 0 = g.2.1.getD t 0)))) = allN x.1.length 0 (fun s=>allN s 0 (fun t=>!(decide (sd x w s = sd x w t) && !decide (en x w s = en x w t)))):=by
 refine allN_congr fun s _ hs=>allN_congr fun t _ ht=>?_
 have h1:=hg.grp s t (by omega) (by omega)
 have h2:=hg.now s (by omega)
 have h3:=hg.now t (by omega)
 rw [h2,h3,decide_eq_decide.2 h1]
 rfl
theorem Gr.state_same {x:MM} {w:List Int} {g:GG} (hg:Gr x w g) (s:Nat) (hs:s < x.1.length):allN x.1.length 0 (fun t=>decide (t = s) || !decide (g.1.getD t 0 = g.1.getD s 0)) = allN x.1.length 0 (fun t=>decide (t = s) || !decide (sd x w t = sd x w s)):=by
 refine allN_congr fun t _ ht=>?_
 rw [decide_eq_decide.2 (hg.grp t s (by omega) (by omega))]
 rfl
theorem mem_take (l:List Int) (v:Int) (s:Nat) (hs:s ≤ l.length):v ∈ l.take s ↔ ∃ t,t < s∧l.getD t 0 = v:=by
 rw [List.mem_iff_getElem?]
 constructor
 · rintro ⟨t,ht⟩
   rw [List.getElem?_take] at ht
   split at ht
   · rename_i h1
     exact ⟨t,h1,by rw [List.getD_eq_getElem?_getD,ht];rfl⟩
   · cases ht
 · rintro ⟨t,h1,h2⟩
   refine ⟨t,?_⟩
   rw [List.getElem?_take,if_pos h1,List.getElem?_eq_getElem (by omega)]
   rw [List.getD_eq_getElem?_getD,List.getElem?_eq_getElem (by omega)] at h2
   exact congrArg some h2
theorem Gr.begin_same {x:MM} {w:List Int} {g:GG} (hg:Gr x w g) (hn:x.1.length ≤ 6):allN x.1.length 0 (fun s=>!decide (g.1.getD s 0 ∈ g.1.take s)) = allN x.1.length 0 (fun s=>allN x.1.length 0 (fun t=>decide (t = s) || !decide (sd x w t = sd x w s))):=by
 rw [Bool.eq_iff_iff,allN_iff,allN_iff]
 constructor
 · intro h s _ hs
   rw [allN_iff]
   intro t _ ht
   by_cases hts:t = s
   · rw [decide_eq_true hts];rfl
   · rw [decide_eq_false hts,Bool.false_or,Bool.not_eq_true',decide_eq_false_iff_not]
     intro he
     have hG:=(hg.grp t s (by omega) (by omega)).2 he
     rcases Nat.lt_or_gt_of_ne hts with h1 | h1
     · have:=h s (by omega) hs
       rw [Bool.not_eq_true',decide_eq_false_iff_not,mem_take _ _ _ (by rw [hg.l1];omega)] at this
       exact this ⟨t,h1,hG⟩
     · have:=h t (by omega) ht
       rw [Bool.not_eq_true',decide_eq_false_iff_not,mem_take _ _ _ (by rw [hg.l1];omega)] at this
       exact this ⟨s,h1,hG.symm⟩
 · intro h s _ hs
   rw [Bool.not_eq_true',decide_eq_false_iff_not,mem_take _ _ _ (by rw [hg.l1];omega)]
   rintro ⟨t,h1,h2⟩
   have:=(allN_iff _ _ _).1 (h s (by omega) hs) t (by omega) (by omega)
   rw [decide_eq_false (by omega),Bool.false_or,Bool.not_eq_true',decide_eq_false_iff_not] at this
   exact this ((hg.grp t s (by omega) (by omega)).1 h2)
end Go.Pv
namespace Go.Pv
theorem awake_eq:g25v1 2000 = some true:=by kernel_rfl
end Go.Pv
