/- Plain texts, merged: QpA, QpS, QpB, QpC, QpD, QpT, QpU, QpV, QpW, QpX, QpAw. -/
import Derived.Test.YtiinfljjfceckaaDoorPvL09
import Derived.Test.YtiinfljjfceckaaDoorPvG09
import Derived.KernelRfl
set_option linter.unusedSectionVars false
/- Seat 09, plain: lists in ranges, copies, machines as they should be. -/
set_option linter.unusedVariables false
set_option linter.unusedSimpArgs false
namespace Go.Pv
abbrev MM:=List (List Int)×List (List Int)×Unit
theorem w64 {x:Int} (h1:-9223372036854775808 ≤ x) (h2:x < 9223372036854775808):IntKind.wrap .i64 x = x:=by rw [IntKind.wrap_i64];omega
theorem wu64 (x:Int):IntKind.wrap .u64 x = x % 18446744073709551616:=by simp only [IntKind.wrap,IntKind.signed,IntKind.bits];simp
theorem wu64n {x:Int} (h1:0 ≤ x) (h2:x < 18446744073709551616):IntKind.wrap .u64 x = x:=by rw [wu64];omega
theorem wn (i:Nat) (h:i < 1000000):IntKind.wrap .i64 ((i:Int) + 1) = ((i + 1:Nat):Int):=by rw [w64 (by omega) (by omega)];simp
@[simp] theorem ieq_self (x:Int):ieq x x = true:=by simp only [ieq,decide_true]
theorem low (x:Int) {m:Int} (hm:0 < m) (hm2:m < 1000000):∃ r:Int,IntKind.wrap .i64 (Int.tmod (IntKind.wrap .u64 x) m) = r∧0 ≤ r∧r < m:=by
 refine ⟨(x % 18446744073709551616) % m,?_,Int.emod_nonneg _ (by omega),Int.emod_lt_of_pos _ hm⟩
 rw [wu64,Int.tmod_eq_emod_of_nonneg (Int.emod_nonneg _ (by decide))]
 have h1:=Int.emod_nonneg (x % 18446744073709551616) (show m ≠ 0 by omega)
 have h2:=Int.emod_lt_of_pos (x % 18446744073709551616) hm
 exact w64 (by omega) (by omega)
theorem getD_mem {α:Type} {l:List α} {i:Nat} (h:i < l.length) (d:α):l.getD i d ∈ l:=by
 rw [List.getD_eq_getElem?_getD,List.getElem?_eq_getElem h];simp
theorem getD_drop {α:Type} (l:List α) (i:Nat) (d:α) (h:i < l.length):l.drop i = l.getD i d :: l.drop (i + 1):=by
 rw [List.drop_eq_getElem_cons h];simp [h]
theorem take_getD {α:Type} (l:List α) (i:Nat) (d:α) (h:i < l.length):l.take i ++ [l.getD i d] = l.take (i + 1):=by
 rw [List.take_add_one];simp [h]
theorem idxT {i:Nat} {n:Nat} (h:i < n):idx (i:Int) n:=⟨by omega,by omega⟩
theorem ltT {i n:Nat} (h:i < n):decide ((i:Int) < (n:Int)) = true:=by simp;omega
theorem ltF {i n:Nat} (h:¬ i < n):decide ((i:Int) < (n:Int)) = false:=by simp;omega
theorem any_loop (N:Nat) {C:Type} (k0:Int→Option C) (k1:Option C) (l:List Int) (f:(Int×Unit)→Option Bool) (p:Int→Bool) (hf:∀ x,f (x,()) = some (p x)) (hl:l.length < 4611686018427387904) :
   ∀ (F i:Nat),l.length - i < F→i ≤ l.length→((l.drop i).any p = true∧∃ j:Nat,g121L26f N F k0 k1 l f (l.length:Int) (i:Int) = k0 j) ∨ ((l.drop i).any p = false∧g121L26f N F k0 k1 l f (l.length:Int) (i:Int) = k1)
 | 0,i,h,_=>by omega
 | F + 1,i,h,hi=>by
   rw [g121L26f_succ]
   unfold g121L26B
   by_cases hlt:i < l.length
   · rw [ltT hlt,cond_true,if_pos (idxT hlt),Int.toNat_natCast,hf]
     simp only [Option.bind_some]
     rw [getD_drop l i 0 hlt,List.any_cons]
     cases hp:p (l.getD i 0) with
     | true=>exact .inl ⟨by simp,i,rfl⟩
     | false =>
       simp only [cond_false,Bool.false_or]
       have e3:IntKind.wrap .i64 ((i:Int) + 1) = ((i + 1:Nat):Int):=by rw [w64 (by omega) (by omega)];simp
       rw [e3]
       exact any_loop N k0 k1 l f p hf hl F (i + 1) (by omega) (by omega)
   · rw [ltF hlt,cond_false,List.drop_eq_nil_of_le (by omega)]
     exact .inr ⟨rfl,rfl⟩
theorem are_eq (N:Nat) (lo hi:Int) (l:List Int) (hN:l.length < N) (hl:l.length < 4611686018427387904):g82 N lo hi l = some (l.all fun x=>decide (lo ≤ x) && decide (x ≤ hi)):=by
 unfold g82 g106 g121
 rw [g121L26_eq]
 have:=any_loop N (fun e2=>some e2) (some (-1)) l (fun (x1:(Int)×(Unit))=>Option.bind (g107 N x1.1 lo hi) fun y2=>some y2) (fun x=>decide (x < lo) || decide (hi < x))
   (fun x=>by
     simp only [g107]
     cases h:decide (x < lo) <;> simp) hl N 0 (by omega) (by omega)
 simp only [Int.natCast_zero,List.drop_zero] at this
 have hx:(l.all fun x=>decide (lo ≤ x) && decide (x ≤ hi)) = !(l.any fun x=>decide (x < lo) || decide (hi < x)):=by
   rw [List.not_any_eq_all_not]
   congr 1
   funext x
   by_cases h1:x < lo <;> by_cases h2:hi < x <;> simp [h1,h2] <;> omega
 rcases this with ⟨h1,j,h2⟩ | ⟨h1,h2⟩
 · rw [h2,hx,h1]
   simp
 · rw [h2,hx,h1]
   simp
theorem are_true (N:Nat) (lo hi:Int) (l:List Int) (hN:l.length < N) (hl:l.length < 1000000) (h:∀ x ∈ l,lo ≤ x∧x ≤ hi):g82 N lo hi l = some true:=by
 rw [are_eq N lo hi l hN (by omega)]
 congr 1
 rw [List.all_eq_true]
 intro x hx
 have:=h x hx
 simp;exact this
theorem few_eq (N:Nat) (l:List Int) (k:Int) (h0:0 ≤ k) (hk:k ≤ 1000):g42 N l k = some (l.take k.toNat):=by
 unfold g42
 have e:imin (l.length:Int) k = ((min l.length k.toNat:Nat):Int):=by simp only [imin];split <;> omega
 rw [e,if_pos ⟨by omega,by omega,by omega⟩]
 have:List.take (min l.length k.toNat) l = l.take k.toNat:=by
   rcases Nat.le_total l.length k.toNat with h | h
   · rw [Nat.min_eq_left h,List.take_of_length_le h,List.take_length]
   · rw [Nat.min_eq_right h]
 simp [this,maxCount]
 omega
theorem inputs_eq (N:Nat) (k:Int):∃ r:Nat,g16 N k = some (r:Int)∧1 ≤ r∧r ≤ 3:=by
 obtain ⟨v,e,h1,h2⟩:=low k (m:=3) (by omega) (by omega)
 refine ⟨(1 + v).toNat,?_,by omega,by omega⟩
 unfold g16
 rw [e,w64 (by omega) (by omega)]
 congr 1
 omega
structure Pm (x:MM) (k:Nat):Prop where
 n1:1 ≤ x.1.length
 n6:x.1.length ≤ 6
 out:x.2.1.length = x.1.length
 k1:1 ≤ k
 k3:k ≤ 3
 rowN:∀ r ∈ x.1,r.length = k∧∀ t ∈ r,0 ≤ t∧t < (x.1.length:Int)
 rowO:∀ r ∈ x.2.1,r.length = k∧∀ t ∈ r,0 ≤ t∧t ≤ 3
theorem Pm.inputs {x:MM} {k:Nat} (h:Pm x k) (N:Nat):g85 N x = some (k:Int):=by
 unfold g85
 have:=h.n1
 rw [if_pos ⟨by omega,by omega⟩]
 have:=(h.rowN _ (getD_mem (i:=0) (by omega) [])).1
 simp only [show Int.toNat 0 = 0 from rfl,this]
theorem Pm.inputs41 {x:MM} {k:Nat} (h:Pm x k) (N:Nat):g41 N x = some (k:Int):=h.inputs N
theorem Pm.check_loop {x:MM} {k:Nat} (h:Pm x k) (N:Nat) (hN:20 < N) {C:Type} (k0:Int→MM→Option C) (k1:MM→Option C) :
   ∀ (F i:Nat),x.1.length - i < F→i ≤ x.1.length→g57L122f N F k0 k1 (x.1.length:Int) x.1 (x.1.length:Int) (i:Int) x = k1 x
 | 0,i,hF,_=>by omega
 | F + 1,i,hF,hi=>by
   rw [g57L122f_succ]
   unfold g57L122B
   have:=h.n6;have:=h.k3
   by_cases hlt:i < x.1.length
   · have ho:i < x.2.1.length:=by rw [h.out];exact hlt
     obtain ⟨r1,r2⟩:=h.rowN _ (getD_mem hlt [])
     obtain ⟨o1,o2⟩:=h.rowO _ (getD_mem ho [])
     have e1:g82 N 0 (IntKind.wrap .i64 ((x.1.length:Int) - 1)) (x.1.getD i []) = some true:=by
       rw [w64 (by omega) (by omega)]
       exact are_true N _ _ _ (by omega) (by omega) fun t ht=>by have:=r2 t ht;omega
     have e2:g82 N 0 3 (x.2.1.getD i []) = some true:=are_true N _ _ _ (by omega) (by omega) o2
     rw [ltT hlt,cond_true,if_pos (idxT hlt),h.inputs N]
     simp only [Option.bind_some,Int.toNat_natCast,r1,ieq_self,Bool.not_true,cond_false]
     rw [if_pos (idxT ho),o1,ieq_self,Bool.not_true,cond_false,e1]
     simp only [Option.bind_some,Bool.not_true,cond_false]
     rw [if_pos (idxT ho),e2]
     simp only [Option.bind_some,Bool.not_true,cond_false]
     rw [wn i (by omega)]
     exact h.check_loop N hN k0 k1 F (i + 1) (by omega) (by omega)
   · rw [ltF hlt,cond_false]
theorem Pm.check {x:MM} {k:Nat} (h:Pm x k) (N:Nat) (hN:20 < N):g57 N x = some 0:=by
 have:=h.n1;have:=h.n6;have:=h.k1;have:=h.k3
 unfold g57
 rw [are_true N 1 6 [((x.1.length:Nat):Int)] (by simp;omega) (by simp) (by simp;omega)]
 simp only [Option.bind_some,Bool.not_true,cond_false,h.out,ieq_self]
 rw [if_pos ⟨by omega,by omega⟩]
 have r1:=(h.rowN _ (getD_mem (i:=0) (by omega) [])).1
 simp only [show Int.toNat 0 = 0 from rfl,r1]
 rw [are_true N 1 3 [(k:Int)] (by simp;omega) (by simp) (by simp;omega)]
 simp only [Option.bind_some,Bool.not_true,cond_false]
 rw [g57L122_eq]
 exact h.check_loop N hN _ _ N 0 (by omega) (by omega)
theorem rows_loop (N:Nat) {C:Type} (k0:List (List Int)→Option C) (l:List (List Int)) (hl:l.length ≤ 6) (hr:∀ r ∈ l,r.length ≤ 4) :
   ∀ (F i:Nat),l.length - i < F→i ≤ l.length→g59L58f N F k0 l (i:Int) (l.take i) = k0 l
 | 0,i,h,_=>by omega
 | F + 1,i,h,hi=>by
   rw [g59L58f_succ]
   unfold g59L58B
   by_cases hlt:i < l.length
   · have e2:decide ((i:Int) ≤ 6) = true:=by simp;omega
     rw [ltT hlt,cond_true,e2,cond_true,if_pos (idxT hlt),Int.toNat_natCast,few_eq N _ 4 (by omega) (by omega)]
     simp only [Option.bind_some,show Int.toNat 4 = 4 from rfl,List.take_of_length_le (hr _ (getD_mem hlt []))]
     rw [if_pos (by simp [maxCount];omega),take_getD l i [] hlt,wn i (by omega)]
     exact rows_loop N k0 l hl hr F (i + 1) (by omega) (by omega)
   · rw [ltF hlt,cond_false,List.take_of_length_le (by omega)]
theorem rows_eq (N:Nat) (hN:10 < N) (l:List (List Int)) (hl:l.length ≤ 6) (hr:∀ r ∈ l,r.length ≤ 4):g59 N l = some l:=by
 unfold g59
 rw [g59L58_eq]
 exact rows_loop N _ l hl hr N 0 (by omega) (by omega)
theorem Pm.given {x:MM} {k:Nat} (h:Pm x k) (N:Nat) (hN:10 < N):g18 N x = some x:=by
 have:=h.n6;have:=h.k3;have:=h.out
 unfold g18
 rw [rows_eq N hN x.1 (by omega) fun r hr=>by have:=(h.rowN r hr).1;omega,rows_eq N hN x.2.1 (by omega) fun r hr=>by have:=(h.rowO r hr).1;omega]
 rfl
theorem Pm.own {x:MM} {k:Nat} (h:Pm x k) (N:Nat) (hN:10 < N):g23 N x = some x:=h.given N hN
theorem tame_row (N:Nat) {C:Type} (k0:Int→Int→Int→MM→List Int→List Int→List (List Int)→List (List Int)→List (List Int)→List (List Int)→Option C) (k n i:Nat) (hk:k ≤ 3) (hn1:1 ≤ n) (hn:n ≤ 6) (x:MM) (c1 c2 c3 c4:List (List Int)) :
   ∀ (F j:Nat) (p q:List Int),k - j < F→j ≤ k→p.length = j→q.length = j→(∀ t ∈ p,0 ≤ t∧t < (n:Int))→(∀ t ∈ q,0 ≤ t∧t ≤ 3) →
     ∃ p' q':List Int,p'.length = k∧q'.length = k∧(∀ t ∈ p',0 ≤ t∧t < (n:Int))∧(∀ t ∈ q',0 ≤ t∧t ≤ 3) ∧
       g15L31306f N F k0 (k:Int) (n:Int) (i:Int) (j:Int) x p q c1 c2 c3 c4 = k0 (k:Int) (n:Int) (i:Int) x p' q' c1 c2 c3 c4
 | 0,j,p,q,h,_,_,_,_,_=>by omega
 | F + 1,j,p,q,h,hj,hp,hq,hpb,hqb=>by
   rw [g15L31306f_succ]
   unfold g15L31306B
   by_cases hlt:j < k
   · have add:∀ v o:Int,0 ≤ v→v < (n:Int)→0 ≤ o→o < 4→∃ p' q':List Int,p'.length = k∧q'.length = k∧(∀ t ∈ p',0 ≤ t∧t < (n:Int))∧(∀ t ∈ q',0 ≤ t∧t ≤ 3) ∧
         g15L31306f N F k0 (k:Int) (n:Int) (i:Int) ((j + 1:Nat):Int) x (p ++ [v]) (q ++ [o]) c1 c2 c3 c4 = k0 (k:Int) (n:Int) (i:Int) x p' q' c1 c2 c3 c4:=fun v o h1 h2 h3 h4 =>
       tame_row N k0 k n i hk hn1 hn x c1 c2 c3 c4 F (j + 1) (p ++ [v]) (q ++ [o]) (by omega) (by omega) (by simp [hp]) (by simp [hq])
         (fun t ht=>by
           rcases List.mem_append.1 ht with ht | ht
           · exact hpb t ht
           · obtain rfl:=List.mem_singleton.1 ht;exact ⟨h1,h2⟩)
         (fun t ht=>by
           rcases List.mem_append.1 ht with ht | ht
           · exact hqb t ht
           · obtain rfl:=List.mem_singleton.1 ht;omega)
     have hw:IntKind.wrap .u64 (n:Int) = (n:Int):=wu64n (by omega) (by omega)
     have hz:(((n:Int) = 0) = False):=eq_false (by omega)
     have mp:∀ v:Int,((p.length + [v].length ≤ maxCount) = True):=fun v=>eq_true (by simp [maxCount];omega)
     have mq:∀ v:Int,((q.length + [v].length ≤ maxCount) = True):=fun v=>eq_true (by simp [maxCount];omega)
     have mp0:((p.length + List.length ([0]:List Nat) ≤ maxCount) = True):=eq_true (by simp [maxCount];omega)
     have mq0:((q.length + List.length ([0]:List Nat) ≤ maxCount) = True):=eq_true (by simp [maxCount];omega)
     obtain ⟨v,ev,v1,v2⟩:=low ((x.1.getD i []).getD j 0) (m:=(n:Int)) (by omega) (by omega)
     obtain ⟨o,eo,o1,o2⟩:=low ((x.2.1.getD i []).getD j 0) (m:=4) (by omega) (by omega)
     rw [ltT hlt,cond_true,wn j (by omega),hw]
     by_cases a1:i < x.1.length
     · by_cases a2:j < (x.1.getD i []).length
       · by_cases b1:i < x.2.1.length
         · by_cases b2:j < (x.2.1.getD i []).length
           · simp only [Int.toNat_natCast,ltT a1,ltT a2,ltT b1,ltT b2,eq_true (idxT a1),eq_true (idxT a2),eq_true (idxT b1),eq_true (idxT b2),cond_true,if_true,hz,if_false,ev,eo,mp,mq]
             exact add v o v1 v2 o1 o2
           · simp only [Int.toNat_natCast,ltT a1,ltT a2,ltT b1,ltF b2,eq_true (idxT a1),eq_true (idxT a2),eq_true (idxT b1),cond_true,cond_false,if_true,hz,if_false,ev,mp,mq,mp0,mq0]
             exact add v 0 v1 v2 (by omega) (by omega)
         · simp only [Int.toNat_natCast,ltT a1,ltT a2,ltF b1,eq_true (idxT a1),eq_true (idxT a2),cond_true,cond_false,if_true,hz,if_false,ev,mp,mq,mp0,mq0]
           exact add v 0 v1 v2 (by omega) (by omega)
       · by_cases b1:i < x.2.1.length
         · by_cases b2:j < (x.2.1.getD i []).length
           · simp only [Int.toNat_natCast,ltT a1,ltF a2,ltT b1,ltT b2,eq_true (idxT a1),eq_true (idxT b1),eq_true (idxT b2),cond_true,cond_false,if_true,hz,if_false,eo,mp,mq,mp0,mq0]
             exact add 0 o (by omega) (by omega) o1 o2
           · simp only [Int.toNat_natCast,ltT a1,ltF a2,ltT b1,ltF b2,eq_true (idxT a1),eq_true (idxT b1),cond_true,cond_false,if_true,hz,if_false,mp,mq,mp0,mq0]
             exact add 0 0 (by omega) (by omega) (by omega) (by omega)
         · simp only [Int.toNat_natCast,ltT a1,ltF a2,ltF b1,eq_true (idxT a1),cond_true,cond_false,if_true,hz,if_false,mp,mq,mp0,mq0]
           exact add 0 0 (by omega) (by omega) (by omega) (by omega)
     · by_cases b1:i < x.2.1.length
       · by_cases b2:j < (x.2.1.getD i []).length
         · simp only [Int.toNat_natCast,ltF a1,ltT b1,ltT b2,eq_true (idxT b1),eq_true (idxT b2),cond_true,cond_false,if_true,hz,if_false,eo,mp,mq,mp0,mq0]
           exact add 0 o (by omega) (by omega) o1 o2
         · simp only [Int.toNat_natCast,ltF a1,ltT b1,ltF b2,eq_true (idxT b1),cond_true,cond_false,if_true,hz,if_false,mp,mq,mp0,mq0]
           exact add 0 0 (by omega) (by omega) (by omega) (by omega)
       · simp only [Int.toNat_natCast,ltF a1,ltF b1,cond_true,cond_false,if_true,hz,if_false,mp,mq,mp0,mq0]
         exact add 0 0 (by omega) (by omega) (by omega) (by omega)
   · rw [ltF hlt,cond_false]
     exact ⟨p,q,by omega,by omega,hpb,hqb,rfl⟩
theorem tame_loop (N:Nat) (hN:10 < N) {C:Type} (k0:MM→List (List Int)→List (List Int)→List (List Int)→List (List Int)→Option C) (k n:Nat) (hk:k ≤ 3) (hn1:1 ≤ n) (hn:n ≤ 6) (x:MM) :
   ∀ (F i:Nat) (c1 c2 c3 c4:List (List Int)),n - i < F→i ≤ n→c3.length = i→c4.length = i→(∀ r ∈ c3,r.length = k∧∀ t ∈ r,0 ≤ t∧t < (n:Int))→(∀ r ∈ c4,r.length = k∧∀ t ∈ r,0 ≤ t∧t ≤ 3) →
     ∃ d1 d2 d3 d4:List (List Int),d3.length = n∧d4.length = n∧(∀ r ∈ d3,r.length = k∧∀ t ∈ r,0 ≤ t∧t < (n:Int))∧(∀ r ∈ d4,r.length = k∧∀ t ∈ r,0 ≤ t∧t ≤ 3) ∧
       g15L122f N F k0 (k:Int) (n:Int) (i:Int) x c1 c2 c3 c4 = k0 x d1 d2 d3 d4
 | 0,i,c1,c2,c3,c4,h,_,_,_,_,_=>by omega
 | F + 1,i,c1,c2,c3,c4,h,hi,h3,h4,hb3,hb4=>by
   rw [g15L122f_succ]
   unfold g15L122B
   by_cases hlt:i < n
   · rw [ltT hlt,cond_true,g15L31306_eq]
     obtain ⟨p,q,hp,hq,hpb,hqb,e⟩:=tame_row N (fun e1 e2 e3 e4 e5 e6 e7 e8 e9 e10=>if e9.length + [e5].length ≤ maxCount then if e10.length + [e6].length ≤ maxCount then (g15L122f N F k0 e1 e2 (IntKind.wrap .i64 (e3 + 1)) e4 e7 e8 (e9 ++ [e5]) (e10 ++ [e6])) else none else none) k n i hk hn1 hn x c1 c2 c3 c4 N 0 [] [] (by omega) (by omega) rfl rfl (by simp) (by simp)
     simp only [Int.natCast_zero] at e
     rw [e,if_pos (by simp [maxCount];omega),if_pos (by simp [maxCount];omega),wn i (by omega)]
     exact tame_loop N hN k0 k n hk hn1 hn x F (i + 1) c1 c2 (c3 ++ [p]) (c4 ++ [q]) (by omega) (by omega) (by simp [h3]) (by simp [h4])
       (fun r hr=>by
         rcases List.mem_append.1 hr with hr | hr
         · exact hb3 r hr
         · obtain rfl:=List.mem_singleton.1 hr;exact ⟨hp,hpb⟩)
       (fun r hr=>by
         rcases List.mem_append.1 hr with hr | hr
         · exact hb4 r hr
         · obtain rfl:=List.mem_singleton.1 hr;exact ⟨hq,hqb⟩)
   · rw [ltF hlt,cond_false]
     exact ⟨c1,c2,c3,c4,by omega,by omega,hb3,hb4,rfl⟩
theorem tame_eq (N:Nat) (hN:10 < N) (x:MM) (most:Int) (h1:1 ≤ most) (h6:most ≤ 6) (k:Nat) (hk1:1 ≤ k) (hk:k ≤ 3):∃ y:MM,g15 N x most (k:Int) = some y∧Pm y k∧(y.1.length:Int) ≤ most:=by
 unfold g15
 obtain ⟨n,hn,n1,n6⟩:∃ n:Nat,imax 1 (imin ((x.1.length:Nat):Int) most) = (n:Int)∧1 ≤ n∧(n:Int) ≤ most:=by
   refine ⟨(imax 1 (imin ((x.1.length:Nat):Int) most)).toNat,?_,?_,?_⟩ <;> simp only [imax,imin] <;> split <;> split <;> omega
 rw [hn,g15L122_eq]
 obtain ⟨d1,d2,d3,d4,l3,l4,b3,b4,e⟩:=tame_loop N hN (fun e11 e12 e13 e14 e15=>some (e14,e15,())) k n hk n1 (by omega) x N 0 [] [] [] [] (by omega) (by omega) rfl rfl (by simp) (by simp)
 simp only [Int.natCast_zero] at e
 refine ⟨(d3,d4,()),e,⟨by simp only;omega,by simp only;omega,by simp only;omega,hk1,hk,fun r hr=>⟨(b3 r hr).1,fun t ht=>by have:=(b3 r hr).2 t ht;simp only [l3];exact this⟩,b4⟩,by simp only [l3];exact n6⟩
end Go.Pv
namespace Go.Pv.Bfs
variable {α:Type} [DecidableEq α] (e:α→Nat→Option α) (m:Nat) (first:α)
def run:α→List Nat→Option α
 | x,[]=>some x
 | x,i :: w=>if i < m then (e x i).bind fun y=>run y w else none
theorem run_snoc (w:List Nat) (i:Nat):∀ x:α,run e m x (w ++ [i]) = (run e m x w).bind fun y=>if i < m then e y i else none:=by
 induction w with
 | nil=>intro x;simp only [List.nil_append,run,Option.bind_some];split <;> simp
 | cons j w ih =>
   intro x
   simp only [List.cons_append,run]
   split
   · cases e x j with
     | none=>rfl
     | some y=>simp only [Option.bind_some];exact ih y
   · rfl
def R (j:Nat) (y:α):Prop:=∃ w:List Nat,w.length = j∧run e m first w = some y
variable {e m first}
theorem R_zero (y:α):R e m first 0 y ↔ y = first:=by
 constructor
 · rintro ⟨w,h1,h2⟩
   obtain rfl:=List.eq_nil_of_length_eq_zero h1
   exact (Option.some.inj h2).symm
 · rintro rfl;exact ⟨[],rfl,rfl⟩
theorem R_succ (j:Nat) (y:α):R e m first (j + 1) y ↔ ∃ x,R e m first j x∧∃ i,i < m∧e x i = some y:=by
 constructor
 · rintro ⟨w,h1,h2⟩
   have hne:w ≠ []:=by intro h;rw [h] at h1;simp at h1
   obtain ⟨v,i,rfl⟩:∃ v i,w = v ++ [i]:=⟨w.dropLast,w.getLast hne,(List.dropLast_concat_getLast hne).symm⟩
   rw [run_snoc] at h2
   cases hv:run e m first v with
   | none=>rw [hv] at h2;cases h2
   | some x =>
     rw [hv] at h2
     simp only [Option.bind_some] at h2
     split at h2
     · rename_i hi
       exact ⟨x,⟨v,by simpa using h1,hv⟩,i,hi,h2⟩
     · cases h2
 · rintro ⟨x,⟨v,h1,h2⟩,i,hi,he⟩
   exact ⟨v ++ [i],by simp [h1],by rw [run_snoc,h2];simp [hi,he]⟩
structure BInv (e:α→Nat→Option α) (m:Nat) (H0:α→Option (α×Nat)) (L:List α) (p i:Nat) (H:α→Option (α×Nat)) (more:List α):Prop where
 old:∀ y v,H0 y = some v→H y = some v
 new:∀ y,y ∈ more ↔ (H y).isSome = true∧H0 y = none
 src:∀ y,y ∈ more→∃ x,x ∈ L∧∃ k:Nat,k < m∧e x k = some y∧H y = some (x,k)
 done:∀ q k,(q < p ∨ q = p∧k < i)→∀ x,L[q]? = some x→k < m→∀ y,e x k = some y→(H y).isSome = true
 nodup:more.Nodup
theorem BInv.start (H0:α→Option (α×Nat)) (L:List α):BInv e m H0 L 0 0 H0 [] :=
 ⟨fun _ _ h=>h,fun y=>⟨fun h=>by simp at h,fun ⟨h1,h2⟩=>by rw [h2] at h1;cases h1⟩,fun y h=>by simp at h,fun q k h=>by omega,List.nodup_nil⟩
theorem BInv.skip {H0 H:α→Option (α×Nat)} {L more:List α} {p i:Nat} (h:BInv e m H0 L p i H more) (x:α) (hx:L[p]? = some x) (hs:∀ y,e x i = some y→(H y).isSome = true):BInv e m H0 L p (i + 1) H more:=by
 refine ⟨h.old,h.new,h.src,fun q k hq z hz hk y hy=>?_,h.nodup⟩
 by_cases hqk:q = p∧k = i
 · obtain ⟨rfl,rfl⟩:=hqk
   rw [hx] at hz
   obtain rfl:=Option.some.inj hz
   exact hs y hy
 · exact h.done q k (by omega) z hz hk y hy
theorem BInv.add {H0 H:α→Option (α×Nat)} {L more:List α} {p i:Nat} (h:BInv e m H0 L p i H more) (x:α) (hx:L[p]? = some x) (hi:i < m) (y:α) (hy:e x i = some y) (hn:H y = none) :
   BInv e m H0 L p (i + 1) (fun z=>if z = y then some (x,i) else H z) (more ++ [y]):=by
 have h0:H0 y = none:=by
   cases hq:H0 y with
   | none=>rfl
   | some v=>rw [h.old y v hq] at hn;cases hn
 have hnm:y ∉ more:=fun hm=>by
   have:=((h.new y).1 hm).1
   rw [hn] at this;cases this
 refine ⟨fun z v hz=>?_,fun z=>?_,fun z hz=>?_,fun q k hq w hw hk z hz=>?_,?_⟩
 · have:z ≠ y:=fun hzy=>by rw [hzy,h0] at hz;cases hz
   simp only [if_neg this]
   exact h.old z v hz
 · rw [List.mem_append,List.mem_singleton]
   by_cases hzy:z = y
   · subst hzy
     simp [h0]
   · simp only [hzy,or_false,if_false]
     exact h.new z
 · by_cases hzy:z = y
   · subst hzy
     exact ⟨x,List.mem_of_getElem? hx,i,hi,hy,by simp⟩
   · have hz:z ∈ more:=by simpa [hzy] using hz
     obtain ⟨w,w1,k,w2,w3,w4⟩:=h.src z hz
     exact ⟨w,w1,k,w2,w3,by simp [hzy,w4]⟩
 · by_cases hzy:z = y
   · simp [hzy]
   · simp only [if_neg hzy]
     by_cases hqk:q = p∧k = i
     · obtain ⟨rfl,rfl⟩:=hqk
       rw [hx] at hw
       obtain rfl:=Option.some.inj hw
       rw [hy] at hz
       exact absurd (Option.some.inj hz).symm hzy
     · exact h.done q k (by omega) w hw hk z hz
 · rw [List.nodup_append]
   exact ⟨h.nodup,by simp,fun a ha b hb=>by rw [List.mem_singleton.1 hb];exact fun hab=>hnm (hab ▸ ha)⟩
theorem BInv.next {H0 H:α→Option (α×Nat)} {L more:List α} {p:Nat} (h:BInv e m H0 L p m H more):BInv e m H0 L (p + 1) 0 H more :=
 ⟨h.old,h.new,h.src,fun q k hq x hx hk y hy=>h.done q k (by omega) x hx hk y hy,h.nodup⟩
structure LInv (e:α→Nat→Option α) (m:Nat) (first:α) (j:Nat) (H:α→Option (α×Nat)) (L:List α):Prop where
 known:∀ y,(H y).isSome = true ↔ ∃ d,d ≤ j∧R e m first d y
 level:∀ y,y ∈ L ↔ R e m first j y∧∀ d,d < j→¬ R e m first d y
 par:∀ y,(H y).isSome = true→y ≠ first→∃ x i d,H y = some (x,i)∧i < m∧e x i = some y∧R e m first d x∧∀ d',d' < d + 1→¬ R e m first d' y
theorem LInv.start (H:α→Option (α×Nat)) (hH:∀ y,(H y).isSome = true ↔ y = first):LInv e m first 0 H [first] :=
 ⟨fun y=>by
   rw [hH]
   constructor
   · intro h;exact ⟨0,Nat.le_refl 0,(R_zero y).2 h⟩
   · rintro ⟨d,hd,h⟩;obtain rfl:d = 0:=by omega
     exact (R_zero y).1 h,
  fun y=>by
   rw [List.mem_singleton,R_zero]
   exact ⟨fun h=>⟨h,fun d hd=>by omega⟩,fun h=>h.1⟩,
  fun y h hne=>absurd ((hH y).1 h) hne⟩
theorem LInv.step {j:Nat} {H H':α→Option (α×Nat)} {L more:List α} (h:LInv e m first j H L) (b:BInv e m H L L.length 0 H' more):LInv e m first (j + 1) H' more:=by
 have knownNew:∀ y,(H' y).isSome = true ↔ ∃ d,d ≤ j + 1∧R e m first d y:=by
   intro y
   constructor
   · intro hy
     cases h0:H y with
     | some v =>
       obtain ⟨d,hd,hr⟩:=(h.known y).1 (by rw [h0];rfl)
       exact ⟨d,by omega,hr⟩
     | none =>
       obtain ⟨x,hx,i,hi,he,_⟩:=b.src y ((b.new y).2 ⟨hy,h0⟩)
       exact ⟨j + 1,Nat.le_refl _,(R_succ j y).2 ⟨x,((h.level x).1 hx).1,i,hi,he⟩⟩
   · rintro ⟨d,hd,hr⟩
     by_cases hk:(H y).isSome = true
     · obtain ⟨v,hv⟩:=Option.isSome_iff_exists.1 hk
       rw [b.old y v hv];rfl
     · have hd:d = j + 1:=by
         by_cases hdj:d ≤ j
         · exact absurd ((h.known y).2 ⟨d,hdj,hr⟩) hk
         · omega
       subst hd
       obtain ⟨x,hx,i,hi,he⟩:=(R_succ j y).1 hr
       have hxL:x ∈ L:=(h.level x).2 ⟨hx,fun d hd hrx=>hk ((h.known y).2 ⟨d + 1,by omega,(R_succ d y).2 ⟨x,hrx,i,hi,he⟩⟩)⟩
       obtain ⟨q,hq⟩:=List.mem_iff_getElem?.1 hxL
       have hql:q < L.length:=(List.getElem?_eq_some_iff.1 hq).1
       exact b.done q i (.inl hql) x hq hi y he
 refine ⟨knownNew,fun y=>?_,fun y hy hne=>?_⟩
 · rw [b.new]
   constructor
   · rintro ⟨h1,h2⟩
     have hno:∀ d,d < j + 1→¬ R e m first d y:=fun d hd hr=>by
       have:=(h.known y).2 ⟨d,by omega,hr⟩
       rw [h2] at this;cases this
     obtain ⟨d,hd,hr⟩:=(knownNew y).1 h1
     have:d = j + 1:=by
       by_cases hdj:d < j + 1
       · exact absurd hr (hno d hdj)
       · omega
     exact ⟨this ▸ hr,hno⟩
   · rintro ⟨h1,h2⟩
     refine ⟨(knownNew y).2 ⟨j + 1,Nat.le_refl _,h1⟩,?_⟩
     cases h0:H y with
     | none=>rfl
     | some v =>
       obtain ⟨d,hd,hr⟩:=(h.known y).1 (by rw [h0];rfl)
       exact absurd hr (h2 d (by omega))
 · cases h0:H y with
   | some v =>
     obtain ⟨x,i,d,g1,g2,g3,g4,g5⟩:=h.par y (by rw [h0];rfl) hne
     exact ⟨x,i,d,b.old y _ g1,g2,g3,g4,g5⟩
   | none =>
     obtain ⟨x,hx,i,hi,he,hH⟩:=b.src y ((b.new y).2 ⟨hy,h0⟩)
     exact ⟨x,i,j,hH,hi,he,((h.level x).1 hx).1,fun d hd hr=>by
       have:=(h.known y).2 ⟨d,by omega,hr⟩
       rw [h0] at this;cases this⟩
inductive Back (H:α→Option (α×Nat)) (first:α):α→List Nat→Prop
 | nil:Back H first first []
 | cons {y x:α} {i:Nat} {ws:List Nat}:y ≠ first→H y = some (x,i)→Back H first x ws→Back H first y (i :: ws)
theorem LInv.back {j:Nat} {H:α→Option (α×Nat)} {L:List α} (h:LInv e m first j H L):∀ (d:Nat) (y:α),d ≤ j→R e m first d y→(∀ d',d' < d→¬ R e m first d' y)→∃ ws,Back H first y ws∧ws.length = d∧run e m first ws.reverse = some y
 | 0,y,_,hr,_=>by
   obtain rfl:=(R_zero y).1 hr
   exact ⟨[],.nil,rfl,rfl⟩
 | d + 1,y,hd,hr,hmin=>by
   have hne:y ≠ first:=fun hy=>hmin 0 (by omega) ((R_zero y).2 hy)
   obtain ⟨x,i,d',g1,g2,g3,g4,g5⟩:=h.par y ((h.known y).2 ⟨d + 1,hd,hr⟩) hne
   have hd':d' = d:=by
     have h1:R e m first (d' + 1) y:=(R_succ d' y).2 ⟨x,g4,i,g2,g3⟩
     have h2:¬ d' + 1 < d + 1:=fun hl=>hmin _ hl h1
     have h3:¬ d + 1 < d' + 1:=fun hl=>g5 _ hl hr
     omega
   subst hd'
   obtain ⟨ws,w1,w2,w3⟩:=h.back d' x (by omega) g4 fun c hc hrx=>hmin (c + 1) (by omega) ((R_succ c y).2 ⟨x,hrx,i,g2,g3⟩)
   refine ⟨i :: ws,.cons hne g1 w1,by simp [w2],?_⟩
   rw [List.reverse_cons,run_snoc,w3]
   simp [g2,g3]
theorem LInv.all {j:Nat} {H:α→Option (α×Nat)} (h:LInv e m first j H []):∀ (d:Nat) (y:α),R e m first d y→∃ d',d' < j∧R e m first d' y:=by
 have lt:∀ d y,d ≤ j→R e m first d y→∃ d',d' < j∧R e m first d' y:=by
   intro d y hd hr
   by_cases hdj:d < j
   · exact ⟨d,hdj,hr⟩
   · obtain rfl:d = j:=by omega
     by_cases hex:∃ d',d' < d∧R e m first d' y
     · exact hex
     · have:=(h.level y).2 ⟨hr,fun d' hd' hr'=>hex ⟨d',hd',hr'⟩⟩
       simp at this
 intro d
 induction d with
 | zero=>intro y hr;exact lt 0 y (by omega) hr
 | succ d ih =>
   intro y hr
   obtain ⟨x,hx,i,hi,he⟩:=(R_succ d y).1 hr
   obtain ⟨d',hd',hr'⟩:=ih x hx
   exact lt (d' + 1) y (by omega) ((R_succ d' y).2 ⟨x,hr',i,hi,he⟩)
end Go.Pv.Bfs
namespace Go.Pv
def nx (x:MM) (s i:Int):Int:=(x.1.getD s.toNat []).getD i.toNat 0
def ou (x:MM) (s i:Int):Int:=(x.2.1.getD s.toNat []).getD i.toNat 0
def sayL (x:MM):Int→List Int→List Int×Int
 | s,[]=>([],s)
 | s,i :: w=>(ou x s i :: (sayL x (nx x s i) w).1,(sayL x (nx x s i) w).2)
theorem sayL_len (x:MM):∀ (s:Int) (w:List Int),(sayL x s w).1.length = w.length
 | s,[]=>rfl
 | s,i :: w=>by simp [sayL,sayL_len x _ w]
def InW (k:Nat) (w:List Int):Prop:=∀ i ∈ w,0 ≤ i∧i < (k:Int)
theorem Pm.step {x:MM} {k:Nat} (h:Pm x k) {s i:Int} (s0:0 ≤ s) (s1:s < (x.1.length:Int)) (i0:0 ≤ i) (i1:i < (k:Int)) :
   idx s x.1.length∧idx s x.2.1.length∧idx i (x.1.getD s.toNat []).length∧idx i (x.2.1.getD s.toNat []).length∧(0 ≤ nx x s i∧nx x s i < (x.1.length:Int))∧0 ≤ ou x s i∧ou x s i ≤ 3:=by
 obtain ⟨a1,a2⟩:=h.rowN _ (getD_mem (l:=x.1) (i:=s.toNat) (by omega) [])
 obtain ⟨b1,b2⟩:=h.rowO _ (getD_mem (l:=x.2.1) (i:=s.toNat) (by rw [h.out];omega) [])
 have ho:=h.out
 exact ⟨⟨s0,s1⟩,⟨s0,by rw [ho];exact s1⟩,⟨i0,by rw [a1];exact i1⟩,⟨i0,by rw [b1];exact i1⟩,a2 _ (getD_mem (by omega) 0),b2 _ (getD_mem (by omega) 0)⟩
theorem Pm.says_loop {x:MM} {k:Nat} (h:Pm x k) (N:Nat) {C:Type} (k0:Int→MM→List Int→Option C) (w:List Int) (hw:InW k w) (hl:w.length ≤ 1000) :
   ∀ (F i:Nat) (s:Int) (o:List Int),w.length - i < F→i ≤ w.length→0 ≤ s→s < (x.1.length:Int)→o.length = i →
     g63L58f N F k0 s w (w.length:Int) (i:Int) x o = k0 (sayL x s (w.drop i)).2 x (o ++ (sayL x s (w.drop i)).1)
 | 0,i,s,o,hF,_,_,_,_=>by omega
 | F + 1,i,s,o,hF,hi,s0,s1,ho=>by
   rw [g63L58f_succ]
   unfold g63L58B
   by_cases hlt:i < w.length
   · obtain ⟨i0,i1⟩:=hw _ (getD_mem hlt 0)
     obtain ⟨q1,q2,q3,q4,n,_⟩:=h.step s0 s1 i0 i1
     rw [ltT hlt,cond_true,if_pos (idxT hlt),Int.toNat_natCast,if_pos q2,if_pos q4,if_pos (by simp [maxCount];omega),if_pos q1,if_pos q3,wn i (by omega)]
     show g63L58f N F k0 (nx x s (w.getD i 0)) w (w.length:Int) ((i + 1:Nat):Int) x (o ++ [ou x s (w.getD i 0)]) = _
     rw [h.says_loop N k0 w hw hl F (i + 1) (nx x s (w.getD i 0)) (o ++ [ou x s (w.getD i 0)]) (by omega) (by omega) n.1 n.2 (by simp [ho]),getD_drop w i 0 hlt]
     simp [sayL]
   · rw [ltF hlt,cond_false,List.drop_eq_nil_of_le (by omega)]
     simp [sayL]
theorem Pm.says {x:MM} {k:Nat} (h:Pm x k) (N:Nat) (hN:1000 < N) (w:List Int) (hw:InW k w) (hl:w.length ≤ 1000) (s:Int) (s0:0 ≤ s) (s1:s < (x.1.length:Int)):g63 N x s w = some ((sayL x s w).1,(sayL x s w).2,()):=by
 unfold g63
 rw [g63L58_eq]
 have:=h.says_loop N (fun e1 e2 e3=>some (e3,e1,())) w hw hl N 0 s [] (by omega) (by omega) s0 s1 rfl
 simpa using this
theorem Pm.say_loop {x:MM} {k:Nat} (h:Pm x k) (N:Nat) {C:Type} (k0:Int→MM→List Int→Option C) (w:List Int) (hw:InW k w) (hl:w.length ≤ 1000) :
   ∀ (F i:Nat) (s:Int) (o:List Int),w.length - i < F→i ≤ w.length→0 ≤ s→s < (x.1.length:Int)→o.length = i →
     g28L58f N F k0 s w (i:Int) x o = k0 (sayL x s (w.drop i)).2 x (o ++ (sayL x s (w.drop i)).1)
 | 0,i,s,o,hF,_,_,_,_=>by omega
 | F + 1,i,s,o,hF,hi,s0,s1,ho=>by
   rw [g28L58f_succ]
   unfold g28L58B
   by_cases hlt:i < w.length
   · obtain ⟨i0,i1⟩:=hw _ (getD_mem hlt 0)
     obtain ⟨q1,q2,q3,q4,n,_⟩:=h.step s0 s1 i0 i1
     rw [ltT hlt,cond_true,if_pos q2,if_pos (idxT hlt),Int.toNat_natCast,if_pos q4,if_pos (by simp [maxCount];omega),if_pos q1,if_pos (idxT hlt),if_pos q3,wn i (by omega)]
     show g28L58f N F k0 (nx x s (w.getD i 0)) w ((i + 1:Nat):Int) x (o ++ [ou x s (w.getD i 0)]) = _
     rw [h.say_loop N k0 w hw hl F (i + 1) (nx x s (w.getD i 0)) (o ++ [ou x s (w.getD i 0)]) (by omega) (by omega) n.1 n.2 (by simp [ho]),getD_drop w i 0 hlt]
     simp [sayL]
   · rw [ltF hlt,cond_false,List.drop_eq_nil_of_le (by omega)]
     simp [sayL]
theorem Pm.say {x:MM} {k:Nat} (h:Pm x k) (N:Nat) (hN:1000 < N) (w:List Int) (hw:InW k w) (hl:w.length ≤ 1000) (s:Int) (s0:0 ≤ s) (s1:s < (x.1.length:Int)):g28 N x s w = some ((sayL x s w).1,(sayL x s w).2,()):=by
 unfold g28
 rw [g28L58_eq]
 have:=h.say_loop N (fun e1 e2 e3=>some (e3,e1,())) w hw hl N 0 s [] (by omega) (by omega) s0 s1 rfl
 simpa using this
theorem Pm.word_loop {x:MM} {k:Nat} (h:Pm x k) (N:Nat) {C:Type} (k0:MM→List Int→Option C) (l:List Int) (m:Nat) (hm:m ≤ 1000) :
   ∀ (F i:Nat) (o:List Int),m - i < F→i ≤ m→o.length = i→InW k o→∃ w,InW k w∧w.length ≤ m∧g26L58f N F k0 l (m:Int) (i:Int) x o = k0 x w
 | 0,i,o,hF,_,_,_=>by omega
 | F + 1,i,o,hF,hi,ho,hb=>by
   rw [g26L58f_succ]
   unfold g26L58B
   have:=h.k1;have:=h.k3
   by_cases hl:i < l.length
   · rw [ltT hl,cond_true]
     by_cases hlt:i < m
     · obtain ⟨v,ev,v0,v1⟩:=low (l.getD i 0) (m:=(k:Int)) (by omega) (by omega)
       have hw:IntKind.wrap .u64 (k:Int) = (k:Int):=wu64n (by omega) (by omega)
       rw [ltT hlt,cond_true,if_pos (idxT hl),h.inputs41 N,Int.toNat_natCast]
       simp only [Option.bind_some]
       rw [hw,if_neg (by omega),ev,if_pos (by simp [maxCount];omega),wn i (by omega)]
       exact h.word_loop N k0 l m hm F (i + 1) (o ++ [v]) (by omega) (by omega) (by simp [ho]) fun j hj=>by
         rcases List.mem_append.1 hj with hj | hj
         · exact hb j hj
         · obtain rfl:=List.mem_singleton.1 hj;exact ⟨v0,v1⟩
     · rw [ltF hlt,cond_false]
       exact ⟨o,hb,by omega,rfl⟩
   · rw [ltF hl,cond_false]
     exact ⟨o,hb,by omega,rfl⟩
theorem Pm.word {x:MM} {k:Nat} (h:Pm x k) (N:Nat) (hN:1000 < N) (l:List Int) (m:Nat) (hm:m ≤ 1000):∃ w,InW k w∧w.length ≤ m∧g26 N x l (m:Int) = some w:=by
 unfold g26
 rw [g26L58_eq]
 exact h.word_loop N (fun e2 e3=>some e3) l m hm N 0 [] (by omega) (by omega) rfl (by intro i hi;simp at hi)
theorem open_checks (N:Nat) (hN:20 < N) {C:Type} (k0:List MM→Int→List (List Int)→Int→Option C) (k1:List MM→Int→List (List Int)→Option C) (l:List MM) (s:Int) (ws:List (List Int)) (hl:l.length ≤ 10) (hp:∀ m ∈ l,∃ k,Pm m k) :
   ∀ (F i:Nat),l.length - i < F→i ≤ l.length→g62L26f N F k0 k1 l s ws l (l.length:Int) (i:Int) = k1 l s ws
 | 0,i,hF,_=>by omega
 | F + 1,i,hF,hi=>by
   rw [g62L26f_succ]
   unfold g62L26B
   by_cases hlt:i < l.length
   · obtain ⟨k,hk⟩:=hp _ (getD_mem hlt (([]:List (List Int)),([]:List (List Int)),()))
     rw [ltT hlt,cond_true,if_pos (idxT hlt),Int.toNat_natCast,hk.check N hN]
     simp only [Option.bind_some,ieq_self,Bool.not_true,cond_false]
     rw [wn i (by omega)]
     exact open_checks N hN k0 k1 l s ws hl hp F (i + 1) (by omega) (by omega)
   · rw [ltF hlt,cond_false]
theorem open_checks0 (N:Nat) (hN:20 < N) {C:Type} (k0:List MM→Int→List (List Int)→Int→Option C) (k1:List MM→Int→List (List Int)→Option C) (l:List MM) (s:Int) (ws:List (List Int)) (hl:l.length ≤ 10) (hp:∀ m ∈ l,∃ k,Pm m k):g62L26f N N k0 k1 l s ws l (l.length:Int) 0 = k1 l s ws :=
 open_checks N hN k0 k1 l s ws hl hp N 0 (by omega) (by omega)
theorem open_inputs (N:Nat) {C:Type} (k0:List MM→Int→List (List Int)→Int→Option C) (k1:List MM→Int→List (List Int)→Option C) (l:List MM) (k:Nat) (s:Int) (ws:List (List Int)) (hl:l.length ≤ 10) (h1:1 ≤ l.length) (h0:g85 N (l.getD 0 ([],[],())) = some (k:Int))
   (K:MM→Int) (hK:∀ m ∈ l,g85 N m = some (K m)) :
   ∀ (F i:Nat),l.length - i < F→i ≤ l.length→g62L58f N F k0 k1 l s ws l (l.length:Int) (i:Int) = bif (l.drop i).all (fun m=>ieq (K m) (k:Int)) then k1 l s ws else k0 l s ws 1
 | 0,i,hF,_=>by omega
 | F + 1,i,hF,hi=>by
   rw [g62L58f_succ]
   unfold g62L58B
   by_cases hlt:i < l.length
   · rw [ltT hlt,cond_true,if_pos (idxT hlt),Int.toNat_natCast,hK _ (getD_mem hlt _)]
     simp only [Option.bind_some]
     rw [if_pos ⟨by omega,by omega⟩]
     simp only [show Int.toNat 0 = 0 from rfl]
     rw [h0]
     simp only [Option.bind_some]
     rw [getD_drop l i (([]:List (List Int)),([]:List (List Int)),()) hlt,List.all_cons]
     cases hq:ieq (K (l.getD i (([]:List (List Int)),([]:List (List Int)),()))) (k:Int) with
     | false=>simp
     | true =>
       simp only [Bool.not_true,cond_false,Bool.true_and]
       rw [wn i (by omega)]
       exact open_inputs N k0 k1 l k s ws hl h1 h0 K hK F (i + 1) (by omega) (by omega)
   · rw [ltF hlt,cond_false,List.drop_eq_nil_of_le (by omega)];rfl
theorem open_inputs0 (N:Nat) (hN:20 < N) {C:Type} (k0:List MM→Int→List (List Int)→Int→Option C) (k1:List MM→Int→List (List Int)→Option C) (l:List MM) (k:Nat) (s:Int) (ws:List (List Int)) (hl:l.length ≤ 10) (h1:1 ≤ l.length) (h0:g85 N (l.getD 0 ([],[],())) = some (k:Int))
   (K:MM→Int) (hK:∀ m ∈ l,g85 N m = some (K m)):g62L58f N N k0 k1 l s ws l (l.length:Int) 0 = bif l.all (fun m=>ieq (K m) (k:Int)) then k1 l s ws else k0 l s ws 1:=by
 have:=open_inputs N k0 k1 l k s ws hl h1 h0 K hK N 0 (by omega) (by omega)
 simpa using this
def wordB (k:Nat) (w:List Int):Bool:=decide (w.length ≤ 100) && w.all fun x=>decide (0 ≤ x) && decide (x ≤ (k:Int) - 1)
theorem wordB_iff (k:Nat) (w:List Int):wordB k w = true ↔ w.length ≤ 100∧InW k w:=by
 unfold wordB InW
 rw [Bool.and_eq_true,List.all_eq_true,decide_eq_true_eq]
 refine and_congr Iff.rfl ⟨fun h i hi=>?_,fun h i hi=>?_⟩
 · have:=h i hi;simp at this;omega
 · have:=h i hi;simp;omega
theorem open_words (N:Nat) (hN:1000 < N) {C:Type} (k0:Int→Option C) (k1:Option C) (l:List MM) (k:Nat) (hk:k ≤ 3) (h1:1 ≤ l.length) (h0:g85 N (l.getD 0 ([],[],())) = some (k:Int)) (ws:List (List Int)) (hw:ws.length ≤ 1000) :
   ∀ (F i:Nat),ws.length - i < F→i ≤ ws.length→g62L250f N F k0 k1 l ws (ws.length:Int) (i:Int) = bif (ws.drop i).all (wordB k) then k1 else k0 1
 | 0,i,hF,_=>by omega
 | F + 1,i,hF,hi=>by
   rw [g62L250f_succ]
   unfold g62L250B
   by_cases hlt:i < ws.length
   · rw [ltT hlt,cond_true,if_pos (idxT hlt),Int.toNat_natCast,getD_drop ws i [] hlt,List.all_cons]
     by_cases h100:(ws.getD i []).length ≤ 100
     · have e1:decide ((100:Int) < ((ws.getD i []).length:Int)) = false:=decide_eq_false (by omega)
       rw [e1,cond_false,if_pos ⟨by omega,by omega⟩]
       simp only [show Int.toNat 0 = 0 from rfl]
       rw [h0]
       simp only [Option.bind_some]
       rw [w64 (by omega) (by omega),are_eq N _ _ _ (by omega) (by omega)]
       simp only [Option.bind_some]
       have e2:wordB k (ws.getD i []) = (ws.getD i []).all fun x=>decide (0 ≤ x) && decide (x ≤ (k:Int) - 1):=by
         unfold wordB
         rw [decide_eq_true h100,Bool.true_and]
       rw [e2]
       cases hq:(ws.getD i []).all fun x=>decide (0 ≤ x) && decide (x ≤ (k:Int) - 1) with
       | false=>simp
       | true =>
         simp only [Bool.not_true,cond_false,Bool.true_and]
         rw [wn i (by omega)]
         exact open_words N hN k0 k1 l k hk h1 h0 ws hw F (i + 1) (by omega) (by omega)
     · have e1:decide ((100:Int) < ((ws.getD i []).length:Int)) = true:=decide_eq_true (by omega)
       have e2:wordB k (ws.getD i []) = false:=by
         unfold wordB
         rw [decide_eq_false h100,Bool.false_and]
       rw [e1,cond_true,e2];simp
   · rw [ltF hlt,cond_false,List.drop_eq_nil_of_le (by omega)];rfl
theorem open_words0 (N:Nat) (hN:1000 < N) {C:Type} (k0:Int→Option C) (k1:Option C) (l:List MM) (k:Nat) (hk:k ≤ 3) (h1:1 ≤ l.length) (h0:g85 N (l.getD 0 ([],[],())) = some (k:Int)) (ws:List (List Int)) (hw:ws.length ≤ 1000) :
   g62L250f N N k0 k1 l ws (ws.length:Int) 0 = bif ws.all (wordB k) then k1 else k0 1:=by
 have:=open_words N hN k0 k1 l k hk h1 h0 ws hw N 0 (by omega) (by omega)
 simpa using this
theorem open_eq (N:Nat) (hN:1000 < N) (l:List MM) (k:Nat) (s:Int) (ws:List (List Int)) (hl:l.length ≤ 10) (h1:1 ≤ l.length) (hp:∀ m ∈ l,Pm m k) (s0:0 ≤ s) (s1:s < ((l.getD 0 ([],[],())).1.length:Int)) (hw:ws.length ≤ 1000) :
   g62 N l s ws = some (bif ws.all (wordB k) then 0 else 1):=by
 have hm:=getD_mem (l:=l) (i:=0) (by omega) (([]:List (List Int)),([]:List (List Int)),())
 have h0:=(hp _ hm).inputs N
 have hk:=(hp _ hm).k3
 have hn:=(hp _ hm).n6
 unfold g62
 rw [g62L26_eq,open_checks0 N (by omega) _ _ l s ws hl (fun m h=>⟨k,hp m h⟩)]
 rw [g62L58_eq,open_inputs0 N (by omega) _ _ l k s ws hl h1 h0 (fun _=>(k:Int)) (fun m h=>(hp m h).inputs N)]
 simp only [ieq_self,List.all_eq_true,implies_true,show l.all (fun m=>true) = true from by simp,cond_true]
 rw [if_pos ⟨by omega,by omega⟩]
 have e1:g76 N (l.getD (Int.toNat 0) ([],[],())) = some ((l.getD 0 ([],[],())).1.length:Int):=rfl
 rw [e1]
 simp only [Option.bind_some]
 rw [w64 (by omega) (by omega),are_true N _ _ [s] (by simp;omega) (by simp) (fun t ht=>by obtain rfl:=List.mem_singleton.1 ht;omega)]
 simp only [Option.bind_some,Bool.not_true,cond_false]
 rw [g62L250_eq,open_words0 N hN _ _ l k hk h1 h0 ws hw]
 cases ws.all (wordB k) <;> rfl
theorem open_not (N:Nat) (hN:1000 < N) (x y:MM) (k j:Nat) (hx:Pm x k) (hy:Pm y j) (hkj:k ≠ j) (s:Int) (ws:List (List Int)):g62 N [x,y] s ws = some 1:=by
 unfold g62
 rw [g62L26_eq,open_checks0 N (by omega) _ _ [x,y] s ws (by simp) (fun m h=>by
   simp only [List.mem_cons,List.not_mem_nil,or_false] at h
   rcases h with rfl | rfl
   · exact ⟨k,hx⟩
   · exact ⟨j,hy⟩)]
 rw [g62L58_eq,open_inputs0 N (by omega) _ _ [x,y] k s ws (by simp) (by simp) (hx.inputs N) (fun m=>(((m.1.getD 0 []).length:Nat):Int)) (fun m h=>by
   have hn:1 ≤ m.1.length:=by
     simp only [List.mem_cons,List.not_mem_nil,or_false] at h
     rcases h with rfl | rfl
     · exact hx.n1
     · exact hy.n1
   unfold g85
   rw [if_pos ⟨by omega,by omega⟩]
   rfl)]
 have r1:=(hx.rowN _ (getD_mem (i:=0) hx.n1 [])).1
 have r2:=(hy.rowN _ (getD_mem (i:=0) hy.n1 [])).1
 simp only [List.all_cons,List.all_nil,r1,r2,ieq_self,Bool.true_and,Bool.and_true]
 have e:ieq (j:Int) (k:Int) = false:=by simp only [ieq,decide_eq_false_iff_not];omega
 rw [e]
 rfl
end Go.Pv
namespace Go.Pv
theorem drop_eq_cons {a b:List Int} {i:Nat} (ha:i < a.length) (hb:i < b.length):(a.drop i = b.drop i) ↔ a.getD i 0 = b.getD i 0∧a.drop (i + 1) = b.drop (i + 1):=by
 rw [getD_drop a i 0 ha,getD_drop b i 0 hb,List.cons.injEq]
theorem eq20_loop (N:Nat) {C:Type} (k0:Bool→Option C) (k1:Option C) (a b:List Int) (hab:a.length = b.length) (hc:a.length ≤ 1000) :
   ∀ (F i:Nat),a.length - i < F→i ≤ a.length→g20L58f N F k0 k1 a b (i:Int) = if a.drop i = b.drop i then k1 else k0 false
 | 0,i,h,_=>by omega
 | F + 1,i,h,hi=>by
   rw [g20L58f_succ]
   unfold g20L58B
   by_cases hlt:i < a.length
   · rw [ltT hlt,cond_true,if_pos (idxT hlt),if_pos (idxT (hab ▸ hlt)),Int.toNat_natCast,wn i (by omega)]
     by_cases he:a.getD i 0 = b.getD i 0
     · rw [show ieq (a.getD i 0) (b.getD i 0) = true from decide_eq_true he,Bool.not_true,cond_false]
       refine (eq20_loop N k0 k1 a b hab hc F (i + 1) (by omega) (by omega)).trans ?_
       by_cases h2:a.drop (i + 1) = b.drop (i + 1)
       · rw [if_pos h2,if_pos ((drop_eq_cons hlt (hab ▸ hlt)).2 ⟨he,h2⟩)]
       · rw [if_neg h2,if_neg fun h'=>h2 ((drop_eq_cons hlt (hab ▸ hlt)).1 h').2]
     · rw [show ieq (a.getD i 0) (b.getD i 0) = false from decide_eq_false he,Bool.not_false,cond_true,if_neg]
       intro h'
       exact he ((drop_eq_cons hlt (hab ▸ hlt)).1 h').1
   · rw [ltF hlt,cond_false,if_pos]
     rw [List.drop_eq_nil_of_le (by omega),List.drop_eq_nil_of_le (by omega)]
theorem eq20 (N:Nat) (a b:List Int) (hc:a.length ≤ 1000) (hN:1000 < N):g20 N a b = some (decide (a = b)):=by
 unfold g20
 by_cases h:a.length = b.length
 · rw [show ieq ((a.length:Nat):Int) ((b.length:Nat):Int) = true from decide_eq_true (by omega),Bool.not_true,cond_false,g20L58_eq]
   have:=eq20_loop N (fun e1=>some e1) (some true) a b h hc N 0 (by omega) (by omega)
   simp only [Int.natCast_zero,List.drop_zero] at this
   rw [this]
   by_cases he:a = b <;> simp [he]
 · rw [show ieq ((a.length:Nat):Int) ((b.length:Nat):Int) = false from decide_eq_false (by omega),Bool.not_false,cond_true]
   rw [decide_eq_false (fun he=>h (by rw [he]))]
theorem Pm.word39_loop {x:MM} {k:Nat} (h:Pm x k) (N:Nat) {C:Type} (k0:List Int→Bool→MM→Option C) (k1:List Int→MM→Option C) (w:List Int) (hw:w.length ≤ 1000) :
   ∀ (F i:Nat),w.length - i < F→i ≤ w.length→g39L26f N F k0 k1 w (i:Int) x = bif (w.drop i).all (fun t=>decide (0 ≤ t) && decide (t ≤ (k:Int) - 1)) then k1 w x else k0 w false x
 | 0,i,hF,_=>by omega
 | F + 1,i,hF,hi=>by
   rw [g39L26f_succ]
   unfold g39L26B
   by_cases hlt:i < w.length
   · rw [ltT hlt,cond_true,if_pos (idxT hlt),if_pos (idxT hlt),h.inputs41 N,Int.toNat_natCast,getD_drop w i 0 hlt,List.all_cons,wn i (by omega)]
     simp only [Option.bind_some]
     by_cases h1:w.getD i 0 < 0
     · rw [decide_eq_true h1,cond_true,decide_eq_false (show ¬ 0 ≤ w.getD i 0 by omega)];rfl
     · rw [decide_eq_false h1,cond_false,decide_eq_true (show 0 ≤ w.getD i 0 by omega)]
       by_cases h2:(k:Int) ≤ w.getD i 0
       · rw [decide_eq_true h2,cond_true,decide_eq_false (show ¬ w.getD i 0 ≤ (k:Int) - 1 by omega)];rfl
       · rw [decide_eq_false h2,cond_false,decide_eq_true (show w.getD i 0 ≤ (k:Int) - 1 by omega)]
         exact h.word39_loop N k0 k1 w hw F (i + 1) (by omega) (by omega)
   · rw [ltF hlt,cond_false,List.drop_eq_nil_of_le (by omega)];rfl
theorem Pm.word39 {x:MM} {k:Nat} (h:Pm x k) (N:Nat) (hN:1000 < N) (w:List Int) (hw:w.length ≤ 1000):g39 N x w = some (wordB k w):=by
 unfold g39
 rw [g39L26_eq]
 have:=h.word39_loop N (fun e2 e3 e4=>some e3) (fun e5 e6=>some (decide ((((e5.length:Nat):Int):Int) ≤ 100))) w hw N 0 (by omega) (by omega)
 simp only [Int.natCast_zero,List.drop_zero] at this
 rw [this]
 unfold wordB
 cases w.all fun t=>decide (0 ≤ t) && decide (t ≤ (k:Int) - 1) with
 | false=>simp
 | true =>
   rw [cond_true,Bool.and_true]
   congr 1
   by_cases h1:w.length ≤ 100
   · rw [decide_eq_true h1,decide_eq_true (by omega)]
   · rw [decide_eq_false h1,decide_eq_false (by omega)]
end Go.Pv
namespace Go.Pv
abbrev KT:Ty:=.pair (.int .i64) (.pair (.int .i64) .unit)
theorem beqK (a b:Int×Int×Unit):Ty.beq KT a b = decide (a = b):=by
 obtain ⟨a1,a2,a3⟩:=a
 obtain ⟨b1,b2,b3⟩:=b
 simp only [Ty.beq,ieq,Bool.and_true,Prod.mk.injEq]
 by_cases h1:a1 = b1 <;> by_cases h2:a2 = b2 <;> simp [h1,h2]
theorem sayL_snoc (x:MM) (a:Int):∀ (w:List Int) (s:Int),sayL x s (w ++ [a]) = ((sayL x s w).1 ++ [ou x (sayL x s w).2 a],nx x (sayL x s w).2 a)
 | [],s=>rfl
 | i :: w,s=>by
   show (ou x s i :: (sayL x (nx x s i) (w ++ [a])).1,(sayL x (nx x s i) (w ++ [a])).2) = _
   rw [sayL_snoc x a w (nx x s i)]
   rfl
abbrev GG:=List Int×List Int×Unit
structure Gr (x:MM) (w:List Int) (g:GG):Prop where
 l1:g.1.length = 6
 l2:g.2.1.length = 6
 now:∀ s:Nat,s < x.1.length→g.2.1.getD s 0 = (sayL x (s:Int) w).2
 grp:∀ s t:Nat,s < x.1.length→t < x.1.length→(g.1.getD s 0 = g.1.getD t 0 ↔ (sayL x (s:Int) w).1 = (sayL x (t:Int) w).1)
theorem getD_set (l:List Int) (i j:Nat) (v:Int) (hi:i < l.length):(l.set i v).getD j 0 = if j = i then v else l.getD j 0:=by
 rw [List.getD_eq_getElem?_getD,List.getD_eq_getElem?_getD,List.getElem?_set]
 by_cases h:i = j
 · subst h;simp [hi]
 · rw [if_neg h,if_neg (fun e=>h e.symm)]
end Go.Pv
namespace Go.Pv
open Bfs
theorem find_put {α β:Type} [DecidableEq α] (eq:α→α→Bool) (he:∀ a b,eq a b = decide (a = b)) (k:α) (v:β) (k':α):∀ l:List (α×β),mapFind eq k' (mapPut eq k v l) = if k' = k then some v else mapFind eq k' l
 | []=>by
   simp only [mapPut,mapFind,he,decide_eq_true_eq]
 | q :: r=>by
   simp only [mapPut,he,decide_eq_true_eq]
   by_cases h:k = q.1
   · rw [if_pos h]
     simp only [mapFind,he,decide_eq_true_eq]
     by_cases h2:k' = k
     · rw [if_pos h2,if_pos h2]
     · rw [if_neg h2,if_neg h2,if_neg (by rw [← h];exact h2)]
   · rw [if_neg h]
     simp only [mapFind,he,decide_eq_true_eq]
     by_cases h2:k' = q.1
     · rw [if_pos h2,if_pos h2,if_neg (by rw [h2];exact fun h3=>h h3.symm)]
     · rw [if_neg h2,if_neg h2,find_put eq he k v k' r]
abbrev TT:=(Int×Int×Unit)×Bool×Unit
abbrev tTT:Ty:=.pair (.pair (.int .i64) (.pair (.int .i64) .unit)) (.pair .bool .unit)
theorem beqT (a b:TT):Ty.beq tTT a b = decide (a = b):=by
 obtain ⟨⟨a1,a2,a3⟩,a4,a5⟩:=a
 obtain ⟨⟨b1,b2,b3⟩,b4,b5⟩:=b
 simp only [Ty.beq,ieq,beqB,Bool.and_true,Prod.mk.injEq]
 by_cases h1:a1 = b1 <;> by_cases h2:a2 = b2 <;> cases a4 <;> cases b4 <;> simp [h1,h2]
abbrev How:=List (TT×TT×Int×Unit)
def Hh (how:How) (y:TT):Option (TT×Nat):=(mapFind (Ty.beq tTT) y how).map fun v=>(v.1,v.2.1.toNat)
theorem Hh_put (how:How) (y x:TT) (i:Nat):Hh (mapPut (Ty.beq tTT) y (x,(i:Int),()) how) = fun z=>if z = y then some (x,i) else Hh how z:=by
 funext z
 unfold Hh
 rw [find_put _ beqT]
 by_cases h:z = y
 · rw [if_pos h,if_pos h];rfl
 · rw [if_neg h,if_neg h]
def eP (a b:MM) (x:TT) (i:Nat):Option TT:=if x.2.1 = true then none else some ((nx a x.1.1 i,nx b x.1.2.1 i,()),!ieq (ou a x.1.1 i) (ou b x.1.2.1 i),())
def VP (a b:MM) (x:TT):Prop:=(0 ≤ x.1.1∧x.1.1 < (a.1.length:Int))∧0 ≤ x.1.2.1∧x.1.2.1 < (b.1.length:Int)
theorem VP.step {a b:MM} {k:Nat} (ha:Pm a k) (hb:Pm b k) {x y:TT} (hx:VP a b x) {i:Nat} (hi:i < k) (h:eP a b x i = some y):VP a b y:=by
 unfold eP at h
 split at h
 · cases h
 · obtain rfl:=Option.some.inj h
   obtain ⟨_,_,_,_,n1,_⟩:=ha.step hx.1.1 hx.1.2 (i:=(i:Int)) (by omega) (by omega)
   obtain ⟨_,_,_,_,n2,_⟩:=hb.step hx.2.1 hx.2.2 (i:=(i:Int)) (by omega) (by omega)
   exact ⟨n1,n2⟩
theorem next_eq {a b:MM} {k:Nat} (ha:Pm a k) (hb:Pm b k) (N:Nat) {x:TT} (hx:VP a b x) {i:Nat} (hi:i < k) :
   g99 N x (i:Int) a b = some (((nx a x.1.1 i,nx b x.1.2.1 i,()),!ieq (ou a x.1.1 i) (ou b x.1.2.1 i),()),!x.2.1,()):=by
 unfold g99
 obtain ⟨a1,a2,a3,a4,_⟩:=ha.step hx.1.1 hx.1.2 (i:=(i:Int)) (by omega) (by omega)
 obtain ⟨b1,b2,b3,b4,_⟩:=hb.step hx.2.1 hx.2.2 (i:=(i:Int)) (by omega) (by omega)
 rw [if_pos a1,if_pos a3,if_pos b1,if_pos b3,if_pos a2,if_pos a4,if_pos b2,if_pos b4]
 rfl
theorem cb_eq {a b:MM} {k:Nat} (ha:Pm a k) (hb:Pm b k) (N:Nat) {x:TT} (hx:VP a b x) {i:Nat} (hi:i < k) (how:How) :
   ∃ (y:TT) (ok:Bool) (how':How),g117x N x (i:Int) a b how = some ((y,ok,()),((),(a,b,()),(),how',()),()) ∧
     ((ok = false∧how' = how∧∀ z,eP a b x i = some z→(Hh how z).isSome = true) ∨ (ok = true∧eP a b x i = some y∧Hh how y = none∧how' = mapPut (Ty.beq tTT) y (x,(i:Int),()) how)):=by
 unfold g117x
 rw [next_eq ha hb N hx hi]
 simp only [Option.bind_some]
 cases hap:x.2.1 with
 | true =>
   simp only [Bool.not_true,Bool.not_false,cond_true]
   exact ⟨_,_,_,rfl,.inl ⟨rfl,rfl,fun z hz=>by simp [eP,hap] at hz⟩⟩
 | false =>
   have hz:eP a b x i = some ((nx a x.1.1 i,nx b x.1.2.1 i,()),!ieq (ou a x.1.1 i) (ou b x.1.2.1 i),()):=by simp [eP,hap]
   simp only [Bool.not_true,Bool.not_false,cond_false]
   generalize hy:(((nx a x.1.1 i,nx b x.1.2.1 i,()),!ieq (ou a x.1.1 i) (ou b x.1.2.1 i),()):TT) = y at hz ⊢
   cases hf:mapFind (Ty.beq tTT) y how with
   | none =>
     refine ⟨y,true,mapPut (Ty.beq tTT) y (x,(i:Int),()) how,?_,.inr ⟨rfl,hz,by unfold Hh;rw [hf];rfl,rfl⟩⟩
     rfl
   | some v =>
     refine ⟨y,false,how,?_,.inl ⟨rfl,rfl,fun z h=>by rw [hz] at h;obtain rfl:=Option.some.inj h;unfold Hh;rw [hf];rfl⟩⟩
     rfl
def NN (how:How):Prop:=∀ y v,mapFind (Ty.beq tTT) y how = some v→0 ≤ v.2.1
theorem NN.put {how:How} (h:NN how) (y x:TT) (i:Nat):NN (mapPut (Ty.beq tTT) y (x,(i:Int),()) how):=by
 intro z v hv
 rw [find_put _ beqT] at hv
 split at hv
 · obtain rfl:=Option.some.inj hv
   show (0:Int) ≤ (i:Int)
   omega
 · exact h z v hv
abbrev CB (t:Ty):=CbF t (.pair tTT (.pair .bool .unit))
def Does (a b:MM) (k:Nat) {t:Ty} (run:CB t) (st:How→t.T):Prop :=
 ∀ (how:How) (x:TT) (i:Nat),VP a b x→i < k→∃ (y:TT) (ok:Bool) (how':How),run.f (st how) [.dat tTT x,.dat (.int .i64) (i:Int)] = some (st how',(y,ok,())) ∧
   ((ok = false∧how' = how∧∀ z,eP a b x i = some z→(Hh how z).isSome = true) ∨ (ok = true∧eP a b x i = some y∧Hh how y = none∧how' = mapPut (Ty.beq tTT) y (x,(i:Int),()) how))
theorem inputs_loop {a b:MM} {k:Nat} (ha:Pm a k) (hb:Pm b k) (N:Nat) {t:Ty} {run:CB t} {st:How→t.T} (hd:Does a b k run st) {C:Type} (k0:List TT→Int→Int→List TT→TT→CB t→t.T→TT→Int→Option C)
   (H0:TT→Option (TT×Nat)) (L:List TT) (hL:L.length ≤ 1000) (p:Nat) (x:TT) (hx:L[p]? = some x) (hv:VP a b x) (q1 q2:Int) (f:TT) :
   ∀ (F i:Nat) (how:How) (more:List TT),k - i < F→i ≤ k→BInv (eP a b) k H0 L p i (Hh how) more→NN how→(∀ y ∈ more,VP a b y)→more.length ≤ p * k + i →
     ∃ (how':How) (more':List TT),BInv (eP a b) k H0 L p k (Hh how') more'∧NN how'∧(∀ y ∈ more',VP a b y)∧more'.length ≤ p * k + k ∧
       g134xL416358f N F t k0 L q1 q2 (k:Int) (i:Int) more x run (st how) f (k:Int) = k0 L q1 q2 more' x run (st how') f (k:Int)
 | 0,i,how,more,hF,_,_,_,_,_=>by omega
 | F + 1,i,how,more,hF,hi,hB,hn,hm,hl=>by
   have k3:=ha.k3
   have hp:p < L.length:=(List.getElem?_eq_some_iff.1 hx).1
   have hpk:p * k ≤ 1000 * 3:=Nat.mul_le_mul (by omega) k3
   rw [g134xL416358f_succ]
   unfold g134xL416358B
   by_cases hlt:i < k
   · obtain ⟨y,ok,how',e,hc⟩:=hd how x i hv hlt
     rw [ltT hlt,cond_true,e]
     simp only [Option.bind_some]
     rw [wn i (by omega)]
     rcases hc with ⟨rfl,rfl,hs⟩ | ⟨rfl,hy,hno,rfl⟩
     · rw [cond_false]
       exact inputs_loop ha hb N hd k0 H0 L hL p x hx hv q1 q2 f F (i + 1) how' more (by omega) (by omega) (hB.skip x hx hs) hn hm (by omega)
     · rw [cond_true,if_pos (by simp [maxCount];omega)]
       have hB':=hB.add x hx hlt y hy hno
       rw [← Hh_put] at hB'
       exact inputs_loop ha hb N hd k0 H0 L hL p x hx hv q1 q2 f F (i + 1) _ (more ++ [y]) (by omega) (by omega) hB' (hn.put y x i) (fun z hz=>by
         rcases List.mem_append.1 hz with hz | hz
         · exact hm z hz
         · rw [List.mem_singleton.1 hz];exact hv.step ha hb hlt hy) (by simp;omega)
   · rw [ltF hlt,cond_false]
     have:i = k:=by omega
     subst this
     exact ⟨how,more,hB,hn,hm,hl,rfl⟩
theorem level_loop {a b:MM} {k:Nat} (ha:Pm a k) (hb:Pm b k) (N:Nat) (hN:10 < N) {t:Ty} {run:CB t} {st:How→t.T} (hd:Does a b k run st) {C:Type} (k0:List TT→CB t→t.T→TT→Int→Option C)
   (H0:TT→Option (TT×Nat)) (L:List TT) (hL:L.length ≤ 1000) (hLv:∀ y ∈ L,VP a b y) (f:TT) :
   ∀ (F p:Nat) (how:How) (more:List TT),L.length - p < F→p ≤ L.length→BInv (eP a b) k H0 L p 0 (Hh how) more→NN how→(∀ y ∈ more,VP a b y)→more.length ≤ p * k →
     ∃ (how':How) (more':List TT),BInv (eP a b) k H0 L L.length 0 (Hh how') more'∧NN how'∧(∀ y ∈ more',VP a b y) ∧
       g134xL1626f N F t k0 L (L.length:Int) (p:Int) more run (st how) f (k:Int) = k0 more' run (st how') f (k:Int)
 | 0,p,how,more,hF,_,_,_,_,_=>by omega
 | F + 1,p,how,more,hF,hp,hB,hn,hm,hl=>by
   have k3:=ha.k3
   rw [g134xL1626f_succ]
   unfold g134xL1626B
   by_cases hlt:p < L.length
   · have hx:L[p]? = some (L.getD p ((0,0,()),false,())):=by rw [List.getElem?_eq_getElem hlt];simp [hlt]
     obtain ⟨how',more',b1,b2,b3,b4,e⟩:=inputs_loop ha hb N hd (fun e3 e4 e5 e6 e7 e8 e9 e10 e11=>g134xL1626f N F t k0 e3 e4 (IntKind.wrap .i64 (e5 + 1)) e6 e8 e9 e10 e11) H0 L hL p (L.getD p ((0,0,()),false,())) hx (hLv _ (getD_mem hlt _)) (L.length:Int) (p:Int) f N 0 how more (by omega) (by omega) hB hn hm (by omega)
     rw [ltT hlt,cond_true,if_pos (idxT hlt),Int.toNat_natCast,g134xL416358_eq]
     refine Exists.imp (fun how2=>Exists.imp fun more2 h=>?_) (level_loop ha hb N hN hd k0 H0 L hL hLv f F (p + 1) how' more' (by omega) (by omega) b1.next b2 b3 (by rw [Nat.add_mul,Nat.one_mul];exact b4))
     refine ⟨h.1,h.2.1,h.2.2.1,?_⟩
     refine Eq.trans e ?_
     rw [wn p (by omega)]
     exact h.2.2.2
   · rw [ltF hlt,cond_false]
     have:p = L.length:=by omega
     subst this
     exact ⟨how,more,hB,hn,hm,rfl⟩
end Go.Pv
namespace Go.Pv
open Bfs
theorem nodup_len {α:Type} [DecidableEq α]:∀ {L M:List α},L.Nodup→(∀ d ∈ L,d ∈ M)→L.length ≤ M.length
 | [],_,_,_=>by simp
 | a :: L,M,h,hm=>by
   have h1:=List.nodup_cons.1 h
   have hmem:a ∈ M:=hm a List.mem_cons_self
   have ih:=nodup_len (L:=L) (M:=M.erase a) h1.2 (fun d hd=>by
     have hne:d ≠ a:=fun he=>h1.1 (he ▸ hd)
     exact (List.mem_erase_of_ne hne).2 (hm d (List.mem_cons_of_mem _ hd)))
   have:=List.length_erase_of_mem hmem
   have hpos:0 < M.length:=List.length_pos_of_mem hmem
   simp only [List.length_cons]
   omega
def univ:List TT:=[0,1,2,3,4,5].flatMap fun s=>[0,1,2,3,4,5].flatMap fun t=>[((s,t,()),false,()),((s,t,()),true,())]
theorem univ_len:univ.length = 72:=by decide
theorem six (s:Int) (h0:0 ≤ s) (h6:s < 6):s ∈ [(0:Int),1,2,3,4,5]:=by
 simp only [List.mem_cons,List.not_mem_nil,or_false];omega
theorem VP.univ {a b:MM} {k:Nat} (ha:Pm a k) (hb:Pm b k) {x:TT} (hx:VP a b x):x ∈ Go.Pv.univ:=by
 have h1:=ha.n6
 have h2:=hb.n6
 obtain ⟨⟨s,t,u⟩,o,v⟩:=x
 unfold Go.Pv.univ
 rw [List.mem_flatMap]
 refine ⟨s,six s hx.1.1 (by have:=hx.1.2;simp only at this;omega),?_⟩
 rw [List.mem_flatMap]
 refine ⟨t,six t hx.2.1 (by have:=hx.2.2;simp only at this;omega),?_⟩
 cases o <;> simp
theorem few72 {a b:MM} {k:Nat} (ha:Pm a k) (hb:Pm b k) {L:List TT} (hn:L.Nodup) (hv:∀ y ∈ L,VP a b y):L.length ≤ 72:=by
 have:=nodup_len hn (fun y hy=>(hv y hy).univ ha hb)
 rw [univ_len] at this
 exact this
theorem back_loop (N:Nat) {C:Type} (k0:TT→MM→MM→List Int→Bool→TT→List Int→How→((TT×Unit)→Option Bool)→Option C) (first:TT) (a b:MM) (w0:List Int) (b0:Bool) (how:How) (hn:NN how) (fd:(TT×Unit)→Option Bool) :
   ∀ (ws:List Nat) (y:TT) (F:Nat) (w:List Int),Bfs.Back (Hh how) first y ws→ws.length < F→w.length + ws.length ≤ 1000 →
     g97xL960924f N F k0 first a b w0 b0 y w how fd = k0 first a b w0 b0 first (w ++ ws.map fun i:Nat=>(i:Int)) how fd:=by
 intro ws
 induction ws with
 | nil =>
   intro y F w hb hF hl
   cases hb
   obtain ⟨F,rfl⟩:∃ F',F = F' + 1:=⟨F - 1,by simp at hF;omega⟩
   rw [g97xL960924f_succ]
   unfold g97xL960924B
   show (bif (!Ty.beq tTT first first) then _ else _) = _
   rw [beqT,decide_eq_true rfl]
   simp
 | cons i ws ih =>
   intro y F w hb hF hl
   obtain ⟨F,rfl⟩:∃ F',F = F' + 1:=⟨F - 1,by simp at hF;omega⟩
   cases hb with
   | cons hne hH hB =>
     rename_i x
     rw [g97xL960924f_succ]
     unfold g97xL960924B
     show (bif (!Ty.beq tTT y first) then (if w.length + [(Option.getD (mapFind (Ty.beq tTT) y how) (((0,0,()),false,()),0,())).2.1].length ≤ maxCount then g97xL960924f N F k0 first a b w0 b0 (Option.getD (mapFind (Ty.beq tTT) y how) (((0,0,()),false,()),0,())).1 (w ++ [(Option.getD (mapFind (Ty.beq tTT) y how) (((0,0,()),false,()),0,())).2.1]) how fd else none) else _) = _
     rw [beqT,decide_eq_false hne,Bool.not_false,cond_true]
     unfold Hh at hH
     cases hf:mapFind (Ty.beq tTT) y how with
     | none=>rw [hf] at hH;cases hH
     | some v =>
       rw [hf] at hH
       have hH:=Option.some.inj hH
       have hv:=hn y v hf
       simp only [Prod.mk.injEq] at hH
       obtain ⟨h1,h2⟩:=hH
       simp only [List.length_cons] at hF hl
       simp only [Option.getD_some]
       rw [if_pos (by simp [maxCount];omega),h1,show v.2.1 = ((i:Nat):Int) by omega,ih x F _ hB (by omega) (by simp;omega)]
       simp
def sw (p:List Int) (i:Nat):List Int:=p.mapIdx fun q v=>if q < i ∨ p.length - i ≤ q then p.getD (p.length - 1 - q) 0 else v
theorem sw_len (p:List Int) (i:Nat):(sw p i).length = p.length:=by simp [sw]
theorem sw_get (p:List Int) (i q:Nat) (hq:q < p.length):(sw p i).getD q 0 = if q < i ∨ p.length - i ≤ q then p.getD (p.length - 1 - q) 0 else p.getD q 0:=by
 unfold sw
 rw [List.getD_eq_getElem?_getD,List.getElem?_mapIdx,List.getElem?_eq_getElem hq]
 simp [hq]
theorem ext_getD {l m:List Int} (h:l.length = m.length) (hg:∀ q,q < l.length→l.getD q 0 = m.getD q 0):l = m:=by
 apply List.ext_getElem h
 intro q h1 h2
 have:=hg q h1
 rw [List.getD_eq_getElem?_getD,List.getD_eq_getElem?_getD,List.getElem?_eq_getElem h1,List.getElem?_eq_getElem h2] at this
 exact this
theorem sw_zero (p:List Int):sw p 0 = p:=ext_getD (sw_len p 0) fun q hq=>by
 rw [sw_len] at hq
 rw [sw_get p 0 q hq,if_neg (by omega)]
theorem sw_end (p:List Int) (i:Nat) (h:p.length ≤ 2 * i + 1):sw p i = p.reverse:=by
 refine ext_getD (by rw [sw_len,List.length_reverse]) fun q hq=>?_
 rw [sw_len] at hq
 have hr:p.reverse.getD q 0 = p.getD (p.length - 1 - q) 0:=by
   rw [List.getD_eq_getElem?_getD,List.getD_eq_getElem?_getD,List.getElem?_reverse hq]
 rw [sw_get p i q hq,hr]
 split
 · rfl
 · congr 1;omega
theorem sw_step (p:List Int) (i:Nat) (h:2 * i + 1 < p.length):((sw p i).set i ((sw p i).getD (p.length - 1 - i) 0)).set (p.length - 1 - i) ((sw p i).getD i 0) = sw p (i + 1):=by
 refine ext_getD (by simp [sw_len]) fun q hq=>?_
 simp only [List.length_set,sw_len] at hq
 rw [getD_set _ _ _ _ (by simp [sw_len];omega),getD_set _ _ _ _ (by rw [sw_len];omega),sw_get p (i + 1) q hq,sw_get p i i (by omega),sw_get p i (p.length - 1 - i) (by omega),sw_get p i q hq]
 rw [if_neg (show ¬ (i < i ∨ p.length - i ≤ i) by omega),if_neg (show ¬ (p.length - 1 - i < i ∨ p.length - i ≤ p.length - 1 - i) by omega)]
 by_cases h1:q = p.length - 1 - i
 · rw [if_pos h1,if_pos (by omega)];congr 1;omega
 · rw [if_neg h1]
   by_cases h2:q = i
   · rw [if_pos h2,if_pos (by omega)];congr 1;omega
   · rw [if_neg h2]
     by_cases h3:q < i ∨ p.length - i ≤ q
     · rw [if_pos h3,if_pos (by omega)]
     · rw [if_neg h3,if_neg (by omega)]
theorem rev_loop (N:Nat) {C:Type} (k0:List Int→Option C) (p:List Int) (hp:p.length ≤ 1000) :
   ∀ (F i:Nat),p.length - i < F→2 * i ≤ p.length + 1→g114xL6f N F k0 (i:Int) ((p.length:Int) - 1 - (i:Int)) (sw p i) = k0 p.reverse
 | 0,i,hF,_=>by omega
 | F + 1,i,hF,hi=>by
   rw [g114xL6f_succ]
   unfold g114xL6B
   by_cases hlt:2 * i + 1 < p.length
   · have e1:decide ((i:Int) < (p.length:Int) - 1 - (i:Int)) = true:=decide_eq_true (by omega)
     have ej:Int.toNat ((p.length:Int) - 1 - (i:Int)) = p.length - 1 - i:=by omega
     have hl:=sw_len p i
     rw [e1,cond_true,if_pos ⟨by omega,by omega⟩,if_pos (by omega),if_pos ⟨by omega,by omega⟩,if_pos (by omega),if_pos ⟨by omega,by omega⟩,if_pos (by omega),if_pos ⟨by omega,by rw [List.length_set];omega⟩,if_pos (by rw [List.length_set];omega),ej,Int.toNat_natCast,wn i (by omega),w64 (by omega) (by omega),sw_step p i hlt]
     have:=rev_loop N k0 p hp F (i + 1) (by omega) (by omega)
     rw [show (p.length:Int) - 1 - ((i + 1:Nat):Int) = (p.length:Int) - 1 - (i:Int) - 1 by omega] at this
     exact this
   · have e1:decide ((i:Int) < (p.length:Int) - 1 - (i:Int)) = false:=decide_eq_false (by omega)
     rw [e1,cond_false,sw_end p i (by omega)]
theorem reverse_eq (N:Nat) (hN:1000 < N) (p:List Int) (hp:p.length ≤ 1000):g114x N p = some ((),((),p.reverse,()),()):=by
 unfold g114x
 rw [g114xL6_eq,w64 (by omega) (by omega)]
 have:=rev_loop N (fun e1=>some (((()),((),e1,()),(())):(g114xS).R)) p hp N 0 (by omega) (by omega)
 rw [sw_zero] at this
 simp only [Int.natCast_zero,Int.sub_zero] at this
 exact this
theorem found_loop (N:Nat) (hN:1000 < N) {C:Type} (k0 k1:TT→MM→MM→List Int→Bool→How→((TT×Unit)→Option Bool)→Option C) (fd:(TT×Unit)→Option Bool) (hfd:∀ x,fd (x,()) = some x.2.1) (L:List TT) (hL:L.length ≤ 1000) (first:TT) (a b:MM) (w0:List Int) (b0:Bool) (how:How) (hn:NN how)
   (hback:∀ y ∈ L,y.2.1 = true→∃ ws,Bfs.Back (Hh how) first y ws∧ws.length ≤ 100) :
   ∀ (F i:Nat),L.length - i < F→i ≤ L.length →
     ((∀ y ∈ L.drop i,y.2.1 = false)∧g97xL938f N F k0 k1 fd L (L.length:Int) (i:Int) first a b w0 b0 how fd = k1 first a b w0 b0 how fd) ∨
     ∃ y ∈ L,y.2.1 = true∧∃ ws,Bfs.Back (Hh how) first y ws∧g97xL938f N F k0 k1 fd L (L.length:Int) (i:Int) first a b w0 b0 how fd = k0 first a b (ws.reverse.map fun i:Nat=>(i:Int)) true how fd
 | 0,i,hF,_=>by omega
 | F + 1,i,hF,hi=>by
   rw [g97xL938f_succ]
   unfold g97xL938B
   by_cases hlt:i < L.length
   · rw [ltT hlt,cond_true,if_pos (idxT hlt),Int.toNat_natCast,hfd]
     simp only [Option.bind_some]
     have hm:=getD_mem hlt (((0,0,()),false,()):TT)
     rw [getD_drop L i ((0,0,()),false,()) hlt]
     cases hy:(L.getD i ((0,0,()),false,())).2.1 with
     | false =>
       simp only [Bool.not_false,cond_true]
       rw [wn i (by omega)]
       rcases found_loop N hN k0 k1 fd hfd L hL first a b w0 b0 how hn hback F (i + 1) (by omega) (by omega) with ⟨h1,h2⟩ | h
       · refine .inl ⟨fun y hy'=>?_,h2⟩
         rcases List.mem_cons.1 hy' with rfl | hy'
         · exact hy
         · exact h1 y hy'
       · exact .inr h
     | true =>
       simp only [Bool.not_true,cond_false]
       obtain ⟨ws,hB,hl⟩:=hback _ hm hy
       refine .inr ⟨_,hm,hy,ws,hB,?_⟩
       rw [g97xL960924_eq,back_loop N _ first a b w0 b0 how hn fd ws _ N [] hB (by omega) (by simp;omega)]
       rw [reverse_eq N hN _ (by simp;omega)]
       simp [List.map_reverse]
   · rw [ltF hlt,cond_false,List.drop_eq_nil_of_le (by omega)]
     exact .inl ⟨by simp,rfl⟩
end Go.Pv
namespace Go.Pv
open Bfs
theorem Back_uniq {H:TT→Option (TT×Nat)} {first:TT}:∀ {y:TT} {ws vs:List Nat},Bfs.Back H first y ws→Bfs.Back H first y vs→ws = vs:=by
 intro y ws vs h
 induction h generalizing vs with
 | nil =>
   intro h2
   cases h2 with
   | nil=>rfl
   | cons hne _ _=>exact absurd rfl hne
 | cons hne hH hB ih =>
   intro h2
   cases h2 with
   | nil=>exact absurd rfl hne
   | cons hne2 hH2 hB2 =>
     rw [hH] at hH2
     obtain ⟨rfl,rfl⟩:=Prod.mk.inj (Option.some.inj hH2)
     rw [ih hB2]
def Ends (a b:MM) (k:Nat) (first:TT) (ws:List Nat):Prop:=∃ y,run (eP a b) k first ws = some y∧y.2.1 = true∧∀ d,d < ws.length→∀ z,R (eP a b) k first d z→z.2.1 = false
def Never (a b:MM) (k:Nat) (first:TT):Prop:=∀ d z,R (eP a b) k first d z→z.2.1 = false
theorem levels_loop {a b:MM} {k:Nat} (ha:Pm a k) (hb:Pm b k) (N:Nat) (hN:1000 < N) {t:Ty} {run0:CB t} {st:How→t.T} {stF:List Int→How→t.T} (hd:Does a b k run0 st) (first:TT)
   (hy0:∀ how L,(∀ y ∈ L,y.2.1 = false)→NN how→L.length ≤ 1000→run0.y (st how) [.dat (.lst tTT) L] = some (st how,true))
   (hy1:∀ how L,NN how→L.length ≤ 1000→(∀ y ∈ L,y.2.1 = true→∃ ws,Bfs.Back (Hh how) first y ws∧ws.length ≤ 100)→¬ (∀ y ∈ L,y.2.1 = false)→∃ y ∈ L,y.2.1 = true∧∃ ws,Bfs.Back (Hh how) first y ws∧run0.y (st how) [.dat (.lst tTT) L] = some (stF (ws.reverse.map fun i:Nat=>(i:Int)) how,false))
   {C:Type} (k0 k1:CB t→t.T→TT→Int→Option C) (f:TT) :
   ∀ (F j:Nat) (how:How) (L K:List TT),73 - j < F→LInv (eP a b) k first j (Hh how) L→NN how→L.Nodup→(∀ y ∈ L,VP a b y)→K.Nodup→(∀ y ∈ K,VP a b y∧(Hh how y).isSome = true)→j + L.length ≤ K.length→(∀ d,d < j→∀ z,R (eP a b) k first d z→z.2.1 = false) →
     (∃ ws how',Ends a b k first ws∧g134xL6f N F t k0 k1 L run0 (st how) f (k:Int) = k0 run0 (stF (ws.map fun i:Nat=>(i:Int)) how') f (k:Int)) ∨
     (∃ how',Never a b k first∧g134xL6f N F t k0 k1 L run0 (st how) f (k:Int) = k1 run0 (st how') f (k:Int))
 | 0,j,how,L,K,hF,_,_,_,_,_,_,_,_=>by omega
 | F + 1,j,how,L,K,hF,hI,hn,hLn,hLv,hKn,hKv,hjK,hno=>by
   have hK72:=few72 ha hb hKn (fun y hy=>(hKv y hy).1)
   have hL72:=few72 ha hb hLn hLv
   rw [g134xL6f_succ]
   unfold g134xL6B
   by_cases hl0:L.length = 0
   · have e1:decide ((0:Int) < ((L.length:Nat):Int)) = false:=decide_eq_false (by omega)
     rw [e1,cond_false]
     refine .inr ⟨how,?_,rfl⟩
     obtain rfl:=List.eq_nil_of_length_eq_zero hl0
     intro d z hr
     obtain ⟨d',hd',hr'⟩:=hI.all d z hr
     exact hno d' hd' z hr'
   · have e1:decide ((0:Int) < ((L.length:Nat):Int)) = true:=decide_eq_true (by omega)
     have hj:j ≤ 72:=by omega
     have hback:∀ y ∈ L,y.2.1 = true→∃ ws,Bfs.Back (Hh how) first y ws∧ws.length ≤ 100:=fun y hy _=>by
       obtain ⟨h1,h2⟩:=(hI.level y).1 hy
       obtain ⟨ws,w1,w2,_⟩:=hI.back j y (Nat.le_refl j) h1 h2
       exact ⟨ws,w1,by omega⟩
     rw [e1,cond_true]
     by_cases hall:∀ y ∈ L,y.2.1 = false
     · show (_ ∨ _)
       have ey:run0.y (st how) [.dat (.lst (.pair (.pair (.int .i64) (.pair (.int .i64) .unit)) (.pair .bool .unit))) L] = some (st how,true):=hy0 how L hall hn (by omega)
       rw [ey]
       simp only [Option.bind_some,Bool.not_true,cond_false]
       rw [g134xL1626_eq]
       obtain ⟨how',more,b1,b2,b3,e⟩:=level_loop ha hb N (by omega) hd (fun e12 e13 e14 e15 e16=>g134xL6f N F t k0 k1 e12 e13 e14 e15 e16) (Hh how) L (by omega) hLv f N 0 how [] (by omega) (by omega) (BInv.start (Hh how) L) hn (by simp) (by simp)
       simp only [Int.natCast_zero] at e
       rw [e]
       have hno':∀ d,d < j + 1→∀ z,R (eP a b) k first d z→z.2.1 = false:=fun d hd' z hr=>by
         by_cases hdj:d < j
         · exact hno d hdj z hr
         · obtain rfl:d = j:=by omega
           by_cases hex:∃ d',d' < d∧R (eP a b) k first d' z
           · obtain ⟨d',h1,h2⟩:=hex
             exact hno d' h1 z h2
           · exact hall z ((hI.level z).2 ⟨hr,fun d' h1 h2=>hex ⟨d',h1,h2⟩⟩)
       have hold:∀ y,(Hh how y).isSome = true→(Hh how' y).isSome = true:=fun y hy=>by
         obtain ⟨v,hv⟩:=Option.isSome_iff_exists.1 hy
         rw [b1.old y v hv];rfl
       exact levels_loop ha hb N hN hd first hy0 hy1 k0 k1 f F (j + 1) how' more (K ++ more) (by omega) (hI.step b1) b2 b1.nodup b3
         (by
           rw [List.nodup_append]
           refine ⟨hKn,b1.nodup,fun y hy z hz hyz=>?_⟩
           subst hyz
           have h1:=((b1.new y).1 hz).2
           have h2:=(hKv y hy).2
           rw [h1] at h2;cases h2)
         (fun y hy=>by
           rcases List.mem_append.1 hy with hy | hy
           · exact ⟨(hKv y hy).1,hold y (hKv y hy).2⟩
           · exact ⟨b3 y hy,((b1.new y).1 hy).1⟩)
         (by rw [List.length_append];omega) hno'
     · obtain ⟨y,hy,hyt,ws,hB,e⟩:=hy1 how L hn (by omega) hback hall
       obtain ⟨h1,h2⟩:=(hI.level y).1 hy
       obtain ⟨vs,w1,w2,w3⟩:=hI.back j y (Nat.le_refl j) h1 h2
       obtain rfl:=Back_uniq hB w1
       have e:run0.y (st how) [.dat (.lst (.pair (.pair (.int .i64) (.pair (.int .i64) .unit)) (.pair .bool .unit))) L] = some (stF (ws.reverse.map fun i:Nat=>(i:Int)) how,false):=e
       rw [e]
       refine .inl ⟨ws.reverse,how,⟨y,w3,hyt,fun d hd' z hr=>hno d (by simp at hd';omega) z hr⟩,rfl⟩
abbrev tSt:Ty:=(.pair (.int .i64) (tyO [.box (.d (.pair (.pair (.int .i64) (.pair (.int .i64) .unit)) (.pair .bool .unit))) (.a (.d (.pair (.pair (.int .i64) (.pair (.int .i64) .unit)) (.pair .bool .unit)))),.box .leaf (.fn 99 [.p (.pair (.lst (.lst (.int .i64))) (.pair (.lst (.lst (.int .i64))) .unit)),.p (.pair (.lst (.lst (.int .i64))) (.pair (.lst (.lst (.int .i64))) .unit))]),.box (.d (.lst (.int .i64))) (.a (.d (.lst (.int .i64)))),.box (.d .bool) (.a (.d .bool)),.box .leaf (.a (.mp 15 0)),.map (.pair (.pair (.int .i64) (.pair (.int .i64) .unit)) (.pair .bool .unit)) (.pair (.pair (.pair (.int .i64) (.pair (.int .i64) .unit)) (.pair .bool .unit)) (.pair (.int .i64) .unit)),.gone]))
noncomputable abbrev runA (N:Nat) (fd:(TT×Unit)→Option Bool):CB tSt:=⟨(g97xR58 N).told.run [(.ref 4 0 []),(.eptr (.clo (.pair (.pair (.pair (.int .i64) (.pair (.int .i64) .unit)) (.pair .bool .unit)) .unit) .bool fd)),(.ref 8 0 []),(.ref 9 0 []),(.ref 10 0 []),(.ref 7 0 [])],(g97xR58 N).told.f [(.ref 4 0 []),(.eptr (.clo (.pair (.pair (.pair (.int .i64) (.pair (.int .i64) .unit)) (.pair .bool .unit)) .unit) .bool fd)),(.ref 8 0 []),(.ref 9 0 []),(.ref 10 0 []),(.ref 7 0 [])]⟩
abbrev stA (first:TT) (a b:MM) (how:How):tSt.T:=((0:Int),(first,(a,b,()),([]:List Int),false,(),how,(),()))
abbrev stB (first:TT) (a b:MM) (w:List Int) (how:How):tSt.T:=((1:Int),(first,(a,b,()),w,true,(),how,(),()))
theorem apart_eq {a b:MM} {k:Nat} (ha:Pm a k) (hb:Pm b k) (N:Nat) (hN:1000 < N) (s t:Int) (hs:0 ≤ s∧s < (a.1.length:Int)) (ht:0 ≤ t∧t < (b.1.length:Int)) :
   (∃ ws,Ends a b k ((s,t,()),false,()) ws∧g72 N a b (s,t,()) = some (ws.map fun i:Nat=>(i:Int),true,())) ∨
   (Never a b k ((s,t,()),false,())∧g72 N a b (s,t,()) = some ([],false,())):=by
 obtain ⟨first,hfirst⟩:∃ f:TT,f = ((s,t,()),false,()):=⟨_,rfl⟩
 obtain ⟨fd,hfd⟩:∃ f:(TT×Unit)→Option Bool,f = (fun (x2:TT×Unit)=>Option.bind (g98 N x2.1) fun y3=>some y3):=⟨_,rfl⟩
 have hfd':∀ x,fd (x,()) = some x.2.1:=fun x=>by rw [hfd];rfl
 have hv:VP a b first:=by rw [hfirst];exact ⟨hs,ht⟩
 obtain ⟨how0,hhow0⟩:∃ h:How,h = mapPut (Ty.beq tTT) first (((0,0,()),false,()),0,()) []:=⟨_,rfl⟩
 have hH0:∀ y,(Hh how0 y).isSome = true ↔ y = first:=fun y=>by
   unfold Hh
   rw [hhow0,find_put _ beqT]
   by_cases h:y = first
   · rw [if_pos h];simp [h]
   · rw [if_neg h];simp [mapFind,h]
 have hN0:NN how0:=fun y v hv=>by
   rw [hhow0,find_put _ beqT] at hv
   split at hv
   · obtain rfl:=Option.some.inj hv;exact Int.le_refl 0
   · cases hv
 unfold g72
 rw [ha.inputs N]
 simp only [Option.bind_some]
 rw [← hfirst,← hfd]
 unfold g97x g116x
 simp only [Option.bind_some]
 rw [show mapPut (Ty.beq (.pair (.pair (.int .i64) (.pair (.int .i64) .unit)) (.pair .bool .unit))) first (((0,0,()),false,()),0,()) [] = how0 from hhow0.symm]
 unfold g134x
 rw [g134xL6_eq]
 have hd:Does a b k (runA N fd) (stA first a b):=by
   intro how x i hx hi
   obtain ⟨y,ok,how',e,hc⟩:=cb_eq ha hb N hx hi how
   refine ⟨y,ok,how',?_,hc⟩
   refine (g97xR58_f N fd first a b [] false how 0 x (i:Int)).trans ?_
   rw [if_pos rfl]
   unfold g97xR58F
   rw [e]
   rfl
 have hy0:∀ how L,(∀ y ∈ L,y.2.1 = false)→NN how→L.length ≤ 1000→(runA N fd).y (stA first a b how) [.dat (.lst tTT) L] = some (stA first a b how,true):=by
   intro how L hall hn hl
   refine (g97xR58_run N fd first a b [] false how 0 L).trans ?_
   rw [if_pos rfl]
   unfold g97xR58B
   rw [g97xL938_eq]
   rcases found_loop N hN (fun e13 e14 e15 e16 e17 e18 e19=>some (((1:Int),(e13,(e14,e15,()),e16,e17,(),e18,(),())),false)) (fun e20 e21 e22 e23 e24 e25 e26=>some (((0:Int),(e20,(e21,e22,()),e23,e24,(),e25,(),())),true)) fd hfd' L hl first a b [] false how hn (fun y hy ht=>by rw [hall y hy] at ht;cases ht) N 0 (by omega) (by omega) with ⟨_,e⟩ | ⟨y,hy,ht,_⟩
   · exact e
   · rw [hall y hy] at ht;cases ht
 have hy1:∀ how L,NN how→L.length ≤ 1000→(∀ y ∈ L,y.2.1 = true→∃ ws,Bfs.Back (Hh how) first y ws∧ws.length ≤ 100)→¬ (∀ y ∈ L,y.2.1 = false)→∃ y ∈ L,y.2.1 = true∧∃ ws,Bfs.Back (Hh how) first y ws∧(runA N fd).y (stA first a b how) [.dat (.lst tTT) L] = some (stB first a b (ws.reverse.map fun i:Nat=>(i:Int)) how,false):=by
   intro how L hn hl hback hnall
   rcases found_loop N hN (fun e13 e14 e15 e16 e17 e18 e19=>some (((1:Int),(e13,(e14,e15,()),e16,e17,(),e18,(),())),false)) (fun e20 e21 e22 e23 e24 e25 e26=>some (((0:Int),(e20,(e21,e22,()),e23,e24,(),e25,(),())),true)) fd hfd' L hl first a b [] false how hn hback N 0 (by omega) (by omega) with ⟨h,_⟩ | ⟨y,hy,ht,ws,hB,e⟩
   · exact absurd (by simpa using h) hnall
   · refine ⟨y,hy,ht,ws,hB,?_⟩
     refine (g97xR58_run N fd first a b [] false how 0 L).trans ?_
     rw [if_pos rfl]
     unfold g97xR58B
     rw [g97xL938_eq]
     exact e
 have main:=levels_loop ha hb N hN hd first hy0 hy1 (C:=(g134xS tSt).R) (fun e17 e18 e19 e20=>some ((()),((e17,e18),e19,e20,(),()),(()))) (fun e21 e22 e23 e24=>some ((()),((e21,e22),e23,e24,(),()),(()))) first N 0 how0 [first] [first] (by omega) (LInv.start (Hh how0) hH0) hN0 (by simp) (fun y hy=>by rw [List.mem_singleton.1 hy];exact hv) (by simp) (fun y hy=>by rw [List.mem_singleton.1 hy];exact ⟨hv,(hH0 first).2 rfl⟩) (by simp) (fun d hd=>by omega)
 rcases main with ⟨ws,how',hE,e⟩ | ⟨how',hE,e⟩
 · refine .inl ⟨ws,hE,?_⟩
   refine Eq.trans (congrArg (fun o=>Option.bind (Option.bind o _) _) e) ?_
   rfl
 · refine .inr ⟨hE,?_⟩
   refine Eq.trans (congrArg (fun o=>Option.bind (Option.bind o _) _) e) ?_
   rfl
end Go.Pv
namespace Go.Pv
open Bfs
abbrev wd (ws:List Nat):List Int:=ws.map fun i:Nat=>(i:Int)
def Diff (a b:MM) (s t:Int) (w:List Int):Prop:=(sayL a s w).1 ≠ (sayL b t w).1
theorem run_same (a b:MM) (k:Nat):∀ (ws:List Nat) (s t:Int),(∀ i ∈ ws,i < k)→¬ Diff a b s t (wd ws)→run (eP a b) k ((s,t,()),false,()) ws = some (((sayL a s (wd ws)).2,(sayL b t (wd ws)).2,()),false,())
 | [],s,t,_,_=>rfl
 | i :: ws,s,t,hi,hn=>by
   have hik:=hi i List.mem_cons_self
   have hn:¬ ((sayL a s (wd (i :: ws))).1 ≠ (sayL b t (wd (i :: ws))).1):=hn
   have hcons:(ou a s i :: (sayL a (nx a s i) (wd ws)).1) = (ou b t i :: (sayL b (nx b t i) (wd ws)).1):=Classical.not_not.1 hn
   obtain ⟨h1,h2⟩:=List.cons.inj hcons
   have he:eP a b ((s,t,()),false,()) i = some ((nx a s i,nx b t i,()),false,()):=by
     unfold eP
     simp only [Bool.false_eq_true,if_false]
     rw [show ieq (ou a s (i:Int)) (ou b t (i:Int)) = true from decide_eq_true h1]
     rfl
   show (if i < k then (eP a b ((s,t,()),false,()) i).bind fun y=>run (eP a b) k y ws else none) = _
   rw [if_pos hik,he]
   exact run_same a b k ws (nx a s i) (nx b t i) (fun j hj=>hi j (List.mem_cons_of_mem _ hj)) (fun hd=>hd h2)
theorem run_lt (a b:MM) (k:Nat):∀ (ws:List Nat) (x y:TT),run (eP a b) k x ws = some y→∀ i ∈ ws,i < k
 | [],_,_,_,i,hi=>by simp at hi
 | j :: ws,x,y,h,i,hi=>by
   have h:(if j < k then (eP a b x j).bind fun z=>run (eP a b) k z ws else none) = some y:=h
   split at h
   · rename_i hj
     cases hz:eP a b x j with
     | none=>rw [hz] at h;cases h
     | some z =>
       rw [hz] at h
       rcases List.mem_cons.1 hi with rfl | hi
       · exact hj
       · exact run_lt a b k ws z y h i hi
   · cases h
theorem run_apart (a b:MM) (k:Nat):∀ (ws:List Nat) (s t:Int) (y:TT),run (eP a b) k ((s,t,()),false,()) ws = some y→(y.2.1 = true ↔ Diff a b s t (wd ws))
 | [],s,t,y,h=>by
   obtain rfl:=Option.some.inj h
   exact ⟨fun h=>(by cases h),fun h=>absurd rfl h⟩
 | i :: ws,s,t,y,h=>by
   have h:(if i < k then (eP a b ((s,t,()),false,()) i).bind fun z=>run (eP a b) k z ws else none) = some y:=h
   split at h
   · have hD:Diff a b s t (wd (i :: ws)) ↔ ou a s i ≠ ou b t i ∨ Diff a b (nx a s i) (nx b t i) (wd ws):=by
       show (ou a s i :: (sayL a (nx a s i) (wd ws)).1) ≠ (ou b t i :: (sayL b (nx b t i) (wd ws)).1) ↔ _
       rw [Ne,List.cons.injEq]
       unfold Diff
       by_cases h1:ou a s (i:Int) = ou b t (i:Int) <;> simp [h1]
     rw [hD]
     unfold eP at h
     simp only [Bool.false_eq_true,if_false,Option.bind_some] at h
     by_cases h1:ou a s (i:Int) = ou b t (i:Int)
     · rw [show ieq (ou a s (i:Int)) (ou b t (i:Int)) = true from decide_eq_true h1] at h
       have:=run_apart a b k ws (nx a s i) (nx b t i) y h
       rw [this]
       simp [h1]
     · rw [show ieq (ou a s (i:Int)) (ou b t (i:Int)) = false from decide_eq_false h1] at h
       have:ws = []:=by
         cases ws with
         | nil=>rfl
         | cons j ws =>
           have h:(if j < k then (eP a b ((nx a s i,nx b t i,()),true,()) j).bind fun z=>run (eP a b) k z ws else none) = some y:=h
           split at h
           · simp [eP] at h
           · cases h
       subst this
       obtain rfl:=Option.some.inj h
       exact ⟨fun _=>.inl h1,fun _=>rfl⟩
   · cases h
def Least (a b:MM) (k:Nat) (s t:Int) (ws:List Nat):Prop:=(∀ i ∈ ws,i < k)∧Diff a b s t (wd ws)∧∀ vs:List Nat,(∀ i ∈ vs,i < k)→vs.length < ws.length→¬ Diff a b s t (wd vs)
theorem Ends.least {a b:MM} {k:Nat} {s t:Int} {ws:List Nat} (h:Ends a b k ((s,t,()),false,()) ws):Least a b k s t ws:=by
 obtain ⟨y,h1,h2,h3⟩:=h
 refine ⟨run_lt a b k ws _ _ h1,(run_apart a b k ws s t y h1).1 h2,?_⟩
 intro vs
 -- by the length: a shorter word that says something different has a shortest beginning that does
 induction hn:vs.length using Nat.strongRecOn generalizing vs with
 | ind n ih =>
   intro hv hl hd
   rcases List.eq_nil_or_concat vs with rfl | ⟨us,i,rfl⟩
   · exact hd rfl
   · have hul:us.length < n:=by rw [← hn];simp
     have hus:∀ j ∈ us,j < k:=fun j hj=>hv j (by simp [hj])
     have hnd:¬ Diff a b s t (wd us):=ih us.length hul us rfl hus (by omega)
     have hr:=run_same a b k us s t hus hnd
     have hi:i < k:=hv i (by simp)
     have hrun:∃ z,run (eP a b) k ((s,t,()),false,()) (us ++ [i]) = some z:=by
       rw [run_snoc,hr]
       simp [hi,eP]
     obtain ⟨z,hz⟩:=hrun
     have hzt:=(run_apart a b k (us ++ [i]) s t z hz).2 (by simpa using hd)
     have:=h3 (us ++ [i]).length (by simp at hn ⊢;omega) z ⟨us ++ [i],rfl,hz⟩
     rw [hzt] at this
     cases this
theorem Never.none {a b:MM} {k:Nat} {s t:Int} (h:Never a b k ((s,t,()),false,())):∀ vs:List Nat,(∀ i ∈ vs,i < k)→¬ Diff a b s t (wd vs):=by
 intro vs
 induction hn:vs.length using Nat.strongRecOn generalizing vs with
 | ind n ih =>
   intro hv hd
   rcases List.eq_nil_or_concat vs with rfl | ⟨us,i,rfl⟩
   · exact hd rfl
   · have hul:us.length < n:=by rw [← hn];simp
     have hus:∀ j ∈ us,j < k:=fun j hj=>hv j (by simp [hj])
     have hnd:¬ Diff a b s t (wd us):=ih us.length hul us rfl hus
     have hr:=run_same a b k us s t hus hnd
     have hi:i < k:=hv i (by simp)
     have hrun:∃ z,run (eP a b) k ((s,t,()),false,()) (us ++ [i]) = some z:=by
       rw [run_snoc,hr]
       simp [hi,eP]
     obtain ⟨z,hz⟩:=hrun
     have hzt:=(run_apart a b k (us ++ [i]) s t z hz).2 (by simpa using hd)
     have:=h (us ++ [i]).length z ⟨us ++ [i],rfl,hz⟩
     rw [hzt] at this
     cases this
end Go.Pv
namespace Go.Pv
open Bfs
abbrev PR:=Int×Int×Unit
structure QI (a b:MM) (k:Nat) (s t:Int) (i x:Nat) (l:List PR) (lg:List Int) (kn:List (PR×Bool)):Prop where
 len:lg.length = l.length
 nod:l.Nodup
 val:∀ p ∈ l,(0 ≤ p.1∧p.1 < (a.1.length:Int))∧0 ≤ p.2.1∧p.2.1 < (b.1.length:Int)
 way:∀ q,q < l.length→∃ ws:List Nat,(∀ j ∈ ws,j < k)∧(ws.length:Int) = lg.getD q 0∧¬ Diff a b s t (wd ws)∧l.getD q (0,0,()) = ((sayL a s (wd ws)).2,(sayL b t (wd ws)).2,())
 small:∀ q,q < l.length→lg.getD q 0 ≤ (q:Int)
 mono:∀ q r,q ≤ r→r < l.length→lg.getD q 0 ≤ lg.getD r 0
 top:i < l.length→∀ q,q < l.length→lg.getD q 0 ≤ lg.getD i 0 + 1
 known:∀ p,(Option.getD (mapFind (Ty.beq KT) p kn) false) = decide (p ∈ l)
 beg:∃ q,q < l.length∧l.getD q (0,0,()) = (s,t,())∧lg.getD q 0 = 0
 done:∀ q j,q < l.length→j < k→(q < i ∨ q = i∧j < x)→ou a (l.getD q (0,0,())).1 j = ou b (l.getD q (0,0,())).2.1 j∧∃ r,r < l.length∧l.getD r (0,0,()) = (nx a (l.getD q (0,0,())).1 j,nx b (l.getD q (0,0,())).2.1 j,())∧lg.getD r 0 ≤ lg.getD q 0 + 1
theorem QI.short {a b:MM} {k:Nat} {s t:Int} {i x:Nat} {l:List PR} {lg:List Int} {kn:List (PR×Bool)} (h:QI a b k s t i x l lg kn) (bound:Int) (hb:∀ q,q < l.length→lg.getD q 0 < bound→q < i) :
   ∀ (n:Nat) (ws:List Nat),ws.length = n→(∀ j ∈ ws,j < k)→(n:Int) ≤ bound→¬ Diff a b s t (wd ws)∧∃ q,q < l.length∧l.getD q (0,0,()) = ((sayL a s (wd ws)).2,(sayL b t (wd ws)).2,())∧lg.getD q 0 ≤ (n:Int)
 | 0,ws,hn,_,_=>by
   obtain rfl:=List.eq_nil_of_length_eq_zero hn
   obtain ⟨q,q1,q2,q3⟩:=h.beg
   exact ⟨fun hd=>hd rfl,q,q1,q2,by omega⟩
 | n + 1,ws,hn,hw,hbd=>by
   rcases List.eq_nil_or_concat ws with rfl | ⟨us,j,rfl⟩
   · simp at hn
   · have hul:us.length = n:=by simpa using hn
     obtain ⟨nd,q,q1,q2,q3⟩:=h.short bound hb n us hul (fun j hj=>hw j (by simp [hj])) (by omega)
     have hj:j < k:=hw j (by simp)
     obtain ⟨e1,r,r1,r2,r3⟩:=h.done q j q1 hj (.inl (hb q q1 (by omega)))
     rw [q2] at e1 r2
     have hwd:wd (us.concat j) = wd us ++ [(j:Int)]:=by simp [wd]
     refine ⟨fun hd=>hd ?_,r,r1,?_,by omega⟩
     · rw [hwd,sayL_snoc,sayL_snoc]
       have h1:(sayL a s (wd us)).1 = (sayL b t (wd us)).1:=Classical.not_not.1 nd
       show (sayL a s (wd us)).1 ++ _ = (sayL b t (wd us)).1 ++ _
       rw [h1]
       exact congrArg (fun v=>(sayL b t (wd us)).1 ++ [v]) e1
     · rw [hwd,sayL_snoc,sayL_snoc]
       exact r2
theorem QI.lt {a b:MM} {k:Nat} {s t:Int} {i x:Nat} {l:List PR} {lg:List Int} {kn:List (PR×Bool)} (h:QI a b k s t i x l lg kn) (hi:i < l.length):∀ q,q < l.length→lg.getD q 0 < lg.getD i 0→q < i:=by
 intro q hq hlt
 by_cases hqi:q < i
 · exact hqi
 · have:=h.mono i q (by omega) hq;omega
theorem getD_app {α:Type} (l:List α) (v d:α) (q:Nat):(l ++ [v]).getD q d = if q < l.length then l.getD q d else if q = l.length then v else d:=by
 rw [List.getD_eq_getElem?_getD,List.getD_eq_getElem?_getD,List.getElem?_append]
 split
 · rfl
 · rename_i h
   by_cases h2:q = l.length
   · subst h2;simp
   · rw [if_neg h2,List.getElem?_eq_none (by simp;omega)];rfl
theorem QI.skip {a b:MM} {k:Nat} {s t:Int} {i x:Nat} {l:List PR} {lg:List Int} {kn:List (PR×Bool)} (h:QI a b k s t i x l lg kn) (hi:i < l.length) (ho:ou a (l.getD i (0,0,())).1 x = ou b (l.getD i (0,0,())).2.1 x)
   (hm:((nx a (l.getD i (0,0,())).1 x,nx b (l.getD i (0,0,())).2.1 x,()):PR) ∈ l):QI a b k s t i (x + 1) l lg kn:=by
 refine ⟨h.len,h.nod,h.val,h.way,h.small,h.mono,h.top,h.known,h.beg,fun q j hq hj hqj=>?_⟩
 by_cases hx:q = i∧j = x
 · obtain ⟨rfl,rfl⟩:=hx
   obtain ⟨r,r1,r2⟩:=List.mem_iff_getElem.1 hm
   exact ⟨ho,r,r1,by rw [List.getD_eq_getElem?_getD,List.getElem?_eq_getElem r1];exact r2,h.top hi r r1⟩
 · exact h.done q j hq hj (by omega)
theorem QI.add {a b:MM} {k:Nat} (ha:Pm a k) (hb:Pm b k) {s t:Int} {i x:Nat} {l:List PR} {lg:List Int} {kn:List (PR×Bool)} (h:QI a b k s t i x l lg kn) (hi:i < l.length) (hx:x < k) (ho:ou a (l.getD i (0,0,())).1 x = ou b (l.getD i (0,0,())).2.1 x)
   (p:PR) (hp:p = (nx a (l.getD i (0,0,())).1 x,nx b (l.getD i (0,0,())).2.1 x,())) (hm:p ∉ l):QI a b k s t i (x + 1) (l ++ [p]) (lg ++ [lg.getD i 0 + 1]) (mapPut (Ty.beq KT) p true kn):=by
 have hle:=h.len
 have g1:∀ q,q < l.length→(l ++ [p]).getD q (0,0,()) = l.getD q (0,0,()):=fun q hq=>by rw [getD_app,if_pos hq]
 have g2:(l ++ [p]).getD l.length (0,0,()) = p:=by rw [getD_app,if_neg (by omega),if_pos rfl]
 have g3:∀ q,q < l.length→(lg ++ [lg.getD i 0 + 1]).getD q 0 = lg.getD q 0:=fun q hq=>by rw [getD_app,if_pos (by omega)]
 have g4:(lg ++ [lg.getD i 0 + 1]).getD l.length 0 = lg.getD i 0 + 1:=by rw [getD_app,if_neg (by omega),if_pos (by omega)]
 have hln:(l ++ [p]).length = l.length + 1:=by simp
 obtain ⟨v1,v2⟩:=h.val _ (getD_mem hi (0,0,()))
 obtain ⟨_,_,_,_,an,_⟩:=ha.step v1.1 v1.2 (i:=(x:Int)) (by omega) (by omega)
 obtain ⟨_,_,_,_,bn,_⟩:=hb.step v2.1 v2.2 (i:=(x:Int)) (by omega) (by omega)
 refine ⟨by simp [hle],?_,fun r hr=>?_,fun q hq=>?_,fun q hq=>?_,fun q r hqr hr=>?_,fun _ q hq=>?_,fun r=>?_,?_,fun q j hq hj hqj=>?_⟩
 · rw [List.nodup_append]
   exact ⟨h.nod,by simp,fun u hu v hv huv=>hm (by rw [List.mem_singleton.1 hv] at huv;exact huv ▸ hu)⟩
 · rcases List.mem_append.1 hr with hr | hr
   · exact h.val r hr
   · rw [List.mem_singleton.1 hr,hp];exact ⟨an,bn⟩
 · by_cases hql:q < l.length
   · rw [g1 q hql,g3 q hql];exact h.way q hql
   · obtain rfl:q = l.length:=by omega
     rw [g2,g4]
     obtain ⟨ws,w1,w2,w3,w4⟩:=h.way i hi
     have hwd:wd (ws.concat x) = wd ws ++ [(x:Int)]:=by simp [wd]
     refine ⟨ws.concat x,fun j hj=>?_,by rw [List.length_concat];omega,fun hd=>hd ?_,?_⟩
     · rw [List.concat_eq_append,List.mem_append,List.mem_singleton] at hj
       rcases hj with hj | rfl
       · exact w1 j hj
       · exact hx
     · rw [hwd,sayL_snoc,sayL_snoc]
       have h1:(sayL a s (wd ws)).1 = (sayL b t (wd ws)).1:=Classical.not_not.1 w3
       rw [w4] at ho
       show (sayL a s (wd ws)).1 ++ _ = (sayL b t (wd ws)).1 ++ _
       rw [h1]
       exact congrArg (fun v=>(sayL b t (wd ws)).1 ++ [v]) ho
     · rw [hp,w4,hwd,sayL_snoc,sayL_snoc]
 · by_cases hql:q < l.length
   · rw [g3 q hql];exact h.small q hql
   · obtain rfl:q = l.length:=by omega
     rw [g4]
     have:=h.small i hi
     omega
 · by_cases hrl:r < l.length
   · rw [g3 q (by omega),g3 r hrl];exact h.mono q r hqr hrl
   · obtain rfl:r = l.length:=by omega
     rw [g4]
     by_cases hql:q < l.length
     · rw [g3 q hql];exact h.top hi q hql
     · obtain rfl:q = l.length:=by omega
       rw [g4];exact Int.le_refl _
 · rw [g3 i hi]
   by_cases hql:q < l.length
   · rw [g3 q hql];exact h.top hi q hql
   · obtain rfl:q = l.length:=by omega
     rw [g4];exact Int.le_refl _
 · rw [find_put _ beqK]
   by_cases hrp:r = p
   · rw [if_pos hrp];simp [hrp]
   · rw [if_neg hrp,h.known r]
     exact decide_eq_decide.2 (by simp [hrp])
 · obtain ⟨q,q1,q2,q3⟩:=h.beg
   exact ⟨q,by omega,by rw [g1 q q1];exact q2,by rw [g3 q q1];exact q3⟩
 · by_cases hqx:q = i∧j = x
   · obtain ⟨rfl,rfl⟩:=hqx
     rw [g1 q hi,g3 q hi]
     exact ⟨ho,l.length,by omega,by rw [g2];exact hp,by rw [g4];exact Int.le_refl _⟩
   · have hql:q < l.length:=by omega
     obtain ⟨e1,r,r1,r2,r3⟩:=h.done q j hql hj (by omega)
     rw [g1 q hql,g3 q hql]
     exact ⟨e1,r,by omega,by rw [g1 r r1];exact r2,by rw [g3 r r1];exact r3⟩
def univP:List PR:=[0,1,2,3,4,5].flatMap fun s=>[0,1,2,3,4,5].map fun t=>(s,t,())
theorem few36 {a b:MM} {k:Nat} (ha:Pm a k) (hb:Pm b k) {s t:Int} {i x:Nat} {l:List PR} {lg:List Int} {kn:List (PR×Bool)} (h:QI a b k s t i x l lg kn):l.length ≤ 36:=by
 have h1:=ha.n6
 have h2:=hb.n6
 have:=nodup_len (M:=univP) h.nod (fun p hp=>by
   obtain ⟨v1,v2⟩:=h.val p hp
   obtain ⟨p1,p2,p3⟩:=p
   unfold univP
   rw [List.mem_flatMap]
   refine ⟨p1,six p1 v1.1 (by have:=v1.2;simp only at this;omega),?_⟩
   rw [List.mem_map]
   exact ⟨p2,six p2 v2.1 (by have:=v2.2;simp only at this;omega),rfl⟩)
 have e:univP.length = 36:=by decide
 omega
theorem ref_inner {a b:MM} {k:Nat} (ha:Pm a k) (hb:Pm b k) (N:Nat) {C:Type} (k0:Int→Int→MM→MM→List PR→List Int→List (PR×Bool)→Option C) (k1:Int→MM→MM→List PR→List Int→List (PR×Bool)→Option C) (s t:Int) (i:Nat) :
   ∀ (F x:Nat) (l:List PR) (lg:List Int) (kn:List (PR×Bool)),k - x < F→x ≤ k→i < l.length→l.length ≤ 36→QI a b k s t i x l lg kn →
     (∃ ws,(Least a b k s t ws∧ws.length ≤ 36)∧∃ l' lg' kn',g38L7826f N F k0 k1 (i:Int) (x:Int) a b l lg kn = k0 (ws.length:Int) (i:Int) a b l' lg' kn') ∨
     (∃ l' lg' kn',l'.length ≤ 36∧i < l'.length∧QI a b k s t i k l' lg' kn'∧g38L7826f N F k0 k1 (i:Int) (x:Int) a b l lg kn = k1 (i:Int) a b l' lg' kn')
 | 0,x,l,lg,kn,hF,_,_,_,_=>by omega
 | F + 1,x,l,lg,kn,hF,hx,hi,h36,h=>by
   have k3:=ha.k3
   rw [g38L7826f_succ]
   unfold g38L7826B
   rw [ha.inputs41 N]
   simp only [Option.bind_some]
   by_cases hlt:x < k
   · have hil:i < lg.length:=by rw [h.len];exact hi
     obtain ⟨v1,v2⟩:=h.val _ (getD_mem hi (0,0,()))
     obtain ⟨a1,a2,a3,a4,an,_⟩:=ha.step v1.1 v1.2 (i:=(x:Int)) (by omega) (by omega)
     obtain ⟨b1,b2,b3,b4,bn,_⟩:=hb.step v2.1 v2.2 (i:=(x:Int)) (by omega) (by omega)
     obtain ⟨ws,w1,w2,w3,w4⟩:=h.way i hi
     have hlg:(0:Int) ≤ lg.getD i 0:=by omega
     have hsm:=h.small i hi
     have hq:IntKind.wrap .i64 (lg.getD i 0 + 1) = lg.getD i 0 + 1:=w64 (by omega) (by omega)
     have m1:∀ v:PR,(l.length + [v].length ≤ maxCount) = True:=fun v=>eq_true (by simp [maxCount];omega)
     have hle:=h.len
     have m2:∀ v:Int,(lg.length + [v].length ≤ maxCount) = True:=fun v=>eq_true (by simp [maxCount];omega)
     simp only [ltT hlt,cond_true,eq_true (idxT hi),Int.toNat_natCast,eq_true hi,eq_true a1,eq_true a2,eq_true a3,eq_true a4,eq_true b1,eq_true b2,eq_true b3,eq_true b4,eq_true (idxT hil),eq_true hil,if_true,hq,m1,m2,wn x (by omega)]
     by_cases ho:ou a (l.getD i (0,0,())).1 x = ou b (l.getD i (0,0,())).2.1 x
     · have e1:ieq ((a.2.1.getD (l.getD i (0,0,())).1.toNat []).getD x 0) ((b.2.1.getD (l.getD i (0,0,())).2.1.toNat []).getD x 0) = true:=decide_eq_true ho
       have hkn:=h.known (nx a (l.getD i (0,0,())).1 x,nx b (l.getD i (0,0,())).2.1 x,())
       have hkn':(Option.getD (mapFind (Ty.beq (.pair (.int .i64) (.pair (.int .i64) .unit))) ((a.1.getD (l.getD i (0,0,())).1.toNat []).getD x 0,(b.1.getD (l.getD i (0,0,())).2.1.toNat []).getD x 0,()) kn) false) = decide (((nx a (l.getD i (0,0,())).1 x,nx b (l.getD i (0,0,())).2.1 x,()):PR) ∈ l):=hkn
       simp only [e1,Bool.not_true,cond_false,hkn']
       by_cases hm:((nx a (l.getD i (0,0,())).1 x,nx b (l.getD i (0,0,())).2.1 x,()):PR) ∈ l
       · simp only [decide_eq_true hm,Bool.not_true,cond_false]
         exact ref_inner ha hb N k0 k1 s t i F (x + 1) l lg kn (by omega) (by omega) hi h36 (h.skip hi ho hm)
       · simp only [decide_eq_false hm,Bool.not_false,cond_true]
         have hq2:=h.add ha hb hi hlt ho _ rfl hm
         have h36':(l ++ [((nx a (l.getD i (0,0,())).1 x,nx b (l.getD i (0,0,())).2.1 x,()):PR)]).length ≤ 36:=few36 ha hb hq2
         exact ref_inner ha hb N k0 k1 s t i F (x + 1) _ _ _ (by omega) (by omega) (by simp;omega) h36' hq2
     · have e1:ieq ((a.2.1.getD (l.getD i (0,0,())).1.toNat []).getD x 0) ((b.2.1.getD (l.getD i (0,0,())).2.1.toNat []).getD x 0) = false:=decide_eq_false ho
       simp only [e1,Bool.not_false,cond_true]
       refine .inl ⟨ws.concat x,⟨⟨?_,?_,?_⟩,by rw [List.length_concat];omega⟩,l,lg,kn,?_⟩
       · intro j hj
         rw [List.concat_eq_append,List.mem_append,List.mem_singleton] at hj
         rcases hj with hj | rfl
         · exact w1 j hj
         · exact hlt
       · have hwd:wd (ws.concat x) = wd ws ++ [(x:Int)]:=by simp [wd]
         unfold Diff
         rw [hwd,sayL_snoc,sayL_snoc]
         intro he
         obtain ⟨_,h2⟩:=List.append_inj' he rfl
         rw [w4] at ho
         exact ho (by simpa using h2)
       · intro vs hv hl
         have:=(h.short (lg.getD i 0) (h.lt hi) vs.length vs rfl hv (by simp at hl;omega)).1
         exact this
       · rw [show ((ws.concat x).length:Int) = lg.getD i 0 + 1 by rw [List.length_concat];omega]
   · rw [ltF hlt,cond_false]
     have:x = k:=by omega
     subst this
     exact .inr ⟨l,lg,kn,h36,hi,h,rfl⟩
theorem QI.next {a b:MM} {k:Nat} {s t:Int} {i:Nat} {l:List PR} {lg:List Int} {kn:List (PR×Bool)} (h:QI a b k s t i k l lg kn) (hi:i < l.length):QI a b k s t (i + 1) 0 l lg kn :=
 ⟨h.len,h.nod,h.val,h.way,h.small,h.mono,fun hi2 q hq=>by have h1:=h.top hi q hq;have h2:=h.mono i (i + 1) (by omega) hi2;omega,h.known,h.beg,fun q j hq hj hqj=>h.done q j hq hj (by omega)⟩
theorem ref_outer {a b:MM} {k:Nat} (ha:Pm a k) (hb:Pm b k) (N:Nat) (hN:100 < N) {C:Type} (k0:Int→MM→MM→List PR→List Int→List (PR×Bool)→Option C) (k1:MM→MM→List PR→List Int→List (PR×Bool)→Option C) (s t:Int) :
   ∀ (F i:Nat) (l:List PR) (lg:List Int) (kn:List (PR×Bool)),37 - i < F→i ≤ l.length→l.length ≤ 36→QI a b k s t i 0 l lg kn →
     (∃ ws,(Least a b k s t ws∧ws.length ≤ 36)∧∃ l' lg' kn',g38L122f N F k0 k1 (i:Int) a b l lg kn = k0 (ws.length:Int) a b l' lg' kn') ∨
     ((∀ vs:List Nat,(∀ j ∈ vs,j < k)→¬ Diff a b s t (wd vs))∧∃ l' lg' kn',g38L122f N F k0 k1 (i:Int) a b l lg kn = k1 a b l' lg' kn')
 | 0,i,l,lg,kn,hF,_,_,_=>by omega
 | F + 1,i,l,lg,kn,hF,hi,h36,h=>by
   have k3:=ha.k3
   rw [g38L122f_succ]
   unfold g38L122B
   by_cases hlt:i < l.length
   · rw [ltT hlt,cond_true,g38L7826_eq]
     rcases ref_inner ha hb N (fun e2 e3 e4 e5 e6 e7 e8=>k0 e2 e4 e5 e6 e7 e8) (fun e9 e10 e11 e12 e13 e14=>g38L122f N F k0 k1 (IntKind.wrap .i64 (e9 + 1)) e10 e11 e12 e13 e14) s t i N 0 l lg kn (by omega) (by omega) hlt h36 h with ⟨ws,hw,l',lg',kn',e⟩ | ⟨l',lg',kn',h36',hi',h',e⟩
     · exact .inl ⟨ws,hw,l',lg',kn',e⟩
     · have:=ref_outer ha hb N hN k0 k1 s t F (i + 1) l' lg' kn' (by omega) (by omega) h36' (h'.next hi')
       have e:g38L7826f N N (fun e2 e3 e4 e5 e6 e7 e8=>k0 e2 e4 e5 e6 e7 e8) (fun e9 e10 e11 e12 e13 e14=>g38L122f N F k0 k1 (IntKind.wrap .i64 (e9 + 1)) e10 e11 e12 e13 e14) (i:Int) 0 a b l lg kn = g38L122f N F k0 k1 (IntKind.wrap .i64 ((i:Int) + 1)) a b l' lg' kn':=e
       rw [wn i (by omega)] at e
       rw [e]
       exact this
   · rw [ltF hlt,cond_false]
     exact .inr ⟨fun vs hv=>(h.short vs.length (fun q hq _=>by omega) vs.length vs rfl hv (Int.le_refl _)).1,l,lg,kn,rfl⟩
theorem ref_apart {a b:MM} {k:Nat} (ha:Pm a k) (hb:Pm b k) (N:Nat) (hN:100 < N) (s t:Int) (hs:0 ≤ s∧s < (a.1.length:Int)) (ht:0 ≤ t∧t < (b.1.length:Int)) :
   (∃ ws,(Least a b k s t ws∧ws.length ≤ 36)∧g38 N a s b t = some (ws.length:Int)) ∨ ((∀ vs:List Nat,(∀ j ∈ vs,j < k)→¬ Diff a b s t (wd vs))∧g38 N a s b t = some (-1)):=by
 unfold g38
 rw [g38L122_eq]
 have h0:QI a b k s t 0 0 [(s,t,())] [0] (mapPut (Ty.beq KT) (s,t,()) true []):=by
   refine ⟨rfl,by simp,fun p hp=>?_,fun q hq=>?_,fun q hq=>?_,fun q r hqr hr=>?_,fun _ q hq=>?_,fun p=>?_,⟨0,by simp,rfl,rfl⟩,fun q j hq hj hqj=>?_⟩
   · rw [List.mem_singleton.1 hp];exact ⟨hs,ht⟩
   · obtain rfl:q = 0:=by simpa using hq
     exact ⟨[],by simp,rfl,fun hd=>hd rfl,rfl⟩
   · obtain rfl:q = 0:=by simpa using hq
     exact Int.le_refl 0
   · obtain rfl:r = 0:=by simpa using hr
     obtain rfl:q = 0:=by omega
     exact Int.le_refl 0
   · obtain rfl:q = 0:=by simpa using hq
     show (0:Int) ≤ 0 + 1
     omega
   · rw [find_put _ beqK]
     by_cases h:p = (s,t,())
     · rw [if_pos h];simp [h]
     · rw [if_neg h];simp [h,mapFind]
   · omega
 rcases ref_outer ha hb N hN (fun e15 e16 e17 e18 e19 e20=>some e15) (fun e21 e22 e23 e24 e25=>some (-1)) s t N 0 [(s,t,())] [0] _ (by omega) (by omega) (by simp) h0 with ⟨ws,hw,_,_,_,e⟩ | ⟨hn,_,_,_,e⟩
 · exact .inl ⟨ws,hw,e⟩
 · exact .inr ⟨hn,e⟩
end Go.Pv
namespace Go.Pv
theorem awake_eq:g25v1 2000 = some true:=by kernel_rfl
end Go.Pv
