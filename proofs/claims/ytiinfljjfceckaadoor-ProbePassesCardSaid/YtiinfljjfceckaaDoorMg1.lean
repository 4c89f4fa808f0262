/- Plain texts, merged: QpA, QpB, QpC, QpAw. -/
import Derived.Test.YtiinfljjfceckaaDoorPvL09
import Derived.Test.YtiinfljjfceckaaDoorPvG09
import Derived.KernelRfl
/- Seat 09, plain: lists in ranges, copies, machines as they should be. -/
set_option linter.unusedVariables false
set_option linter.unusedSimpArgs false
namespace Go.Pv
abbrev MM:=List (List Int)×List (List Int)×Unit
theorem w64 {x:Int} (h1:-9223372036854775808 ≤ x) (h2:x < 9223372036854775808):IntKind.wrap .i64 x = x:=by rw [IntKind.wrap_i64];omega
theorem wu64 (x:Int):IntKind.wrap .u64 x = x % 18446744073709551616:=by simp only [IntKind.wrap,IntKind.signed,IntKind.bits];simp
theorem wu64n {x:Int} (h1:0 ≤ x) (h2:x < 18446744073709551616):IntKind.wrap .u64 x = x:=by rw [wu64];omega
theorem wn (i:Nat) (h:i < 1000000):IntKind.wrap .i64 ((i:Int) + 1) = ((i + 1:Nat):Int):=by rw [w64 (by omega) (by omega)];simp
@[simp] theorem ieq_self (x:Int):ieq x x = true:=by simp only [ieq,decide_true]
theorem low (x:Int) {m:Int} (hm:0 < m) (hm2:m < 1000000):∃ r:Int,IntKind.wrap .i64 (Int.tmod (IntKind.wrap .u64 x) m) = r∧0 ≤ r∧r < m:=by
 refine ⟨(x % 18446744073709551616) % m,?_,Int.emod_nonneg _ (by omega),Int.emod_lt_of_pos _ hm⟩
 rw [wu64,Int.tmod_eq_emod_of_nonneg (Int.emod_nonneg _ (by decide))]
 have h1:=Int.emod_nonneg (x % 18446744073709551616) (show m ≠ 0 by omega)
 have h2:=Int.emod_lt_of_pos (x % 18446744073709551616) hm
 exact w64 (by omega) (by omega)
theorem getD_mem {α:Type} {l:List α} {i:Nat} (h:i < l.length) (d:α):l.getD i d ∈ l:=by
 rw [List.getD_eq_getElem?_getD,List.getElem?_eq_getElem h];simp
theorem getD_drop {α:Type} (l:List α) (i:Nat) (d:α) (h:i < l.length):l.drop i = l.getD i d :: l.drop (i + 1):=by
 rw [List.drop_eq_getElem_cons h];simp [h]
theorem take_getD {α:Type} (l:List α) (i:Nat) (d:α) (h:i < l.length):l.take i ++ [l.getD i d] = l.take (i + 1):=by
 rw [List.take_add_one];simp [h]
theorem idxT {i:Nat} {n:Nat} (h:i < n):idx (i:Int) n:=⟨by omega,by omega⟩
theorem ltT {i n:Nat} (h:i < n):decide ((i:Int) < (n:Int)) = true:=by simp;omega
theorem ltF {i n:Nat} (h:¬ i < n):decide ((i:Int) < (n:Int)) = false:=by simp;omega
theorem any_loop (N:Nat) {C:Type} (k0:Int→Option C) (k1:Option C) (l:List Int) (f:(Int×Unit)→Option Bool) (p:Int→Bool) (hf:∀ x,f (x,()) = some (p x)) (hl:l.length < 4611686018427387904) :
   ∀ (F i:Nat),l.length - i < F→i ≤ l.length→((l.drop i).any p = true∧∃ j:Nat,g121L26f N F k0 k1 l f (l.length:Int) (i:Int) = k0 j) ∨ ((l.drop i).any p = false∧g121L26f N F k0 k1 l f (l.length:Int) (i:Int) = k1)
 | 0,i,h,_=>by omega
 | F + 1,i,h,hi=>by
   rw [g121L26f_succ]
   unfold g121L26B
   by_cases hlt:i < l.length
   · rw [ltT hlt,cond_true,if_pos (idxT hlt),Int.toNat_natCast,hf]
     simp only [Option.bind_some]
     rw [getD_drop l i 0 hlt,List.any_cons]
     cases hp:p (l.getD i 0) with
     | true=>exact .inl ⟨by simp,i,rfl⟩
     | false =>
       simp only [cond_false,Bool.false_or]
       have e3:IntKind.wrap .i64 ((i:Int) + 1) = ((i + 1:Nat):Int):=by rw [w64 (by omega) (by omega)];simp
       rw [e3]
       exact any_loop N k0 k1 l f p hf hl F (i + 1) (by omega) (by omega)
   · rw [ltF hlt,cond_false,List.drop_eq_nil_of_le (by omega)]
     exact .inr ⟨rfl,rfl⟩
theorem are_eq (N:Nat) (lo hi:Int) (l:List Int) (hN:l.length < N) (hl:l.length < 4611686018427387904):g82 N lo hi l = some (l.all fun x=>decide (lo ≤ x) && decide (x ≤ hi)):=by
 unfold g82 g106 g121
 rw [g121L26_eq]
 have:=any_loop N (fun e2=>some e2) (some (-1)) l (fun (x1:(Int)×(Unit))=>Option.bind (g107 N x1.1 lo hi) fun y2=>some y2) (fun x=>decide (x < lo) || decide (hi < x))
   (fun x=>by
     simp only [g107]
     cases h:decide (x < lo) <;> simp) hl N 0 (by omega) (by omega)
 simp only [Int.natCast_zero,List.drop_zero] at this
 have hx:(l.all fun x=>decide (lo ≤ x) && decide (x ≤ hi)) = !(l.any fun x=>decide (x < lo) || decide (hi < x)):=by
   rw [List.not_any_eq_all_not]
   congr 1
   funext x
   by_cases h1:x < lo <;> by_cases h2:hi < x <;> simp [h1,h2] <;> omega
 rcases this with ⟨h1,j,h2⟩ | ⟨h1,h2⟩
 · rw [h2,hx,h1]
   simp
 · rw [h2,hx,h1]
   simp
theorem are_true (N:Nat) (lo hi:Int) (l:List Int) (hN:l.length < N) (hl:l.length < 1000000) (h:∀ x ∈ l,lo ≤ x∧x ≤ hi):g82 N lo hi l = some true:=by
 rw [are_eq N lo hi l hN (by omega)]
 congr 1
 rw [List.all_eq_true]
 intro x hx
 have:=h x hx
 simp;exact this
theorem few_eq (N:Nat) (l:List Int) (k:Int) (h0:0 ≤ k) (hk:k ≤ 1000):g42 N l k = some (l.take k.toNat):=by
 unfold g42
 have e:imin (l.length:Int) k = ((min l.length k.toNat:Nat):Int):=by simp only [imin];split <;> omega
 rw [e,if_pos ⟨by omega,by omega,by omega⟩]
 have:List.take (min l.length k.toNat) l = l.take k.toNat:=by
   rcases Nat.le_total l.length k.toNat with h | h
   · rw [Nat.min_eq_left h,List.take_of_length_le h,List.take_length]
   · rw [Nat.min_eq_right h]
 simp [this,maxCount]
 omega
structure Pm (x:MM) (k:Nat):Prop where
 n1:1 ≤ x.1.length
 n6:x.1.length ≤ 6
 out:x.2.1.length = x.1.length
 k1:1 ≤ k
 k3:k ≤ 3
 rowN:∀ r ∈ x.1,r.length = k∧∀ t ∈ r,0 ≤ t∧t < (x.1.length:Int)
 rowO:∀ r ∈ x.2.1,r.length = k∧∀ t ∈ r,0 ≤ t∧t ≤ 3
theorem Pm.inputs {x:MM} {k:Nat} (h:Pm x k) (N:Nat):g85 N x = some (k:Int):=by
 unfold g85
 have:=h.n1
 rw [if_pos ⟨by omega,by omega⟩]
 have:=(h.rowN _ (getD_mem (i:=0) (by omega) [])).1
 simp only [show Int.toNat 0 = 0 from rfl,this]
theorem Pm.inputs41 {x:MM} {k:Nat} (h:Pm x k) (N:Nat):g41 N x = some (k:Int):=h.inputs N
theorem Pm.check_loop {x:MM} {k:Nat} (h:Pm x k) (N:Nat) (hN:20 < N) {C:Type} (k0:Int→MM→Option C) (k1:MM→Option C) :
   ∀ (F i:Nat),x.1.length - i < F→i ≤ x.1.length→g57L122f N F k0 k1 (x.1.length:Int) x.1 (x.1.length:Int) (i:Int) x = k1 x
 | 0,i,hF,_=>by omega
 | F + 1,i,hF,hi=>by
   rw [g57L122f_succ]
   unfold g57L122B
   have:=h.n6;have:=h.k3
   by_cases hlt:i < x.1.length
   · have ho:i < x.2.1.length:=by rw [h.out];exact hlt
     obtain ⟨r1,r2⟩:=h.rowN _ (getD_mem hlt [])
     obtain ⟨o1,o2⟩:=h.rowO _ (getD_mem ho [])
     have e1:g82 N 0 (IntKind.wrap .i64 ((x.1.length:Int) - 1)) (x.1.getD i []) = some true:=by
       rw [w64 (by omega) (by omega)]
       exact are_true N _ _ _ (by omega) (by omega) fun t ht=>by have:=r2 t ht;omega
     have e2:g82 N 0 3 (x.2.1.getD i []) = some true:=are_true N _ _ _ (by omega) (by omega) o2
     rw [ltT hlt,cond_true,if_pos (idxT hlt),h.inputs N]
     simp only [Option.bind_some,Int.toNat_natCast,r1,ieq_self,Bool.not_true,cond_false]
     rw [if_pos (idxT ho),o1,ieq_self,Bool.not_true,cond_false,e1]
     simp only [Option.bind_some,Bool.not_true,cond_false]
     rw [if_pos (idxT ho),e2]
     simp only [Option.bind_some,Bool.not_true,cond_false]
     rw [wn i (by omega)]
     exact h.check_loop N hN k0 k1 F (i + 1) (by omega) (by omega)
   · rw [ltF hlt,cond_false]
theorem Pm.check {x:MM} {k:Nat} (h:Pm x k) (N:Nat) (hN:20 < N):g57 N x = some 0:=by
 have:=h.n1;have:=h.n6;have:=h.k1;have:=h.k3
 unfold g57
 rw [are_true N 1 6 [((x.1.length:Nat):Int)] (by simp;omega) (by simp) (by simp;omega)]
 simp only [Option.bind_some,Bool.not_true,cond_false,h.out,ieq_self]
 rw [if_pos ⟨by omega,by omega⟩]
 have r1:=(h.rowN _ (getD_mem (i:=0) (by omega) [])).1
 simp only [show Int.toNat 0 = 0 from rfl,r1]
 rw [are_true N 1 3 [(k:Int)] (by simp;omega) (by simp) (by simp;omega)]
 simp only [Option.bind_some,Bool.not_true,cond_false]
 rw [g57L122_eq]
 exact h.check_loop N hN _ _ N 0 (by omega) (by omega)
theorem rows_loop (N:Nat) {C:Type} (k0:List (List Int)→Option C) (l:List (List Int)) (hl:l.length ≤ 6) (hr:∀ r ∈ l,r.length ≤ 4) :
   ∀ (F i:Nat),l.length - i < F→i ≤ l.length→g59L58f N F k0 l (i:Int) (l.take i) = k0 l
 | 0,i,h,_=>by omega
 | F + 1,i,h,hi=>by
   rw [g59L58f_succ]
   unfold g59L58B
   by_cases hlt:i < l.length
   · have e2:decide ((i:Int) ≤ 6) = true:=by simp;omega
     rw [ltT hlt,cond_true,e2,cond_true,if_pos (idxT hlt),Int.toNat_natCast,few_eq N _ 4 (by omega) (by omega)]
     simp only [Option.bind_some,show Int.toNat 4 = 4 from rfl,List.take_of_length_le (hr _ (getD_mem hlt []))]
     rw [if_pos (by simp [maxCount];omega),take_getD l i [] hlt,wn i (by omega)]
     exact rows_loop N k0 l hl hr F (i + 1) (by omega) (by omega)
   · rw [ltF hlt,cond_false,List.take_of_length_le (by omega)]
theorem rows_eq (N:Nat) (hN:10 < N) (l:List (List Int)) (hl:l.length ≤ 6) (hr:∀ r ∈ l,r.length ≤ 4):g59 N l = some l:=by
 unfold g59
 rw [g59L58_eq]
 exact rows_loop N _ l hl hr N 0 (by omega) (by omega)
theorem Pm.given {x:MM} {k:Nat} (h:Pm x k) (N:Nat) (hN:10 < N):g18 N x = some x:=by
 have:=h.n6;have:=h.k3;have:=h.out
 unfold g18
 rw [rows_eq N hN x.1 (by omega) fun r hr=>by have:=(h.rowN r hr).1;omega,rows_eq N hN x.2.1 (by omega) fun r hr=>by have:=(h.rowO r hr).1;omega]
 rfl
theorem Pm.own {x:MM} {k:Nat} (h:Pm x k) (N:Nat) (hN:10 < N):g23 N x = some x:=h.given N hN
theorem tame_row (N:Nat) {C:Type} (k0:Int→Int→Int→MM→List Int→List Int→List (List Int)→List (List Int)→List (List Int)→List (List Int)→Option C) (k n i:Nat) (hk:k ≤ 3) (hn1:1 ≤ n) (hn:n ≤ 6) (x:MM) (c1 c2 c3 c4:List (List Int)) :
   ∀ (F j:Nat) (p q:List Int),k - j < F→j ≤ k→p.length = j→q.length = j→(∀ t ∈ p,0 ≤ t∧t < (n:Int))→(∀ t ∈ q,0 ≤ t∧t ≤ 3) →
     ∃ p' q':List Int,p'.length = k∧q'.length = k∧(∀ t ∈ p',0 ≤ t∧t < (n:Int))∧(∀ t ∈ q',0 ≤ t∧t ≤ 3) ∧
       g15L31306f N F k0 (k:Int) (n:Int) (i:Int) (j:Int) x p q c1 c2 c3 c4 = k0 (k:Int) (n:Int) (i:Int) x p' q' c1 c2 c3 c4
 | 0,j,p,q,h,_,_,_,_,_=>by omega
 | F + 1,j,p,q,h,hj,hp,hq,hpb,hqb=>by
   rw [g15L31306f_succ]
   unfold g15L31306B
   by_cases hlt:j < k
   · have add:∀ v o:Int,0 ≤ v→v < (n:Int)→0 ≤ o→o < 4→∃ p' q':List Int,p'.length = k∧q'.length = k∧(∀ t ∈ p',0 ≤ t∧t < (n:Int))∧(∀ t ∈ q',0 ≤ t∧t ≤ 3) ∧
         g15L31306f N F k0 (k:Int) (n:Int) (i:Int) ((j + 1:Nat):Int) x (p ++ [v]) (q ++ [o]) c1 c2 c3 c4 = k0 (k:Int) (n:Int) (i:Int) x p' q' c1 c2 c3 c4:=fun v o h1 h2 h3 h4 =>
       tame_row N k0 k n i hk hn1 hn x c1 c2 c3 c4 F (j + 1) (p ++ [v]) (q ++ [o]) (by omega) (by omega) (by simp [hp]) (by simp [hq])
         (fun t ht=>by
           rcases List.mem_append.1 ht with ht | ht
           · exact hpb t ht
           · obtain rfl:=List.mem_singleton.1 ht;exact ⟨h1,h2⟩)
         (fun t ht=>by
           rcases List.mem_append.1 ht with ht | ht
           · exact hqb t ht
           · obtain rfl:=List.mem_singleton.1 ht;omega)
     have hw:IntKind.wrap .u64 (n:Int) = (n:Int):=wu64n (by omega) (by omega)
     have hz:(((n:Int) = 0) = False):=eq_false (by omega)
     have mp:∀ v:Int,((p.length + [v].length ≤ maxCount) = True):=fun v=>eq_true (by simp [maxCount];omega)
     have mq:∀ v:Int,((q.length + [v].length ≤ maxCount) = True):=fun v=>eq_true (by simp [maxCount];omega)
     have mp0:((p.length + List.length ([0]:List Nat) ≤ maxCount) = True):=eq_true (by simp [maxCount];omega)
     have mq0:((q.length + List.length ([0]:List Nat) ≤ maxCount) = True):=eq_true (by simp [maxCount];omega)
     obtain ⟨v,ev,v1,v2⟩:=low ((x.1.getD i []).getD j 0) (m:=(n:Int)) (by omega) (by omega)
     obtain ⟨o,eo,o1,o2⟩:=low ((x.2.1.getD i []).getD j 0) (m:=4) (by omega) (by omega)
     rw [ltT hlt,cond_true,wn j (by omega),hw]
     by_cases a1:i < x.1.length
     · by_cases a2:j < (x.1.getD i []).length
       · by_cases b1:i < x.2.1.length
         · by_cases b2:j < (x.2.1.getD i []).length
           · simp only [Int.toNat_natCast,ltT a1,ltT a2,ltT b1,ltT b2,eq_true (idxT a1),eq_true (idxT a2),eq_true (idxT b1),eq_true (idxT b2),cond_true,if_true,hz,if_false,ev,eo,mp,mq]
             exact add v o v1 v2 o1 o2
           · simp only [Int.toNat_natCast,ltT a1,ltT a2,ltT b1,ltF b2,eq_true (idxT a1),eq_true (idxT a2),eq_true (idxT b1),cond_true,cond_false,if_true,hz,if_false,ev,mp,mq,mp0,mq0]
             exact add v 0 v1 v2 (by omega) (by omega)
         · simp only [Int.toNat_natCast,ltT a1,ltT a2,ltF b1,eq_true (idxT a1),eq_true (idxT a2),cond_true,cond_false,if_true,hz,if_false,ev,mp,mq,mp0,mq0]
           exact add v 0 v1 v2 (by omega) (by omega)
       · by_cases b1:i < x.2.1.length
         · by_cases b2:j < (x.2.1.getD i []).length
           · simp only [Int.toNat_natCast,ltT a1,ltF a2,ltT b1,ltT b2,eq_true (idxT a1),eq_true (idxT b1),eq_true (idxT b2),cond_true,cond_false,if_true,hz,if_false,eo,mp,mq,mp0,mq0]
             exact add 0 o (by omega) (by omega) o1 o2
           · simp only [Int.toNat_natCast,ltT a1,ltF a2,ltT b1,ltF b2,eq_true (idxT a1),eq_true (idxT b1),cond_true,cond_false,if_true,hz,if_false,mp,mq,mp0,mq0]
             exact add 0 0 (by omega) (by omega) (by omega) (by omega)
         · simp only [Int.toNat_natCast,ltT a1,ltF a2,ltF b1,eq_true (idxT a1),cond_true,cond_false,if_true,hz,if_false,mp,mq,mp0,mq0]
           exact add 0 0 (by omega) (by omega) (by omega) (by omega)
     · by_cases b1:i < x.2.1.length
       · by_cases b2:j < (x.2.1.getD i []).length
         · simp only [Int.toNat_natCast,ltF a1,ltT b1,ltT b2,eq_true (idxT b1),eq_true (idxT b2),cond_true,cond_false,if_true,hz,if_false,eo,mp,mq,mp0,mq0]
           exact add 0 o (by omega) (by omega) o1 o2
         · simp only [Int.toNat_natCast,ltF a1,ltT b1,ltF b2,eq_true (idxT b1),cond_true,cond_false,if_true,hz,if_false,mp,mq,mp0,mq0]
           exact add 0 0 (by omega) (by omega) (by omega) (by omega)
       · simp only [Int.toNat_natCast,ltF a1,ltF b1,cond_true,cond_false,if_true,hz,if_false,mp,mq,mp0,mq0]
         exact add 0 0 (by omega) (by omega) (by omega) (by omega)
   · rw [ltF hlt,cond_false]
     exact ⟨p,q,by omega,by omega,hpb,hqb,rfl⟩
theorem tame_loop (N:Nat) (hN:10 < N) {C:Type} (k0:MM→List (List Int)→List (List Int)→List (List Int)→List (List Int)→Option C) (k n:Nat) (hk:k ≤ 3) (hn1:1 ≤ n) (hn:n ≤ 6) (x:MM) :
   ∀ (F i:Nat) (c1 c2 c3 c4:List (List Int)),n - i < F→i ≤ n→c3.length = i→c4.length = i→(∀ r ∈ c3,r.length = k∧∀ t ∈ r,0 ≤ t∧t < (n:Int))→(∀ r ∈ c4,r.length = k∧∀ t ∈ r,0 ≤ t∧t ≤ 3) →
     ∃ d1 d2 d3 d4:List (List Int),d3.length = n∧d4.length = n∧(∀ r ∈ d3,r.length = k∧∀ t ∈ r,0 ≤ t∧t < (n:Int))∧(∀ r ∈ d4,r.length = k∧∀ t ∈ r,0 ≤ t∧t ≤ 3) ∧
       g15L122f N F k0 (k:Int) (n:Int) (i:Int) x c1 c2 c3 c4 = k0 x d1 d2 d3 d4
 | 0,i,c1,c2,c3,c4,h,_,_,_,_,_=>by omega
 | F + 1,i,c1,c2,c3,c4,h,hi,h3,h4,hb3,hb4=>by
   rw [g15L122f_succ]
   unfold g15L122B
   by_cases hlt:i < n
   · rw [ltT hlt,cond_true,g15L31306_eq]
     obtain ⟨p,q,hp,hq,hpb,hqb,e⟩:=tame_row N (fun e1 e2 e3 e4 e5 e6 e7 e8 e9 e10=>if e9.length + [e5].length ≤ maxCount then if e10.length + [e6].length ≤ maxCount then (g15L122f N F k0 e1 e2 (IntKind.wrap .i64 (e3 + 1)) e4 e7 e8 (e9 ++ [e5]) (e10 ++ [e6])) else none else none) k n i hk hn1 hn x c1 c2 c3 c4 N 0 [] [] (by omega) (by omega) rfl rfl (by simp) (by simp)
     simp only [Int.natCast_zero] at e
     rw [e,if_pos (by simp [maxCount];omega),if_pos (by simp [maxCount];omega),wn i (by omega)]
     exact tame_loop N hN k0 k n hk hn1 hn x F (i + 1) c1 c2 (c3 ++ [p]) (c4 ++ [q]) (by omega) (by omega) (by simp [h3]) (by simp [h4])
       (fun r hr=>by
         rcases List.mem_append.1 hr with hr | hr
         · exact hb3 r hr
         · obtain rfl:=List.mem_singleton.1 hr;exact ⟨hp,hpb⟩)
       (fun r hr=>by
         rcases List.mem_append.1 hr with hr | hr
         · exact hb4 r hr
         · obtain rfl:=List.mem_singleton.1 hr;exact ⟨hq,hqb⟩)
   · rw [ltF hlt,cond_false]
     exact ⟨c1,c2,c3,c4,by omega,by omega,hb3,hb4,rfl⟩
theorem tame_eq (N:Nat) (hN:10 < N) (x:MM) (most:Int) (h1:1 ≤ most) (h6:most ≤ 6) (k:Nat) (hk1:1 ≤ k) (hk:k ≤ 3):∃ y:MM,g15 N x most (k:Int) = some y∧Pm y k∧(y.1.length:Int) ≤ most:=by
 unfold g15
 obtain ⟨n,hn,n1,n6⟩:∃ n:Nat,imax 1 (imin ((x.1.length:Nat):Int) most) = (n:Int)∧1 ≤ n∧(n:Int) ≤ most:=by
   refine ⟨(imax 1 (imin ((x.1.length:Nat):Int) most)).toNat,?_,?_,?_⟩ <;> simp only [imax,imin] <;> split <;> split <;> omega
 rw [hn,g15L122_eq]
 obtain ⟨d1,d2,d3,d4,l3,l4,b3,b4,e⟩:=tame_loop N hN (fun e11 e12 e13 e14 e15=>some (e14,e15,())) k n hk n1 (by omega) x N 0 [] [] [] [] (by omega) (by omega) rfl rfl (by simp) (by simp)
 simp only [Int.natCast_zero] at e
 refine ⟨(d3,d4,()),e,⟨by simp only;omega,by simp only;omega,by simp only;omega,hk1,hk,fun r hr=>⟨(b3 r hr).1,fun t ht=>by have:=(b3 r hr).2 t ht;simp only [l3];exact this⟩,b4⟩,by simp only [l3];exact n6⟩
end Go.Pv
namespace Go.Pv
def nx (x:MM) (s i:Int):Int:=(x.1.getD s.toNat []).getD i.toNat 0
def ou (x:MM) (s i:Int):Int:=(x.2.1.getD s.toNat []).getD i.toNat 0
def sayL (x:MM):Int→List Int→List Int×Int
 | s,[]=>([],s)
 | s,i :: w=>(ou x s i :: (sayL x (nx x s i) w).1,(sayL x (nx x s i) w).2)
theorem sayL_len (x:MM):∀ (s:Int) (w:List Int),(sayL x s w).1.length = w.length
 | s,[]=>rfl
 | s,i :: w=>by simp [sayL,sayL_len x _ w]
def InW (k:Nat) (w:List Int):Prop:=∀ i ∈ w,0 ≤ i∧i < (k:Int)
theorem Pm.step {x:MM} {k:Nat} (h:Pm x k) {s i:Int} (s0:0 ≤ s) (s1:s < (x.1.length:Int)) (i0:0 ≤ i) (i1:i < (k:Int)) :
   idx s x.1.length∧idx s x.2.1.length∧idx i (x.1.getD s.toNat []).length∧idx i (x.2.1.getD s.toNat []).length∧(0 ≤ nx x s i∧nx x s i < (x.1.length:Int))∧0 ≤ ou x s i∧ou x s i ≤ 3:=by
 obtain ⟨a1,a2⟩:=h.rowN _ (getD_mem (l:=x.1) (i:=s.toNat) (by omega) [])
 obtain ⟨b1,b2⟩:=h.rowO _ (getD_mem (l:=x.2.1) (i:=s.toNat) (by rw [h.out];omega) [])
 have ho:=h.out
 exact ⟨⟨s0,s1⟩,⟨s0,by rw [ho];exact s1⟩,⟨i0,by rw [a1];exact i1⟩,⟨i0,by rw [b1];exact i1⟩,a2 _ (getD_mem (by omega) 0),b2 _ (getD_mem (by omega) 0)⟩
theorem Pm.says_loop {x:MM} {k:Nat} (h:Pm x k) (N:Nat) {C:Type} (k0:Int→MM→List Int→Option C) (w:List Int) (hw:InW k w) (hl:w.length ≤ 1000) :
   ∀ (F i:Nat) (s:Int) (o:List Int),w.length - i < F→i ≤ w.length→0 ≤ s→s < (x.1.length:Int)→o.length = i →
     g63L58f N F k0 s w (w.length:Int) (i:Int) x o = k0 (sayL x s (w.drop i)).2 x (o ++ (sayL x s (w.drop i)).1)
 | 0,i,s,o,hF,_,_,_,_=>by omega
 | F + 1,i,s,o,hF,hi,s0,s1,ho=>by
   rw [g63L58f_succ]
   unfold g63L58B
   by_cases hlt:i < w.length
   · obtain ⟨i0,i1⟩:=hw _ (getD_mem hlt 0)
     obtain ⟨q1,q2,q3,q4,n,_⟩:=h.step s0 s1 i0 i1
     rw [ltT hlt,cond_true,if_pos (idxT hlt),Int.toNat_natCast,if_pos q2,if_pos q4,if_pos (by simp [maxCount];omega),if_pos q1,if_pos q3,wn i (by omega)]
     show g63L58f N F k0 (nx x s (w.getD i 0)) w (w.length:Int) ((i + 1:Nat):Int) x (o ++ [ou x s (w.getD i 0)]) = _
     rw [h.says_loop N k0 w hw hl F (i + 1) (nx x s (w.getD i 0)) (o ++ [ou x s (w.getD i 0)]) (by omega) (by omega) n.1 n.2 (by simp [ho]),getD_drop w i 0 hlt]
     simp [sayL]
   · rw [ltF hlt,cond_false,List.drop_eq_nil_of_le (by omega)]
     simp [sayL]
theorem Pm.says {x:MM} {k:Nat} (h:Pm x k) (N:Nat) (hN:1000 < N) (w:List Int) (hw:InW k w) (hl:w.length ≤ 1000) (s:Int) (s0:0 ≤ s) (s1:s < (x.1.length:Int)):g63 N x s w = some ((sayL x s w).1,(sayL x s w).2,()):=by
 unfold g63
 rw [g63L58_eq]
 have:=h.says_loop N (fun e1 e2 e3=>some (e3,e1,())) w hw hl N 0 s [] (by omega) (by omega) s0 s1 rfl
 simpa using this
theorem Pm.say_loop {x:MM} {k:Nat} (h:Pm x k) (N:Nat) {C:Type} (k0:Int→MM→List Int→Option C) (w:List Int) (hw:InW k w) (hl:w.length ≤ 1000) :
   ∀ (F i:Nat) (s:Int) (o:List Int),w.length - i < F→i ≤ w.length→0 ≤ s→s < (x.1.length:Int)→o.length = i →
     g28L58f N F k0 s w (i:Int) x o = k0 (sayL x s (w.drop i)).2 x (o ++ (sayL x s (w.drop i)).1)
 | 0,i,s,o,hF,_,_,_,_=>by omega
 | F + 1,i,s,o,hF,hi,s0,s1,ho=>by
   rw [g28L58f_succ]
   unfold g28L58B
   by_cases hlt:i < w.length
   · obtain ⟨i0,i1⟩:=hw _ (getD_mem hlt 0)
     obtain ⟨q1,q2,q3,q4,n,_⟩:=h.step s0 s1 i0 i1
     rw [ltT hlt,cond_true,if_pos q2,if_pos (idxT hlt),Int.toNat_natCast,if_pos q4,if_pos (by simp [maxCount];omega),if_pos q1,if_pos (idxT hlt),if_pos q3,wn i (by omega)]
     show g28L58f N F k0 (nx x s (w.getD i 0)) w ((i + 1:Nat):Int) x (o ++ [ou x s (w.getD i 0)]) = _
     rw [h.say_loop N k0 w hw hl F (i + 1) (nx x s (w.getD i 0)) (o ++ [ou x s (w.getD i 0)]) (by omega) (by omega) n.1 n.2 (by simp [ho]),getD_drop w i 0 hlt]
     simp [sayL]
   · rw [ltF hlt,cond_false,List.drop_eq_nil_of_le (by omega)]
     simp [sayL]
theorem Pm.say {x:MM} {k:Nat} (h:Pm x k) (N:Nat) (hN:1000 < N) (w:List Int) (hw:InW k w) (hl:w.length ≤ 1000) (s:Int) (s0:0 ≤ s) (s1:s < (x.1.length:Int)):g28 N x s w = some ((sayL x s w).1,(sayL x s w).2,()):=by
 unfold g28
 rw [g28L58_eq]
 have:=h.say_loop N (fun e1 e2 e3=>some (e3,e1,())) w hw hl N 0 s [] (by omega) (by omega) s0 s1 rfl
 simpa using this
theorem Pm.word_loop {x:MM} {k:Nat} (h:Pm x k) (N:Nat) {C:Type} (k0:MM→List Int→Option C) (l:List Int) (m:Nat) (hm:m ≤ 1000) :
   ∀ (F i:Nat) (o:List Int),m - i < F→i ≤ m→o.length = i→InW k o→∃ w,InW k w∧w.length ≤ m∧g26L58f N F k0 l (m:Int) (i:Int) x o = k0 x w
 | 0,i,o,hF,_,_,_=>by omega
 | F + 1,i,o,hF,hi,ho,hb=>by
   rw [g26L58f_succ]
   unfold g26L58B
   have:=h.k1;have:=h.k3
   by_cases hl:i < l.length
   · rw [ltT hl,cond_true]
     by_cases hlt:i < m
     · obtain ⟨v,ev,v0,v1⟩:=low (l.getD i 0) (m:=(k:Int)) (by omega) (by omega)
       have hw:IntKind.wrap .u64 (k:Int) = (k:Int):=wu64n (by omega) (by omega)
       rw [ltT hlt,cond_true,if_pos (idxT hl),h.inputs41 N,Int.toNat_natCast]
       simp only [Option.bind_some]
       rw [hw,if_neg (by omega),ev,if_pos (by simp [maxCount];omega),wn i (by omega)]
       exact h.word_loop N k0 l m hm F (i + 1) (o ++ [v]) (by omega) (by omega) (by simp [ho]) fun j hj=>by
         rcases List.mem_append.1 hj with hj | hj
         · exact hb j hj
         · obtain rfl:=List.mem_singleton.1 hj;exact ⟨v0,v1⟩
     · rw [ltF hlt,cond_false]
       exact ⟨o,hb,by omega,rfl⟩
   · rw [ltF hl,cond_false]
     exact ⟨o,hb,by omega,rfl⟩
theorem Pm.word {x:MM} {k:Nat} (h:Pm x k) (N:Nat) (hN:1000 < N) (l:List Int) (m:Nat) (hm:m ≤ 1000):∃ w,InW k w∧w.length ≤ m∧g26 N x l (m:Int) = some w:=by
 unfold g26
 rw [g26L58_eq]
 exact h.word_loop N (fun e2 e3=>some e3) l m hm N 0 [] (by omega) (by omega) rfl (by intro i hi;simp at hi)
theorem open_checks (N:Nat) (hN:20 < N) {C:Type} (k0:List MM→Int→List (List Int)→Int→Option C) (k1:List MM→Int→List (List Int)→Option C) (l:List MM) (s:Int) (ws:List (List Int)) (hl:l.length ≤ 10) (hp:∀ m ∈ l,∃ k,Pm m k) :
   ∀ (F i:Nat),l.length - i < F→i ≤ l.length→g62L26f N F k0 k1 l s ws l (l.length:Int) (i:Int) = k1 l s ws
 | 0,i,hF,_=>by omega
 | F + 1,i,hF,hi=>by
   rw [g62L26f_succ]
   unfold g62L26B
   by_cases hlt:i < l.length
   · obtain ⟨k,hk⟩:=hp _ (getD_mem hlt (([]:List (List Int)),([]:List (List Int)),()))
     rw [ltT hlt,cond_true,if_pos (idxT hlt),Int.toNat_natCast,hk.check N hN]
     simp only [Option.bind_some,ieq_self,Bool.not_true,cond_false]
     rw [wn i (by omega)]
     exact open_checks N hN k0 k1 l s ws hl hp F (i + 1) (by omega) (by omega)
   · rw [ltF hlt,cond_false]
theorem open_checks0 (N:Nat) (hN:20 < N) {C:Type} (k0:List MM→Int→List (List Int)→Int→Option C) (k1:List MM→Int→List (List Int)→Option C) (l:List MM) (s:Int) (ws:List (List Int)) (hl:l.length ≤ 10) (hp:∀ m ∈ l,∃ k,Pm m k):g62L26f N N k0 k1 l s ws l (l.length:Int) 0 = k1 l s ws :=
 open_checks N hN k0 k1 l s ws hl hp N 0 (by omega) (by omega)
theorem open_inputs (N:Nat) {C:Type} (k0:List MM→Int→List (List Int)→Int→Option C) (k1:List MM→Int→List (List Int)→Option C) (l:List MM) (k:Nat) (s:Int) (ws:List (List Int)) (hl:l.length ≤ 10) (h1:1 ≤ l.length) (h0:g85 N (l.getD 0 ([],[],())) = some (k:Int))
   (K:MM→Int) (hK:∀ m ∈ l,g85 N m = some (K m)) :
   ∀ (F i:Nat),l.length - i < F→i ≤ l.length→g62L58f N F k0 k1 l s ws l (l.length:Int) (i:Int) = bif (l.drop i).all (fun m=>ieq (K m) (k:Int)) then k1 l s ws else k0 l s ws 1
 | 0,i,hF,_=>by omega
 | F + 1,i,hF,hi=>by
   rw [g62L58f_succ]
   unfold g62L58B
   by_cases hlt:i < l.length
   · rw [ltT hlt,cond_true,if_pos (idxT hlt),Int.toNat_natCast,hK _ (getD_mem hlt _)]
     simp only [Option.bind_some]
     rw [if_pos ⟨by omega,by omega⟩]
     simp only [show Int.toNat 0 = 0 from rfl]
     rw [h0]
     simp only [Option.bind_some]
     rw [getD_drop l i (([]:List (List Int)),([]:List (List Int)),()) hlt,List.all_cons]
     cases hq:ieq (K (l.getD i (([]:List (List Int)),([]:List (List Int)),()))) (k:Int) with
     | false=>simp
     | true =>
       simp only [Bool.not_true,cond_false,Bool.true_and]
       rw [wn i (by omega)]
       exact open_inputs N k0 k1 l k s ws hl h1 h0 K hK F (i + 1) (by omega) (by omega)
   · rw [ltF hlt,cond_false,List.drop_eq_nil_of_le (by omega)];rfl
theorem open_inputs0 (N:Nat) (hN:20 < N) {C:Type} (k0:List MM→Int→List (List Int)→Int→Option C) (k1:List MM→Int→List (List Int)→Option C) (l:List MM) (k:Nat) (s:Int) (ws:List (List Int)) (hl:l.length ≤ 10) (h1:1 ≤ l.length) (h0:g85 N (l.getD 0 ([],[],())) = some (k:Int))
   (K:MM→Int) (hK:∀ m ∈ l,g85 N m = some (K m)):g62L58f N N k0 k1 l s ws l (l.length:Int) 0 = bif l.all (fun m=>ieq (K m) (k:Int)) then k1 l s ws else k0 l s ws 1:=by
 have:=open_inputs N k0 k1 l k s ws hl h1 h0 K hK N 0 (by omega) (by omega)
 simpa using this
def wordB (k:Nat) (w:List Int):Bool:=decide (w.length ≤ 100) && w.all fun x=>decide (0 ≤ x) && decide (x ≤ (k:Int) - 1)
theorem wordB_iff (k:Nat) (w:List Int):wordB k w = true ↔ w.length ≤ 100∧InW k w:=by
 unfold wordB InW
 rw [Bool.and_eq_true,List.all_eq_true,decide_eq_true_eq]
 refine and_congr Iff.rfl ⟨fun h i hi=>?_,fun h i hi=>?_⟩
 · have:=h i hi;simp at this;omega
 · have:=h i hi;simp;omega
theorem open_words (N:Nat) (hN:1000 < N) {C:Type} (k0:Int→Option C) (k1:Option C) (l:List MM) (k:Nat) (hk:k ≤ 3) (h1:1 ≤ l.length) (h0:g85 N (l.getD 0 ([],[],())) = some (k:Int)) (ws:List (List Int)) (hw:ws.length ≤ 1000) :
   ∀ (F i:Nat),ws.length - i < F→i ≤ ws.length→g62L250f N F k0 k1 l ws (ws.length:Int) (i:Int) = bif (ws.drop i).all (wordB k) then k1 else k0 1
 | 0,i,hF,_=>by omega
 | F + 1,i,hF,hi=>by
   rw [g62L250f_succ]
   unfold g62L250B
   by_cases hlt:i < ws.length
   · rw [ltT hlt,cond_true,if_pos (idxT hlt),Int.toNat_natCast,getD_drop ws i [] hlt,List.all_cons]
     by_cases h100:(ws.getD i []).length ≤ 100
     · have e1:decide ((100:Int) < ((ws.getD i []).length:Int)) = false:=decide_eq_false (by omega)
       rw [e1,cond_false,if_pos ⟨by omega,by omega⟩]
       simp only [show Int.toNat 0 = 0 from rfl]
       rw [h0]
       simp only [Option.bind_some]
       rw [w64 (by omega) (by omega),are_eq N _ _ _ (by omega) (by omega)]
       simp only [Option.bind_some]
       have e2:wordB k (ws.getD i []) = (ws.getD i []).all fun x=>decide (0 ≤ x) && decide (x ≤ (k:Int) - 1):=by
         unfold wordB
         rw [decide_eq_true h100,Bool.true_and]
       rw [e2]
       cases hq:(ws.getD i []).all fun x=>decide (0 ≤ x) && decide (x ≤ (k:Int) - 1) with
       | false=>simp
       | true =>
         simp only [Bool.not_true,cond_false,Bool.true_and]
         rw [wn i (by omega)]
         exact open_words N hN k0 k1 l k hk h1 h0 ws hw F (i + 1) (by omega) (by omega)
     · have e1:decide ((100:Int) < ((ws.getD i []).length:Int)) = true:=decide_eq_true (by omega)
       have e2:wordB k (ws.getD i []) = false:=by
         unfold wordB
         rw [decide_eq_false h100,Bool.false_and]
       rw [e1,cond_true,e2];simp
   · rw [ltF hlt,cond_false,List.drop_eq_nil_of_le (by omega)];rfl
theorem open_words0 (N:Nat) (hN:1000 < N) {C:Type} (k0:Int→Option C) (k1:Option C) (l:List MM) (k:Nat) (hk:k ≤ 3) (h1:1 ≤ l.length) (h0:g85 N (l.getD 0 ([],[],())) = some (k:Int)) (ws:List (List Int)) (hw:ws.length ≤ 1000) :
   g62L250f N N k0 k1 l ws (ws.length:Int) 0 = bif ws.all (wordB k) then k1 else k0 1:=by
 have:=open_words N hN k0 k1 l k hk h1 h0 ws hw N 0 (by omega) (by omega)
 simpa using this
theorem open_eq (N:Nat) (hN:1000 < N) (l:List MM) (k:Nat) (s:Int) (ws:List (List Int)) (hl:l.length ≤ 10) (h1:1 ≤ l.length) (hp:∀ m ∈ l,Pm m k) (s0:0 ≤ s) (s1:s < ((l.getD 0 ([],[],())).1.length:Int)) (hw:ws.length ≤ 1000) :
   g62 N l s ws = some (bif ws.all (wordB k) then 0 else 1):=by
 have hm:=getD_mem (l:=l) (i:=0) (by omega) (([]:List (List Int)),([]:List (List Int)),())
 have h0:=(hp _ hm).inputs N
 have hk:=(hp _ hm).k3
 have hn:=(hp _ hm).n6
 unfold g62
 rw [g62L26_eq,open_checks0 N (by omega) _ _ l s ws hl (fun m h=>⟨k,hp m h⟩)]
 rw [g62L58_eq,open_inputs0 N (by omega) _ _ l k s ws hl h1 h0 (fun _=>(k:Int)) (fun m h=>(hp m h).inputs N)]
 simp only [ieq_self,List.all_eq_true,implies_true,show l.all (fun m=>true) = true from by simp,cond_true]
 rw [if_pos ⟨by omega,by omega⟩]
 have e1:g76 N (l.getD (Int.toNat 0) ([],[],())) = some ((l.getD 0 ([],[],())).1.length:Int):=rfl
 rw [e1]
 simp only [Option.bind_some]
 rw [w64 (by omega) (by omega),are_true N _ _ [s] (by simp;omega) (by simp) (fun t ht=>by obtain rfl:=List.mem_singleton.1 ht;omega)]
 simp only [Option.bind_some,Bool.not_true,cond_false]
 rw [g62L250_eq,open_words0 N hN _ _ l k hk h1 h0 ws hw]
 cases ws.all (wordB k) <;> rfl
theorem open_not (N:Nat) (hN:1000 < N) (x y:MM) (k j:Nat) (hx:Pm x k) (hy:Pm y j) (hkj:k ≠ j) (s:Int) (ws:List (List Int)):g62 N [x,y] s ws = some 1:=by
 unfold g62
 rw [g62L26_eq,open_checks0 N (by omega) _ _ [x,y] s ws (by simp) (fun m h=>by
   simp only [List.mem_cons,List.not_mem_nil,or_false] at h
   rcases h with rfl | rfl
   · exact ⟨k,hx⟩
   · exact ⟨j,hy⟩)]
 rw [g62L58_eq,open_inputs0 N (by omega) _ _ [x,y] k s ws (by simp) (by simp) (hx.inputs N) (fun m=>(((m.1.getD 0 []).length:Nat):Int)) (fun m h=>by
   have hn:1 ≤ m.1.length:=by
     simp only [List.mem_cons,List.not_mem_nil,or_false] at h
     rcases h with rfl | rfl
     · exact hx.n1
     · exact hy.n1
   unfold g85
   rw [if_pos ⟨by omega,by omega⟩]
   rfl)]
 have r1:=(hx.rowN _ (getD_mem (i:=0) hx.n1 [])).1
 have r2:=(hy.rowN _ (getD_mem (i:=0) hy.n1 [])).1
 simp only [List.all_cons,List.all_nil,r1,r2,ieq_self,Bool.true_and,Bool.and_true]
 have e:ieq (j:Int) (k:Int) = false:=by simp only [ieq,decide_eq_false_iff_not];omega
 rw [e]
 rfl
end Go.Pv
namespace Go.Pv
theorem drop_eq_cons {a b:List Int} {i:Nat} (ha:i < a.length) (hb:i < b.length):(a.drop i = b.drop i) ↔ a.getD i 0 = b.getD i 0∧a.drop (i + 1) = b.drop (i + 1):=by
 rw [getD_drop a i 0 ha,getD_drop b i 0 hb,List.cons.injEq]
theorem eq20_loop (N:Nat) {C:Type} (k0:Bool→Option C) (k1:Option C) (a b:List Int) (hab:a.length = b.length) (hc:a.length ≤ 1000) :
   ∀ (F i:Nat),a.length - i < F→i ≤ a.length→g20L58f N F k0 k1 a b (i:Int) = if a.drop i = b.drop i then k1 else k0 false
 | 0,i,h,_=>by omega
 | F + 1,i,h,hi=>by
   rw [g20L58f_succ]
   unfold g20L58B
   by_cases hlt:i < a.length
   · rw [ltT hlt,cond_true,if_pos (idxT hlt),if_pos (idxT (hab ▸ hlt)),Int.toNat_natCast,wn i (by omega)]
     by_cases he:a.getD i 0 = b.getD i 0
     · rw [show ieq (a.getD i 0) (b.getD i 0) = true from decide_eq_true he,Bool.not_true,cond_false]
       refine (eq20_loop N k0 k1 a b hab hc F (i + 1) (by omega) (by omega)).trans ?_
       by_cases h2:a.drop (i + 1) = b.drop (i + 1)
       · rw [if_pos h2,if_pos ((drop_eq_cons hlt (hab ▸ hlt)).2 ⟨he,h2⟩)]
       · rw [if_neg h2,if_neg fun h'=>h2 ((drop_eq_cons hlt (hab ▸ hlt)).1 h').2]
     · rw [show ieq (a.getD i 0) (b.getD i 0) = false from decide_eq_false he,Bool.not_false,cond_true,if_neg]
       intro h'
       exact he ((drop_eq_cons hlt (hab ▸ hlt)).1 h').1
   · rw [ltF hlt,cond_false,if_pos]
     rw [List.drop_eq_nil_of_le (by omega),List.drop_eq_nil_of_le (by omega)]
theorem eq20 (N:Nat) (a b:List Int) (hc:a.length ≤ 1000) (hN:1000 < N):g20 N a b = some (decide (a = b)):=by
 unfold g20
 by_cases h:a.length = b.length
 · rw [show ieq ((a.length:Nat):Int) ((b.length:Nat):Int) = true from decide_eq_true (by omega),Bool.not_true,cond_false,g20L58_eq]
   have:=eq20_loop N (fun e1=>some e1) (some true) a b h hc N 0 (by omega) (by omega)
   simp only [Int.natCast_zero,List.drop_zero] at this
   rw [this]
   by_cases he:a = b <;> simp [he]
 · rw [show ieq ((a.length:Nat):Int) ((b.length:Nat):Int) = false from decide_eq_false (by omega),Bool.not_false,cond_true]
   rw [decide_eq_false (fun he=>h (by rw [he]))]
theorem eq73_loop (N:Nat) {C:Type} (k0:Bool→Option C) (k1:Option C) (a b:List Int) (hab:a.length = b.length) (hc:a.length ≤ 1000) :
   ∀ (F i:Nat),a.length - i < F→i ≤ a.length→g73L58f N F k0 k1 a b (a.length:Int) (i:Int) = if a.drop i = b.drop i then k1 else k0 false
 | 0,i,h,_=>by omega
 | F + 1,i,h,hi=>by
   rw [g73L58f_succ]
   unfold g73L58B
   by_cases hlt:i < a.length
   · rw [ltT hlt,cond_true,if_pos (idxT hlt),if_pos (idxT (hab ▸ hlt)),Int.toNat_natCast,wn i (by omega)]
     by_cases he:a.getD i 0 = b.getD i 0
     · rw [show ieq (a.getD i 0) (b.getD i 0) = true from decide_eq_true he,Bool.not_true,cond_false]
       refine (eq73_loop N k0 k1 a b hab hc F (i + 1) (by omega) (by omega)).trans ?_
       by_cases h2:a.drop (i + 1) = b.drop (i + 1)
       · rw [if_pos h2,if_pos ((drop_eq_cons hlt (hab ▸ hlt)).2 ⟨he,h2⟩)]
       · rw [if_neg h2,if_neg fun h'=>h2 ((drop_eq_cons hlt (hab ▸ hlt)).1 h').2]
     · rw [show ieq (a.getD i 0) (b.getD i 0) = false from decide_eq_false he,Bool.not_false,cond_true,if_neg]
       intro h'
       exact he ((drop_eq_cons hlt (hab ▸ hlt)).1 h').1
   · rw [ltF hlt,cond_false,if_pos]
     rw [List.drop_eq_nil_of_le (by omega),List.drop_eq_nil_of_le (by omega)]
theorem eq73 (N:Nat) (a b:List Int) (hc:a.length ≤ 1000) (hN:1000 < N):g73 N a b = some (decide (a = b)):=by
 unfold g73
 by_cases h:a.length = b.length
 · rw [show ieq ((a.length:Nat):Int) ((b.length:Nat):Int) = true from decide_eq_true (by omega),Bool.not_true,cond_false,g73L58_eq]
   have:=eq73_loop N (fun e1=>some e1) (some true) a b h hc N 0 (by omega) (by omega)
   simp only [Int.natCast_zero,List.drop_zero] at this
   rw [this]
   by_cases he:a = b <;> simp [he]
 · rw [show ieq ((a.length:Nat):Int) ((b.length:Nat):Int) = false from decide_eq_false (by omega),Bool.not_false,cond_true]
   rw [decide_eq_false (fun he=>h (by rw [he]))]
theorem Pm.word39_loop {x:MM} {k:Nat} (h:Pm x k) (N:Nat) {C:Type} (k0:List Int→Bool→MM→Option C) (k1:List Int→MM→Option C) (w:List Int) (hw:w.length ≤ 1000) :
   ∀ (F i:Nat),w.length - i < F→i ≤ w.length→g39L26f N F k0 k1 w (i:Int) x = bif (w.drop i).all (fun t=>decide (0 ≤ t) && decide (t ≤ (k:Int) - 1)) then k1 w x else k0 w false x
 | 0,i,hF,_=>by omega
 | F + 1,i,hF,hi=>by
   rw [g39L26f_succ]
   unfold g39L26B
   by_cases hlt:i < w.length
   · rw [ltT hlt,cond_true,if_pos (idxT hlt),if_pos (idxT hlt),h.inputs41 N,Int.toNat_natCast,getD_drop w i 0 hlt,List.all_cons,wn i (by omega)]
     simp only [Option.bind_some]
     by_cases h1:w.getD i 0 < 0
     · rw [decide_eq_true h1,cond_true,decide_eq_false (show ¬ 0 ≤ w.getD i 0 by omega)];rfl
     · rw [decide_eq_false h1,cond_false,decide_eq_true (show 0 ≤ w.getD i 0 by omega)]
       by_cases h2:(k:Int) ≤ w.getD i 0
       · rw [decide_eq_true h2,cond_true,decide_eq_false (show ¬ w.getD i 0 ≤ (k:Int) - 1 by omega)];rfl
       · rw [decide_eq_false h2,cond_false,decide_eq_true (show w.getD i 0 ≤ (k:Int) - 1 by omega)]
         exact h.word39_loop N k0 k1 w hw F (i + 1) (by omega) (by omega)
   · rw [ltF hlt,cond_false,List.drop_eq_nil_of_le (by omega)];rfl
theorem Pm.word39 {x:MM} {k:Nat} (h:Pm x k) (N:Nat) (hN:1000 < N) (w:List Int) (hw:w.length ≤ 1000):g39 N x w = some (wordB k w):=by
 unfold g39
 rw [g39L26_eq]
 have:=h.word39_loop N (fun e2 e3 e4=>some e3) (fun e5 e6=>some (decide ((((e5.length:Nat):Int):Int) ≤ 100))) w hw N 0 (by omega) (by omega)
 simp only [Int.natCast_zero,List.drop_zero] at this
 rw [this]
 unfold wordB
 cases w.all fun t=>decide (0 ≤ t) && decide (t ≤ (k:Int) - 1) with
 | false=>simp
 | true =>
   rw [cond_true,Bool.and_true]
   congr 1
   by_cases h1:w.length ≤ 100
   · rw [decide_eq_true h1,decide_eq_true (by omega)]
   · rw [decide_eq_false h1,decide_eq_false (by omega)]
def ff (p:List Int→Bool):List (List Int)→Nat→Option Nat
 | [],_=>none
 | w :: r,i=>bif p w then ff p r (i + 1) else some i
def sameW (x y:MM) (w:List Int):Bool:=decide ((sayL x 0 w).1 = (sayL y 0 w).1)
theorem passes_loop {x y:MM} {k:Nat} (hx:Pm x k) (hy:Pm y k) (N:Nat) (hN:1000 < N) {C:Type} (k0:Int→Bool→Int→MM→MM→Option C) (k1:MM→MM→Option C) (ws:List (List Int)) (hl:ws.length ≤ 1000) (hw:∀ w ∈ ws,w.length ≤ 100∧InW k w) :
   ∀ (F i:Nat),ws.length - i < F→i ≤ ws.length→g43L58f N F k0 k1 ws (ws.length:Int) (i:Int) x y = (match ff (sameW x y) (ws.drop i) i with | some j=>k0 (j:Int) false 0 x y | none=>k1 x y)
 | 0,i,hF,_=>by omega
 | F + 1,i,hF,hi=>by
   rw [g43L58f_succ]
   unfold g43L58B
   have:=hx.n1;have:=hy.n1
   by_cases hlt:i < ws.length
   · obtain ⟨w1,w2⟩:=hw _ (getD_mem hlt [])
     rw [ltT hlt,cond_true,if_pos (idxT hlt),Int.toNat_natCast,hx.says N hN _ w2 (by omega) 0 (by omega) (by omega),hy.says N hN _ w2 (by omega) 0 (by omega) (by omega)]
     simp only [Option.bind_some]
     rw [eq73 N _ _ (by rw [sayL_len];omega) hN,getD_drop ws i [] hlt]
     simp only [Option.bind_some,ff]
     show (bif !sameW x y (ws.getD i []) then _ else _) = _
     cases sameW x y (ws.getD i []) with
     | false=>rfl
     | true =>
       simp only [Bool.not_true,cond_false,cond_true]
       rw [wn i (by omega)]
       exact passes_loop hx hy N hN k0 k1 ws hl hw F (i + 1) (by omega) (by omega)
   · rw [ltF hlt,cond_false,List.drop_eq_nil_of_le (by omega)];rfl
theorem ref_passes_loop {x y:MM} {k:Nat} (hx:Pm x k) (hy:Pm y k) (N:Nat) (hN:1000 < N) {C:Type} (k0:Int→MM→MM→Option C) (k1:MM→MM→Option C) (ws:List (List Int)) (hl:ws.length ≤ 1000) (hw:∀ w ∈ ws,w.length ≤ 100∧InW k w) :
   ∀ (F i:Nat),ws.length - i < F→i ≤ ws.length→g44L26f N F k0 k1 ws (i:Int) x y = (match ff (sameW x y) (ws.drop i) i with | some j=>k0 (j:Int) x y | none=>k1 x y)
 | 0,i,hF,_=>by omega
 | F + 1,i,hF,hi=>by
   rw [g44L26f_succ]
   unfold g44L26B
   have:=hx.n1;have:=hy.n1
   by_cases hlt:i < ws.length
   · obtain ⟨w1,w2⟩:=hw _ (getD_mem hlt [])
     rw [ltT hlt,cond_true,if_pos (idxT hlt),Int.toNat_natCast,hx.say N hN _ w2 (by omega) 0 (by omega) (by omega),hy.say N hN _ w2 (by omega) 0 (by omega) (by omega)]
     simp only [Option.bind_some]
     rw [if_pos (idxT hlt),eq20 N _ _ (by rw [sayL_len];omega) hN,getD_drop ws i [] hlt]
     simp only [Option.bind_some,ff]
     show (bif !sameW x y (ws.getD i []) then _ else _) = _
     cases sameW x y (ws.getD i []) with
     | false=>rfl
     | true =>
       simp only [Bool.not_true,cond_false,cond_true]
       rw [wn i (by omega)]
       exact ref_passes_loop hx hy N hN k0 k1 ws hl hw F (i + 1) (by omega) (by omega)
   · rw [ltF hlt,cond_false,List.drop_eq_nil_of_le (by omega)];rfl
theorem passes_bad {x y:MM} {k:Nat} (hx:Pm x k) (hy:Pm y k) (N:Nat) (hN:1000 < N) (ws:List (List Int)) (hl:ws.length ≤ 1000) (hb:ws.all (wordB k) = false):g43 N x y ws = some (0,false,1,()):=by
 have:=hx.n1
 unfold g43
 rw [open_eq N hN [x,y] k 0 ws (by simp) (by simp) (fun m hm=>by
   simp only [List.mem_cons,List.not_mem_nil,or_false] at hm
   rcases hm with rfl | rfl
   · exact hx
   · exact hy) (by omega) (by show (0:Int) < (x.1.length:Int);omega) hl,hb]
 rfl
theorem passes_good {x y:MM} {k:Nat} (hx:Pm x k) (hy:Pm y k) (N:Nat) (hN:1000 < N) (ws:List (List Int)) (hl:ws.length ≤ 1000) (hb:ws.all (wordB k) = true) :
   g43 N x y ws = some (match ff (sameW x y) ws 0 with | some j=>((j:Int),false,0,()) | none=>(0,true,0,()))∧g44 N x y ws = some (match ff (sameW x y) ws 0 with | some j=>(j:Int) | none=>-1):=by
 have h1:=hx.n1
 have hw:∀ w ∈ ws,w.length ≤ 100∧InW k w:=fun w hw=>(wordB_iff k w).1 (List.all_eq_true.1 hb w hw)
 constructor
 · unfold g43
   rw [open_eq N hN [x,y] k 0 ws (by simp) (by simp) (fun m hm=>by
     simp only [List.mem_cons,List.not_mem_nil,or_false] at hm
     rcases hm with rfl | rfl
     · exact hx
     · exact hy) (by omega) (by show (0:Int) < (x.1.length:Int);omega) hl,hb]
   simp only [cond_true,Option.bind_some,ieq_self,Bool.not_true,cond_false]
   rw [g43L58_eq]
   have:=passes_loop hx hy N hN (fun e5 e6 e7 e8 e9=>some (e5,e6,e7,())) (fun e10 e11=>some (0,true,0,())) ws hl hw N 0 (by omega) (by omega)
   simp only [Int.natCast_zero,List.drop_zero] at this
   rw [this]
   cases ff (sameW x y) ws 0 <;> rfl
 · unfold g44
   rw [g44L26_eq]
   have:=ref_passes_loop hx hy N hN (fun e4 e5 e6=>some e4) (fun e7 e8=>some (-1)) ws hl hw N 0 (by omega) (by omega)
   simp only [Int.natCast_zero,List.drop_zero] at this
   rw [this]
   cases ff (sameW x y) ws 0 <;> rfl
end Go.Pv
namespace Go.Pv
theorem awake_eq:g25v1 2000 = some true:=by kernel_rfl
end Go.Pv
