/- Plain texts, merged: QpA, QpS, QpB, QpC, QpD, QpT, QpU, QpV, QpW, QpE, QpG, QpSq, QpK, QpL, QpM, QpO, QpFo, QpAw. -/
import Derived.Test.YtiinfljjfceckaaDoorPvL09
import Derived.Test.YtiinfljjfceckaaDoorPvG09
import Derived.KernelRfl
set_option linter.unusedSectionVars false
/- Seat 09, plain: lists in ranges, copies, machines as they should be. -/
set_option linter.unusedVariables false
set_option linter.unusedSimpArgs false
namespace Go.Pv
abbrev MM:=List (List Int)×List (List Int)×Unit
theorem w64 {x:Int} (h1:-9223372036854775808 ≤ x) (h2:x < 9223372036854775808):IntKind.wrap .i64 x = x:=by rw [IntKind.wrap_i64];omega
theorem wu64 (x:Int):IntKind.wrap .u64 x = x % 18446744073709551616:=by simp only [IntKind.wrap,IntKind.signed,IntKind.bits];simp
theorem wu64n {x:Int} (h1:0 ≤ x) (h2:x < 18446744073709551616):IntKind.wrap .u64 x = x:=by rw [wu64];omega
theorem wn (i:Nat) (h:i < 1000000):IntKind.wrap .i64 ((i:Int) + 1) = ((i + 1:Nat):Int):=by rw [w64 (by omega) (by omega)];simp
@[simp] theorem ieq_self (x:Int):ieq x x = true:=by simp only [ieq,decide_true]
theorem low (x:Int) {m:Int} (hm:0 < m) (hm2:m < 1000000):∃ r:Int,IntKind.wrap .i64 (Int.tmod (IntKind.wrap .u64 x) m) = r∧0 ≤ r∧r < m:=by
 refine ⟨(x % 18446744073709551616) % m,?_,Int.emod_nonneg _ (by omega),Int.emod_lt_of_pos _ hm⟩
 rw [wu64,Int.tmod_eq_emod_of_nonneg (Int.emod_nonneg _ (by decide))]
 have h1:=Int.emod_nonneg (x % 18446744073709551616) (show m ≠ 0 by omega)
 have h2:=Int.emod_lt_of_pos (x % 18446744073709551616) hm
 exact w64 (by omega) (by omega)
theorem getD_mem {α:Type} {l:List α} {i:Nat} (h:i < l.length) (d:α):l.getD i d ∈ l:=by
 rw [List.getD_eq_getElem?_getD,List.getElem?_eq_getElem h];simp
theorem getD_drop {α:Type} (l:List α) (i:Nat) (d:α) (h:i < l.length):l.drop i = l.getD i d :: l.drop (i + 1):=by
 rw [List.drop_eq_getElem_cons h];simp [h]
theorem take_getD {α:Type} (l:List α) (i:Nat) (d:α) (h:i < l.length):l.take i ++ [l.getD i d] = l.take (i + 1):=by
 rw [List.take_add_one];simp [h]
theorem idxT {i:Nat} {n:Nat} (h:i < n):idx (i:Int) n:=⟨by omega,by omega⟩
theorem ltT {i n:Nat} (h:i < n):decide ((i:Int) < (n:Int)) = true:=by simp;omega
theorem ltF {i n:Nat} (h:¬ i < n):decide ((i:Int) < (n:Int)) = false:=by simp;omega
theorem any_loop (N:Nat) {C:Type} (k0:Int→Option C) (k1:Option C) (l:List Int) (f:(Int×Unit)→Option Bool) (p:Int→Bool) (hf:∀ x,f (x,()) = some (p x)) (hl:l.length < 4611686018427387904) :
   ∀ (F i:Nat),l.length - i < F→i ≤ l.length→((l.drop i).any p = true∧∃ j:Nat,g121L26f N F k0 k1 l f (l.length:Int) (i:Int) = k0 j) ∨ ((l.drop i).any p = false∧g121L26f N F k0 k1 l f (l.length:Int) (i:Int) = k1)
 | 0,i,h,_=>by omega
 | F + 1,i,h,hi=>by
   rw [g121L26f_succ]
   unfold g121L26B
   by_cases hlt:i < l.length
   · rw [ltT hlt,cond_true,if_pos (idxT hlt),Int.toNat_natCast,hf]
     simp only [Option.bind_some]
     rw [getD_drop l i 0 hlt,List.any_cons]
     cases hp:p (l.getD i 0) with
     | true=>exact .inl ⟨by simp,i,rfl⟩
     | false =>
       simp only [cond_false,Bool.false_or]
       have e3:IntKind.wrap .i64 ((i:Int) + 1) = ((i + 1:Nat):Int):=by rw [w64 (by omega) (by omega)];simp
       rw [e3]
       exact any_loop N k0 k1 l f p hf hl F (i + 1) (by omega) (by omega)
   · rw [ltF hlt,cond_false,List.drop_eq_nil_of_le (by omega)]
     exact .inr ⟨rfl,rfl⟩
theorem are_eq (N:Nat) (lo hi:Int) (l:List Int) (hN:l.length < N) (hl:l.length < 4611686018427387904):g82 N lo hi l = some (l.all fun x=>decide (lo ≤ x) && decide (x ≤ hi)):=by
 unfold g82 g106 g121
 rw [g121L26_eq]
 have:=any_loop N (fun e2=>some e2) (some (-1)) l (fun (x1:(Int)×(Unit))=>Option.bind (g107 N x1.1 lo hi) fun y2=>some y2) (fun x=>decide (x < lo) || decide (hi < x))
   (fun x=>by
     simp only [g107]
     cases h:decide (x < lo) <;> simp) hl N 0 (by omega) (by omega)
 simp only [Int.natCast_zero,List.drop_zero] at this
 have hx:(l.all fun x=>decide (lo ≤ x) && decide (x ≤ hi)) = !(l.any fun x=>decide (x < lo) || decide (hi < x)):=by
   rw [List.not_any_eq_all_not]
   congr 1
   funext x
   by_cases h1:x < lo <;> by_cases h2:hi < x <;> simp [h1,h2] <;> omega
 rcases this with ⟨h1,j,h2⟩ | ⟨h1,h2⟩
 · rw [h2,hx,h1]
   simp
 · rw [h2,hx,h1]
   simp
theorem are_true (N:Nat) (lo hi:Int) (l:List Int) (hN:l.length < N) (hl:l.length < 1000000) (h:∀ x ∈ l,lo ≤ x∧x ≤ hi):g82 N lo hi l = some true:=by
 rw [are_eq N lo hi l hN (by omega)]
 congr 1
 rw [List.all_eq_true]
 intro x hx
 have:=h x hx
 simp;exact this
theorem few_eq (N:Nat) (l:List Int) (k:Int) (h0:0 ≤ k) (hk:k ≤ 1000):g42 N l k = some (l.take k.toNat):=by
 unfold g42
 have e:imin (l.length:Int) k = ((min l.length k.toNat:Nat):Int):=by simp only [imin];split <;> omega
 rw [e,if_pos ⟨by omega,by omega,by omega⟩]
 have:List.take (min l.length k.toNat) l = l.take k.toNat:=by
   rcases Nat.le_total l.length k.toNat with h | h
   · rw [Nat.min_eq_left h,List.take_of_length_le h,List.take_length]
   · rw [Nat.min_eq_right h]
 simp [this,maxCount]
 omega
theorem ints_loop (N:Nat) {C:Type} (k0:Bool→Option C) (k1:Option C) (c:List Int) (hc:c.length ≤ 1000) :
   ∀ (F i:Nat),c.length - i < F→i ≤ c.length→g20L58f N F k0 k1 c c (i:Int) = k1
 | 0,i,h,_=>by omega
 | F + 1,i,h,hi=>by
   rw [g20L58f_succ]
   unfold g20L58B
   by_cases hlt:i < c.length
   · rw [ltT hlt,cond_true,if_pos (idxT hlt),if_pos (idxT hlt),ieq_self,Bool.not_true,cond_false,wn i (by omega)]
     exact ints_loop N k0 k1 c hc F (i + 1) (by omega) (by omega)
   · rw [ltF hlt,cond_false]
theorem ints_self (N:Nat) (c:List Int) (hc:c.length ≤ 1000) (hN:1000 < N):g20 N c c = some true:=by
 unfold g20
 rw [ieq_self,Bool.not_true,cond_false,g20L58_eq]
 exact ints_loop N _ _ c hc N 0 (by omega) (by omega)
theorem inputs_eq (N:Nat) (k:Int):∃ r:Nat,g16 N k = some (r:Int)∧1 ≤ r∧r ≤ 3:=by
 obtain ⟨v,e,h1,h2⟩:=low k (m:=3) (by omega) (by omega)
 refine ⟨(1 + v).toNat,?_,by omega,by omega⟩
 unfold g16
 rw [e,w64 (by omega) (by omega)]
 congr 1
 omega
structure Pm (x:MM) (k:Nat):Prop where
 n1:1 ≤ x.1.length
 n6:x.1.length ≤ 6
 out:x.2.1.length = x.1.length
 k1:1 ≤ k
 k3:k ≤ 3
 rowN:∀ r ∈ x.1,r.length = k∧∀ t ∈ r,0 ≤ t∧t < (x.1.length:Int)
 rowO:∀ r ∈ x.2.1,r.length = k∧∀ t ∈ r,0 ≤ t∧t ≤ 3
theorem Pm.inputs {x:MM} {k:Nat} (h:Pm x k) (N:Nat):g85 N x = some (k:Int):=by
 unfold g85
 have:=h.n1
 rw [if_pos ⟨by omega,by omega⟩]
 have:=(h.rowN _ (getD_mem (i:=0) (by omega) [])).1
 simp only [show Int.toNat 0 = 0 from rfl,this]
theorem Pm.inputs41 {x:MM} {k:Nat} (h:Pm x k) (N:Nat):g41 N x = some (k:Int):=h.inputs N
theorem Pm.check_loop {x:MM} {k:Nat} (h:Pm x k) (N:Nat) (hN:20 < N) {C:Type} (k0:Int→MM→Option C) (k1:MM→Option C) :
   ∀ (F i:Nat),x.1.length - i < F→i ≤ x.1.length→g57L122f N F k0 k1 (x.1.length:Int) x.1 (x.1.length:Int) (i:Int) x = k1 x
 | 0,i,hF,_=>by omega
 | F + 1,i,hF,hi=>by
   rw [g57L122f_succ]
   unfold g57L122B
   have:=h.n6;have:=h.k3
   by_cases hlt:i < x.1.length
   · have ho:i < x.2.1.length:=by rw [h.out];exact hlt
     obtain ⟨r1,r2⟩:=h.rowN _ (getD_mem hlt [])
     obtain ⟨o1,o2⟩:=h.rowO _ (getD_mem ho [])
     have e1:g82 N 0 (IntKind.wrap .i64 ((x.1.length:Int) - 1)) (x.1.getD i []) = some true:=by
       rw [w64 (by omega) (by omega)]
       exact are_true N _ _ _ (by omega) (by omega) fun t ht=>by have:=r2 t ht;omega
     have e2:g82 N 0 3 (x.2.1.getD i []) = some true:=are_true N _ _ _ (by omega) (by omega) o2
     rw [ltT hlt,cond_true,if_pos (idxT hlt),h.inputs N]
     simp only [Option.bind_some,Int.toNat_natCast,r1,ieq_self,Bool.not_true,cond_false]
     rw [if_pos (idxT ho),o1,ieq_self,Bool.not_true,cond_false,e1]
     simp only [Option.bind_some,Bool.not_true,cond_false]
     rw [if_pos (idxT ho),e2]
     simp only [Option.bind_some,Bool.not_true,cond_false]
     rw [wn i (by omega)]
     exact h.check_loop N hN k0 k1 F (i + 1) (by omega) (by omega)
   · rw [ltF hlt,cond_false]
theorem Pm.check {x:MM} {k:Nat} (h:Pm x k) (N:Nat) (hN:20 < N):g57 N x = some 0:=by
 have:=h.n1;have:=h.n6;have:=h.k1;have:=h.k3
 unfold g57
 rw [are_true N 1 6 [((x.1.length:Nat):Int)] (by simp;omega) (by simp) (by simp;omega)]
 simp only [Option.bind_some,Bool.not_true,cond_false,h.out,ieq_self]
 rw [if_pos ⟨by omega,by omega⟩]
 have r1:=(h.rowN _ (getD_mem (i:=0) (by omega) [])).1
 simp only [show Int.toNat 0 = 0 from rfl,r1]
 rw [are_true N 1 3 [(k:Int)] (by simp;omega) (by simp) (by simp;omega)]
 simp only [Option.bind_some,Bool.not_true,cond_false]
 rw [g57L122_eq]
 exact h.check_loop N hN _ _ N 0 (by omega) (by omega)
theorem rows_loop (N:Nat) {C:Type} (k0:List (List Int)→Option C) (l:List (List Int)) (hl:l.length ≤ 6) (hr:∀ r ∈ l,r.length ≤ 4) :
   ∀ (F i:Nat),l.length - i < F→i ≤ l.length→g59L58f N F k0 l (i:Int) (l.take i) = k0 l
 | 0,i,h,_=>by omega
 | F + 1,i,h,hi=>by
   rw [g59L58f_succ]
   unfold g59L58B
   by_cases hlt:i < l.length
   · have e2:decide ((i:Int) ≤ 6) = true:=by simp;omega
     rw [ltT hlt,cond_true,e2,cond_true,if_pos (idxT hlt),Int.toNat_natCast,few_eq N _ 4 (by omega) (by omega)]
     simp only [Option.bind_some,show Int.toNat 4 = 4 from rfl,List.take_of_length_le (hr _ (getD_mem hlt []))]
     rw [if_pos (by simp [maxCount];omega),take_getD l i [] hlt,wn i (by omega)]
     exact rows_loop N k0 l hl hr F (i + 1) (by omega) (by omega)
   · rw [ltF hlt,cond_false,List.take_of_length_le (by omega)]
theorem rows_eq (N:Nat) (hN:10 < N) (l:List (List Int)) (hl:l.length ≤ 6) (hr:∀ r ∈ l,r.length ≤ 4):g59 N l = some l:=by
 unfold g59
 rw [g59L58_eq]
 exact rows_loop N _ l hl hr N 0 (by omega) (by omega)
theorem Pm.given {x:MM} {k:Nat} (h:Pm x k) (N:Nat) (hN:10 < N):g18 N x = some x:=by
 have:=h.n6;have:=h.k3;have:=h.out
 unfold g18
 rw [rows_eq N hN x.1 (by omega) fun r hr=>by have:=(h.rowN r hr).1;omega,rows_eq N hN x.2.1 (by omega) fun r hr=>by have:=(h.rowO r hr).1;omega]
 rfl
theorem Pm.own {x:MM} {k:Nat} (h:Pm x k) (N:Nat) (hN:10 < N):g23 N x = some x:=h.given N hN
theorem tame_row (N:Nat) {C:Type} (k0:Int→Int→Int→MM→List Int→List Int→List (List Int)→List (List Int)→List (List Int)→List (List Int)→Option C) (k n i:Nat) (hk:k ≤ 3) (hn1:1 ≤ n) (hn:n ≤ 6) (x:MM) (c1 c2 c3 c4:List (List Int)) :
   ∀ (F j:Nat) (p q:List Int),k - j < F→j ≤ k→p.length = j→q.length = j→(∀ t ∈ p,0 ≤ t∧t < (n:Int))→(∀ t ∈ q,0 ≤ t∧t ≤ 3) →
     ∃ p' q':List Int,p'.length = k∧q'.length = k∧(∀ t ∈ p',0 ≤ t∧t < (n:Int))∧(∀ t ∈ q',0 ≤ t∧t ≤ 3) ∧
       g15L31306f N F k0 (k:Int) (n:Int) (i:Int) (j:Int) x p q c1 c2 c3 c4 = k0 (k:Int) (n:Int) (i:Int) x p' q' c1 c2 c3 c4
 | 0,j,p,q,h,_,_,_,_,_=>by omega
 | F + 1,j,p,q,h,hj,hp,hq,hpb,hqb=>by
   rw [g15L31306f_succ]
   unfold g15L31306B
   by_cases hlt:j < k
   · have add:∀ v o:Int,0 ≤ v→v < (n:Int)→0 ≤ o→o < 4→∃ p' q':List Int,p'.length = k∧q'.length = k∧(∀ t ∈ p',0 ≤ t∧t < (n:Int))∧(∀ t ∈ q',0 ≤ t∧t ≤ 3) ∧
         g15L31306f N F k0 (k:Int) (n:Int) (i:Int) ((j + 1:Nat):Int) x (p ++ [v]) (q ++ [o]) c1 c2 c3 c4 = k0 (k:Int) (n:Int) (i:Int) x p' q' c1 c2 c3 c4:=fun v o h1 h2 h3 h4 =>
       tame_row N k0 k n i hk hn1 hn x c1 c2 c3 c4 F (j + 1) (p ++ [v]) (q ++ [o]) (by omega) (by omega) (by simp [hp]) (by simp [hq])
         (fun t ht=>by
           rcases List.mem_append.1 ht with ht | ht
           · exact hpb t ht
           · obtain rfl:=List.mem_singleton.1 ht;exact ⟨h1,h2⟩)
         (fun t ht=>by
           rcases List.mem_append.1 ht with ht | ht
           · exact hqb t ht
           · obtain rfl:=List.mem_singleton.1 ht;omega)
     have hw:IntKind.wrap .u64 (n:Int) = (n:Int):=wu64n (by omega) (by omega)
     have hz:(((n:Int) = 0) = False):=eq_false (by omega)
     have mp:∀ v:Int,((p.length + [v].length ≤ maxCount) = True):=fun v=>eq_true (by simp [maxCount];omega)
     have mq:∀ v:Int,((q.length + [v].length ≤ maxCount) = True):=fun v=>eq_true (by simp [maxCount];omega)
     have mp0:((p.length + List.length ([0]:List Nat) ≤ maxCount) = True):=eq_true (by simp [maxCount];omega)
     have mq0:((q.length + List.length ([0]:List Nat) ≤ maxCount) = True):=eq_true (by simp [maxCount];omega)
     obtain ⟨v,ev,v1,v2⟩:=low ((x.1.getD i []).getD j 0) (m:=(n:Int)) (by omega) (by omega)
     obtain ⟨o,eo,o1,o2⟩:=low ((x.2.1.getD i []).getD j 0) (m:=4) (by omega) (by omega)
     rw [ltT hlt,cond_true,wn j (by omega),hw]
     by_cases a1:i < x.1.length
     · by_cases a2:j < (x.1.getD i []).length
       · by_cases b1:i < x.2.1.length
         · by_cases b2:j < (x.2.1.getD i []).length
           · simp only [Int.toNat_natCast,ltT a1,ltT a2,ltT b1,ltT b2,eq_true (idxT a1),eq_true (idxT a2),eq_true (idxT b1),eq_true (idxT b2),cond_true,if_true,hz,if_false,ev,eo,mp,mq]
             exact add v o v1 v2 o1 o2
           · simp only [Int.toNat_natCast,ltT a1,ltT a2,ltT b1,ltF b2,eq_true (idxT a1),eq_true (idxT a2),eq_true (idxT b1),cond_true,cond_false,if_true,hz,if_false,ev,mp,mq,mp0,mq0]
             exact add v 0 v1 v2 (by omega) (by omega)
         · simp only [Int.toNat_natCast,ltT a1,ltT a2,ltF b1,eq_true (idxT a1),eq_true (idxT a2),cond_true,cond_false,if_true,hz,if_false,ev,mp,mq,mp0,mq0]
           exact add v 0 v1 v2 (by omega) (by omega)
       · by_cases b1:i < x.2.1.length
         · by_cases b2:j < (x.2.1.getD i []).length
           · simp only [Int.toNat_natCast,ltT a1,ltF a2,ltT b1,ltT b2,eq_true (idxT a1),eq_true (idxT b1),eq_true (idxT b2),cond_true,cond_false,if_true,hz,if_false,eo,mp,mq,mp0,mq0]
             exact add 0 o (by omega) (by omega) o1 o2
           · simp only [Int.toNat_natCast,ltT a1,ltF a2,ltT b1,ltF b2,eq_true (idxT a1),eq_true (idxT b1),cond_true,cond_false,if_true,hz,if_false,mp,mq,mp0,mq0]
             exact add 0 0 (by omega) (by omega) (by omega) (by omega)
         · simp only [Int.toNat_natCast,ltT a1,ltF a2,ltF b1,eq_true (idxT a1),cond_true,cond_false,if_true,hz,if_false,mp,mq,mp0,mq0]
           exact add 0 0 (by omega) (by omega) (by omega) (by omega)
     · by_cases b1:i < x.2.1.length
       · by_cases b2:j < (x.2.1.getD i []).length
         · simp only [Int.toNat_natCast,ltF a1,ltT b1,ltT b2,eq_true (idxT b1),eq_true (idxT b2),cond_true,cond_false,if_true,hz,if_false,eo,mp,mq,mp0,mq0]
           exact add 0 o (by omega) (by omega) o1 o2
         · simp only [Int.toNat_natCast,ltF a1,ltT b1,ltF b2,eq_true (idxT b1),cond_true,cond_false,if_true,hz,if_false,mp,mq,mp0,mq0]
           exact add 0 0 (by omega) (by omega) (by omega) (by omega)
       · simp only [Int.toNat_natCast,ltF a1,ltF b1,cond_true,cond_false,if_true,hz,if_false,mp,mq,mp0,mq0]
         exact add 0 0 (by omega) (by omega) (by omega) (by omega)
   · rw [ltF hlt,cond_false]
     exact ⟨p,q,by omega,by omega,hpb,hqb,rfl⟩
theorem tame_loop (N:Nat) (hN:10 < N) {C:Type} (k0:MM→List (List Int)→List (List Int)→List (List Int)→List (List Int)→Option C) (k n:Nat) (hk:k ≤ 3) (hn1:1 ≤ n) (hn:n ≤ 6) (x:MM) :
   ∀ (F i:Nat) (c1 c2 c3 c4:List (List Int)),n - i < F→i ≤ n→c3.length = i→c4.length = i→(∀ r ∈ c3,r.length = k∧∀ t ∈ r,0 ≤ t∧t < (n:Int))→(∀ r ∈ c4,r.length = k∧∀ t ∈ r,0 ≤ t∧t ≤ 3) →
     ∃ d1 d2 d3 d4:List (List Int),d3.length = n∧d4.length = n∧(∀ r ∈ d3,r.length = k∧∀ t ∈ r,0 ≤ t∧t < (n:Int))∧(∀ r ∈ d4,r.length = k∧∀ t ∈ r,0 ≤ t∧t ≤ 3) ∧
       g15L122f N F k0 (k:Int) (n:Int) (i:Int) x c1 c2 c3 c4 = k0 x d1 d2 d3 d4
 | 0,i,c1,c2,c3,c4,h,_,_,_,_,_=>by omega
 | F + 1,i,c1,c2,c3,c4,h,hi,h3,h4,hb3,hb4=>by
   rw [g15L122f_succ]
   unfold g15L122B
   by_cases hlt:i < n
   · rw [ltT hlt,cond_true,g15L31306_eq]
     obtain ⟨p,q,hp,hq,hpb,hqb,e⟩:=tame_row N (fun e1 e2 e3 e4 e5 e6 e7 e8 e9 e10=>if e9.length + [e5].length ≤ maxCount then if e10.length + [e6].length ≤ maxCount then (g15L122f N F k0 e1 e2 (IntKind.wrap .i64 (e3 + 1)) e4 e7 e8 (e9 ++ [e5]) (e10 ++ [e6])) else none else none) k n i hk hn1 hn x c1 c2 c3 c4 N 0 [] [] (by omega) (by omega) rfl rfl (by simp) (by simp)
     simp only [Int.natCast_zero] at e
     rw [e,if_pos (by simp [maxCount];omega),if_pos (by simp [maxCount];omega),wn i (by omega)]
     exact tame_loop N hN k0 k n hk hn1 hn x F (i + 1) c1 c2 (c3 ++ [p]) (c4 ++ [q]) (by omega) (by omega) (by simp [h3]) (by simp [h4])
       (fun r hr=>by
         rcases List.mem_append.1 hr with hr | hr
         · exact hb3 r hr
         · obtain rfl:=List.mem_singleton.1 hr;exact ⟨hp,hpb⟩)
       (fun r hr=>by
         rcases List.mem_append.1 hr with hr | hr
         · exact hb4 r hr
         · obtain rfl:=List.mem_singleton.1 hr;exact ⟨hq,hqb⟩)
   · rw [ltF hlt,cond_false]
     exact ⟨c1,c2,c3,c4,by omega,by omega,hb3,hb4,rfl⟩
theorem tame_eq (N:Nat) (hN:10 < N) (x:MM) (most:Int) (h1:1 ≤ most) (h6:most ≤ 6) (k:Nat) (hk1:1 ≤ k) (hk:k ≤ 3):∃ y:MM,g15 N x most (k:Int) = some y∧Pm y k∧(y.1.length:Int) ≤ most:=by
 unfold g15
 obtain ⟨n,hn,n1,n6⟩:∃ n:Nat,imax 1 (imin ((x.1.length:Nat):Int) most) = (n:Int)∧1 ≤ n∧(n:Int) ≤ most:=by
   refine ⟨(imax 1 (imin ((x.1.length:Nat):Int) most)).toNat,?_,?_,?_⟩ <;> simp only [imax,imin] <;> split <;> split <;> omega
 rw [hn,g15L122_eq]
 obtain ⟨d1,d2,d3,d4,l3,l4,b3,b4,e⟩:=tame_loop N hN (fun e11 e12 e13 e14 e15=>some (e14,e15,())) k n hk n1 (by omega) x N 0 [] [] [] [] (by omega) (by omega) rfl rfl (by simp) (by simp)
 simp only [Int.natCast_zero] at e
 refine ⟨(d3,d4,()),e,⟨by simp only;omega,by simp only;omega,by simp only;omega,hk1,hk,fun r hr=>⟨(b3 r hr).1,fun t ht=>by have:=(b3 r hr).2 t ht;simp only [l3];exact this⟩,b4⟩,by simp only [l3];exact n6⟩
end Go.Pv
namespace Go.Pv.Bfs
variable {α:Type} [DecidableEq α] (e:α→Nat→Option α) (m:Nat) (first:α)
def run:α→List Nat→Option α
 | x,[]=>some x
 | x,i :: w=>if i < m then (e x i).bind fun y=>run y w else none
theorem run_snoc (w:List Nat) (i:Nat):∀ x:α,run e m x (w ++ [i]) = (run e m x w).bind fun y=>if i < m then e y i else none:=by
 induction w with
 | nil=>intro x;simp only [List.nil_append,run,Option.bind_some];split <;> simp
 | cons j w ih =>
   intro x
   simp only [List.cons_append,run]
   split
   · cases e x j with
     | none=>rfl
     | some y=>simp only [Option.bind_some];exact ih y
   · rfl
def R (j:Nat) (y:α):Prop:=∃ w:List Nat,w.length = j∧run e m first w = some y
variable {e m first}
theorem R_zero (y:α):R e m first 0 y ↔ y = first:=by
 constructor
 · rintro ⟨w,h1,h2⟩
   obtain rfl:=List.eq_nil_of_length_eq_zero h1
   exact (Option.some.inj h2).symm
 · rintro rfl;exact ⟨[],rfl,rfl⟩
theorem R_succ (j:Nat) (y:α):R e m first (j + 1) y ↔ ∃ x,R e m first j x∧∃ i,i < m∧e x i = some y:=by
 constructor
 · rintro ⟨w,h1,h2⟩
   have hne:w ≠ []:=by intro h;rw [h] at h1;simp at h1
   obtain ⟨v,i,rfl⟩:∃ v i,w = v ++ [i]:=⟨w.dropLast,w.getLast hne,(List.dropLast_concat_getLast hne).symm⟩
   rw [run_snoc] at h2
   cases hv:run e m first v with
   | none=>rw [hv] at h2;cases h2
   | some x =>
     rw [hv] at h2
     simp only [Option.bind_some] at h2
     split at h2
     · rename_i hi
       exact ⟨x,⟨v,by simpa using h1,hv⟩,i,hi,h2⟩
     · cases h2
 · rintro ⟨x,⟨v,h1,h2⟩,i,hi,he⟩
   exact ⟨v ++ [i],by simp [h1],by rw [run_snoc,h2];simp [hi,he]⟩
structure BInv (e:α→Nat→Option α) (m:Nat) (H0:α→Option (α×Nat)) (L:List α) (p i:Nat) (H:α→Option (α×Nat)) (more:List α):Prop where
 old:∀ y v,H0 y = some v→H y = some v
 new:∀ y,y ∈ more ↔ (H y).isSome = true∧H0 y = none
 src:∀ y,y ∈ more→∃ x,x ∈ L∧∃ k:Nat,k < m∧e x k = some y∧H y = some (x,k)
 done:∀ q k,(q < p ∨ q = p∧k < i)→∀ x,L[q]? = some x→k < m→∀ y,e x k = some y→(H y).isSome = true
 nodup:more.Nodup
theorem BInv.start (H0:α→Option (α×Nat)) (L:List α):BInv e m H0 L 0 0 H0 [] :=
 ⟨fun _ _ h=>h,fun y=>⟨fun h=>by simp at h,fun ⟨h1,h2⟩=>by rw [h2] at h1;cases h1⟩,fun y h=>by simp at h,fun q k h=>by omega,List.nodup_nil⟩
theorem BInv.skip {H0 H:α→Option (α×Nat)} {L more:List α} {p i:Nat} (h:BInv e m H0 L p i H more) (x:α) (hx:L[p]? = some x) (hs:∀ y,e x i = some y→(H y).isSome = true):BInv e m H0 L p (i + 1) H more:=by
 refine ⟨h.old,h.new,h.src,fun q k hq z hz hk y hy=>?_,h.nodup⟩
 by_cases hqk:q = p∧k = i
 · obtain ⟨rfl,rfl⟩:=hqk
   rw [hx] at hz
   obtain rfl:=Option.some.inj hz
   exact hs y hy
 · exact h.done q k (by omega) z hz hk y hy
theorem BInv.add {H0 H:α→Option (α×Nat)} {L more:List α} {p i:Nat} (h:BInv e m H0 L p i H more) (x:α) (hx:L[p]? = some x) (hi:i < m) (y:α) (hy:e x i = some y) (hn:H y = none) :
   BInv e m H0 L p (i + 1) (fun z=>if z = y then some (x,i) else H z) (more ++ [y]):=by
 have h0:H0 y = none:=by
   cases hq:H0 y with
   | none=>rfl
   | some v=>rw [h.old y v hq] at hn;cases hn
 have hnm:y ∉ more:=fun hm=>by
   have:=((h.new y).1 hm).1
   rw [hn] at this;cases this
 refine ⟨fun z v hz=>?_,fun z=>?_,fun z hz=>?_,fun q k hq w hw hk z hz=>?_,?_⟩
 · have:z ≠ y:=fun hzy=>by rw [hzy,h0] at hz;cases hz
   simp only [if_neg this]
   exact h.old z v hz
 · rw [List.mem_append,List.mem_singleton]
   by_cases hzy:z = y
   · subst hzy
     simp [h0]
   · simp only [hzy,or_false,if_false]
     exact h.new z
 · by_cases hzy:z = y
   · subst hzy
     exact ⟨x,List.mem_of_getElem? hx,i,hi,hy,by simp⟩
   · have hz:z ∈ more:=by simpa [hzy] using hz
     obtain ⟨w,w1,k,w2,w3,w4⟩:=h.src z hz
     exact ⟨w,w1,k,w2,w3,by simp [hzy,w4]⟩
 · by_cases hzy:z = y
   · simp [hzy]
   · simp only [if_neg hzy]
     by_cases hqk:q = p∧k = i
     · obtain ⟨rfl,rfl⟩:=hqk
       rw [hx] at hw
       obtain rfl:=Option.some.inj hw
       rw [hy] at hz
       exact absurd (Option.some.inj hz).symm hzy
     · exact h.done q k (by omega) w hw hk z hz
 · rw [List.nodup_append]
   exact ⟨h.nodup,by simp,fun a ha b hb=>by rw [List.mem_singleton.1 hb];exact fun hab=>hnm (hab ▸ ha)⟩
theorem BInv.next {H0 H:α→Option (α×Nat)} {L more:List α} {p:Nat} (h:BInv e m H0 L p m H more):BInv e m H0 L (p + 1) 0 H more :=
 ⟨h.old,h.new,h.src,fun q k hq x hx hk y hy=>h.done q k (by omega) x hx hk y hy,h.nodup⟩
structure LInv (e:α→Nat→Option α) (m:Nat) (first:α) (j:Nat) (H:α→Option (α×Nat)) (L:List α):Prop where
 known:∀ y,(H y).isSome = true ↔ ∃ d,d ≤ j∧R e m first d y
 level:∀ y,y ∈ L ↔ R e m first j y∧∀ d,d < j→¬ R e m first d y
 par:∀ y,(H y).isSome = true→y ≠ first→∃ x i d,H y = some (x,i)∧i < m∧e x i = some y∧R e m first d x∧∀ d',d' < d + 1→¬ R e m first d' y
theorem LInv.start (H:α→Option (α×Nat)) (hH:∀ y,(H y).isSome = true ↔ y = first):LInv e m first 0 H [first] :=
 ⟨fun y=>by
   rw [hH]
   constructor
   · intro h;exact ⟨0,Nat.le_refl 0,(R_zero y).2 h⟩
   · rintro ⟨d,hd,h⟩;obtain rfl:d = 0:=by omega
     exact (R_zero y).1 h,
  fun y=>by
   rw [List.mem_singleton,R_zero]
   exact ⟨fun h=>⟨h,fun d hd=>by omega⟩,fun h=>h.1⟩,
  fun y h hne=>absurd ((hH y).1 h) hne⟩
theorem LInv.step {j:Nat} {H H':α→Option (α×Nat)} {L more:List α} (h:LInv e m first j H L) (b:BInv e m H L L.length 0 H' more):LInv e m first (j + 1) H' more:=by
 have knownNew:∀ y,(H' y).isSome = true ↔ ∃ d,d ≤ j + 1∧R e m first d y:=by
   intro y
   constructor
   · intro hy
     cases h0:H y with
     | some v =>
       obtain ⟨d,hd,hr⟩:=(h.known y).1 (by rw [h0];rfl)
       exact ⟨d,by omega,hr⟩
     | none =>
       obtain ⟨x,hx,i,hi,he,_⟩:=b.src y ((b.new y).2 ⟨hy,h0⟩)
       exact ⟨j + 1,Nat.le_refl _,(R_succ j y).2 ⟨x,((h.level x).1 hx).1,i,hi,he⟩⟩
   · rintro ⟨d,hd,hr⟩
     by_cases hk:(H y).isSome = true
     · obtain ⟨v,hv⟩:=Option.isSome_iff_exists.1 hk
       rw [b.old y v hv];rfl
     · have hd:d = j + 1:=by
         by_cases hdj:d ≤ j
         · exact absurd ((h.known y).2 ⟨d,hdj,hr⟩) hk
         · omega
       subst hd
       obtain ⟨x,hx,i,hi,he⟩:=(R_succ j y).1 hr
       have hxL:x ∈ L:=(h.level x).2 ⟨hx,fun d hd hrx=>hk ((h.known y).2 ⟨d + 1,by omega,(R_succ d y).2 ⟨x,hrx,i,hi,he⟩⟩)⟩
       obtain ⟨q,hq⟩:=List.mem_iff_getElem?.1 hxL
       have hql:q < L.length:=(List.getElem?_eq_some_iff.1 hq).1
       exact b.done q i (.inl hql) x hq hi y he
 refine ⟨knownNew,fun y=>?_,fun y hy hne=>?_⟩
 · rw [b.new]
   constructor
   · rintro ⟨h1,h2⟩
     have hno:∀ d,d < j + 1→¬ R e m first d y:=fun d hd hr=>by
       have:=(h.known y).2 ⟨d,by omega,hr⟩
       rw [h2] at this;cases this
     obtain ⟨d,hd,hr⟩:=(knownNew y).1 h1
     have:d = j + 1:=by
       by_cases hdj:d < j + 1
       · exact absurd hr (hno d hdj)
       · omega
     exact ⟨this ▸ hr,hno⟩
   · rintro ⟨h1,h2⟩
     refine ⟨(knownNew y).2 ⟨j + 1,Nat.le_refl _,h1⟩,?_⟩
     cases h0:H y with
     | none=>rfl
     | some v =>
       obtain ⟨d,hd,hr⟩:=(h.known y).1 (by rw [h0];rfl)
       exact absurd hr (h2 d (by omega))
 · cases h0:H y with
   | some v =>
     obtain ⟨x,i,d,g1,g2,g3,g4,g5⟩:=h.par y (by rw [h0];rfl) hne
     exact ⟨x,i,d,b.old y _ g1,g2,g3,g4,g5⟩
   | none =>
     obtain ⟨x,hx,i,hi,he,hH⟩:=b.src y ((b.new y).2 ⟨hy,h0⟩)
     exact ⟨x,i,j,hH,hi,he,((h.level x).1 hx).1,fun d hd hr=>by
       have:=(h.known y).2 ⟨d,by omega,hr⟩
       rw [h0] at this;cases this⟩
inductive Back (H:α→Option (α×Nat)) (first:α):α→List Nat→Prop
 | nil:Back H first first []
 | cons {y x:α} {i:Nat} {ws:List Nat}:y ≠ first→H y = some (x,i)→Back H first x ws→Back H first y (i :: ws)
theorem LInv.back {j:Nat} {H:α→Option (α×Nat)} {L:List α} (h:LInv e m first j H L):∀ (d:Nat) (y:α),d ≤ j→R e m first d y→(∀ d',d' < d→¬ R e m first d' y)→∃ ws,Back H first y ws∧ws.length = d∧run e m first ws.reverse = some y
 | 0,y,_,hr,_=>by
   obtain rfl:=(R_zero y).1 hr
   exact ⟨[],.nil,rfl,rfl⟩
 | d + 1,y,hd,hr,hmin=>by
   have hne:y ≠ first:=fun hy=>hmin 0 (by omega) ((R_zero y).2 hy)
   obtain ⟨x,i,d',g1,g2,g3,g4,g5⟩:=h.par y ((h.known y).2 ⟨d + 1,hd,hr⟩) hne
   have hd':d' = d:=by
     have h1:R e m first (d' + 1) y:=(R_succ d' y).2 ⟨x,g4,i,g2,g3⟩
     have h2:¬ d' + 1 < d + 1:=fun hl=>hmin _ hl h1
     have h3:¬ d + 1 < d' + 1:=fun hl=>g5 _ hl hr
     omega
   subst hd'
   obtain ⟨ws,w1,w2,w3⟩:=h.back d' x (by omega) g4 fun c hc hrx=>hmin (c + 1) (by omega) ((R_succ c y).2 ⟨x,hrx,i,g2,g3⟩)
   refine ⟨i :: ws,.cons hne g1 w1,by simp [w2],?_⟩
   rw [List.reverse_cons,run_snoc,w3]
   simp [g2,g3]
theorem LInv.all {j:Nat} {H:α→Option (α×Nat)} (h:LInv e m first j H []):∀ (d:Nat) (y:α),R e m first d y→∃ d',d' < j∧R e m first d' y:=by
 have lt:∀ d y,d ≤ j→R e m first d y→∃ d',d' < j∧R e m first d' y:=by
   intro d y hd hr
   by_cases hdj:d < j
   · exact ⟨d,hdj,hr⟩
   · obtain rfl:d = j:=by omega
     by_cases hex:∃ d',d' < d∧R e m first d' y
     · exact hex
     · have:=(h.level y).2 ⟨hr,fun d' hd' hr'=>hex ⟨d',hd',hr'⟩⟩
       simp at this
 intro d
 induction d with
 | zero=>intro y hr;exact lt 0 y (by omega) hr
 | succ d ih =>
   intro y hr
   obtain ⟨x,hx,i,hi,he⟩:=(R_succ d y).1 hr
   obtain ⟨d',hd',hr'⟩:=ih x hx
   exact lt (d' + 1) y (by omega) ((R_succ d' y).2 ⟨x,hr',i,hi,he⟩)
end Go.Pv.Bfs
namespace Go.Pv
def nx (x:MM) (s i:Int):Int:=(x.1.getD s.toNat []).getD i.toNat 0
def ou (x:MM) (s i:Int):Int:=(x.2.1.getD s.toNat []).getD i.toNat 0
def sayL (x:MM):Int→List Int→List Int×Int
 | s,[]=>([],s)
 | s,i :: w=>(ou x s i :: (sayL x (nx x s i) w).1,(sayL x (nx x s i) w).2)
def InW (k:Nat) (w:List Int):Prop:=∀ i ∈ w,0 ≤ i∧i < (k:Int)
theorem Pm.step {x:MM} {k:Nat} (h:Pm x k) {s i:Int} (s0:0 ≤ s) (s1:s < (x.1.length:Int)) (i0:0 ≤ i) (i1:i < (k:Int)) :
   idx s x.1.length∧idx s x.2.1.length∧idx i (x.1.getD s.toNat []).length∧idx i (x.2.1.getD s.toNat []).length∧(0 ≤ nx x s i∧nx x s i < (x.1.length:Int))∧0 ≤ ou x s i∧ou x s i ≤ 3:=by
 obtain ⟨a1,a2⟩:=h.rowN _ (getD_mem (l:=x.1) (i:=s.toNat) (by omega) [])
 obtain ⟨b1,b2⟩:=h.rowO _ (getD_mem (l:=x.2.1) (i:=s.toNat) (by rw [h.out];omega) [])
 have ho:=h.out
 exact ⟨⟨s0,s1⟩,⟨s0,by rw [ho];exact s1⟩,⟨i0,by rw [a1];exact i1⟩,⟨i0,by rw [b1];exact i1⟩,a2 _ (getD_mem (by omega) 0),b2 _ (getD_mem (by omega) 0)⟩
theorem Pm.says_loop {x:MM} {k:Nat} (h:Pm x k) (N:Nat) {C:Type} (k0:Int→MM→List Int→Option C) (w:List Int) (hw:InW k w) (hl:w.length ≤ 1000) :
   ∀ (F i:Nat) (s:Int) (o:List Int),w.length - i < F→i ≤ w.length→0 ≤ s→s < (x.1.length:Int)→o.length = i →
     g63L58f N F k0 s w (w.length:Int) (i:Int) x o = k0 (sayL x s (w.drop i)).2 x (o ++ (sayL x s (w.drop i)).1)
 | 0,i,s,o,hF,_,_,_,_=>by omega
 | F + 1,i,s,o,hF,hi,s0,s1,ho=>by
   rw [g63L58f_succ]
   unfold g63L58B
   by_cases hlt:i < w.length
   · obtain ⟨i0,i1⟩:=hw _ (getD_mem hlt 0)
     obtain ⟨q1,q2,q3,q4,n,_⟩:=h.step s0 s1 i0 i1
     rw [ltT hlt,cond_true,if_pos (idxT hlt),Int.toNat_natCast,if_pos q2,if_pos q4,if_pos (by simp [maxCount];omega),if_pos q1,if_pos q3,wn i (by omega)]
     show g63L58f N F k0 (nx x s (w.getD i 0)) w (w.length:Int) ((i + 1:Nat):Int) x (o ++ [ou x s (w.getD i 0)]) = _
     rw [h.says_loop N k0 w hw hl F (i + 1) (nx x s (w.getD i 0)) (o ++ [ou x s (w.getD i 0)]) (by omega) (by omega) n.1 n.2 (by simp [ho]),getD_drop w i 0 hlt]
     simp [sayL]
   · rw [ltF hlt,cond_false,List.drop_eq_nil_of_le (by omega)]
     simp [sayL]
theorem Pm.says {x:MM} {k:Nat} (h:Pm x k) (N:Nat) (hN:1000 < N) (w:List Int) (hw:InW k w) (hl:w.length ≤ 1000) (s:Int) (s0:0 ≤ s) (s1:s < (x.1.length:Int)):g63 N x s w = some ((sayL x s w).1,(sayL x s w).2,()):=by
 unfold g63
 rw [g63L58_eq]
 have:=h.says_loop N (fun e1 e2 e3=>some (e3,e1,())) w hw hl N 0 s [] (by omega) (by omega) s0 s1 rfl
 simpa using this
theorem Pm.word_loop {x:MM} {k:Nat} (h:Pm x k) (N:Nat) {C:Type} (k0:MM→List Int→Option C) (l:List Int) (m:Nat) (hm:m ≤ 1000) :
   ∀ (F i:Nat) (o:List Int),m - i < F→i ≤ m→o.length = i→InW k o→∃ w,InW k w∧w.length ≤ m∧g26L58f N F k0 l (m:Int) (i:Int) x o = k0 x w
 | 0,i,o,hF,_,_,_=>by omega
 | F + 1,i,o,hF,hi,ho,hb=>by
   rw [g26L58f_succ]
   unfold g26L58B
   have:=h.k1;have:=h.k3
   by_cases hl:i < l.length
   · rw [ltT hl,cond_true]
     by_cases hlt:i < m
     · obtain ⟨v,ev,v0,v1⟩:=low (l.getD i 0) (m:=(k:Int)) (by omega) (by omega)
       have hw:IntKind.wrap .u64 (k:Int) = (k:Int):=wu64n (by omega) (by omega)
       rw [ltT hlt,cond_true,if_pos (idxT hl),h.inputs41 N,Int.toNat_natCast]
       simp only [Option.bind_some]
       rw [hw,if_neg (by omega),ev,if_pos (by simp [maxCount];omega),wn i (by omega)]
       exact h.word_loop N k0 l m hm F (i + 1) (o ++ [v]) (by omega) (by omega) (by simp [ho]) fun j hj=>by
         rcases List.mem_append.1 hj with hj | hj
         · exact hb j hj
         · obtain rfl:=List.mem_singleton.1 hj;exact ⟨v0,v1⟩
     · rw [ltF hlt,cond_false]
       exact ⟨o,hb,by omega,rfl⟩
   · rw [ltF hl,cond_false]
     exact ⟨o,hb,by omega,rfl⟩
theorem Pm.word {x:MM} {k:Nat} (h:Pm x k) (N:Nat) (hN:1000 < N) (l:List Int) (m:Nat) (hm:m ≤ 1000):∃ w,InW k w∧w.length ≤ m∧g26 N x l (m:Int) = some w:=by
 unfold g26
 rw [g26L58_eq]
 exact h.word_loop N (fun e2 e3=>some e3) l m hm N 0 [] (by omega) (by omega) rfl (by intro i hi;simp at hi)
end Go.Pv
namespace Go.Pv
end Go.Pv
namespace Go.Pv
def allN:Nat→Nat→(Nat→Bool)→Bool
 | 0,_,_=>true
 | m + 1,i,f=>f i && allN m (i + 1) f
abbrev GG:=List Int×List Int×Unit
structure Gr (x:MM) (w:List Int) (g:GG):Prop where
 l1:g.1.length = 6
 l2:g.2.1.length = 6
 now:∀ s:Nat,s < x.1.length→g.2.1.getD s 0 = (sayL x (s:Int) w).2
 grp:∀ s t:Nat,s < x.1.length→t < x.1.length→(g.1.getD s 0 = g.1.getD t 0 ↔ (sayL x (s:Int) w).1 = (sayL x (t:Int) w).1)
theorem getD_set (l:List Int) (i j:Nat) (v:Int) (hi:i < l.length):(l.set i v).getD j 0 = if j = i then v else l.getD j 0:=by
 rw [List.getD_eq_getElem?_getD,List.getD_eq_getElem?_getD,List.getElem?_set]
 by_cases h:i = j
 · subst h;simp [hi]
 · rw [if_neg h,if_neg (fun e=>h e.symm)]
end Go.Pv
namespace Go.Pv
open Bfs
theorem find_put {α β:Type} [DecidableEq α] (eq:α→α→Bool) (he:∀ a b,eq a b = decide (a = b)) (k:α) (v:β) (k':α):∀ l:List (α×β),mapFind eq k' (mapPut eq k v l) = if k' = k then some v else mapFind eq k' l
 | []=>by
   simp only [mapPut,mapFind,he,decide_eq_true_eq]
 | q :: r=>by
   simp only [mapPut,he,decide_eq_true_eq]
   by_cases h:k = q.1
   · rw [if_pos h]
     simp only [mapFind,he,decide_eq_true_eq]
     by_cases h2:k' = k
     · rw [if_pos h2,if_pos h2]
     · rw [if_neg h2,if_neg h2,if_neg (by rw [← h];exact h2)]
   · rw [if_neg h]
     simp only [mapFind,he,decide_eq_true_eq]
     by_cases h2:k' = q.1
     · rw [if_pos h2,if_pos h2,if_neg (by rw [h2];exact fun h3=>h h3.symm)]
     · rw [if_neg h2,if_neg h2,find_put eq he k v k' r]
abbrev TT:=(Int×Int×Unit)×Bool×Unit
abbrev tTT:Ty:=.pair (.pair (.int .i64) (.pair (.int .i64) .unit)) (.pair .bool .unit)
theorem beqT (a b:TT):Ty.beq tTT a b = decide (a = b):=by
 obtain ⟨⟨a1,a2,a3⟩,a4,a5⟩:=a
 obtain ⟨⟨b1,b2,b3⟩,b4,b5⟩:=b
 simp only [Ty.beq,ieq,beqB,Bool.and_true,Prod.mk.injEq]
 by_cases h1:a1 = b1 <;> by_cases h2:a2 = b2 <;> cases a4 <;> cases b4 <;> simp [h1,h2]
abbrev How:=List (TT×TT×Int×Unit)
def Hh (how:How) (y:TT):Option (TT×Nat):=(mapFind (Ty.beq tTT) y how).map fun v=>(v.1,v.2.1.toNat)
theorem Hh_put (how:How) (y x:TT) (i:Nat):Hh (mapPut (Ty.beq tTT) y (x,(i:Int),()) how) = fun z=>if z = y then some (x,i) else Hh how z:=by
 funext z
 unfold Hh
 rw [find_put _ beqT]
 by_cases h:z = y
 · rw [if_pos h,if_pos h];rfl
 · rw [if_neg h,if_neg h]
def eP (a b:MM) (x:TT) (i:Nat):Option TT:=if x.2.1 = true then none else some ((nx a x.1.1 i,nx b x.1.2.1 i,()),!ieq (ou a x.1.1 i) (ou b x.1.2.1 i),())
def VP (a b:MM) (x:TT):Prop:=(0 ≤ x.1.1∧x.1.1 < (a.1.length:Int))∧0 ≤ x.1.2.1∧x.1.2.1 < (b.1.length:Int)
theorem VP.step {a b:MM} {k:Nat} (ha:Pm a k) (hb:Pm b k) {x y:TT} (hx:VP a b x) {i:Nat} (hi:i < k) (h:eP a b x i = some y):VP a b y:=by
 unfold eP at h
 split at h
 · cases h
 · obtain rfl:=Option.some.inj h
   obtain ⟨_,_,_,_,n1,_⟩:=ha.step hx.1.1 hx.1.2 (i:=(i:Int)) (by omega) (by omega)
   obtain ⟨_,_,_,_,n2,_⟩:=hb.step hx.2.1 hx.2.2 (i:=(i:Int)) (by omega) (by omega)
   exact ⟨n1,n2⟩
theorem next_eq {a b:MM} {k:Nat} (ha:Pm a k) (hb:Pm b k) (N:Nat) {x:TT} (hx:VP a b x) {i:Nat} (hi:i < k) :
   g99 N x (i:Int) a b = some (((nx a x.1.1 i,nx b x.1.2.1 i,()),!ieq (ou a x.1.1 i) (ou b x.1.2.1 i),()),!x.2.1,()):=by
 unfold g99
 obtain ⟨a1,a2,a3,a4,_⟩:=ha.step hx.1.1 hx.1.2 (i:=(i:Int)) (by omega) (by omega)
 obtain ⟨b1,b2,b3,b4,_⟩:=hb.step hx.2.1 hx.2.2 (i:=(i:Int)) (by omega) (by omega)
 rw [if_pos a1,if_pos a3,if_pos b1,if_pos b3,if_pos a2,if_pos a4,if_pos b2,if_pos b4]
 rfl
theorem cb_eq {a b:MM} {k:Nat} (ha:Pm a k) (hb:Pm b k) (N:Nat) {x:TT} (hx:VP a b x) {i:Nat} (hi:i < k) (how:How) :
   ∃ (y:TT) (ok:Bool) (how':How),g117x N x (i:Int) a b how = some ((y,ok,()),((),(a,b,()),(),how',()),()) ∧
     ((ok = false∧how' = how∧∀ z,eP a b x i = some z→(Hh how z).isSome = true) ∨ (ok = true∧eP a b x i = some y∧Hh how y = none∧how' = mapPut (Ty.beq tTT) y (x,(i:Int),()) how)):=by
 unfold g117x
 rw [next_eq ha hb N hx hi]
 simp only [Option.bind_some]
 cases hap:x.2.1 with
 | true =>
   simp only [Bool.not_true,Bool.not_false,cond_true]
   exact ⟨_,_,_,rfl,.inl ⟨rfl,rfl,fun z hz=>by simp [eP,hap] at hz⟩⟩
 | false =>
   have hz:eP a b x i = some ((nx a x.1.1 i,nx b x.1.2.1 i,()),!ieq (ou a x.1.1 i) (ou b x.1.2.1 i),()):=by simp [eP,hap]
   simp only [Bool.not_true,Bool.not_false,cond_false]
   generalize hy:(((nx a x.1.1 i,nx b x.1.2.1 i,()),!ieq (ou a x.1.1 i) (ou b x.1.2.1 i),()):TT) = y at hz ⊢
   cases hf:mapFind (Ty.beq tTT) y how with
   | none =>
     refine ⟨y,true,mapPut (Ty.beq tTT) y (x,(i:Int),()) how,?_,.inr ⟨rfl,hz,by unfold Hh;rw [hf];rfl,rfl⟩⟩
     rfl
   | some v =>
     refine ⟨y,false,how,?_,.inl ⟨rfl,rfl,fun z h=>by rw [hz] at h;obtain rfl:=Option.some.inj h;unfold Hh;rw [hf];rfl⟩⟩
     rfl
def NN (how:How):Prop:=∀ y v,mapFind (Ty.beq tTT) y how = some v→0 ≤ v.2.1
theorem NN.put {how:How} (h:NN how) (y x:TT) (i:Nat):NN (mapPut (Ty.beq tTT) y (x,(i:Int),()) how):=by
 intro z v hv
 rw [find_put _ beqT] at hv
 split at hv
 · obtain rfl:=Option.some.inj hv
   show (0:Int) ≤ (i:Int)
   omega
 · exact h z v hv
abbrev CB (t:Ty):=CbF t (.pair tTT (.pair .bool .unit))
def Does (a b:MM) (k:Nat) {t:Ty} (run:CB t) (st:How→t.T):Prop :=
 ∀ (how:How) (x:TT) (i:Nat),VP a b x→i < k→∃ (y:TT) (ok:Bool) (how':How),run.f (st how) [.dat tTT x,.dat (.int .i64) (i:Int)] = some (st how',(y,ok,())) ∧
   ((ok = false∧how' = how∧∀ z,eP a b x i = some z→(Hh how z).isSome = true) ∨ (ok = true∧eP a b x i = some y∧Hh how y = none∧how' = mapPut (Ty.beq tTT) y (x,(i:Int),()) how))
theorem inputs_loop {a b:MM} {k:Nat} (ha:Pm a k) (hb:Pm b k) (N:Nat) {t:Ty} {run:CB t} {st:How→t.T} (hd:Does a b k run st) {C:Type} (k0:List TT→Int→Int→List TT→TT→CB t→t.T→TT→Int→Option C)
   (H0:TT→Option (TT×Nat)) (L:List TT) (hL:L.length ≤ 1000) (p:Nat) (x:TT) (hx:L[p]? = some x) (hv:VP a b x) (q1 q2:Int) (f:TT) :
   ∀ (F i:Nat) (how:How) (more:List TT),k - i < F→i ≤ k→BInv (eP a b) k H0 L p i (Hh how) more→NN how→(∀ y ∈ more,VP a b y)→more.length ≤ p * k + i →
     ∃ (how':How) (more':List TT),BInv (eP a b) k H0 L p k (Hh how') more'∧NN how'∧(∀ y ∈ more',VP a b y)∧more'.length ≤ p * k + k ∧
       g134xL416358f N F t k0 L q1 q2 (k:Int) (i:Int) more x run (st how) f (k:Int) = k0 L q1 q2 more' x run (st how') f (k:Int)
 | 0,i,how,more,hF,_,_,_,_,_=>by omega
 | F + 1,i,how,more,hF,hi,hB,hn,hm,hl=>by
   have k3:=ha.k3
   have hp:p < L.length:=(List.getElem?_eq_some_iff.1 hx).1
   have hpk:p * k ≤ 1000 * 3:=Nat.mul_le_mul (by omega) k3
   rw [g134xL416358f_succ]
   unfold g134xL416358B
   by_cases hlt:i < k
   · obtain ⟨y,ok,how',e,hc⟩:=hd how x i hv hlt
     rw [ltT hlt,cond_true,e]
     simp only [Option.bind_some]
     rw [wn i (by omega)]
     rcases hc with ⟨rfl,rfl,hs⟩ | ⟨rfl,hy,hno,rfl⟩
     · rw [cond_false]
       exact inputs_loop ha hb N hd k0 H0 L hL p x hx hv q1 q2 f F (i + 1) how' more (by omega) (by omega) (hB.skip x hx hs) hn hm (by omega)
     · rw [cond_true,if_pos (by simp [maxCount];omega)]
       have hB':=hB.add x hx hlt y hy hno
       rw [← Hh_put] at hB'
       exact inputs_loop ha hb N hd k0 H0 L hL p x hx hv q1 q2 f F (i + 1) _ (more ++ [y]) (by omega) (by omega) hB' (hn.put y x i) (fun z hz=>by
         rcases List.mem_append.1 hz with hz | hz
         · exact hm z hz
         · rw [List.mem_singleton.1 hz];exact hv.step ha hb hlt hy) (by simp;omega)
   · rw [ltF hlt,cond_false]
     have:i = k:=by omega
     subst this
     exact ⟨how,more,hB,hn,hm,hl,rfl⟩
theorem level_loop {a b:MM} {k:Nat} (ha:Pm a k) (hb:Pm b k) (N:Nat) (hN:10 < N) {t:Ty} {run:CB t} {st:How→t.T} (hd:Does a b k run st) {C:Type} (k0:List TT→CB t→t.T→TT→Int→Option C)
   (H0:TT→Option (TT×Nat)) (L:List TT) (hL:L.length ≤ 1000) (hLv:∀ y ∈ L,VP a b y) (f:TT) :
   ∀ (F p:Nat) (how:How) (more:List TT),L.length - p < F→p ≤ L.length→BInv (eP a b) k H0 L p 0 (Hh how) more→NN how→(∀ y ∈ more,VP a b y)→more.length ≤ p * k →
     ∃ (how':How) (more':List TT),BInv (eP a b) k H0 L L.length 0 (Hh how') more'∧NN how'∧(∀ y ∈ more',VP a b y) ∧
       g134xL1626f N F t k0 L (L.length:Int) (p:Int) more run (st how) f (k:Int) = k0 more' run (st how') f (k:Int)
 | 0,p,how,more,hF,_,_,_,_,_=>by omega
 | F + 1,p,how,more,hF,hp,hB,hn,hm,hl=>by
   have k3:=ha.k3
   rw [g134xL1626f_succ]
   unfold g134xL1626B
   by_cases hlt:p < L.length
   · have hx:L[p]? = some (L.getD p ((0,0,()),false,())):=by rw [List.getElem?_eq_getElem hlt];simp [hlt]
     obtain ⟨how',more',b1,b2,b3,b4,e⟩:=inputs_loop ha hb N hd (fun e3 e4 e5 e6 e7 e8 e9 e10 e11=>g134xL1626f N F t k0 e3 e4 (IntKind.wrap .i64 (e5 + 1)) e6 e8 e9 e10 e11) H0 L hL p (L.getD p ((0,0,()),false,())) hx (hLv _ (getD_mem hlt _)) (L.length:Int) (p:Int) f N 0 how more (by omega) (by omega) hB hn hm (by omega)
     rw [ltT hlt,cond_true,if_pos (idxT hlt),Int.toNat_natCast,g134xL416358_eq]
     refine Exists.imp (fun how2=>Exists.imp fun more2 h=>?_) (level_loop ha hb N hN hd k0 H0 L hL hLv f F (p + 1) how' more' (by omega) (by omega) b1.next b2 b3 (by rw [Nat.add_mul,Nat.one_mul];exact b4))
     refine ⟨h.1,h.2.1,h.2.2.1,?_⟩
     refine Eq.trans e ?_
     rw [wn p (by omega)]
     exact h.2.2.2
   · rw [ltF hlt,cond_false]
     have:p = L.length:=by omega
     subst this
     exact ⟨how,more,hB,hn,hm,rfl⟩
end Go.Pv
namespace Go.Pv
open Bfs
theorem nodup_len {α:Type} [DecidableEq α]:∀ {L M:List α},L.Nodup→(∀ d ∈ L,d ∈ M)→L.length ≤ M.length
 | [],_,_,_=>by simp
 | a :: L,M,h,hm=>by
   have h1:=List.nodup_cons.1 h
   have hmem:a ∈ M:=hm a List.mem_cons_self
   have ih:=nodup_len (L:=L) (M:=M.erase a) h1.2 (fun d hd=>by
     have hne:d ≠ a:=fun he=>h1.1 (he ▸ hd)
     exact (List.mem_erase_of_ne hne).2 (hm d (List.mem_cons_of_mem _ hd)))
   have:=List.length_erase_of_mem hmem
   have hpos:0 < M.length:=List.length_pos_of_mem hmem
   simp only [List.length_cons]
   omega
def univ:List TT:=[0,1,2,3,4,5].flatMap fun s=>[0,1,2,3,4,5].flatMap fun t=>[((s,t,()),false,()),((s,t,()),true,())]
theorem univ_len:univ.length = 72:=by decide
theorem six (s:Int) (h0:0 ≤ s) (h6:s < 6):s ∈ [(0:Int),1,2,3,4,5]:=by
 simp only [List.mem_cons,List.not_mem_nil,or_false];omega
theorem VP.univ {a b:MM} {k:Nat} (ha:Pm a k) (hb:Pm b k) {x:TT} (hx:VP a b x):x ∈ Go.Pv.univ:=by
 have h1:=ha.n6
 have h2:=hb.n6
 obtain ⟨⟨s,t,u⟩,o,v⟩:=x
 unfold Go.Pv.univ
 rw [List.mem_flatMap]
 refine ⟨s,six s hx.1.1 (by have:=hx.1.2;simp only at this;omega),?_⟩
 rw [List.mem_flatMap]
 refine ⟨t,six t hx.2.1 (by have:=hx.2.2;simp only at this;omega),?_⟩
 cases o <;> simp
theorem few72 {a b:MM} {k:Nat} (ha:Pm a k) (hb:Pm b k) {L:List TT} (hn:L.Nodup) (hv:∀ y ∈ L,VP a b y):L.length ≤ 72:=by
 have:=nodup_len hn (fun y hy=>(hv y hy).univ ha hb)
 rw [univ_len] at this
 exact this
theorem back_loop (N:Nat) {C:Type} (k0:TT→MM→MM→List Int→Bool→TT→List Int→How→((TT×Unit)→Option Bool)→Option C) (first:TT) (a b:MM) (w0:List Int) (b0:Bool) (how:How) (hn:NN how) (fd:(TT×Unit)→Option Bool) :
   ∀ (ws:List Nat) (y:TT) (F:Nat) (w:List Int),Bfs.Back (Hh how) first y ws→ws.length < F→w.length + ws.length ≤ 1000 →
     g97xL960924f N F k0 first a b w0 b0 y w how fd = k0 first a b w0 b0 first (w ++ ws.map fun i:Nat=>(i:Int)) how fd:=by
 intro ws
 induction ws with
 | nil =>
   intro y F w hb hF hl
   cases hb
   obtain ⟨F,rfl⟩:∃ F',F = F' + 1:=⟨F - 1,by simp at hF;omega⟩
   rw [g97xL960924f_succ]
   unfold g97xL960924B
   show (bif (!Ty.beq tTT first first) then _ else _) = _
   rw [beqT,decide_eq_true rfl]
   simp
 | cons i ws ih =>
   intro y F w hb hF hl
   obtain ⟨F,rfl⟩:∃ F',F = F' + 1:=⟨F - 1,by simp at hF;omega⟩
   cases hb with
   | cons hne hH hB =>
     rename_i x
     rw [g97xL960924f_succ]
     unfold g97xL960924B
     show (bif (!Ty.beq tTT y first) then (if w.length + [(Option.getD (mapFind (Ty.beq tTT) y how) (((0,0,()),false,()),0,())).2.1].length ≤ maxCount then g97xL960924f N F k0 first a b w0 b0 (Option.getD (mapFind (Ty.beq tTT) y how) (((0,0,()),false,()),0,())).1 (w ++ [(Option.getD (mapFind (Ty.beq tTT) y how) (((0,0,()),false,()),0,())).2.1]) how fd else none) else _) = _
     rw [beqT,decide_eq_false hne,Bool.not_false,cond_true]
     unfold Hh at hH
     cases hf:mapFind (Ty.beq tTT) y how with
     | none=>rw [hf] at hH;cases hH
     | some v =>
       rw [hf] at hH
       have hH:=Option.some.inj hH
       have hv:=hn y v hf
       simp only [Prod.mk.injEq] at hH
       obtain ⟨h1,h2⟩:=hH
       simp only [List.length_cons] at hF hl
       simp only [Option.getD_some]
       rw [if_pos (by simp [maxCount];omega),h1,show v.2.1 = ((i:Nat):Int) by omega,ih x F _ hB (by omega) (by simp;omega)]
       simp
def sw (p:List Int) (i:Nat):List Int:=p.mapIdx fun q v=>if q < i ∨ p.length - i ≤ q then p.getD (p.length - 1 - q) 0 else v
theorem sw_len (p:List Int) (i:Nat):(sw p i).length = p.length:=by simp [sw]
theorem sw_get (p:List Int) (i q:Nat) (hq:q < p.length):(sw p i).getD q 0 = if q < i ∨ p.length - i ≤ q then p.getD (p.length - 1 - q) 0 else p.getD q 0:=by
 unfold sw
 rw [List.getD_eq_getElem?_getD,List.getElem?_mapIdx,List.getElem?_eq_getElem hq]
 simp [hq]
theorem ext_getD {l m:List Int} (h:l.length = m.length) (hg:∀ q,q < l.length→l.getD q 0 = m.getD q 0):l = m:=by
 apply List.ext_getElem h
 intro q h1 h2
 have:=hg q h1
 rw [List.getD_eq_getElem?_getD,List.getD_eq_getElem?_getD,List.getElem?_eq_getElem h1,List.getElem?_eq_getElem h2] at this
 exact this
theorem sw_zero (p:List Int):sw p 0 = p:=ext_getD (sw_len p 0) fun q hq=>by
 rw [sw_len] at hq
 rw [sw_get p 0 q hq,if_neg (by omega)]
theorem sw_end (p:List Int) (i:Nat) (h:p.length ≤ 2 * i + 1):sw p i = p.reverse:=by
 refine ext_getD (by rw [sw_len,List.length_reverse]) fun q hq=>?_
 rw [sw_len] at hq
 have hr:p.reverse.getD q 0 = p.getD (p.length - 1 - q) 0:=by
   rw [List.getD_eq_getElem?_getD,List.getD_eq_getElem?_getD,List.getElem?_reverse hq]
 rw [sw_get p i q hq,hr]
 split
 · rfl
 · congr 1;omega
theorem sw_step (p:List Int) (i:Nat) (h:2 * i + 1 < p.length):((sw p i).set i ((sw p i).getD (p.length - 1 - i) 0)).set (p.length - 1 - i) ((sw p i).getD i 0) = sw p (i + 1):=by
 refine ext_getD (by simp [sw_len]) fun q hq=>?_
 simp only [List.length_set,sw_len] at hq
 rw [getD_set _ _ _ _ (by simp [sw_len];omega),getD_set _ _ _ _ (by rw [sw_len];omega),sw_get p (i + 1) q hq,sw_get p i i (by omega),sw_get p i (p.length - 1 - i) (by omega),sw_get p i q hq]
 rw [if_neg (show ¬ (i < i ∨ p.length - i ≤ i) by omega),if_neg (show ¬ (p.length - 1 - i < i ∨ p.length - i ≤ p.length - 1 - i) by omega)]
 by_cases h1:q = p.length - 1 - i
 · rw [if_pos h1,if_pos (by omega)];congr 1;omega
 · rw [if_neg h1]
   by_cases h2:q = i
   · rw [if_pos h2,if_pos (by omega)];congr 1;omega
   · rw [if_neg h2]
     by_cases h3:q < i ∨ p.length - i ≤ q
     · rw [if_pos h3,if_pos (by omega)]
     · rw [if_neg h3,if_neg (by omega)]
theorem rev_loop (N:Nat) {C:Type} (k0:List Int→Option C) (p:List Int) (hp:p.length ≤ 1000) :
   ∀ (F i:Nat),p.length - i < F→2 * i ≤ p.length + 1→g114xL6f N F k0 (i:Int) ((p.length:Int) - 1 - (i:Int)) (sw p i) = k0 p.reverse
 | 0,i,hF,_=>by omega
 | F + 1,i,hF,hi=>by
   rw [g114xL6f_succ]
   unfold g114xL6B
   by_cases hlt:2 * i + 1 < p.length
   · have e1:decide ((i:Int) < (p.length:Int) - 1 - (i:Int)) = true:=decide_eq_true (by omega)
     have ej:Int.toNat ((p.length:Int) - 1 - (i:Int)) = p.length - 1 - i:=by omega
     have hl:=sw_len p i
     rw [e1,cond_true,if_pos ⟨by omega,by omega⟩,if_pos (by omega),if_pos ⟨by omega,by omega⟩,if_pos (by omega),if_pos ⟨by omega,by omega⟩,if_pos (by omega),if_pos ⟨by omega,by rw [List.length_set];omega⟩,if_pos (by rw [List.length_set];omega),ej,Int.toNat_natCast,wn i (by omega),w64 (by omega) (by omega),sw_step p i hlt]
     have:=rev_loop N k0 p hp F (i + 1) (by omega) (by omega)
     rw [show (p.length:Int) - 1 - ((i + 1:Nat):Int) = (p.length:Int) - 1 - (i:Int) - 1 by omega] at this
     exact this
   · have e1:decide ((i:Int) < (p.length:Int) - 1 - (i:Int)) = false:=decide_eq_false (by omega)
     rw [e1,cond_false,sw_end p i (by omega)]
theorem reverse_eq (N:Nat) (hN:1000 < N) (p:List Int) (hp:p.length ≤ 1000):g114x N p = some ((),((),p.reverse,()),()):=by
 unfold g114x
 rw [g114xL6_eq,w64 (by omega) (by omega)]
 have:=rev_loop N (fun e1=>some (((()),((),e1,()),(())):(g114xS).R)) p hp N 0 (by omega) (by omega)
 rw [sw_zero] at this
 simp only [Int.natCast_zero,Int.sub_zero] at this
 exact this
theorem found_loop (N:Nat) (hN:1000 < N) {C:Type} (k0 k1:TT→MM→MM→List Int→Bool→How→((TT×Unit)→Option Bool)→Option C) (fd:(TT×Unit)→Option Bool) (hfd:∀ x,fd (x,()) = some x.2.1) (L:List TT) (hL:L.length ≤ 1000) (first:TT) (a b:MM) (w0:List Int) (b0:Bool) (how:How) (hn:NN how)
   (hback:∀ y ∈ L,y.2.1 = true→∃ ws,Bfs.Back (Hh how) first y ws∧ws.length ≤ 100) :
   ∀ (F i:Nat),L.length - i < F→i ≤ L.length →
     ((∀ y ∈ L.drop i,y.2.1 = false)∧g97xL938f N F k0 k1 fd L (L.length:Int) (i:Int) first a b w0 b0 how fd = k1 first a b w0 b0 how fd) ∨
     ∃ y ∈ L,y.2.1 = true∧∃ ws,Bfs.Back (Hh how) first y ws∧g97xL938f N F k0 k1 fd L (L.length:Int) (i:Int) first a b w0 b0 how fd = k0 first a b (ws.reverse.map fun i:Nat=>(i:Int)) true how fd
 | 0,i,hF,_=>by omega
 | F + 1,i,hF,hi=>by
   rw [g97xL938f_succ]
   unfold g97xL938B
   by_cases hlt:i < L.length
   · rw [ltT hlt,cond_true,if_pos (idxT hlt),Int.toNat_natCast,hfd]
     simp only [Option.bind_some]
     have hm:=getD_mem hlt (((0,0,()),false,()):TT)
     rw [getD_drop L i ((0,0,()),false,()) hlt]
     cases hy:(L.getD i ((0,0,()),false,())).2.1 with
     | false =>
       simp only [Bool.not_false,cond_true]
       rw [wn i (by omega)]
       rcases found_loop N hN k0 k1 fd hfd L hL first a b w0 b0 how hn hback F (i + 1) (by omega) (by omega) with ⟨h1,h2⟩ | h
       · refine .inl ⟨fun y hy'=>?_,h2⟩
         rcases List.mem_cons.1 hy' with rfl | hy'
         · exact hy
         · exact h1 y hy'
       · exact .inr h
     | true =>
       simp only [Bool.not_true,cond_false]
       obtain ⟨ws,hB,hl⟩:=hback _ hm hy
       refine .inr ⟨_,hm,hy,ws,hB,?_⟩
       rw [g97xL960924_eq,back_loop N _ first a b w0 b0 how hn fd ws _ N [] hB (by omega) (by simp;omega)]
       rw [reverse_eq N hN _ (by simp;omega)]
       simp [List.map_reverse]
   · rw [ltF hlt,cond_false,List.drop_eq_nil_of_le (by omega)]
     exact .inl ⟨by simp,rfl⟩
end Go.Pv
namespace Go.Pv
open Bfs
theorem Back_uniq {H:TT→Option (TT×Nat)} {first:TT}:∀ {y:TT} {ws vs:List Nat},Bfs.Back H first y ws→Bfs.Back H first y vs→ws = vs:=by
 intro y ws vs h
 induction h generalizing vs with
 | nil =>
   intro h2
   cases h2 with
   | nil=>rfl
   | cons hne _ _=>exact absurd rfl hne
 | cons hne hH hB ih =>
   intro h2
   cases h2 with
   | nil=>exact absurd rfl hne
   | cons hne2 hH2 hB2 =>
     rw [hH] at hH2
     obtain ⟨rfl,rfl⟩:=Prod.mk.inj (Option.some.inj hH2)
     rw [ih hB2]
def Ends (a b:MM) (k:Nat) (first:TT) (ws:List Nat):Prop:=∃ y,run (eP a b) k first ws = some y∧y.2.1 = true∧∀ d,d < ws.length→∀ z,R (eP a b) k first d z→z.2.1 = false
def Never (a b:MM) (k:Nat) (first:TT):Prop:=∀ d z,R (eP a b) k first d z→z.2.1 = false
theorem levels_loop {a b:MM} {k:Nat} (ha:Pm a k) (hb:Pm b k) (N:Nat) (hN:1000 < N) {t:Ty} {run0:CB t} {st:How→t.T} {stF:List Int→How→t.T} (hd:Does a b k run0 st) (first:TT)
   (hy0:∀ how L,(∀ y ∈ L,y.2.1 = false)→NN how→L.length ≤ 1000→run0.y (st how) [.dat (.lst tTT) L] = some (st how,true))
   (hy1:∀ how L,NN how→L.length ≤ 1000→(∀ y ∈ L,y.2.1 = true→∃ ws,Bfs.Back (Hh how) first y ws∧ws.length ≤ 100)→¬ (∀ y ∈ L,y.2.1 = false)→∃ y ∈ L,y.2.1 = true∧∃ ws,Bfs.Back (Hh how) first y ws∧run0.y (st how) [.dat (.lst tTT) L] = some (stF (ws.reverse.map fun i:Nat=>(i:Int)) how,false))
   {C:Type} (k0 k1:CB t→t.T→TT→Int→Option C) (f:TT) :
   ∀ (F j:Nat) (how:How) (L K:List TT),73 - j < F→LInv (eP a b) k first j (Hh how) L→NN how→L.Nodup→(∀ y ∈ L,VP a b y)→K.Nodup→(∀ y ∈ K,VP a b y∧(Hh how y).isSome = true)→j + L.length ≤ K.length→(∀ d,d < j→∀ z,R (eP a b) k first d z→z.2.1 = false) →
     (∃ ws how',Ends a b k first ws∧g134xL6f N F t k0 k1 L run0 (st how) f (k:Int) = k0 run0 (stF (ws.map fun i:Nat=>(i:Int)) how') f (k:Int)) ∨
     (∃ how',Never a b k first∧g134xL6f N F t k0 k1 L run0 (st how) f (k:Int) = k1 run0 (st how') f (k:Int))
 | 0,j,how,L,K,hF,_,_,_,_,_,_,_,_=>by omega
 | F + 1,j,how,L,K,hF,hI,hn,hLn,hLv,hKn,hKv,hjK,hno=>by
   have hK72:=few72 ha hb hKn (fun y hy=>(hKv y hy).1)
   have hL72:=few72 ha hb hLn hLv
   rw [g134xL6f_succ]
   unfold g134xL6B
   by_cases hl0:L.length = 0
   · have e1:decide ((0:Int) < ((L.length:Nat):Int)) = false:=decide_eq_false (by omega)
     rw [e1,cond_false]
     refine .inr ⟨how,?_,rfl⟩
     obtain rfl:=List.eq_nil_of_length_eq_zero hl0
     intro d z hr
     obtain ⟨d',hd',hr'⟩:=hI.all d z hr
     exact hno d' hd' z hr'
   · have e1:decide ((0:Int) < ((L.length:Nat):Int)) = true:=decide_eq_true (by omega)
     have hj:j ≤ 72:=by omega
     have hback:∀ y ∈ L,y.2.1 = true→∃ ws,Bfs.Back (Hh how) first y ws∧ws.length ≤ 100:=fun y hy _=>by
       obtain ⟨h1,h2⟩:=(hI.level y).1 hy
       obtain ⟨ws,w1,w2,_⟩:=hI.back j y (Nat.le_refl j) h1 h2
       exact ⟨ws,w1,by omega⟩
     rw [e1,cond_true]
     by_cases hall:∀ y ∈ L,y.2.1 = false
     · show (_ ∨ _)
       have ey:run0.y (st how) [.dat (.lst (.pair (.pair (.int .i64) (.pair (.int .i64) .unit)) (.pair .bool .unit))) L] = some (st how,true):=hy0 how L hall hn (by omega)
       rw [ey]
       simp only [Option.bind_some,Bool.not_true,cond_false]
       rw [g134xL1626_eq]
       obtain ⟨how',more,b1,b2,b3,e⟩:=level_loop ha hb N (by omega) hd (fun e12 e13 e14 e15 e16=>g134xL6f N F t k0 k1 e12 e13 e14 e15 e16) (Hh how) L (by omega) hLv f N 0 how [] (by omega) (by omega) (BInv.start (Hh how) L) hn (by simp) (by simp)
       simp only [Int.natCast_zero] at e
       rw [e]
       have hno':∀ d,d < j + 1→∀ z,R (eP a b) k first d z→z.2.1 = false:=fun d hd' z hr=>by
         by_cases hdj:d < j
         · exact hno d hdj z hr
         · obtain rfl:d = j:=by omega
           by_cases hex:∃ d',d' < d∧R (eP a b) k first d' z
           · obtain ⟨d',h1,h2⟩:=hex
             exact hno d' h1 z h2
           · exact hall z ((hI.level z).2 ⟨hr,fun d' h1 h2=>hex ⟨d',h1,h2⟩⟩)
       have hold:∀ y,(Hh how y).isSome = true→(Hh how' y).isSome = true:=fun y hy=>by
         obtain ⟨v,hv⟩:=Option.isSome_iff_exists.1 hy
         rw [b1.old y v hv];rfl
       exact levels_loop ha hb N hN hd first hy0 hy1 k0 k1 f F (j + 1) how' more (K ++ more) (by omega) (hI.step b1) b2 b1.nodup b3
         (by
           rw [List.nodup_append]
           refine ⟨hKn,b1.nodup,fun y hy z hz hyz=>?_⟩
           subst hyz
           have h1:=((b1.new y).1 hz).2
           have h2:=(hKv y hy).2
           rw [h1] at h2;cases h2)
         (fun y hy=>by
           rcases List.mem_append.1 hy with hy | hy
           · exact ⟨(hKv y hy).1,hold y (hKv y hy).2⟩
           · exact ⟨b3 y hy,((b1.new y).1 hy).1⟩)
         (by rw [List.length_append];omega) hno'
     · obtain ⟨y,hy,hyt,ws,hB,e⟩:=hy1 how L hn (by omega) hback hall
       obtain ⟨h1,h2⟩:=(hI.level y).1 hy
       obtain ⟨vs,w1,w2,w3⟩:=hI.back j y (Nat.le_refl j) h1 h2
       obtain rfl:=Back_uniq hB w1
       have e:run0.y (st how) [.dat (.lst (.pair (.pair (.int .i64) (.pair (.int .i64) .unit)) (.pair .bool .unit))) L] = some (stF (ws.reverse.map fun i:Nat=>(i:Int)) how,false):=e
       rw [e]
       refine .inl ⟨ws.reverse,how,⟨y,w3,hyt,fun d hd' z hr=>hno d (by simp at hd';omega) z hr⟩,rfl⟩
abbrev tSt:Ty:=(.pair (.int .i64) (tyO [.box (.d (.pair (.pair (.int .i64) (.pair (.int .i64) .unit)) (.pair .bool .unit))) (.a (.d (.pair (.pair (.int .i64) (.pair (.int .i64) .unit)) (.pair .bool .unit)))),.box .leaf (.fn 99 [.p (.pair (.lst (.lst (.int .i64))) (.pair (.lst (.lst (.int .i64))) .unit)),.p (.pair (.lst (.lst (.int .i64))) (.pair (.lst (.lst (.int .i64))) .unit))]),.box (.d (.lst (.int .i64))) (.a (.d (.lst (.int .i64)))),.box (.d .bool) (.a (.d .bool)),.box .leaf (.a (.mp 15 0)),.map (.pair (.pair (.int .i64) (.pair (.int .i64) .unit)) (.pair .bool .unit)) (.pair (.pair (.pair (.int .i64) (.pair (.int .i64) .unit)) (.pair .bool .unit)) (.pair (.int .i64) .unit)),.gone]))
noncomputable abbrev runA (N:Nat) (fd:(TT×Unit)→Option Bool):CB tSt:=⟨(g97xR58 N).told.run [(.ref 4 0 []),(.eptr (.clo (.pair (.pair (.pair (.int .i64) (.pair (.int .i64) .unit)) (.pair .bool .unit)) .unit) .bool fd)),(.ref 8 0 []),(.ref 9 0 []),(.ref 10 0 []),(.ref 7 0 [])],(g97xR58 N).told.f [(.ref 4 0 []),(.eptr (.clo (.pair (.pair (.pair (.int .i64) (.pair (.int .i64) .unit)) (.pair .bool .unit)) .unit) .bool fd)),(.ref 8 0 []),(.ref 9 0 []),(.ref 10 0 []),(.ref 7 0 [])]⟩
abbrev stA (first:TT) (a b:MM) (how:How):tSt.T:=((0:Int),(first,(a,b,()),([]:List Int),false,(),how,(),()))
abbrev stB (first:TT) (a b:MM) (w:List Int) (how:How):tSt.T:=((1:Int),(first,(a,b,()),w,true,(),how,(),()))
theorem apart_eq {a b:MM} {k:Nat} (ha:Pm a k) (hb:Pm b k) (N:Nat) (hN:1000 < N) (s t:Int) (hs:0 ≤ s∧s < (a.1.length:Int)) (ht:0 ≤ t∧t < (b.1.length:Int)) :
   (∃ ws,Ends a b k ((s,t,()),false,()) ws∧g72 N a b (s,t,()) = some (ws.map fun i:Nat=>(i:Int),true,())) ∨
   (Never a b k ((s,t,()),false,())∧g72 N a b (s,t,()) = some ([],false,())):=by
 obtain ⟨first,hfirst⟩:∃ f:TT,f = ((s,t,()),false,()):=⟨_,rfl⟩
 obtain ⟨fd,hfd⟩:∃ f:(TT×Unit)→Option Bool,f = (fun (x2:TT×Unit)=>Option.bind (g98 N x2.1) fun y3=>some y3):=⟨_,rfl⟩
 have hfd':∀ x,fd (x,()) = some x.2.1:=fun x=>by rw [hfd];rfl
 have hv:VP a b first:=by rw [hfirst];exact ⟨hs,ht⟩
 obtain ⟨how0,hhow0⟩:∃ h:How,h = mapPut (Ty.beq tTT) first (((0,0,()),false,()),0,()) []:=⟨_,rfl⟩
 have hH0:∀ y,(Hh how0 y).isSome = true ↔ y = first:=fun y=>by
   unfold Hh
   rw [hhow0,find_put _ beqT]
   by_cases h:y = first
   · rw [if_pos h];simp [h]
   · rw [if_neg h];simp [mapFind,h]
 have hN0:NN how0:=fun y v hv=>by
   rw [hhow0,find_put _ beqT] at hv
   split at hv
   · obtain rfl:=Option.some.inj hv;exact Int.le_refl 0
   · cases hv
 unfold g72
 rw [ha.inputs N]
 simp only [Option.bind_some]
 rw [← hfirst,← hfd]
 unfold g97x g116x
 simp only [Option.bind_some]
 rw [show mapPut (Ty.beq (.pair (.pair (.int .i64) (.pair (.int .i64) .unit)) (.pair .bool .unit))) first (((0,0,()),false,()),0,()) [] = how0 from hhow0.symm]
 unfold g134x
 rw [g134xL6_eq]
 have hd:Does a b k (runA N fd) (stA first a b):=by
   intro how x i hx hi
   obtain ⟨y,ok,how',e,hc⟩:=cb_eq ha hb N hx hi how
   refine ⟨y,ok,how',?_,hc⟩
   refine (g97xR58_f N fd first a b [] false how 0 x (i:Int)).trans ?_
   rw [if_pos rfl]
   unfold g97xR58F
   rw [e]
   rfl
 have hy0:∀ how L,(∀ y ∈ L,y.2.1 = false)→NN how→L.length ≤ 1000→(runA N fd).y (stA first a b how) [.dat (.lst tTT) L] = some (stA first a b how,true):=by
   intro how L hall hn hl
   refine (g97xR58_run N fd first a b [] false how 0 L).trans ?_
   rw [if_pos rfl]
   unfold g97xR58B
   rw [g97xL938_eq]
   rcases found_loop N hN (fun e13 e14 e15 e16 e17 e18 e19=>some (((1:Int),(e13,(e14,e15,()),e16,e17,(),e18,(),())),false)) (fun e20 e21 e22 e23 e24 e25 e26=>some (((0:Int),(e20,(e21,e22,()),e23,e24,(),e25,(),())),true)) fd hfd' L hl first a b [] false how hn (fun y hy ht=>by rw [hall y hy] at ht;cases ht) N 0 (by omega) (by omega) with ⟨_,e⟩ | ⟨y,hy,ht,_⟩
   · exact e
   · rw [hall y hy] at ht;cases ht
 have hy1:∀ how L,NN how→L.length ≤ 1000→(∀ y ∈ L,y.2.1 = true→∃ ws,Bfs.Back (Hh how) first y ws∧ws.length ≤ 100)→¬ (∀ y ∈ L,y.2.1 = false)→∃ y ∈ L,y.2.1 = true∧∃ ws,Bfs.Back (Hh how) first y ws∧(runA N fd).y (stA first a b how) [.dat (.lst tTT) L] = some (stB first a b (ws.reverse.map fun i:Nat=>(i:Int)) how,false):=by
   intro how L hn hl hback hnall
   rcases found_loop N hN (fun e13 e14 e15 e16 e17 e18 e19=>some (((1:Int),(e13,(e14,e15,()),e16,e17,(),e18,(),())),false)) (fun e20 e21 e22 e23 e24 e25 e26=>some (((0:Int),(e20,(e21,e22,()),e23,e24,(),e25,(),())),true)) fd hfd' L hl first a b [] false how hn hback N 0 (by omega) (by omega) with ⟨h,_⟩ | ⟨y,hy,ht,ws,hB,e⟩
   · exact absurd (by simpa using h) hnall
   · refine ⟨y,hy,ht,ws,hB,?_⟩
     refine (g97xR58_run N fd first a b [] false how 0 L).trans ?_
     rw [if_pos rfl]
     unfold g97xR58B
     rw [g97xL938_eq]
     exact e
 have main:=levels_loop ha hb N hN hd first hy0 hy1 (C:=(g134xS tSt).R) (fun e17 e18 e19 e20=>some ((()),((e17,e18),e19,e20,(),()),(()))) (fun e21 e22 e23 e24=>some ((()),((e21,e22),e23,e24,(),()),(()))) first N 0 how0 [first] [first] (by omega) (LInv.start (Hh how0) hH0) hN0 (by simp) (fun y hy=>by rw [List.mem_singleton.1 hy];exact hv) (by simp) (fun y hy=>by rw [List.mem_singleton.1 hy];exact ⟨hv,(hH0 first).2 rfl⟩) (by simp) (fun d hd=>by omega)
 rcases main with ⟨ws,how',hE,e⟩ | ⟨how',hE,e⟩
 · refine .inl ⟨ws,hE,?_⟩
   refine Eq.trans (congrArg (fun o=>Option.bind (Option.bind o _) _) e) ?_
   rfl
 · refine .inr ⟨hE,?_⟩
   refine Eq.trans (congrArg (fun o=>Option.bind (Option.bind o _) _) e) ?_
   rfl
end Go.Pv
namespace Go.Pv
open Bfs
abbrev wd (ws:List Nat):List Int:=ws.map fun i:Nat=>(i:Int)
def Diff (a b:MM) (s t:Int) (w:List Int):Prop:=(sayL a s w).1 ≠ (sayL b t w).1
theorem run_same (a b:MM) (k:Nat):∀ (ws:List Nat) (s t:Int),(∀ i ∈ ws,i < k)→¬ Diff a b s t (wd ws)→run (eP a b) k ((s,t,()),false,()) ws = some (((sayL a s (wd ws)).2,(sayL b t (wd ws)).2,()),false,())
 | [],s,t,_,_=>rfl
 | i :: ws,s,t,hi,hn=>by
   have hik:=hi i List.mem_cons_self
   have hn:¬ ((sayL a s (wd (i :: ws))).1 ≠ (sayL b t (wd (i :: ws))).1):=hn
   have hcons:(ou a s i :: (sayL a (nx a s i) (wd ws)).1) = (ou b t i :: (sayL b (nx b t i) (wd ws)).1):=Classical.not_not.1 hn
   obtain ⟨h1,h2⟩:=List.cons.inj hcons
   have he:eP a b ((s,t,()),false,()) i = some ((nx a s i,nx b t i,()),false,()):=by
     unfold eP
     simp only [Bool.false_eq_true,if_false]
     rw [show ieq (ou a s (i:Int)) (ou b t (i:Int)) = true from decide_eq_true h1]
     rfl
   show (if i < k then (eP a b ((s,t,()),false,()) i).bind fun y=>run (eP a b) k y ws else none) = _
   rw [if_pos hik,he]
   exact run_same a b k ws (nx a s i) (nx b t i) (fun j hj=>hi j (List.mem_cons_of_mem _ hj)) (fun hd=>hd h2)
theorem run_lt (a b:MM) (k:Nat):∀ (ws:List Nat) (x y:TT),run (eP a b) k x ws = some y→∀ i ∈ ws,i < k
 | [],_,_,_,i,hi=>by simp at hi
 | j :: ws,x,y,h,i,hi=>by
   have h:(if j < k then (eP a b x j).bind fun z=>run (eP a b) k z ws else none) = some y:=h
   split at h
   · rename_i hj
     cases hz:eP a b x j with
     | none=>rw [hz] at h;cases h
     | some z =>
       rw [hz] at h
       rcases List.mem_cons.1 hi with rfl | hi
       · exact hj
       · exact run_lt a b k ws z y h i hi
   · cases h
theorem run_apart (a b:MM) (k:Nat):∀ (ws:List Nat) (s t:Int) (y:TT),run (eP a b) k ((s,t,()),false,()) ws = some y→(y.2.1 = true ↔ Diff a b s t (wd ws))
 | [],s,t,y,h=>by
   obtain rfl:=Option.some.inj h
   exact ⟨fun h=>(by cases h),fun h=>absurd rfl h⟩
 | i :: ws,s,t,y,h=>by
   have h:(if i < k then (eP a b ((s,t,()),false,()) i).bind fun z=>run (eP a b) k z ws else none) = some y:=h
   split at h
   · have hD:Diff a b s t (wd (i :: ws)) ↔ ou a s i ≠ ou b t i ∨ Diff a b (nx a s i) (nx b t i) (wd ws):=by
       show (ou a s i :: (sayL a (nx a s i) (wd ws)).1) ≠ (ou b t i :: (sayL b (nx b t i) (wd ws)).1) ↔ _
       rw [Ne,List.cons.injEq]
       unfold Diff
       by_cases h1:ou a s (i:Int) = ou b t (i:Int) <;> simp [h1]
     rw [hD]
     unfold eP at h
     simp only [Bool.false_eq_true,if_false,Option.bind_some] at h
     by_cases h1:ou a s (i:Int) = ou b t (i:Int)
     · rw [show ieq (ou a s (i:Int)) (ou b t (i:Int)) = true from decide_eq_true h1] at h
       have:=run_apart a b k ws (nx a s i) (nx b t i) y h
       rw [this]
       simp [h1]
     · rw [show ieq (ou a s (i:Int)) (ou b t (i:Int)) = false from decide_eq_false h1] at h
       have:ws = []:=by
         cases ws with
         | nil=>rfl
         | cons j ws =>
           have h:(if j < k then (eP a b ((nx a s i,nx b t i,()),true,()) j).bind fun z=>run (eP a b) k z ws else none) = some y:=h
           split at h
           · simp [eP] at h
           · cases h
       subst this
       obtain rfl:=Option.some.inj h
       exact ⟨fun _=>.inl h1,fun _=>rfl⟩
   · cases h
def Least (a b:MM) (k:Nat) (s t:Int) (ws:List Nat):Prop:=(∀ i ∈ ws,i < k)∧Diff a b s t (wd ws)∧∀ vs:List Nat,(∀ i ∈ vs,i < k)→vs.length < ws.length→¬ Diff a b s t (wd vs)
theorem Ends.least {a b:MM} {k:Nat} {s t:Int} {ws:List Nat} (h:Ends a b k ((s,t,()),false,()) ws):Least a b k s t ws:=by
 obtain ⟨y,h1,h2,h3⟩:=h
 refine ⟨run_lt a b k ws _ _ h1,(run_apart a b k ws s t y h1).1 h2,?_⟩
 intro vs
 -- by the length: a shorter word that says something different has a shortest beginning that does
 induction hn:vs.length using Nat.strongRecOn generalizing vs with
 | ind n ih =>
   intro hv hl hd
   rcases List.eq_nil_or_concat vs with rfl | ⟨us,i,rfl⟩
   · exact hd rfl
   · have hul:us.length < n:=by rw [← hn];simp
     have hus:∀ j ∈ us,j < k:=fun j hj=>hv j (by simp [hj])
     have hnd:¬ Diff a b s t (wd us):=ih us.length hul us rfl hus (by omega)
     have hr:=run_same a b k us s t hus hnd
     have hi:i < k:=hv i (by simp)
     have hrun:∃ z,run (eP a b) k ((s,t,()),false,()) (us ++ [i]) = some z:=by
       rw [run_snoc,hr]
       simp [hi,eP]
     obtain ⟨z,hz⟩:=hrun
     have hzt:=(run_apart a b k (us ++ [i]) s t z hz).2 (by simpa using hd)
     have:=h3 (us ++ [i]).length (by simp at hn ⊢;omega) z ⟨us ++ [i],rfl,hz⟩
     rw [hzt] at this
     cases this
theorem Never.none {a b:MM} {k:Nat} {s t:Int} (h:Never a b k ((s,t,()),false,())):∀ vs:List Nat,(∀ i ∈ vs,i < k)→¬ Diff a b s t (wd vs):=by
 intro vs
 induction hn:vs.length using Nat.strongRecOn generalizing vs with
 | ind n ih =>
   intro hv hd
   rcases List.eq_nil_or_concat vs with rfl | ⟨us,i,rfl⟩
   · exact hd rfl
   · have hul:us.length < n:=by rw [← hn];simp
     have hus:∀ j ∈ us,j < k:=fun j hj=>hv j (by simp [hj])
     have hnd:¬ Diff a b s t (wd us):=ih us.length hul us rfl hus
     have hr:=run_same a b k us s t hus hnd
     have hi:i < k:=hv i (by simp)
     have hrun:∃ z,run (eP a b) k ((s,t,()),false,()) (us ++ [i]) = some z:=by
       rw [run_snoc,hr]
       simp [hi,eP]
     obtain ⟨z,hz⟩:=hrun
     have hzt:=(run_apart a b k (us ++ [i]) s t z hz).2 (by simpa using hd)
     have:=h (us ++ [i]).length z ⟨us ++ [i],rfl,hz⟩
     rw [hzt] at this
     cases this
end Go.Pv
namespace Go.Pv
def sd (x:MM) (w:List Int) (s:Nat):List Int:=(sayL x (s:Int) w).1
end Go.Pv
namespace Go.Pv
open Bfs
structure VG (n:Nat) (g:GG):Prop where
 l1:g.1.length = 6
 l2:g.2.1.length = 6
 g1:∀ s,s < n→0 ≤ g.1.getD s 0∧g.1.getD s 0 ≤ (s:Int)
 g2:∀ s,n ≤ s→g.1.getD s 0 = 0
 n1:∀ s,s < n→0 ≤ g.2.1.getD s 0∧g.2.1.getD s 0 < (n:Int)
 n2:∀ s,n ≤ s→g.2.1.getD s 0 = 0
def listsB:List Nat→List (List Int)
 | []=>[[]]
 | b :: bs=>(List.range b).flatMap fun (i:Nat)=>(listsB bs).map fun l=>(i:Int) :: l
theorem mem_listsB:∀ (bs:List Nat) (l:List Int),l.length = bs.length→(∀ i,i < bs.length→0 ≤ l.getD i 0∧l.getD i 0 < (bs.getD i 0:Int))→l ∈ listsB bs
 | [],l,h,_=>by
   obtain rfl:=List.eq_nil_of_length_eq_zero h
   exact List.mem_cons_self
 | b :: bs,[],h,_=>by simp at h
 | b :: bs,v :: l,h,hb=>by
   simp only [listsB,List.mem_flatMap,List.mem_range,List.mem_map]
   have h0:=hb 0 (by simp)
   simp only [List.getD_cons_zero] at h0
   refine ⟨v.toNat,by omega,l,mem_listsB bs l (by simpa using h) fun i hi=>?_,?_⟩
   · have:=hb (i + 1) (by simp;omega)
     simpa using this
   · rw [Int.toNat_of_nonneg h0.1]
def univG:List GG:=(listsB [1,2,3,4,5,1]).flatMap fun a=>(listsB [5,5,5,5,5,1]).map fun b=>(a,b,())
theorem VG.univ {n:Nat} (hn:n ≤ 5) {g:GG} (hg:VG n g):g ∈ univG:=by
 obtain ⟨a,b,u⟩:=g
 have l1:=hg.l1
 have l2:=hg.l2
 unfold univG
 rw [List.mem_flatMap]
 refine ⟨a,mem_listsB _ _ l1 fun i hi=>?_,?_⟩
 · by_cases h:i < n
   · have:=hg.g1 i h
     simp only at this
     have hi:i < 6:=hi
     have e:([1,2,3,4,5,1]:List Nat).getD i 0 = i + 1:=by
       rcases i with _ | _ | _ | _ | _ | i
       · rfl
       · rfl
       · rfl
       · rfl
       · rfl
       · omega
     rw [e];omega
   · have:=hg.g2 i (by omega)
     simp only at this
     have hi:i < 6:=hi
     have e:1 ≤ ([1,2,3,4,5,1]:List Nat).getD i 0:=by
       rcases i with _ | _ | _ | _ | _ | _ | i <;> first | decide | omega
     rw [this];omega
 · rw [List.mem_map]
   refine ⟨b,mem_listsB _ _ l2 fun i hi=>?_,rfl⟩
   have hi:i < 6:=hi
   by_cases h:i < n
   · have:=hg.n1 i h
     simp only at this
     have e:([5,5,5,5,5,1]:List Nat).getD i 0 = 5:=by
       rcases i with _ | _ | _ | _ | _ | i
       · rfl
       · rfl
       · rfl
       · rfl
       · rfl
       · omega
     rw [e];omega
   · have:=hg.n2 i (by omega)
     simp only at this
     have e:1 ≤ ([5,5,5,5,5,1]:List Nat).getD i 0:=by
       rcases i with _ | _ | _ | _ | _ | _ | i <;> first | decide | omega
     rw [this];omega
end Go.Pv
namespace Go.Pv.Bfs
variable {α:Type} [DecidableEq α] {e:α→Nat→Option α} {m:Nat} {first dflt:α}
structure Qu (e:α→Nat→Option α) (m:Nat) (first dflt:α) (i x:Nat) (l:List α) (lg:List Int):Prop where
 len:lg.length = l.length
 nod:l.Nodup
 way:∀ q,q < l.length→∃ j:Nat,lg.getD q 0 = (j:Int)∧R e m first j (l.getD q dflt)
 small:∀ q,q < l.length→lg.getD q 0 ≤ (q:Int)
 mono:∀ q r,q ≤ r→r < l.length→lg.getD q 0 ≤ lg.getD r 0
 top:i < l.length→∀ q,q < l.length→lg.getD q 0 ≤ lg.getD i 0 + 1
 beg:0 < l.length∧l.getD 0 dflt = first∧lg.getD 0 0 = 0
 done:∀ q j,q < l.length→j < m→(q < i ∨ q = i∧j < x)→∀ y,e (l.getD q dflt) j = some y→∃ r,r < l.length∧l.getD r dflt = y∧lg.getD r 0 ≤ lg.getD q 0 + 1
theorem Qu.short {i x:Nat} {l:List α} {lg:List Int} (h:Qu e m first dflt i x l lg) (bound:Int) (hb:∀ q,q < l.length→lg.getD q 0 < bound→q < i) :
   ∀ (n:Nat) (y:α),(n:Int) ≤ bound→R e m first n y→∃ q,q < l.length∧l.getD q dflt = y∧lg.getD q 0 ≤ (n:Int)
 | 0,y,_,hr=>by
   obtain rfl:=(R_zero y).1 hr
   exact ⟨0,h.beg.1,h.beg.2.1,by have:=h.beg.2.2;omega⟩
 | n + 1,y,hbd,hr=>by
   obtain ⟨z,hz,j,hj,he⟩:=(R_succ n y).1 hr
   obtain ⟨q,q1,q2,q3⟩:=h.short bound hb n z (by omega) hz
   obtain ⟨r,r1,r2,r3⟩:=h.done q j q1 hj (.inl (hb q q1 (by omega))) y (by rw [q2];exact he)
   exact ⟨r,r1,r2,by omega⟩
theorem Qu.lt {i x:Nat} {l:List α} {lg:List Int} (h:Qu e m first dflt i x l lg) (hi:i < l.length):∀ q,q < l.length→lg.getD q 0 < lg.getD i 0→q < i:=by
 intro q hq hlt
 by_cases hqi:q < i
 · exact hqi
 · have:=h.mono i q (by omega) hq;omega
theorem Qu.all {x:Nat} {l:List α} {lg:List Int} {i:Nat} (h:Qu e m first dflt i x l lg) (hi:l.length ≤ i) (n:Nat) (y:α) (hr:R e m first n y):y ∈ l:=by
 obtain ⟨q,q1,q2,_⟩:=h.short (n:Int) (fun q hq _=>by omega) n y (Int.le_refl _) hr
 rw [← q2,List.getD_eq_getElem?_getD,List.getElem?_eq_getElem q1]
 exact List.getElem_mem q1
theorem getDapp {β:Type} (l:List β) (v d:β) (q:Nat):(l ++ [v]).getD q d = if q < l.length then l.getD q d else if q = l.length then v else d:=by
 rw [List.getD_eq_getElem?_getD,List.getD_eq_getElem?_getD,List.getElem?_append]
 split
 · rfl
 · rename_i h
   by_cases h2:q = l.length
   · subst h2;simp
   · rw [if_neg h2,List.getElem?_eq_none (by simp;omega)];rfl
theorem Qu.skip {i x:Nat} {l:List α} {lg:List Int} (h:Qu e m first dflt i x l lg) (hi:i < l.length) (hs:∀ y,e (l.getD i dflt) x = some y→y ∈ l):Qu e m first dflt i (x + 1) l lg:=by
 refine ⟨h.len,h.nod,h.way,h.small,h.mono,h.top,h.beg,fun q j hq hj hqj y hy=>?_⟩
 by_cases hx:q = i∧j = x
 · obtain ⟨rfl,rfl⟩:=hx
   obtain ⟨r,r1,r2⟩:=List.mem_iff_getElem.1 (hs y hy)
   exact ⟨r,r1,by rw [List.getD_eq_getElem?_getD,List.getElem?_eq_getElem r1];exact r2,h.top hi r r1⟩
 · exact h.done q j hq hj (by omega) y hy
theorem Qu.add {i x:Nat} {l:List α} {lg:List Int} (h:Qu e m first dflt i x l lg) (hi:i < l.length) (hx:x < m) (p:α) (hp:e (l.getD i dflt) x = some p) (hm:p ∉ l) :
   Qu e m first dflt i (x + 1) (l ++ [p]) (lg ++ [lg.getD i 0 + 1]):=by
 have hle:=h.len
 have g1:∀ q,q < l.length→(l ++ [p]).getD q dflt = l.getD q dflt:=fun q hq=>by rw [getDapp,if_pos hq]
 have g2:(l ++ [p]).getD l.length dflt = p:=by rw [getDapp,if_neg (by omega),if_pos rfl]
 have g3:∀ q,q < l.length→(lg ++ [lg.getD i 0 + 1]).getD q 0 = lg.getD q 0:=fun q hq=>by rw [getDapp,if_pos (by omega)]
 have g4:(lg ++ [lg.getD i 0 + 1]).getD l.length 0 = lg.getD i 0 + 1:=by rw [getDapp,if_neg (by omega),if_pos (by omega)]
 have hln:(l ++ [p]).length = l.length + 1:=by simp
 refine ⟨by simp [hle],?_,fun q hq=>?_,fun q hq=>?_,fun q r hqr hr=>?_,fun _ q hq=>?_,?_,fun q j hq hj hqj y hy=>?_⟩
 · rw [List.nodup_append]
   exact ⟨h.nod,by simp,fun u hu v hv huv=>hm (by rw [List.mem_singleton.1 hv] at huv;exact huv ▸ hu)⟩
 · by_cases hql:q < l.length
   · rw [g1 q hql,g3 q hql];exact h.way q hql
   · obtain rfl:q = l.length:=by omega
     rw [g2,g4]
     obtain ⟨j,j1,j2⟩:=h.way i hi
     exact ⟨j + 1,by rw [j1];omega,(R_succ j p).2 ⟨_,j2,x,hx,hp⟩⟩
 · by_cases hql:q < l.length
   · rw [g3 q hql];exact h.small q hql
   · obtain rfl:q = l.length:=by omega
     rw [g4]
     have:=h.small i hi
     omega
 · by_cases hrl:r < l.length
   · rw [g3 q (by omega),g3 r hrl];exact h.mono q r hqr hrl
   · obtain rfl:r = l.length:=by omega
     rw [g4]
     by_cases hql:q < l.length
     · rw [g3 q hql];exact h.top hi q hql
     · obtain rfl:q = l.length:=by omega
       rw [g4];exact Int.le_refl _
 · rw [g3 i hi]
   by_cases hql:q < l.length
   · rw [g3 q hql];exact h.top hi q hql
   · obtain rfl:q = l.length:=by omega
     rw [g4];exact Int.le_refl _
 · exact ⟨by omega,by rw [g1 0 h.beg.1];exact h.beg.2.1,by rw [g3 0 h.beg.1];exact h.beg.2.2⟩
 · by_cases hqx:q = i∧j = x
   · obtain ⟨rfl,rfl⟩:=hqx
     rw [g1 q hi,hp] at hy
     obtain rfl:=Option.some.inj hy
     rw [g3 q hi]
     exact ⟨l.length,by omega,g2,by rw [g4];exact Int.le_refl _⟩
   · have hql:q < l.length:=by omega
     rw [g1 q hql] at hy
     obtain ⟨r,r1,r2,r3⟩:=h.done q j hql hj (by omega) y hy
     rw [g3 q hql]
     exact ⟨r,by omega,by rw [g1 r r1];exact r2,by rw [g3 r r1];exact r3⟩
theorem Qu.next {i:Nat} {l:List α} {lg:List Int} (h:Qu e m first dflt i m l lg) (hi:i < l.length):Qu e m first dflt (i + 1) 0 l lg :=
 ⟨h.len,h.nod,h.way,h.small,h.mono,fun hi2 q hq=>by have h1:=h.top hi q hq;have h2:=h.mono i (i + 1) (by omega) hi2;omega,h.beg,fun q j hq hj hqj=>h.done q j hq hj (by omega)⟩
theorem Qu.start:Qu e m first dflt 0 0 [first] [0]:=by
 refine ⟨rfl,by simp,fun q hq=>?_,fun q hq=>?_,fun q r hqr hr=>?_,fun _ q hq=>?_,⟨by simp,rfl,rfl⟩,fun q j hq hj hqj=>?_⟩
 · obtain rfl:q = 0:=by simpa using hq
   exact ⟨0,rfl,(R_zero first).2 rfl⟩
 · obtain rfl:q = 0:=by simpa using hq
   exact Int.le_refl 0
 · obtain rfl:r = 0:=by simpa using hr
   obtain rfl:q = 0:=by omega
   exact Int.le_refl 0
 · obtain rfl:q = 0:=by simpa using hq
   show (0:Int) ≤ 0 + 1
   omega
 · omega
end Go.Pv.Bfs
namespace Go.Pv
open Bfs
def badT (kd s u v:Int) (ne:Bool):Bool:=(decide (kd = 0) && ne) || (decide (kd = 1) || (decide (kd = 2) && (decide (u = s) || decide (v = s))))
def toldB (n:Nat) (kd s:Int) (x:List Int):Bool:=allN n 0 (fun u=>allN u 0 (fun v=>!(decide (x.getD u 0 = x.getD v 0) && badT kd s (u:Int) (v:Int) (!decide (x.getD (n + u) 0 = x.getD (n + v) 0)))))
theorem getD_rep0 (m j:Nat):(List.replicate m (0:Int)).getD j 0 = 0:=by
 rw [List.getD_eq_getElem?_getD,List.getElem?_replicate];split <;> rfl
def badD (kd s u v:Int):Bool:=decide (kd = 1) || (decide (kd = 2) && (decide (u = s) || decide (v = s)))
def aliveB (n:Nat) (kd s:Int) (x:List Int):Bool:=allN n 0 (fun u=>allN u 0 (fun v=>!(decide (x.getD u 0 = x.getD v 0) && (decide (x.getD (n + u) 0 = x.getD (n + v) 0) && badD kd s (u:Int) (v:Int)))))
def markL (n s:Nat) (x:List Int):List Int:=(List.range n).map (fun v=>if x.getD v 0 = x.getD s 0 then x.getD s 0 else (v:Int)) ++ (List.range n).map (fun v=>if x.getD v 0 = x.getD s 0 then x.getD (n + v) 0 else 0)
theorem getD_two (n:Nat) (f g:Nat→Int) (v:Nat):((List.range n).map f ++ (List.range n).map g).getD v 0 = if v < n then f v else if v < 2 * n then g (v - n) else 0:=by
 rw [List.getD_eq_getElem?_getD,List.getElem?_append]
 simp only [List.length_map,List.length_range,List.getElem?_map]
 by_cases h1:v < n
 · simp [h1]
 · by_cases h2:v < 2 * n
   · have:v - n < n:=by omega
     simp [h1,h2,this]
   · have:¬ v - n < n:=by omega
     simp [h1,h2,this]
def needL (n:Nat) (kd:Int) (s:Nat) (x:List Int):List Int:=bif aliveB n kd (s:Int) x then (if kd = 2 then markL n s x else x) else []
def keyL (x:List Int):List UInt8:=x.map fun n:Int=>n.toNat.toUInt8
end Go.Pv
namespace Go.Pv
open Bfs
def lw (f:Nat→Bool):Nat→Nat→Nat
 | 0,c=>c
 | j + 1,c=>lw f j (bif f j then j else c)
theorem lw_spec (f:Nat→Bool):∀ (j c:Nat),(lw f j c = c∧∀ u,u < j→f u = false) ∨ (lw f j c < j∧f (lw f j c) = true∧∀ u,u < lw f j c→f u = false)
 | 0,c=>.inl ⟨rfl,fun u h=>by omega⟩
 | j + 1,c=>by
   simp only [lw]
   cases hf:f j with
   | false =>
     simp only [cond_false]
     rcases lw_spec f j c with ⟨h1,h2⟩ | ⟨h1,h2,h3⟩
     · exact .inl ⟨h1,fun u hu=>by
         by_cases hj:u = j
         · rw [hj];exact hf
         · exact h2 u (by omega)⟩
     · exact .inr ⟨by omega,h2,h3⟩
   | true =>
     simp only [cond_true]
     rcases lw_spec f j j with ⟨h1,h2⟩ | ⟨h1,h2,h3⟩
     · exact .inr ⟨by omega,by rw [h1];exact hf,by rw [h1];exact h2⟩
     · exact .inr ⟨by omega,h2,h3⟩
def alikeF (n:Nat) (m:MM) (X:List Int) (a:Int) (v u:Nat):Bool:=decide (X.getD u 0 = X.getD v 0) && decide (ou m (X.getD (n + u) 0) a = ou m (X.getD (n + v) 0) a)
def nextL (n:Nat) (m:MM) (X:List Int) (a:Int):List Int:=(List.range n).map (fun v=>((lw (alikeF n m X a v) v v:Nat):Int)) ++ (List.range n).map (fun v=>nx m (X.getD (n + v) 0) a)
structure VX (n:Nat) (X:List Int):Prop where
 len:X.length = 2 * n
 cl:∀ v,v < n→0 ≤ X.getD v 0∧X.getD v 0 ≤ (v:Int)
 nw:∀ v,v < n→0 ≤ X.getD (n + v) 0∧X.getD (n + v) 0 < (n:Int)
theorem set_self (o:List Int) (v:Nat) (c:Int) (h:o.getD v 0 = c) (hv:v < o.length):o.set v c = o:=by
 refine ext_getD (by simp) fun q hq=>?_
 rw [getD_set _ _ _ _ hv]
 split
 · rename_i e;rw [e,h]
 · rfl
theorem getD_set_self (o:List Int) (v:Nat) (c:Int) (h:v < o.length):(o.set v c).getD v 0 = c:=by rw [getD_set _ _ _ _ h,if_pos rfl]
theorem set_set (o:List Int) (v:Nat) (c d:Int):(o.set v c).set v d = o.set v d:=by simp
abbrev KN:=List (List UInt8×Bool)
theorem lw_le (f:Nat→Bool) (v:Nat):lw f v v ≤ v:=by
 rcases lw_spec f v v with ⟨h,_⟩ | ⟨h,_⟩ <;> omega
theorem VX.next {m:MM} {k:Nat} (hm:Pm m k) {X:List Int} (hX:VX m.1.length X) {a:Nat} (ha:a < k):VX m.1.length (nextL m.1.length m X a):=by
 refine ⟨by unfold nextL;simp;omega,fun v hv=>?_,fun v hv=>?_⟩
 · unfold nextL
   rw [getD_two,if_pos hv]
   have:=lw_le (alikeF m.1.length m X a v) v
   omega
 · unfold nextL
   rw [getD_two,if_neg (by omega),if_pos (by omega),show m.1.length + v - m.1.length = v by omega]
   obtain ⟨u1,u2⟩:=hX.nw v hv
   exact (hm.step u1 u2 (i:=(a:Int)) (by omega) (by omega)).2.2.2.2.1
theorem VX.mark {n:Nat} {X:List Int} (hX:VX n X) (s:Nat) (h1:1 ≤ n):VX n (markL n s X):=by
 refine ⟨by unfold markL;simp;omega,fun v hv=>?_,fun v hv=>?_⟩
 · unfold markL
   rw [getD_two,if_pos hv]
   have:=hX.cl v hv
   split
   · rename_i e;rw [← e];exact this
   · omega
 · unfold markL
   rw [getD_two,if_neg (by omega),if_pos (by omega),show n + v - n = v by omega]
   have:=hX.nw v hv
   split
   · exact this
   · omega
def eR (m:MM) (kd:Int) (s:Nat) (X:List Int) (a:Nat):Option (List Int):=if 0 < (needL m.1.length kd s (nextL m.1.length m X a)).length then some (needL m.1.length kd s (nextL m.1.length m X a)) else none
theorem VX.step {m:MM} {k:Nat} (hm:Pm m k) {X:List Int} (hX:VX m.1.length X) {a:Nat} (ha:a < k) {kd:Int} {s:Nat} {Y:List Int} (h:eR m kd s X a = some Y):VX m.1.length Y:=by
 have h1:=hm.n1
 have hn:=hX.next hm ha
 unfold eR at h
 split at h
 · rename_i hpos
   obtain rfl:=Option.some.inj h
   unfold needL at hpos ⊢
   cases hb:aliveB m.1.length kd (s:Int) (nextL m.1.length m X a) with
   | false=>rw [hb] at hpos;simp at hpos
   | true =>
     simp only [cond_true]
     split
     · exact hn.mark s h1
     · exact hn
 · cases h
def boundX (n:Nat):List Nat:=(List.range n).map (· + 1) ++ List.replicate n n
theorem bound_get (n i:Nat) (hi:i < 2 * n):(boundX n).getD i 0 = if i < n then i + 1 else n:=by
 unfold boundX
 rw [List.getD_eq_getElem?_getD,List.getElem?_append]
 by_cases h:i < n
 · simp [h]
 · have h2:i - n < n:=by omega
   simp [h,h2]
theorem VX.univ {n:Nat} {X:List Int} (hX:VX n X):X ∈ listsB (boundX n):=by
 have hl:=hX.len
 refine mem_listsB _ _ (by unfold boundX;simp;omega) fun i hi=>?_
 have hi:i < 2 * n:=by unfold boundX at hi;simp at hi;omega
 rw [bound_get n i hi]
 by_cases h:i < n
 · have:=hX.cl i h
   rw [if_pos h];omega
 · have:=hX.nw (i - n) (by omega)
   rw [show n + (i - n) = i by omega] at this
   rw [if_neg h];omega
structure QK (m:MM) (k:Nat) (kd:Int) (s:Nat) (first:List Int) (i x:Nat) (l:List (List Int)) (lg:List Int) (kn:KN):Prop extends Qu (eR m kd s) k first [] i x l lg where
 vx:∀ y ∈ l,VX m.1.length y
 known:∀ y,VX m.1.length y→Option.getD (mapFind (Ty.beq .str) (keyL y) kn) false = decide (y ∈ l)
 none:∀ q,q < i→toldB m.1.length kd (s:Int) (l.getD q []) = false
end Go.Pv
namespace Go.Pv
open Bfs
end Go.Pv
namespace Go.Pv
open Bfs
open Classical
def eqv (x:MM) (k r:Nat) (s t:Nat):Prop:=∀ w:List Nat,(∀ i ∈ w,i < k)→w.length ≤ r→sd x (wd w) s = sd x (wd w) t
def eqvA (x:MM) (k:Nat) (s t:Nat):Prop:=∀ w:List Nat,(∀ i ∈ w,i < k)→sd x (wd w) s = sd x (wd w) t
def nxN (x:MM) (s i:Nat):Nat:=(nx x (s:Int) (i:Int)).toNat
theorem Pm.nxB {x:MM} {k:Nat} (h:Pm x k) {s i:Nat} (hs:s < x.1.length) (hi:i < k):nxN x s i < x.1.length∧((nxN x s i:Nat):Int) = nx x (s:Int) (i:Int):=by
 obtain ⟨_,_,_,_,n1,_⟩:=h.step (s:=(s:Int)) (i:=(i:Int)) (by omega) (by omega) (by omega) (by omega)
 unfold Go.Pv.nxN
 omega
theorem Pm.sd_cons {x:MM} {k:Nat} (h:Pm x k) {s i:Nat} (hs:s < x.1.length) (hi:i < k) (w:List Int):sd x ((i:Int) :: w) s = ou x (s:Int) (i:Int) :: sd x w (nxN x s i):=by
 unfold sd
 rw [(h.nxB hs hi).2]
 rfl
theorem eqv.symm {x:MM} {k r s t:Nat} (h:eqv x k r s t):eqv x k r t s:=fun w hw hl=>(h w hw hl).symm
theorem eqv.trans {x:MM} {k r s t u:Nat} (h:eqv x k r s t) (g:eqv x k r t u):eqv x k r s u:=fun w hw hl=>(h w hw hl).trans (g w hw hl)
theorem eqv.refl (x:MM) (k r s:Nat):eqv x k r s s:=fun _ _ _=>rfl
theorem eqv.mono {x:MM} {k r q s t:Nat} (h:eqv x k r s t) (hq:q ≤ r):eqv x k q s t:=fun w hw hl=>h w hw (Nat.le_trans hl hq)
theorem eqv_zero (x:MM) (k s t:Nat):eqv x k 0 s t:=fun w _ hl=>by
 obtain rfl:=List.eq_nil_of_length_eq_zero (Nat.le_zero.1 hl)
 rfl
theorem Pm.eqv_succ {x:MM} {k:Nat} (h:Pm x k) {r s t:Nat} (hs:s < x.1.length) (ht:t < x.1.length):eqv x k (r + 1) s t ↔ ∀ i,i < k→ou x (s:Int) (i:Int) = ou x (t:Int) (i:Int)∧eqv x k r (nxN x s i) (nxN x t i):=by
 constructor
 · intro g i hi
   have key:∀ w:List Nat,(∀ j ∈ w,j < k)→w.length ≤ r→ou x (s:Int) (i:Int) = ou x (t:Int) (i:Int)∧sd x (wd w) (nxN x s i) = sd x (wd w) (nxN x t i):=fun w hw hl=>by
     have:=g (i :: w) (fun j hj=>by
       rcases List.mem_cons.1 hj with rfl | hj
       · exact hi
       · exact hw j hj) (by simp;omega)
     rw [show wd (i :: w) = (i:Int) :: wd w from rfl,h.sd_cons hs hi,h.sd_cons ht hi] at this
     exact List.cons.inj this
   exact ⟨(key [] (by simp) (by simp)).1,fun w hw hl=>(key w hw hl).2⟩
 · intro g w hw hl
   match w with
   | []=>rfl
   | i :: w =>
     have hi:=hw i List.mem_cons_self
     rw [show wd (i :: w) = (i:Int) :: wd w from rfl,h.sd_cons hs hi,h.sd_cons ht hi]
     obtain ⟨g1,g2⟩:=g i hi
     rw [g1,g2 w (fun j hj=>hw j (List.mem_cons_of_mem _ hj)) (by simp at hl;omega)]
noncomputable def lst (x:MM) (k r:Nat) (s:Nat):Nat:=lw (fun t=>decide (eqv x k r s t)) s s
theorem lst_spec (x:MM) (k r s:Nat):lst x k r s ≤ s∧eqv x k r s (lst x k r s)∧∀ t,t < lst x k r s→¬ eqv x k r s t:=by
 unfold lst
 refine ⟨lw_le _ s,?_⟩
 rcases lw_spec (fun t=>decide (eqv x k r s t)) s s with ⟨h1,h2⟩ | ⟨h1,h2,h3⟩
 · rw [h1];exact ⟨eqv.refl x k r s,fun t ht=>by simpa using h2 t ht⟩
 · exact ⟨by simpa using h2,fun t ht=>by simpa using h3 t ht⟩
theorem lst_iff (x:MM) (k r s t:Nat):lst x k r s = lst x k r t ↔ eqv x k r s t:=by
 obtain ⟨_,a1,a2⟩:=lst_spec x k r s
 obtain ⟨_,b1,b2⟩:=lst_spec x k r t
 constructor
 · intro h;rw [h] at a1;exact a1.trans b1.symm
 · intro h
   have n1:¬ lst x k r s < lst x k r t:=fun hl=>b2 _ hl (h.symm.trans a1)
   have n2:¬ lst x k r t < lst x k r s:=fun hl=>a2 _ hl (h.trans b1)
   omega
noncomputable def reps (x:MM) (k r:Nat):List Nat:=(List.range x.1.length).filter fun s=>decide (lst x k r s = s)
theorem mem_reps {x:MM} {k r s:Nat}:s ∈ reps x k r ↔ s < x.1.length∧lst x k r s = s:=by
 unfold reps;rw [List.mem_filter,List.mem_range];simp
theorem reps_nodup (x:MM) (k r:Nat):(reps x k r).Nodup:=List.Pairwise.filter _ List.nodup_range
theorem reps_sub {x:MM} {k r s:Nat} (h:s ∈ reps x k r):s ∈ reps x k (r + 1):=by
 obtain ⟨h1,h2⟩:=mem_reps.1 h
 refine mem_reps.2 ⟨h1,?_⟩
 obtain ⟨a0,a1,a2⟩:=lst_spec x k (r + 1) s
 obtain ⟨b0,b1,b2⟩:=lst_spec x k r s
 rw [h2] at b2
 have:¬ lst x k (r + 1) s < s:=fun hl=>b2 _ hl (a1.mono (by omega))
 omega
theorem reps_grow {x:MM} {k r:Nat} (hne:∃ s t,s < x.1.length∧t < x.1.length∧eqv x k r s t∧¬ eqv x k (r + 1) s t):(reps x k r).length + 1 ≤ (reps x k (r + 1)).length:=by
 obtain ⟨s,t,hs,ht,h1,h2⟩:=hne
 -- one of the two is not with the least one of both
 obtain ⟨u,hu,h3,h4⟩:∃ u,u < x.1.length∧eqv x k r u s∧¬ eqv x k (r + 1) u (lst x k r s):=by
   by_cases h:eqv x k (r + 1) s (lst x k r s)
   · exact ⟨t,ht,h1.symm,fun g=>h2 (h.trans g.symm)⟩
   · exact ⟨s,hs,eqv.refl x k r s,h⟩
 obtain ⟨a0,a1,a2⟩:=lst_spec x k (r + 1) u
 have hv:lst x k (r + 1) u ∈ reps x k (r + 1):=mem_reps.2 ⟨by omega,by rw [lst_iff];exact a1.symm⟩
 have hn:lst x k (r + 1) u ∉ reps x k r:=fun hm=>by
   have e:=(mem_reps.1 hm).2
   have h5:eqv x k r (lst x k (r + 1) u) s:=(a1.mono (by omega)).symm.trans h3
   rw [(lst_iff x k r _ s).2 h5] at e
   rw [e] at h4
   exact h4 a1
 have:=nodup_len (L:=lst x k (r + 1) u :: reps x k r) (M:=reps x k (r + 1)) (List.nodup_cons.2 ⟨hn,reps_nodup x k r⟩) (fun d hd=>by
   rcases List.mem_cons.1 hd with rfl | hd
   · exact hv
   · exact reps_sub hd)
 simpa using this
theorem reps_le (x:MM) (k r:Nat):(reps x k r).length ≤ x.1.length:=by
 have:=nodup_len (reps_nodup x k r) (M:=List.range x.1.length) (fun d hd=>List.mem_range.2 (mem_reps.1 hd).1)
 simpa using this
theorem Pm.stable {x:MM} {k:Nat} (h:Pm x k):∃ r,r + 1 ≤ x.1.length∧∀ s t,s < x.1.length→t < x.1.length→eqv x k r s t→eqv x k (r + 1) s t:=by
 have n1:=h.n1
 apply byContradiction
 intro hno
 have key:∀ r,r + 1 ≤ x.1.length→r + 2 ≤ (reps x k (r + 1)).length:=by
   intro r
   have grow:r + 1 ≤ x.1.length→(reps x k r).length + 1 ≤ (reps x k (r + 1)).length:=fun hr=>by
     refine reps_grow ?_
     apply byContradiction
     intro hne
     refine hno ⟨r,hr,fun s t hs ht he=>?_⟩
     apply byContradiction
     intro hn
     exact hne ⟨s,t,hs,ht,he,hn⟩
   induction r with
   | zero =>
     intro hr
     have h0:0 ∈ reps x k 0:=mem_reps.2 ⟨by omega,by have:=(lst_spec x k 0 0).1;omega⟩
     have:=List.length_pos_of_mem h0
     have:=grow hr
     omega
   | succ r ih =>
     intro hr
     have h1:=ih (fun _=>by
       refine reps_grow ?_
       apply byContradiction
       intro hne
       refine hno ⟨r,by omega,fun s t hs ht he=>?_⟩
       apply byContradiction
       intro hn
       exact hne ⟨s,t,hs,ht,he,hn⟩) (by omega)
     have:=grow hr
     omega
 have h1:=key (x.1.length - 1) (by omega)
 have h2:=reps_le x k (x.1.length - 1 + 1)
 omega
theorem Pm.moore {x:MM} {k:Nat} (h:Pm x k) {r s t:Nat} (hr:x.1.length ≤ r + 1) (hs:s < x.1.length) (ht:t < x.1.length) (he:eqv x k r s t):eqvA x k s t:=by
 obtain ⟨q,q1,q2⟩:=h.stable
 have up:∀ j s t,s < x.1.length→t < x.1.length→eqv x k q s t→eqv x k (q + j) s t:=by
   intro j
   induction j with
   | zero=>intro s t _ _ h;exact h
   | succ j ih =>
     intro s t hs ht he
     rw [show q + (j + 1) = (q + j) + 1 by omega,h.eqv_succ hs ht]
     intro i hi
     obtain ⟨g1,g2⟩:=(h.eqv_succ hs ht).1 (q2 s t hs ht he) i hi
     exact ⟨g1,ih _ _ (h.nxB hs hi).1 (h.nxB ht hi).1 g2⟩
 intro w hw
 exact up w.length s t hs ht (he.mono (by omega)) w hw (by omega)
theorem eqvA.all {x:MM} {k s t:Nat} (h:eqvA x k s t) (r:Nat):eqv x k r s t:=fun w hw _=>h w hw
theorem Pm.eqvA_iff {x:MM} {k:Nat} (h:Pm x k) {s t:Nat} (hs:s < x.1.length) (ht:t < x.1.length):eqvA x k s t ↔ eqv x k x.1.length s t:=⟨fun g=>g.all _,fun g=>h.moore (by omega) hs ht g⟩
noncomputable def clsA (x:MM) (k:Nat):List Int:=(List.range x.1.length).map fun s=>((lst x k x.1.length s:Nat):Int)
theorem clsA_get (x:MM) (k s:Nat) (hs:s < x.1.length):(clsA x k).getD s 0 = (lst x k x.1.length s:Int):=by
 unfold clsA
 rw [List.getD_eq_getElem?_getD,List.getElem?_map]
 simp [hs]
theorem Pm.apart_iff {x:MM} {k:Nat} (h:Pm x k) (N:Nat) (hN:1000 < N) (s t:Nat) (hs:s < x.1.length) (ht:t < x.1.length) :
   ∃ w b,g72 N x x ((s:Int),(t:Int),()) = some (w,b,())∧(b = false ↔ eqvA x k s t):=by
 rcases apart_eq h h N hN (s:Int) (t:Int) ⟨by omega,by omega⟩ ⟨by omega,by omega⟩ with ⟨ws,hE,e⟩ | ⟨hE,e⟩
 · refine ⟨_,true,e,fun h=>(by cases h),fun he=>?_⟩
   have hl:=hE.least
   exact absurd (he ws hl.1) hl.2.1
 · refine ⟨_,false,e,fun _=>?_,fun _=>rfl⟩
   intro w hw
   exact Classical.not_not.1 (hE.none w hw)
theorem alike_inner {x:MM} {k:Nat} (h:Pm x k) (N:Nat) (hN:1000 < N) {C:Type} (k0:Int→Int→Int→MM→List Int→Option C) (k1:Int→Int→Int→MM→List Int→Option C) (s:Nat) (hs:s < x.1.length) (n:Int) (o:List Int) (ho:o.length ≤ 6) :
   ∀ (F i:Nat),s - i < F→i ≤ s→(∀ t,t < i→¬ eqvA x k s t) →
     (∃ t,t < s∧eqvA x k s t∧(∀ u,u < t→¬ eqvA x k s u)∧g58L111818f N F k0 k1 (s:Int) n (s:Int) (s:Int) (i:Int) x o = k0 (s:Int) n (s:Int) x (o ++ [(t:Int)])) ∨
     ((∀ t,t < s→¬ eqvA x k s t)∧g58L111818f N F k0 k1 (s:Int) n (s:Int) (s:Int) (i:Int) x o = k1 (s:Int) n (s:Int) x o)
 | 0,i,hF,_,_=>by omega
 | F + 1,i,hF,hi,hb=>by
   have n6:=h.n6
   rw [g58L111818f_succ]
   unfold g58L111818B
   by_cases hlt:i < s
   · obtain ⟨w,b,e,hiff⟩:=h.apart_iff N hN s i hs (by omega)
     rw [ltT hlt,cond_true,e]
     simp only [Option.bind_some]
     cases b with
     | false =>
       rw [Bool.not_false,cond_true,if_pos (by simp [maxCount];omega)]
       exact .inl ⟨i,hlt,hiff.1 rfl,hb,rfl⟩
     | true =>
       rw [Bool.not_true,cond_false,wn i (by omega)]
       refine alike_inner h N hN k0 k1 s hs n o ho F (i + 1) (by omega) (by omega) fun t ht=>?_
       by_cases hti:t = i
       · rw [hti];exact fun he=>by have:=hiff.2 he;cases this
       · exact hb t (by omega)
   · rw [ltF hlt,cond_false]
     exact .inr ⟨fun t ht=>hb t (by omega),rfl⟩
theorem Pm.lst_first {x:MM} {k:Nat} (h:Pm x k) {s t:Nat} (hs:s < x.1.length) (hts:t ≤ s) (he:eqvA x k s t) (hm:∀ u,u < t→¬ eqvA x k s u):lst x k x.1.length s = t:=by
 obtain ⟨a0,a1,a2⟩:=lst_spec x k x.1.length s
 have n1:¬ lst x k x.1.length s < t:=fun hl=>hm _ hl ((h.eqvA_iff hs (by omega)).2 a1)
 have n2:¬ t < lst x k x.1.length s:=fun hl=>a2 _ hl ((h.eqvA_iff hs (by omega)).1 he)
 omega
theorem alike_loop {x:MM} {k:Nat} (h:Pm x k) (N:Nat) (hN:1000 < N) {C:Type} (k0:MM→List Int→Option C) :
   ∀ (F i:Nat) (o:List Int),x.1.length - i < F→i ≤ x.1.length→o = (clsA x k).take i→g58L218f N F k0 (x.1.length:Int) (i:Int) x o = k0 x (clsA x k)
 | 0,i,o,hF,_,_=>by omega
 | F + 1,i,o,hF,hi,ho=>by
   have n6:=h.n6
   have hl:(clsA x k).length = x.1.length:=by unfold clsA;simp
   rw [g58L218f_succ]
   unfold g58L218B
   by_cases hlt:i < x.1.length
   · have hol:o.length = i:=by rw [ho,List.length_take];omega
     have nxt:∀ v:Nat,lst x k x.1.length i = v→o ++ [(v:Int)] = (clsA x k).take (i + 1):=fun v hv=>by
       rw [ho,← take_getD (clsA x k) i 0 (by omega),clsA_get x k i hlt,hv]
     rw [ltT hlt,cond_true,g58L111818_eq]
     rcases alike_inner h N hN (fun e3 e4 e5 e6 e7=>g58L218f N F k0 e4 (IntKind.wrap .i64 (e5 + 1)) e6 e7) (fun e8 e9 e10 e11 e12=>if e12.length + [e8].length ≤ maxCount then g58L218f N F k0 e9 (IntKind.wrap .i64 (e10 + 1)) e11 (e12 ++ [e8]) else none) i hlt (x.1.length:Int) o (by omega) N 0 (by omega) (by omega) (by omega) with ⟨t,t1,t2,t3,e⟩ | ⟨t1,e⟩
     · refine Eq.trans e ?_
       rw [wn i (by omega)]
       exact alike_loop h N hN k0 F (i + 1) _ (by omega) (by omega) (nxt t (h.lst_first hlt (by omega) t2 t3))
     · refine Eq.trans e ?_
       rw [if_pos (by simp [maxCount];omega),wn i (by omega)]
       exact alike_loop h N hN k0 F (i + 1) _ (by omega) (by omega) (nxt i (h.lst_first hlt (by omega) (fun _ _=>rfl) t1))
   · rw [ltF hlt,cond_false,ho,List.take_of_length_le (by omega)]
theorem Pm.alike {x:MM} {k:Nat} (h:Pm x k) (N:Nat) (hN:1000 < N):g58 N x = some (clsA x k):=by
 have n6:=h.n6
 unfold g58
 have e:g76 N x = some (x.1.length:Int):=rfl
 rw [e]
 simp only [Option.bind_some]
 rw [g58L218_eq]
 exact alike_loop h N hN (fun e13 e14=>some e14) N 0 [] (by omega) (by omega) (by simp)
noncomputable def clsR (x:MM) (k r:Nat):List Int:=(List.range x.1.length).map fun s=>((lst x k r s:Nat):Int)
theorem clsR_get (x:MM) (k r s:Nat) (hs:s < x.1.length):(clsR x k r).getD s 0 = (lst x k r s:Int):=by
 unfold clsR
 rw [List.getD_eq_getElem?_getD,List.getElem?_map]
 simp [hs]
theorem clsR_len (x:MM) (k r:Nat):(clsR x k r).length = x.1.length:=by unfold clsR;simp
def sameUp (x:MM) (k r s t i:Nat):Prop:=eqv x k r s t∧∀ j,j < i→ou x (s:Int) (j:Int) = ou x (t:Int) (j:Int)∧eqv x k r (nxN x s j) (nxN x t j)
theorem same_loop {x:MM} {k:Nat} (h:Pm x k) (N:Nat) {C:Type} (k0:Int→List Int→Int→Int→Int→Bool→MM→List Int→Option C) (r s t:Nat) (hs:s < x.1.length) (ht:t < x.1.length) (n q:Int) (o:List Int) :
   ∀ (F i:Nat),k - i < F→i ≤ k→g21L1025844810f N F k0 n (clsR x k r) q (s:Int) (t:Int) (decide (sameUp x k r s t i)) (i:Int) x o = k0 n (clsR x k r) q (s:Int) (t:Int) (decide (eqv x k (r + 1) s t)) x o
 | 0,i,hF,_=>by omega
 | F + 1,i,hF,hi=>by
   have k3:=h.k3
   rw [g21L1025844810f_succ]
   unfold g21L1025844810B
   rw [h.inputs41 N]
   simp only [Option.bind_some]
   by_cases hlt:i < k
   · have ih:=same_loop h N k0 r s t hs ht n q o F (i + 1) (by omega) (by omega)
     obtain ⟨a1,a2,a3,a4,an,_⟩:=h.step (s:=(s:Int)) (i:=(i:Int)) (by omega) (by omega) (by omega) (by omega)
     obtain ⟨b1,b2,b3,b4,bn,_⟩:=h.step (s:=(t:Int)) (i:=(i:Int)) (by omega) (by omega) (by omega) (by omega)
     have s1:=h.nxB hs hlt
     have t1:=h.nxB ht hlt
     rw [ltT hlt,cond_true,wn i (by omega)]
     by_cases hsm:sameUp x k r s t i
     · have hl:=clsR_len x k r
       have e1:(x.1.getD (Int.toNat (s:Int)) []).getD (Int.toNat (i:Int)) 0 = nx x (s:Int) (i:Int):=rfl
       have e2:(x.1.getD (Int.toNat (t:Int)) []).getD (Int.toNat (i:Int)) 0 = nx x (t:Int) (i:Int):=rfl
       have e3:(x.2.1.getD (Int.toNat (s:Int)) []).getD (Int.toNat (i:Int)) 0 = ou x (s:Int) (i:Int):=rfl
       have e4:(x.2.1.getD (Int.toNat (t:Int)) []).getD (Int.toNat (i:Int)) 0 = ou x (t:Int) (i:Int):=rfl
       rw [decide_eq_true hsm,cond_true,if_pos a2,if_pos a4,if_pos b2,if_pos b4,e3,e4]
       by_cases ho:ou x (s:Int) (i:Int) = ou x (t:Int) (i:Int)
       · rw [show ieq (ou x (s:Int) (i:Int)) (ou x (t:Int) (i:Int)) = true from decide_eq_true ho,cond_true,if_pos a1,if_pos a3,e1,if_pos (show idx (nx x (s:Int) (i:Int)) (clsR x k r).length by rw [hl];exact an),if_pos b1,if_pos b3,e2,if_pos (show idx (nx x (t:Int) (i:Int)) (clsR x k r).length by rw [hl];exact bn)]
         have hc:ieq ((clsR x k r).getD (nx x (s:Int) (i:Int)).toNat 0) ((clsR x k r).getD (nx x (t:Int) (i:Int)).toNat 0) = decide (sameUp x k r s t (i + 1)):=by
           have g1:(clsR x k r).getD (nx x (s:Int) (i:Int)).toNat 0 = (lst x k r (nxN x s i):Int):=clsR_get x k r _ s1.1
           have g2:(clsR x k r).getD (nx x (t:Int) (i:Int)).toNat 0 = (lst x k r (nxN x t i):Int):=clsR_get x k r _ t1.1
           rw [g1,g2]
           refine decide_eq_decide.2 ?_
           have:=lst_iff x k r (nxN x s i) (nxN x t i)
           constructor
           · intro h2
             refine ⟨hsm.1,fun j hj=>?_⟩
             by_cases hji:j = i
             · subst hji;exact ⟨ho,this.1 (by omega)⟩
             · exact hsm.2 j (by omega)
           · intro h2
             have:=this.2 (h2.2 i (by omega)).2
             omega
         rw [hc]
         exact ih
       · rw [show ieq (ou x (s:Int) (i:Int)) (ou x (t:Int) (i:Int)) = false from decide_eq_false ho,cond_false]
         rw [decide_eq_false (show ¬ sameUp x k r s t (i + 1) from fun h2=>ho (h2.2 i (by omega)).1)] at ih
         exact ih
     · rw [decide_eq_false hsm,cond_false]
       rw [decide_eq_false (show ¬ sameUp x k r s t (i + 1) from fun h2=>hsm ⟨h2.1,fun j hj=>h2.2 j (by omega)⟩)] at ih
       exact ih
   · rw [ltF hlt,cond_false]
     have:i = k:=by omega
     subst this
     have:decide (sameUp x i r s t i) = decide (eqv x i (r + 1) s t):=by
       refine decide_eq_decide.2 ?_
       rw [h.eqv_succ hs ht]
       exact ⟨fun g=>g.2,fun g=>⟨((h.eqv_succ hs ht).2 g).mono (by omega),g⟩⟩
     rw [this]
theorem low21 {x:MM} {k:Nat} (h:Pm x k) (N:Nat) (hN:10 < N) {C:Type} (k0:Int→List Int→Int→Int→MM→List Int→Option C) (r s:Nat) (hs:s < x.1.length) (n q:Int) :
   ∀ (F j c:Nat) (o:List Int),j < F→j ≤ s→o.length = x.1.length→o.getD s 0 = (c:Int) →
     g21L4007206f N F k0 n (clsR x k r) q (s:Int) ((j:Int) - 1) x o = k0 n (clsR x k r) q (s:Int) x (o.set s ((lw (fun t=>decide (eqv x k (r + 1) s t)) j c:Nat):Int))
 | 0,j,c,o,hF,_,_,_=>by omega
 | F + 1,0,c,o,hF,_,ho,hc=>by
   rw [g21L4007206f_succ]
   unfold g21L4007206B
   rw [show decide ((0:Int) ≤ ((0:Nat):Int) - 1) = false from rfl,cond_false]
   simp only [lw]
   rw [set_self o s _ hc (by omega)]
 | F + 1,j + 1,c,o,hF,hj,ho,hc=>by
   have n6:=h.n6
   have k3:=h.k3
   have hl:=clsR_len x k r
   rw [g21L4007206f_succ]
   unfold g21L4007206B
   have e1:(((j + 1:Nat):Int) - 1) = (j:Int):=by omega
   have w3:IntKind.wrap .i64 ((j:Int) - 1) = (j:Int) - 1:=w64 (by omega) (by omega)
   rw [e1,show decide ((0:Int) ≤ (j:Int)) = true from decide_eq_true (by omega),cond_true,if_pos (show idx (s:Int) (clsR x k r).length from ⟨by omega,by omega⟩),if_pos (show idx (j:Int) (clsR x k r).length from ⟨by omega,by omega⟩)]
   have hc0:ieq ((clsR x k r).getD (Int.toNat (s:Int)) 0) ((clsR x k r).getD (Int.toNat (j:Int)) 0) = decide (sameUp x k r s j 0):=by
     rw [Int.toNat_natCast,Int.toNat_natCast,clsR_get x k r s hs,clsR_get x k r j (by omega)]
     refine decide_eq_decide.2 ?_
     have:=lst_iff x k r s j
     exact ⟨fun g=>⟨this.1 (by omega),fun i hi=>by omega⟩,fun g=>by have:=this.2 g.1;omega⟩
   rw [hc0,g21L1025844810_eq]
   have e:=same_loop h N (fun e2 e3 e4 e5 e6 e7 e8 e9=>bif e7 then (if idx e5 e9.length then if e5.toNat < e9.length then g21L4007206f N F k0 e2 e3 e4 e5 (IntKind.wrap .i64 (e6 - 1)) e8 (e9.set e5.toNat e6) else none else none) else g21L4007206f N F k0 e2 e3 e4 e5 (IntKind.wrap .i64 (e6 - 1)) e8 e9) r s j hs (by omega) n q o N 0 (by omega) (by omega)
   refine Eq.trans e ?_
   have ih1:=low21 h N hN k0 r s hs n q F j c o (by omega) (by omega) ho hc
   have ih2:=low21 h N hN k0 r s hs n q F j j (o.set s (j:Int)) (by omega) (by omega) (by simp [ho]) (getD_set_self _ _ _ (by omega))
   simp only [lw]
   rw [w3]
   by_cases he:eqv x k (r + 1) s j
   · rw [decide_eq_true he,cond_true,cond_true,if_pos (show idx (s:Int) o.length from ⟨by omega,by omega⟩),Int.toNat_natCast,if_pos (by omega),ih2,set_set]
   · rw [decide_eq_false he,cond_false,cond_false,ih1]
theorem state21 {x:MM} {k:Nat} (h:Pm x k) (N:Nat) (hN:10 < N) {C:Type} (k0:Int→Int→MM→List Int→Option C) (r:Nat) (q:Int) :
   ∀ (F s:Nat) (o:List Int),x.1.length - s < F→s ≤ x.1.length→o.length = x.1.length→(∀ t,t < s→o.getD t 0 = (lst x k (r + 1) t:Int)) →
     g21L31306f N F k0 (x.1.length:Int) (clsR x k r) q (s:Int) x o = k0 (x.1.length:Int) q x (clsR x k (r + 1))
 | 0,s,o,hF,_,_,_=>by omega
 | F + 1,s,o,hF,hs,ho,hb=>by
   have n6:=h.n6
   rw [g21L31306f_succ]
   unfold g21L31306B
   by_cases hlt:s < x.1.length
   · rw [ltT hlt,cond_true,if_pos (show idx (s:Int) o.length from ⟨by omega,by omega⟩),Int.toNat_natCast,if_pos (by omega),g21L4007206_eq,w64 (by omega) (by omega)]
     rw [low21 h N hN (fun e10 e11 e12 e13 e14 e15=>g21L31306f N F k0 e10 e11 e12 (IntKind.wrap .i64 (e13 + 1)) e14 e15) r s hlt (x.1.length:Int) q N s s (o.set s (s:Int)) (by omega) (by omega) (by simp [ho]) (getD_set_self _ _ _ (by omega)),set_set,wn s (by omega)]
     refine state21 h N hN k0 r q F (s + 1) _ (by omega) (by omega) ?_ fun t ht=>?_
     · simp [ho]
     · rw [getD_set _ _ _ _ (by omega)]
       split
       · rename_i e;rw [e];rfl
       · exact hb t (by omega)
   · rw [ltF hlt,cond_false]
     have:s = x.1.length:=by omega
     subst this
     have:o = clsR x k (r + 1):=ext_getD (by rw [ho,clsR_len]) fun t ht=>by rw [hb t (by omega),clsR_get x k (r + 1) t (by omega)]
     rw [this]
theorem round21 {x:MM} {k:Nat} (h:Pm x k) (N:Nat) (hN:10 < N) {C:Type} (k0:List Int→MM→Option C) :
   ∀ (F r:Nat),x.1.length - r < F→r ≤ x.1.length→g21L122f N F k0 (x.1.length:Int) (clsR x k r) (r:Int) x = k0 (clsA x k) x
 | 0,r,hF,_=>by omega
 | F + 1,r,hF,hr=>by
   have n6:=h.n6
   have mk:mkOk (x.1.length:Int) (x.1.length:Int):=⟨rfl,by omega,by omega⟩
   rw [g21L122f_succ]
   unfold g21L122B
   by_cases hlt:r < x.1.length
   · rw [ltT hlt,cond_true,if_pos mk,Int.toNat_natCast,g21L31306_eq]
     refine Eq.trans (state21 h N hN (fun e16 e17 e18 e19=>g21L122f N F k0 e16 e19 (IntKind.wrap .i64 (e17 + 1)) e18) r (r:Int) N 0 (List.replicate x.1.length 0) (by omega) (by omega) (by simp) (by omega)) ?_
     rw [wn r (by omega)]
     exact round21 h N hN k0 F (r + 1) (by omega) (by omega)
   · rw [ltF hlt,cond_false]
     have:r = x.1.length:=by omega
     subst this
     rfl
theorem Pm.refAlike {x:MM} {k:Nat} (h:Pm x k) (N:Nat) (hN:10 < N):g21 N x = some (clsA x k):=by
 have n6:=h.n6
 have mk:mkOk (x.1.length:Int) (x.1.length:Int):=⟨rfl,by omega,by omega⟩
 unfold g21
 rw [if_pos mk,Int.toNat_natCast,g21L122_eq]
 have:List.replicate x.1.length (0:Int) = clsR x k 0:=ext_getD (by rw [clsR_len];simp) fun t ht=>by
   rw [getD_rep0,clsR_get x k 0 t (by simpa using ht)]
   have:lst x k 0 t = 0:=by
     by_cases h0:lst x k 0 t = 0
     · exact h0
     · exact absurd (eqv_zero x k t 0) ((lst_spec x k 0 t).2.2 0 (by omega))
   rw [this];rfl
 rw [this]
 exact round21 h N hN (fun e20 e21=>some e20) N 0 (by omega) (by omega)
end Go.Pv
namespace Go.Pv
open Bfs
theorem idx_first (t:Int):∀ (l:List Int) (q:Nat),q < l.length→l.getD q 0 = t→(∀ p,p < q→l.getD p 0 ≠ t)→l.idxOf t = q
 | [],q,h,_,_=>by simp at h
 | a :: l,0,_,he,_=>by
   have he:a = t:=by simpa using he
   rw [he];simp
 | a :: l,q + 1,h,he,hn=>by
   have h0:a ≠ t:=by simpa using hn 0 (by omega)
   have hb:(a == t) = false:=by simpa using h0
   rw [List.idxOf_cons,hb,cond_false,idx_first t l q (by simpa using h) (by simpa using he) fun p hp=>by simpa using hn (p + 1) (by omega)]
theorem idx_none (t:Int):∀ (l:List Int),t ∉ l→l.idxOf t = l.length
 | [],_=>rfl
 | a :: l,h=>by
   have h0:a ≠ t:=fun e=>h (by rw [e];exact List.mem_cons_self)
   have hb:(a == t) = false:=by simpa using h0
   rw [List.idxOf_cons,hb,cond_false,idx_none t l fun e=>h (List.mem_cons_of_mem _ e)]
   rfl
theorem idx_lt (t:Int):∀ (l:List Int),t ∈ l→l.idxOf t < l.length
 | [],h=>by simp at h
 | a :: l,h=>by
   rw [List.idxOf_cons]
   cases hb:a == t with
   | true=>simp
   | false =>
     have:t ∈ l:=by
       rcases List.mem_cons.1 h with e | e
       · rw [e] at hb;simp at hb
       · exact e
     have:=idx_lt t l this
     simp;exact this
structure VL (n:Nat) (l:List Int):Prop where
 nod:l.Nodup
 rng:∀ t ∈ l,0 ≤ t∧t < (n:Int)
theorem VL.len {n:Nat} (hn:n ≤ 6) {l:List Int} (h:VL n l):l.length ≤ n:=by
 have:=nodup_len h.nod (M:=(List.range n).map fun (i:Nat)=>(i:Int)) fun t ht=>by
   obtain ⟨h1,h2⟩:=h.rng t ht
   exact List.mem_map.2 ⟨t.toNat,List.mem_range.2 (by omega),by omega⟩
 simpa using this
def grow (l:List Int) (t:Int):List Int:=if t ∈ l then l else l ++ [t]
theorem VL.grow {n:Nat} {l:List Int} (h:VL n l) {t:Int} (h1:0 ≤ t∧t < (n:Int)):VL n (Go.Pv.grow l t):=by
 unfold Go.Pv.grow
 split
 · exact h
 · rename_i hm
   refine ⟨?_,fun u hu=>?_⟩
   · rw [List.nodup_append]
     exact ⟨h.nod,by simp,fun a ha b hb=>by rw [List.mem_singleton.1 hb];exact fun e=>hm (e ▸ ha)⟩
   · rcases List.mem_append.1 hu with hu | hu
     · exact h.rng u hu
     · rw [List.mem_singleton.1 hu];exact h1
theorem grow_len (l:List Int) (t:Int):l.length ≤ (grow l t).length:=by unfold grow;split <;> simp
theorem grow_get (l:List Int) (t:Int) (i:Nat) (hi:i < l.length):(grow l t).getD i 0 = l.getD i 0:=by
 unfold grow
 split
 · rfl
 · rw [getDapp,if_pos hi]
def tgt (cl:List Int) (x:MM) (s:Int) (j:Nat):Int:=cl.getD (nx x s (j:Int)).toNat 0
def rowL (cl:List Int) (x:MM) (s:Int):Nat→Nat→List Int→List Int→List Int×List Int
 | 0,_,l,r=>(l,r)
 | c + 1,j,l,r=>rowL cl x s c (j + 1) (grow l (tgt cl x s j)) (r ++ [((l.idxOf (tgt cl x s j):Nat):Int)])
def formF (cl:List Int) (x:MM) (k:Nat):Nat→Nat→List Int→List (List Int)→List (List Int)→Option (List (List Int)×List (List Int))
 | 0,_,_,_,_=>none
 | F + 1,i,l,nx,out=>if i < l.length then formF cl x k F (i + 1) (rowL cl x (l.getD i 0) k 0 l []).1 (nx ++ [(rowL cl x (l.getD i 0) k 0 l []).2]) (out ++ [x.2.1.getD (l.getD i 0).toNat []]) else some (nx,out)
theorem Pm.tgt {x:MM} {k:Nat} (h:Pm x k) {s:Int} (hs:0 ≤ s∧s < (x.1.length:Int)) {j:Nat} (hj:j < k):0 ≤ tgt (clsA x k) x s j∧tgt (clsA x k) x s j < (x.1.length:Int):=by
 obtain ⟨_,_,_,_,n1,_⟩:=h.step hs.1 hs.2 (i:=(j:Int)) (by omega) (by omega)
 unfold Go.Pv.tgt
 rw [clsA_get x k _ (by omega)]
 have:=(lst_spec x k x.1.length (nx x s (j:Int)).toNat).1
 omega
theorem Pm.rowL {x:MM} {k:Nat} (h:Pm x k) {s:Int} (hs:0 ≤ s∧s < (x.1.length:Int)):∀ (c j:Nat) (l r:List Int),j + c = k→VL x.1.length l →
   VL x.1.length (rowL (clsA x k) x s c j l r).1∧(rowL (clsA x k) x s c j l r).2.length = r.length + c∧l.length ≤ (rowL (clsA x k) x s c j l r).1.length∧(∀ i,i < l.length→(rowL (clsA x k) x s c j l r).1.getD i 0 = l.getD i 0)
 | 0,j,l,r,_,hv=>⟨hv,rfl,Nat.le_refl _,fun _ _=>rfl⟩
 | c + 1,j,l,r,hj,hv=>by
   obtain ⟨h1,h2,h3,h4⟩:=h.rowL hs c (j + 1) (grow l (Go.Pv.tgt (clsA x k) x s j)) (r ++ [((l.idxOf (Go.Pv.tgt (clsA x k) x s j):Nat):Int)]) (by omega) (hv.grow (h.tgt hs (by omega)))
   have hg:=grow_len l (Go.Pv.tgt (clsA x k) x s j)
   refine ⟨h1,?_,?_,fun i hi=>?_⟩
   · show (Go.Pv.rowL (clsA x k) x s c (j + 1) _ _).2.length = _
     rw [h2];simp;omega
   · exact Nat.le_trans hg h3
   · exact (h4 i (by omega)).trans (grow_get l _ i hi)
theorem Pm.formF {x:MM} {k:Nat} (h:Pm x k):∀ (F i:Nat) (l:List Int) (nx out:List (List Int)),x.1.length - i < F→i ≤ l.length→VL x.1.length l→nx.length = i→out.length = i→(∀ r ∈ nx,r.length = k)→(∀ r ∈ out,r.length = k) →
   ∃ res,formF (clsA x k) x k F i l nx out = some res∧res.1.length ≤ 6∧res.2.length ≤ 6∧(∀ r ∈ res.1,r.length = k)∧(∀ r ∈ res.2,r.length = k)
 | 0,i,l,nx,out,hF,_,_,_,_,_,_=>by omega
 | F + 1,i,l,nx,out,hF,hi,hv,h1,h2,h3,h4=>by
   have n6:=h.n6
   have hl:=hv.len n6
   unfold Go.Pv.formF
   by_cases hlt:i < l.length
   · rw [if_pos hlt]
     have hs:=hv.rng _ (getD_mem hlt 0)
     obtain ⟨r1,r2,r3,r4⟩:=h.rowL hs k 0 l [] (by omega) hv
     refine h.formF F (i + 1) _ _ _ (by omega) (by omega) r1 (by simp [h1]) (by simp [h2]) (fun r hr=>?_) (fun r hr=>?_)
     · rcases List.mem_append.1 hr with hr | hr
       · exact h3 r hr
       · rw [List.mem_singleton.1 hr,r2];simp
     · rcases List.mem_append.1 hr with hr | hr
       · exact h4 r hr
       · rw [List.mem_singleton.1 hr]
         have ho:=h.out
         exact (h.rowO _ (getD_mem (i:=(l.getD i 0).toNat) (by omega) [])).1
   · rw [if_neg hlt]
     exact ⟨_,rfl,by simp only;omega,by simp only;omega,h3,h4⟩
theorem find24 {x:MM} (N:Nat) {C:Type} (k0:List Int→Int→Int→Int→Int→MM→List Int→List Int→List Int→List (List Int)→List (List Int)→List (List Int)→List (List Int)→Option C) (cl:List Int) (i j t:Int) (nx sy l:List Int) (hl:l.length ≤ 6) (A B D E:List (List Int)) :
   ∀ (F q:Nat),l.length - q < F→q ≤ l.length→(∀ p,p < q→l.getD p 0 ≠ t)→g24L16403020f N F k0 cl i j t (q:Int) x nx sy l A B D E = k0 cl i j t ((l.idxOf t:Nat):Int) x nx sy l A B D E
 | 0,q,hF,_,_=>by omega
 | F + 1,q,hF,hq,hn=>by
   rw [g24L16403020f_succ]
   unfold g24L16403020B
   by_cases hlt:q < l.length
   · rw [ltT hlt,cond_true,if_pos (idxT hlt),Int.toNat_natCast,if_pos hlt]
     by_cases he:l.getD q 0 = t
     · rw [show ieq (l.getD q 0) t = true from decide_eq_true he,Bool.not_true,cond_false,idx_first t l q hlt he hn]
     · rw [show ieq (l.getD q 0) t = false from decide_eq_false he,Bool.not_false,cond_true,wn q (by omega)]
       exact find24 N k0 cl i j t nx sy l hl A B D E F (q + 1) (by omega) (by omega) fun p hp=>by
         by_cases hpq:p = q
         · rw [hpq];exact he
         · exact hn p (by omega)
   · rw [ltF hlt,cond_false]
     have:q = l.length:=by omega
     subst this
     rw [idx_none t l fun hm=>by
       obtain ⟨p,hp,e⟩:=List.mem_iff_getElem.1 hm
       exact hn p hp (by rw [List.getD_eq_getElem?_getD,List.getElem?_eq_getElem hp];exact e)]
theorem row24 {x:MM} {k:Nat} (h:Pm x k) (N:Nat) (hN:10 < N) {C:Type} (k0:List Int→Int→MM→List Int→List Int→List Int→List (List Int)→List (List Int)→List (List Int)→List (List Int)→Option C) (i:Nat) (s:Int) (hs:0 ≤ s∧s < (x.1.length:Int)) (A B D E:List (List Int)) :
   ∀ (F c j:Nat) (l nx:List Int),c < F→j + c = k→VL x.1.length l→i < l.length→l.getD i 0 = s→nx.length = j →
     g24L64074f N F k0 (clsA x k) (i:Int) (j:Int) x nx ((x.2.1.getD s.toNat []).take j) l A B D E = k0 (clsA x k) (i:Int) x (rowL (clsA x k) x s c j l nx).2 (x.2.1.getD s.toNat []) (rowL (clsA x k) x s c j l nx).1 A B D E
 | 0,c,j,l,nx,hF,_,_,_,_,_=>by omega
 | F + 1,0,j,l,nx,hF,hj,hv,hi,hs2,hnl=>by
   rw [g24L64074f_succ]
   unfold g24L64074B
   rw [h.inputs41 N]
   simp only [Option.bind_some]
   have:j = k:=by omega
   subst this
   have ho:=h.out
   rw [ltF (Nat.lt_irrefl j),cond_false,List.take_of_length_le (Nat.le_of_eq (h.rowO _ (getD_mem (i:=s.toNat) (by omega) [])).1)]
   rfl
 | F + 1,c + 1,j,l,nx,hF,hj,hv,hi,hs2,hnl=>by
   have n6:=h.n6
   have k3:=h.k3
   have hl:=hv.len n6
   have hlt:j < k:=by omega
   obtain ⟨a1,a2,a3,a4,an,_⟩:=h.step hs.1 hs.2 (i:=(j:Int)) (by omega) (by omega)
   have ho:=h.out
   have hro:=(h.rowO _ (getD_mem (i:=s.toNat) (by omega) [])).1
   have hcl:(clsA x k).length = x.1.length:=by unfold clsA;simp
   have ht:=h.tgt hs hlt
   rw [g24L64074f_succ]
   unfold g24L64074B
   rw [h.inputs41 N]
   simp only [Option.bind_some]
   have e1:(x.1.getD s.toNat []).getD j 0 = Go.Pv.nx x s (j:Int):=by unfold Go.Pv.nx;rw [Int.toNat_natCast]
   have e2:(clsA x k).getD (Go.Pv.nx x s (j:Int)).toNat 0 = tgt (clsA x k) x s j:=rfl
   have hsy:((x.2.1.getD s.toNat []).take j).length = j:=by rw [List.length_take];omega
   rw [ltT hlt,cond_true,if_pos (idxT hi),Int.toNat_natCast,if_pos hi,hs2,if_pos a1,if_pos a3,Int.toNat_natCast,e1,if_pos (show idx (Go.Pv.nx x s (j:Int)) (clsA x k).length by rw [hcl];exact an),e2,g24L16403020_eq]
   refine Eq.trans (find24 N _ (clsA x k) (i:Int) (j:Int) (tgt (clsA x k) x s j) nx ((x.2.1.getD s.toNat []).take j) l (by omega) A B D E N 0 (by omega) (by omega) (by omega)) ?_
   have i1:(idx (i:Int) l.length) = True:=eq_true (idxT hi)
   have m1:∀ v:Int,(nx.length + [v].length ≤ maxCount) = True:=fun v=>eq_true (by simp [maxCount];omega)
   have m2:∀ v:Int,(((x.2.1.getD s.toNat []).take j).length + [v].length ≤ maxCount) = True:=fun v=>eq_true (by rw [hsy];simp [maxCount];omega)
   have nxt:=fun l' hv' hi' hs'=>row24 h N hN k0 i s hs A B D E F c (j + 1) l' (nx ++ [((l.idxOf (tgt (clsA x k) x s j):Nat):Int)]) (by omega) (by omega) hv' hi' hs' (by simp [hnl])
   have htk:=take_getD (x.2.1.getD s.toNat []) j 0 (by omega)
   by_cases hm:tgt (clsA x k) x s j ∈ l
   · have hidx:=idx_lt _ l hm
     have hne:ieq ((l.idxOf (tgt (clsA x k) x s j):Nat):Int) ((l.length:Nat):Int) = false:=decide_eq_false (by omega)
     simp only [hne,cond_false,m1,if_true,i1,Int.toNat_natCast,eq_true hi,hs2,eq_true a2,eq_true a4,m2,wn j (by omega),htk]
     have:=nxt l hv hi hs2
     simp only [rowL,grow,if_pos hm]
     exact this
   · have hidx:=idx_none _ l hm
     have he:ieq ((l.idxOf (tgt (clsA x k) x s j):Nat):Int) ((l.length:Nat):Int) = true:=decide_eq_true (by omega)
     have m3:∀ v:Int,(l.length + [v].length ≤ maxCount) = True:=fun v=>eq_true (by simp [maxCount];omega)
     have i2:(idx (i:Int) (l ++ [tgt (clsA x k) x s j]).length) = True:=eq_true ⟨by omega,by simp;omega⟩
     have i3:(i < (l ++ [tgt (clsA x k) x s j]).length) = True:=eq_true (by simp;omega)
     have i4:(l ++ [tgt (clsA x k) x s j]).getD i 0 = s:=by rw [getDapp,if_pos hi];exact hs2
     simp only [he,cond_true,m1,m3,if_true,i2,i3,i4,Int.toNat_natCast,eq_true a2,eq_true a4,m2,wn j (by omega),htk]
     have hg:grow l (tgt (clsA x k) x s j) = l ++ [tgt (clsA x k) x s j]:=if_neg hm
     have:=nxt (grow l (tgt (clsA x k) x s j)) (hv.grow ht) (by rw [hg];simp;omega) (by rw [hg];exact i4)
     simp only [rowL]
     rw [hg] at this ⊢
     exact this
theorem form24 {x:MM} {k:Nat} (h:Pm x k) (N:Nat) (hN:10 < N) {C:Type} (k0:MM→List Int→List (List Int)→List (List Int)→List (List Int)→List (List Int)→Option C) (A B:List (List Int)) :
   ∀ (F i:Nat) (l:List Int) (nx out:List (List Int)) (res:List (List Int)×List (List Int)),VL x.1.length l→i ≤ l.length→nx.length = i→out.length = i→formF (clsA x k) x k F i l nx out = some res →
     ∃ l',g24L250f N F k0 (clsA x k) (i:Int) x l A B nx out = k0 x l' A B res.1 res.2
 | 0,i,l,nx,out,res,_,_,_,_,h0=>by simp [formF] at h0
 | F + 1,i,l,nx,out,res,hv,hi,h1,h2,h0=>by
   have n6:=h.n6
   have hl:=hv.len n6
   rw [g24L250f_succ]
   unfold g24L250B
   unfold formF at h0
   by_cases hlt:i < l.length
   · rw [if_pos hlt] at h0
     have hs:=hv.rng _ (getD_mem hlt 0)
     obtain ⟨r1,r2,r3,r4⟩:=h.rowL hs k 0 l [] (by omega) hv
     rw [ltT hlt,cond_true,g24L64074_eq]
     have e:=row24 h N hN (fun e16 e17 e18 e19 e20 e21 e22 e23 e24 e25=>if e24.length + [e19].length ≤ maxCount then if e25.length + [e20].length ≤ maxCount then g24L250f N F k0 e16 (IntKind.wrap .i64 (e17 + 1)) e18 e21 e22 e23 (e24 ++ [e19]) (e25 ++ [e20]) else none else none) i (l.getD i 0) hs A B nx out N k 0 l [] (by have:=h.k3;omega) (by omega) hv hlt rfl rfl
     obtain ⟨l',e'⟩:=form24 h N hN k0 A B F (i + 1) _ _ _ res r1 (by omega) (by simp [h1]) (by simp [h2]) h0
     refine ⟨l',?_⟩
     refine Eq.trans e ?_
     rw [if_pos (by simp [maxCount];omega),if_pos (by simp [maxCount];omega),wn i (by omega)]
     exact e'
   · rw [if_neg hlt] at h0
     obtain rfl:=Option.some.inj h0
     rw [ltF hlt,cond_false]
     exact ⟨l,rfl⟩
theorem VL.zero {n:Nat} (h:1 ≤ n):VL n [0]:=⟨by simp,fun t ht=>by rw [List.mem_singleton.1 ht];omega⟩
theorem Pm.refForm {x:MM} {k:Nat} (h:Pm x k) (N:Nat) (hN:10 < N) {res:List (List Int)×List (List Int)} (hf:Go.Pv.formF (clsA x k) x k N 0 [0] [] [] = some res):g24 N x = some (res.1,res.2,()):=by
 have n1:=h.n1
 unfold g24
 rw [h.refAlike N hN]
 have hl:(clsA x k).length = x.1.length:=by unfold clsA;simp
 simp only [Option.bind_some]
 have h0:(clsA x k).getD (Int.toNat 0) 0 = 0:=by
   show (clsA x k).getD 0 0 = 0
   rw [clsA_get x k 0 (by omega)]
   have:=(lst_spec x k x.1.length 0).1
   omega
 rw [if_pos (show idx 0 (clsA x k).length from ⟨by omega,by omega⟩),h0,g24L250_eq]
 obtain ⟨l',e⟩:=form24 h N hN (fun e26 e27 e28 e29 e30 e31=>some (e30,e31,())) [] [] N 0 [0] [] [] res (VL.zero n1) (by simp) rfl rfl hf
 exact e
theorem cat_eq (N:Nat) (hN:10 < N) (w:List Int) (v:Int) (hw:w.length ≤ 1000):g84 N [w,[v]] = some (w ++ [v]):=by
 obtain ⟨M,rfl⟩:∃ M,N = M + 3:=⟨N - 3,by omega⟩
 have d0:decide ((0:Int) < ((2:Nat):Int)) = true:=rfl
 have d1:decide ((1:Int) < ((2:Nat):Int)) = true:=rfl
 have d2:decide ((2:Int) < ((2:Nat):Int)) = false:=rfl
 have i0:(idx (0:Int) 2) = True:=eq_true ⟨by omega,by omega⟩
 have i1:(idx (1:Int) 2) = True:=eq_true ⟨by omega,by omega⟩
 have w0:IntKind.wrap .i64 ((0:Int) + 1) = 1:=w64 (by omega) (by omega)
 have w1:IntKind.wrap .i64 ((1:Int) + 1) = 2:=w64 (by omega) (by omega)
 have s0:IntKind.wrap .i64 (0 + ((w.length:Nat):Int)) = (w.length:Int):=by rw [w64 (by omega) (by omega)];omega
 have s1:IntKind.wrap .i64 (((w.length:Nat):Int) + ((1:Nat):Int)) = ((w.length + 1:Nat):Int):=by rw [w64 (by omega) (by omega)];omega
 have c0:decide (((w.length:Nat):Int) < 0) = false:=decide_eq_false (by omega)
 have c1:decide (((w.length + 1:Nat):Int) < 0) = false:=decide_eq_false (by omega)
 have len2:([w,[v]]:List (List Int)).length = 2:=rfl
 have g0:([w,[v]]:List (List Int)).getD (Int.toNat 0) [] = w:=rfl
 have g1:([w,[v]]:List (List Int)).getD (Int.toNat 1) [] = [v]:=rfl
 have l1:([v]:List Int).length = 1:=rfl
 have gr:g109x (M + 3) ((w.length + 1:Nat):Int) = some ((((),()),((),()),(([]:List Int),())):(g109xS).R):=by
   unfold g109x
   have z:IntKind.wrap .i64 ((0:Int) - 0) = 0:=w64 (by omega) (by omega)
   have z2:IntKind.wrap .i64 (((w.length + 1:Nat):Int) - 0) = ((w.length + 1:Nat):Int):=by rw [w64 (by omega) (by omega)];omega
   rw [c1,cond_false,z,z2,decide_eq_true (by omega),cond_true,if_pos ⟨by omega,by omega⟩,if_pos ⟨by omega,by omega,by omega⟩]
   rfl
 unfold g84
 rw [g84L58_eq,g84L58f_succ]
 unfold g84L58B
 simp only [len2,d0,cond_true,i0,if_true,g0,s0,c0,cond_false,w0]
 rw [g84L58f_succ]
 unfold g84L58B
 simp only [d1,cond_true,len2,i1,if_true,g1,l1,s1,c1,cond_false,w1]
 rw [g84L58f_succ]
 unfold g84L58B
 simp only [d2,cond_false,gr,Option.bind_some]
 rw [g84L250_eq,g84L250f_succ]
 unfold g84L250B
 simp only [len2,d0,cond_true,i0,if_true,g0,w0]
 rw [if_pos (by simp [maxCount];omega),g84L250f_succ]
 unfold g84L250B
 simp only [d1,cond_true,len2,i1,if_true,g1,w1]
 rw [if_pos (by simp [maxCount];omega),g84L250f_succ]
 unfold g84L250B
 simp only [d2,cond_false]
 rfl
theorem beqI (a b:Int):Ty.beq (.int .i64) a b = decide (a = b):=rfl
abbrev NM:=List (Int×Int)
def Num (mp:NM) (l:List Int):Prop:=∀ t,mapFind (Ty.beq (.int .i64)) t mp = if t ∈ l then some ((l.idxOf t:Nat):Int) else none
theorem Num.put {mp:NM} {l:List Int} (h:Num mp l) {t:Int} (hm:t ∉ l):Num (mapPut (Ty.beq (.int .i64)) t ((l.length:Nat):Int) mp) (l ++ [t]):=by
 intro u
 rw [find_put _ beqI]
 by_cases hu:u = t
 · subst hu
   rw [if_pos rfl,if_pos (by simp),List.idxOf_append,if_neg hm]
   simp
 · rw [if_neg hu,h u]
   by_cases hul:u ∈ l
   · rw [if_pos hul,if_pos (by simp [hul]),List.idxOf_append,if_pos hul]
   · rw [if_neg hul,if_neg (by simp [hul,hu])]
def Wys (ws:List (List Int)) (l:List Int):Prop:=ws.length = l.length∧∀ j,j < ws.length→(ws.getD j []).length ≤ j
theorem row60 {x:MM} {k:Nat} (h:Pm x k) (N:Nat) (hN:10 < N) {C:Type} (k0:List Int→Int→Int→MM→List Int→NM→List Int→List (List Int)→List (List Int)→List (List Int)→List (List Int)→List (List Int)→Option C) (i:Nat) (s:Int) (hs:0 ≤ s∧s < (x.1.length:Int)) (A B D E:List (List Int)) :
   ∀ (F c j:Nat) (l r:List Int) (mp:NM) (ws:List (List Int)),c < F→j + c = k→VL x.1.length l→i < l.length→r.length = j→Num mp l→Wys ws l →
     ∃ mp' ws',Num mp' (rowL (clsA x k) x s c j l r).1∧Wys ws' (rowL (clsA x k) x s c j l r).1 ∧
       g60L521370f N F k0 (clsA x k) (i:Int) s (x.1.getD s.toNat []) (k:Int) (j:Int) x r mp l ws A B D E = k0 (clsA x k) (i:Int) s x (rowL (clsA x k) x s c j l r).2 mp' (rowL (clsA x k) x s c j l r).1 ws' A B D E
 | 0,c,j,l,r,mp,ws,hF,_,_,_,_,_,_=>by omega
 | F + 1,0,j,l,r,mp,ws,hF,hj,hv,hi,hr,hn,hw=>by
   rw [g60L521370f_succ]
   unfold g60L521370B
   have:j = k:=by omega
   subst this
   rw [ltF (Nat.lt_irrefl j),cond_false]
   exact ⟨mp,ws,hn,hw,rfl⟩
 | F + 1,c + 1,j,l,r,mp,ws,hF,hj,hv,hi,hr,hn,hw=>by
   have n6:=h.n6
   have k3:=h.k3
   have hl:=hv.len n6
   have hlt:j < k:=by omega
   obtain ⟨a1,a2,a3,a4,an,_⟩:=h.step hs.1 hs.2 (i:=(j:Int)) (by omega) (by omega)
   have hcl:(clsA x k).length = x.1.length:=by unfold clsA;simp
   have ht:=h.tgt hs hlt
   rw [g60L521370f_succ]
   unfold g60L521370B
   have e1:(x.1.getD s.toNat []).getD j 0 = nx x s (j:Int):=by unfold nx;rw [Int.toNat_natCast]
   have e2:(clsA x k).getD (nx x s (j:Int)).toNat 0 = tgt (clsA x k) x s j:=rfl
   have m1:∀ v:Int,(r.length + [v].length ≤ maxCount) = True:=fun v=>eq_true (by simp [maxCount];omega)
   rw [ltT hlt,cond_true,if_pos a3,Int.toNat_natCast,e1,if_pos (show idx (nx x s (j:Int)) (clsA x k).length by rw [hcl];exact an),e2]
   by_cases hm:tgt (clsA x k) x s j ∈ l
   · have hf:=hn (tgt (clsA x k) x s j)
     rw [if_pos hm] at hf
     have hrw:rowL (clsA x k) x s (c + 1) j l r = rowL (clsA x k) x s c (j + 1) l (r ++ [((l.idxOf (tgt (clsA x k) x s j):Nat):Int)]):=by simp only [rowL,grow,if_pos hm]
     rw [hf,hrw]
     simp only [Option.isSome_some,Bool.not_true,cond_false,Option.getD_some,m1,if_true,wn j (by omega)]
     exact row60 h N hN k0 i s hs A B D E F c (j + 1) l _ mp ws (by omega) (by omega) hv hi (by simp [hr]) hn hw
   · have hf:=hn (tgt (clsA x k) x s j)
     rw [if_neg hm] at hf
     have hg:grow l (tgt (clsA x k) x s j) = l ++ [tgt (clsA x k) x s j]:=if_neg hm
     have hidx:=idx_none _ l hm
     have hrw:rowL (clsA x k) x s (c + 1) j l r = rowL (clsA x k) x s c (j + 1) (l ++ [tgt (clsA x k) x s j]) (r ++ [((l.length:Nat):Int)]):=by simp only [rowL,hg,hidx]
     have hp:mapFind (Ty.beq (.int .i64)) (tgt (clsA x k) x s j) (mapPut (Ty.beq (.int .i64)) (tgt (clsA x k) x s j) ((l.length:Nat):Int) mp) = some ((l.length:Nat):Int):=by rw [find_put _ beqI,if_pos rfl]
     have hwi:i < ws.length:=by rw [hw.1];exact hi
     have hwl:=hw.2 i hwi
     have m3:∀ v:Int,(l.length + [v].length ≤ maxCount) = True:=fun v=>eq_true (by simp [maxCount];omega)
     have hwl2:=hw.1
     have m4:∀ v:List Int,(ws.length + [v].length ≤ maxCount) = True:=fun v=>eq_true (by simp [maxCount];omega)
     rw [hf,hrw]
     simp only [Option.isSome_none,Bool.not_false,cond_true,m3,if_true,eq_true (idxT hwi),Int.toNat_natCast,eq_true hwi,cat_eq N hN (ws.getD i []) (j:Int) (by omega),Option.bind_some,m4,hp,Option.getD_some,m1,wn j (by omega)]
     refine row60 h N hN k0 i s hs A B D E F c (j + 1) (l ++ [tgt (clsA x k) x s j]) _ _ _ (by omega) (by omega) (by rw [← hg];exact hv.grow ht) (by simp;omega) (by simp [hr]) (hn.put hm) ⟨by simp [hwl2],fun q hq=>?_⟩
     rw [List.length_append,List.length_singleton] at hq
     rw [getDapp]
     split
     · exact hw.2 q (by assumption)
     · rename_i hq2
       rw [if_pos (by omega),List.length_append,List.length_singleton];omega
theorem clone_eq (N:Nat) (l:List Int) (h0:0 < l.length) (h:l.length ≤ 1000):g90 N l = some l:=by
 unfold g90
 rw [if_pos h0,if_pos (by simp [maxCount];omega)]
 rfl
theorem form60 {x:MM} {k:Nat} (h:Pm x k) (N:Nat) (hN:10 < N) {C:Type} (k0:MM→NM→List Int→List (List Int)→List (List Int)→List (List Int)→List (List Int)→List (List Int)→Option C) (A B:List (List Int)) :
   ∀ (F i:Nat) (l:List Int) (mp:NM) (ws nx out:List (List Int)) (res:List (List Int)×List (List Int)),VL x.1.length l→i ≤ l.length→nx.length = i→out.length = i→Num mp l→Wys ws l→formF (clsA x k) x k F i l nx out = some res →
     ∃ mp' l' ws',g60L1018f N F k0 (clsA x k) (i:Int) x mp l ws A B nx out = k0 x mp' l' ws' A B res.1 res.2
 | 0,i,l,mp,ws,nx,out,res,_,_,_,_,_,_,h0=>by simp [formF] at h0
 | F + 1,i,l,mp,ws,nx,out,res,hv,hi,h1,h2,hn,hw,h0=>by
   have n6:=h.n6
   have k1:=h.k1
   have k3:=h.k3
   have hl:=hv.len n6
   rw [g60L1018f_succ]
   unfold g60L1018B
   unfold formF at h0
   by_cases hlt:i < l.length
   · rw [if_pos hlt] at h0
     have hs:=hv.rng _ (getD_mem hlt 0)
     have ho:=h.out
     obtain ⟨r1,r2,r3,r4⟩:=h.rowL hs k 0 l [] (by omega) hv
     have hrn:=(h.rowN _ (getD_mem (i:=(l.getD i 0).toNat) (by omega) [])).1
     have hro:=(h.rowO _ (getD_mem (i:=(l.getD i 0).toNat) (by omega) [])).1
     rw [ltT hlt,cond_true,if_pos (idxT hlt),Int.toNat_natCast,if_pos hlt,if_pos (show idx (l.getD i 0) x.1.length from ⟨hs.1,hs.2⟩),g60L521370_eq,hrn]
     obtain ⟨mp',ws',q1,q2,e⟩:=row60 h N hN (fun e3 e4 e5 e6 e7 e8 e9 e10 e11 e12 e13 e14=>if e13.length + [e7].length ≤ maxCount then if idx e5 e6.2.1.length then Option.bind (g90 N (e6.2.1.getD e5.toNat [])) fun r15=>if e14.length + [r15].length ≤ maxCount then g60L1018f N F k0 e3 (IntKind.wrap .i64 (e4 + 1)) e6 e8 e9 e10 e11 e12 (e13 ++ [e7]) (e14 ++ [r15]) else none else none else none) i (l.getD i 0) hs A B nx out N k 0 l [] mp ws (by omega) (by omega) hv hlt rfl hn hw
     obtain ⟨mp2,l2,ws2,e'⟩:=form60 h N hN k0 A B F (i + 1) _ mp' ws' _ _ res r1 (by omega) (by simp [h1]) (by simp [h2]) q1 q2 h0
     refine ⟨mp2,l2,ws2,?_⟩
     refine Eq.trans e ?_
     rw [if_pos (by simp [maxCount];omega),if_pos (show idx (l.getD i 0) x.2.1.length from ⟨hs.1,by omega⟩),clone_eq N _ (by omega) (by omega)]
     simp only [Option.bind_some]
     rw [if_pos (by simp [maxCount];omega),wn i (by omega)]
     exact e'
   · rw [if_neg hlt] at h0
     obtain rfl:=Option.some.inj h0
     rw [ltF hlt,cond_false]
     exact ⟨mp,l,ws,rfl⟩
theorem Pm.form {x:MM} {k:Nat} (h:Pm x k) (N:Nat) (hN:1000 < N):∃ f ws:List (List Int),∃ o,g60 N x = some ((f,o,()),ws,())∧g24 N x = some (f,o,())∧f.length ≤ 6∧o.length ≤ 6∧(∀ r ∈ f,r.length = k)∧(∀ r ∈ o,r.length = k):=by
 have n1:=h.n1
 have n6:=h.n6
 obtain ⟨res,hf,f1,f2,f3,f4⟩:=h.formF N 0 [0] [] [] (by omega) (by simp) (VL.zero n1) rfl rfl (by simp) (by simp)
 have hn:Num (mapPut (Ty.beq (.int .i64)) 0 0 ([]:NM)) [0]:=by
   intro u
   rw [find_put _ beqI]
   by_cases hu:u = 0
   · subst hu;simp
   · rw [if_neg hu,if_neg (by simpa using hu)];rfl
 have hw:Wys [([]:List Int)] [0]:=⟨rfl,fun j hj=>by
   obtain rfl:j = 0:=by simpa using hj
   simp⟩
 obtain ⟨mp',l',ws',e⟩:=form60 h N (by omega) (fun e16 e17 e18 e19 e20 e21 e22 e23=>some ((e22,e23,()),e19,())) [] [] N 0 [0] _ [([]:List Int)] [] [] res (VL.zero n1) (by simp) rfl rfl hn hw hf
 refine ⟨res.1,ws',res.2,?_,h.refForm N (by omega) hf,f1,f2,f3,f4⟩
 unfold g60
 rw [h.alike N hN]
 simp only [Option.bind_some]
 rw [g60L1018_eq]
 exact e
end Go.Pv
namespace Go.Pv
theorem awake_eq:g25v1 2000 = some true:=by kernel_rfl
end Go.Pv
