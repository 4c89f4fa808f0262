/- Plain texts, merged: QzA, QzB, QzAw. -/
import Derived.Test.YtiinfljjfceckaaGreatDoorPvL9Z
import Derived.Test.YtiinfljjfceckaaGreatDoorPvG9Z
import Derived.KernelRfl
/- Seat 09 (ProbeChecks), plain: lists in ranges, copies, machines as they should be. -/
set_option linter.unusedVariables false
set_option linter.unusedSimpArgs false
namespace Go.Pv
abbrev MM:=List (List Int)×List (List Int)×Unit
theorem w64 {x:Int} (h1:-9223372036854775808 ≤ x) (h2:x < 9223372036854775808):IntKind.wrap .i64 x = x:=by rw [IntKind.wrap_i64];omega
theorem wn (i:Nat) (h:i < 1000000):IntKind.wrap .i64 ((i:Int) + 1) = ((i + 1:Nat):Int):=by rw [w64 (by omega) (by omega)];simp
@[simp] theorem ieq_self (x:Int):ieq x x = true:=by simp only [ieq,decide_true]
theorem getD_mem {α:Type} {l:List α} {i:Nat} (h:i < l.length) (d:α):l.getD i d ∈ l:=by
 rw [List.getD_eq_getElem?_getD,List.getElem?_eq_getElem h];simp
theorem getD_drop {α:Type} (l:List α) (i:Nat) (d:α) (h:i < l.length):l.drop i = l.getD i d :: l.drop (i + 1):=by
 rw [List.drop_eq_getElem_cons h];simp [h]
theorem take_getD {α:Type} (l:List α) (i:Nat) (d:α) (h:i < l.length):l.take i ++ [l.getD i d] = l.take (i + 1):=by
 rw [List.take_add_one];simp [h]
theorem idxT {i:Nat} {n:Nat} (h:i < n):idx (i:Int) n:=⟨by omega,by omega⟩
theorem ltT {i n:Nat} (h:i < n):decide ((i:Int) < (n:Int)) = true:=by simp;omega
theorem ltF {i n:Nat} (h:¬ i < n):decide ((i:Int) < (n:Int)) = false:=by simp;omega
theorem any_loop (N:Nat) {C:Type} (k0:Int→Option C) (k1:Option C) (l:List Int) (f:(Int×Unit)→Option Bool) (p:Int→Bool) (hf:∀ x,f (x,()) = some (p x)) (hl:l.length < 4611686018427387904) :
   ∀ (F i:Nat),l.length - i < F→i ≤ l.length→((l.drop i).any p = true∧∃ j:Nat,g76L26f N F k0 k1 l f (l.length:Int) (i:Int) = k0 j) ∨ ((l.drop i).any p = false∧g76L26f N F k0 k1 l f (l.length:Int) (i:Int) = k1)
 | 0,i,h,_=>by omega
 | F + 1,i,h,hi=>by
   rw [g76L26f_succ]
   unfold g76L26B
   by_cases hlt:i < l.length
   · rw [ltT hlt,cond_true,if_pos (idxT hlt),Int.toNat_natCast,hf]
     simp only [Option.bind_some]
     rw [getD_drop l i 0 hlt,List.any_cons]
     cases hp:p (l.getD i 0) with
     | true=>exact .inl ⟨by simp,i,rfl⟩
     | false =>
       simp only [cond_false,Bool.false_or]
       have e3:IntKind.wrap .i64 ((i:Int) + 1) = ((i + 1:Nat):Int):=by rw [w64 (by omega) (by omega)];simp
       rw [e3]
       exact any_loop N k0 k1 l f p hf hl F (i + 1) (by omega) (by omega)
   · rw [ltF hlt,cond_false,List.drop_eq_nil_of_le (by omega)]
     exact .inr ⟨rfl,rfl⟩
theorem are_eq (N:Nat) (lo hi:Int) (l:List Int) (hN:l.length < N) (hl:l.length < 4611686018427387904):g27 N lo hi l = some (l.all fun x=>decide (lo ≤ x) && decide (x ≤ hi)):=by
 unfold g27 g54 g76
 rw [g76L26_eq]
 have:=any_loop N (fun e2=>some e2) (some (-1)) l (fun (x1:(Int)×(Unit))=>Option.bind (g55 N x1.1 lo hi) fun y2=>some y2) (fun x=>decide (x < lo) || decide (hi < x))
   (fun x=>by
     simp only [g55]
     cases h:decide (x < lo) <;> simp) hl N 0 (by omega) (by omega)
 simp only [Int.natCast_zero,List.drop_zero] at this
 have hx:(l.all fun x=>decide (lo ≤ x) && decide (x ≤ hi)) = !(l.any fun x=>decide (x < lo) || decide (hi < x)):=by
   rw [List.not_any_eq_all_not]
   congr 1
   funext x
   by_cases h1:x < lo <;> by_cases h2:hi < x <;> simp [h1,h2] <;> omega
 rcases this with ⟨h1,j,h2⟩ | ⟨h1,h2⟩
 · rw [h2,hx,h1]
   simp
 · rw [h2,hx,h1]
   simp
theorem are_true (N:Nat) (lo hi:Int) (l:List Int) (hN:l.length < N) (hl:l.length < 1000000) (h:∀ x ∈ l,lo ≤ x∧x ≤ hi):g27 N lo hi l = some true:=by
 rw [are_eq N lo hi l hN (by omega)]
 congr 1
 rw [List.all_eq_true]
 intro x hx
 have:=h x hx
 simp;exact this
theorem few_eq (N:Nat) (l:List Int) (k:Int) (h0:0 ≤ k) (hk:k ≤ 1000):g6 N l k = some (l.take k.toNat):=by
 unfold g6
 have e:imin (l.length:Int) k = ((min l.length k.toNat:Nat):Int):=by simp only [imin];split <;> omega
 rw [e,if_pos ⟨by omega,by omega,by omega⟩]
 have:List.take (min l.length k.toNat) l = l.take k.toNat:=by
   rcases Nat.le_total l.length k.toNat with h | h
   · rw [Nat.min_eq_left h,List.take_of_length_le h,List.take_length]
   · rw [Nat.min_eq_right h]
 simp [this,maxCount]
 omega
structure Pm (x:MM) (k:Nat):Prop where
 n1:1 ≤ x.1.length
 n6:x.1.length ≤ 6
 out:x.2.1.length = x.1.length
 k1:1 ≤ k
 k3:k ≤ 3
 rowN:∀ r ∈ x.1,r.length = k∧∀ t ∈ r,0 ≤ t∧t < (x.1.length:Int)
 rowO:∀ r ∈ x.2.1,r.length = k∧∀ t ∈ r,0 ≤ t∧t ≤ 3
theorem Pm.inputs {x:MM} {k:Nat} (h:Pm x k) (N:Nat):g28 N x = some (k:Int):=by
 unfold g28
 have:=h.n1
 rw [if_pos ⟨by omega,by omega⟩]
 have:=(h.rowN _ (getD_mem (i:=0) (by omega) [])).1
 simp only [show Int.toNat 0 = 0 from rfl,this]
theorem Pm.inputs41 {x:MM} {k:Nat} (h:Pm x k) (N:Nat):g48 N x = some (k:Int):=h.inputs N
theorem Pm.check_loop {x:MM} {k:Nat} (h:Pm x k) (N:Nat) (hN:20 < N) {C:Type} (k0:Int→MM→Option C) (k1:MM→Option C) :
   ∀ (F i:Nat),x.1.length - i < F→i ≤ x.1.length→g8L122f N F k0 k1 (x.1.length:Int) x.1 (x.1.length:Int) (i:Int) x = k1 x
 | 0,i,hF,_=>by omega
 | F + 1,i,hF,hi=>by
   rw [g8L122f_succ]
   unfold g8L122B
   have:=h.n6;have:=h.k3
   by_cases hlt:i < x.1.length
   · have ho:i < x.2.1.length:=by rw [h.out];exact hlt
     obtain ⟨r1,r2⟩:=h.rowN _ (getD_mem hlt [])
     obtain ⟨o1,o2⟩:=h.rowO _ (getD_mem ho [])
     have e1:g27 N 0 (IntKind.wrap .i64 ((x.1.length:Int) - 1)) (x.1.getD i []) = some true:=by
       rw [w64 (by omega) (by omega)]
       exact are_true N _ _ _ (by omega) (by omega) fun t ht=>by have:=r2 t ht;omega
     have e2:g27 N 0 3 (x.2.1.getD i []) = some true:=are_true N _ _ _ (by omega) (by omega) o2
     rw [ltT hlt,cond_true,if_pos (idxT hlt),h.inputs N]
     simp only [Option.bind_some,Int.toNat_natCast,r1,ieq_self,Bool.not_true,cond_false]
     rw [if_pos (idxT ho),o1,ieq_self,Bool.not_true,cond_false,e1]
     simp only [Option.bind_some,Bool.not_true,cond_false]
     rw [if_pos (idxT ho),e2]
     simp only [Option.bind_some,Bool.not_true,cond_false]
     rw [wn i (by omega)]
     exact h.check_loop N hN k0 k1 F (i + 1) (by omega) (by omega)
   · rw [ltF hlt,cond_false]
theorem Pm.check {x:MM} {k:Nat} (h:Pm x k) (N:Nat) (hN:20 < N):g8 N x = some 0:=by
 have:=h.n1;have:=h.n6;have:=h.k1;have:=h.k3
 unfold g8
 rw [are_true N 1 6 [((x.1.length:Nat):Int)] (by simp;omega) (by simp) (by simp;omega)]
 simp only [Option.bind_some,Bool.not_true,cond_false,h.out,ieq_self]
 rw [if_pos ⟨by omega,by omega⟩]
 have r1:=(h.rowN _ (getD_mem (i:=0) (by omega) [])).1
 simp only [show Int.toNat 0 = 0 from rfl,r1]
 rw [are_true N 1 3 [(k:Int)] (by simp;omega) (by simp) (by simp;omega)]
 simp only [Option.bind_some,Bool.not_true,cond_false]
 rw [g8L122_eq]
 exact h.check_loop N hN _ _ N 0 (by omega) (by omega)
def allN:Nat→Nat→(Nat→Bool)→Bool
 | 0,_,_=>true
 | m + 1,i,f=>f i && allN m (i + 1) f
theorem allN_step {n i:Nat} (h:i < n) (f:Nat→Bool):allN (n - i) i f = (f i && allN (n - (i + 1)) (i + 1) f):=by
 rw [show n - i = (n - (i + 1)) + 1 by omega];rfl
theorem allN_end {n i:Nat} (h:¬ i < n) (f:Nat→Bool):allN (n - i) i f = true:=by
 rw [show n - i = 0 by omega];rfl
theorem allN_iff:∀ (m i:Nat) (f:Nat→Bool),allN m i f = true ↔ ∀ j,i ≤ j→j < i + m→f j = true
 | 0,i,f=>⟨fun _ j h1 h2=>by omega,fun _=>rfl⟩
 | m + 1,i,f=>by
   simp only [allN,Bool.and_eq_true,allN_iff m (i + 1) f]
   constructor
   · rintro ⟨h1,h2⟩ j h3 h4
     by_cases hj:j = i
     · rw [hj];exact h1
     · exact h2 j (by omega) (by omega)
   · intro h
     exact ⟨h i (by omega) (by omega),fun j h1 h2=>h j (by omega) (by omega)⟩
theorem open_checks (N:Nat) (hN:20 < N) {C:Type} (k0:List MM→Int→List (List Int)→Int→Option C) (k1:List MM→Int→List (List Int)→Option C) (l:List MM) (s:Int) (ws:List (List Int)) (hl:l.length ≤ 10) (hp:∀ m ∈ l,∃ k,Pm m k) :
   ∀ (F i:Nat),l.length - i < F→i ≤ l.length→g31L26f N F k0 k1 l s ws l (l.length:Int) (i:Int) = k1 l s ws
 | 0,i,hF,_=>by omega
 | F + 1,i,hF,hi=>by
   rw [g31L26f_succ]
   unfold g31L26B
   by_cases hlt:i < l.length
   · obtain ⟨k,hk⟩:=hp _ (getD_mem hlt (([]:List (List Int)),([]:List (List Int)),()))
     rw [ltT hlt,cond_true,if_pos (idxT hlt),Int.toNat_natCast,hk.check N hN]
     simp only [Option.bind_some,ieq_self,Bool.not_true,cond_false]
     rw [wn i (by omega)]
     exact open_checks N hN k0 k1 l s ws hl hp F (i + 1) (by omega) (by omega)
   · rw [ltF hlt,cond_false]
theorem open_checks0 (N:Nat) (hN:20 < N) {C:Type} (k0:List MM→Int→List (List Int)→Int→Option C) (k1:List MM→Int→List (List Int)→Option C) (l:List MM) (s:Int) (ws:List (List Int)) (hl:l.length ≤ 10) (hp:∀ m ∈ l,∃ k,Pm m k):g31L26f N N k0 k1 l s ws l (l.length:Int) 0 = k1 l s ws :=
 open_checks N hN k0 k1 l s ws hl hp N 0 (by omega) (by omega)
theorem open_inputs (N:Nat) {C:Type} (k0:List MM→Int→List (List Int)→Int→Option C) (k1:List MM→Int→List (List Int)→Option C) (l:List MM) (k:Nat) (s:Int) (ws:List (List Int)) (hl:l.length ≤ 10) (h1:1 ≤ l.length) (h0:g28 N (l.getD 0 ([],[],())) = some (k:Int))
   (K:MM→Int) (hK:∀ m ∈ l,g28 N m = some (K m)) :
   ∀ (F i:Nat),l.length - i < F→i ≤ l.length→g31L58f N F k0 k1 l s ws l (l.length:Int) (i:Int) = bif (l.drop i).all (fun m=>ieq (K m) (k:Int)) then k1 l s ws else k0 l s ws 1
 | 0,i,hF,_=>by omega
 | F + 1,i,hF,hi=>by
   rw [g31L58f_succ]
   unfold g31L58B
   by_cases hlt:i < l.length
   · rw [ltT hlt,cond_true,if_pos (idxT hlt),Int.toNat_natCast,hK _ (getD_mem hlt _)]
     simp only [Option.bind_some]
     rw [if_pos ⟨by omega,by omega⟩]
     simp only [show Int.toNat 0 = 0 from rfl]
     rw [h0]
     simp only [Option.bind_some]
     rw [getD_drop l i (([]:List (List Int)),([]:List (List Int)),()) hlt,List.all_cons]
     cases hq:ieq (K (l.getD i (([]:List (List Int)),([]:List (List Int)),()))) (k:Int) with
     | false=>simp
     | true =>
       simp only [Bool.not_true,cond_false,Bool.true_and]
       rw [wn i (by omega)]
       exact open_inputs N k0 k1 l k s ws hl h1 h0 K hK F (i + 1) (by omega) (by omega)
   · rw [ltF hlt,cond_false,List.drop_eq_nil_of_le (by omega)];rfl
theorem open_inputs0 (N:Nat) (hN:20 < N) {C:Type} (k0:List MM→Int→List (List Int)→Int→Option C) (k1:List MM→Int→List (List Int)→Option C) (l:List MM) (k:Nat) (s:Int) (ws:List (List Int)) (hl:l.length ≤ 10) (h1:1 ≤ l.length) (h0:g28 N (l.getD 0 ([],[],())) = some (k:Int))
   (K:MM→Int) (hK:∀ m ∈ l,g28 N m = some (K m)):g31L58f N N k0 k1 l s ws l (l.length:Int) 0 = bif l.all (fun m=>ieq (K m) (k:Int)) then k1 l s ws else k0 l s ws 1:=by
 have:=open_inputs N k0 k1 l k s ws hl h1 h0 K hK N 0 (by omega) (by omega)
 simpa using this
def wordB (k:Nat) (w:List Int):Bool:=decide (w.length ≤ 100) && w.all fun x=>decide (0 ≤ x) && decide (x ≤ (k:Int) - 1)
theorem open_words (N:Nat) (hN:1000 < N) {C:Type} (k0:Int→Option C) (k1:Option C) (l:List MM) (k:Nat) (hk:k ≤ 3) (h1:1 ≤ l.length) (h0:g28 N (l.getD 0 ([],[],())) = some (k:Int)) (ws:List (List Int)) (hw:ws.length ≤ 1000) :
   ∀ (F i:Nat),ws.length - i < F→i ≤ ws.length→g31L250f N F k0 k1 l ws (ws.length:Int) (i:Int) = bif (ws.drop i).all (wordB k) then k1 else k0 1
 | 0,i,hF,_=>by omega
 | F + 1,i,hF,hi=>by
   rw [g31L250f_succ]
   unfold g31L250B
   by_cases hlt:i < ws.length
   · rw [ltT hlt,cond_true,if_pos (idxT hlt),Int.toNat_natCast,getD_drop ws i [] hlt,List.all_cons]
     by_cases h100:(ws.getD i []).length ≤ 100
     · have e1:decide ((100:Int) < ((ws.getD i []).length:Int)) = false:=decide_eq_false (by omega)
       rw [e1,cond_false,if_pos ⟨by omega,by omega⟩]
       simp only [show Int.toNat 0 = 0 from rfl]
       rw [h0]
       simp only [Option.bind_some]
       rw [w64 (by omega) (by omega),are_eq N _ _ _ (by omega) (by omega)]
       simp only [Option.bind_some]
       have e2:wordB k (ws.getD i []) = (ws.getD i []).all fun x=>decide (0 ≤ x) && decide (x ≤ (k:Int) - 1):=by
         unfold wordB
         rw [decide_eq_true h100,Bool.true_and]
       rw [e2]
       cases hq:(ws.getD i []).all fun x=>decide (0 ≤ x) && decide (x ≤ (k:Int) - 1) with
       | false=>simp
       | true =>
         simp only [Bool.not_true,cond_false,Bool.true_and]
         rw [wn i (by omega)]
         exact open_words N hN k0 k1 l k hk h1 h0 ws hw F (i + 1) (by omega) (by omega)
     · have e1:decide ((100:Int) < ((ws.getD i []).length:Int)) = true:=decide_eq_true (by omega)
       have e2:wordB k (ws.getD i []) = false:=by
         unfold wordB
         rw [decide_eq_false h100,Bool.false_and]
       rw [e1,cond_true,e2];simp
   · rw [ltF hlt,cond_false,List.drop_eq_nil_of_le (by omega)];rfl
theorem open_words0 (N:Nat) (hN:1000 < N) {C:Type} (k0:Int→Option C) (k1:Option C) (l:List MM) (k:Nat) (hk:k ≤ 3) (h1:1 ≤ l.length) (h0:g28 N (l.getD 0 ([],[],())) = some (k:Int)) (ws:List (List Int)) (hw:ws.length ≤ 1000) :
   g31L250f N N k0 k1 l ws (ws.length:Int) 0 = bif ws.all (wordB k) then k1 else k0 1:=by
 have:=open_words N hN k0 k1 l k hk h1 h0 ws hw N 0 (by omega) (by omega)
 simpa using this
theorem open_eq (N:Nat) (hN:1000 < N) (l:List MM) (k:Nat) (s:Int) (ws:List (List Int)) (hl:l.length ≤ 10) (h1:1 ≤ l.length) (hp:∀ m ∈ l,Pm m k) (s0:0 ≤ s) (s1:s < ((l.getD 0 ([],[],())).1.length:Int)) (hw:ws.length ≤ 1000) :
   g31 N l s ws = some (bif ws.all (wordB k) then 0 else 1):=by
 have hm:=getD_mem (l:=l) (i:=0) (by omega) (([]:List (List Int)),([]:List (List Int)),())
 have h0:=(hp _ hm).inputs N
 have hk:=(hp _ hm).k3
 have hn:=(hp _ hm).n6
 unfold g31
 rw [g31L26_eq,open_checks0 N (by omega) _ _ l s ws hl (fun m h=>⟨k,hp m h⟩)]
 rw [g31L58_eq,open_inputs0 N (by omega) _ _ l k s ws hl h1 h0 (fun _=>(k:Int)) (fun m h=>(hp m h).inputs N)]
 simp only [ieq_self,List.all_eq_true,implies_true,show l.all (fun m=>true) = true from by simp,cond_true]
 rw [if_pos ⟨by omega,by omega⟩]
 have e1:g37 N (l.getD (Int.toNat 0) ([],[],())) = some ((l.getD 0 ([],[],())).1.length:Int):=rfl
 rw [e1]
 simp only [Option.bind_some]
 rw [w64 (by omega) (by omega),are_true N _ _ [s] (by simp;omega) (by simp) (fun t ht=>by obtain rfl:=List.mem_singleton.1 ht;omega)]
 simp only [Option.bind_some,Bool.not_true,cond_false]
 rw [g31L250_eq,open_words0 N hN _ _ l k hk h1 h0 ws hw]
 cases ws.all (wordB k) <;> rfl
theorem Pm.word39_loop {x:MM} {k:Nat} (h:Pm x k) (N:Nat) {C:Type} (k0:List Int→Bool→MM→Option C) (k1:List Int→MM→Option C) (w:List Int) (hw:w.length ≤ 1000) :
   ∀ (F i:Nat),w.length - i < F→i ≤ w.length→g18L26f N F k0 k1 w (i:Int) x = bif (w.drop i).all (fun t=>decide (0 ≤ t) && decide (t ≤ (k:Int) - 1)) then k1 w x else k0 w false x
 | 0,i,hF,_=>by omega
 | F + 1,i,hF,hi=>by
   rw [g18L26f_succ]
   unfold g18L26B
   by_cases hlt:i < w.length
   · rw [ltT hlt,cond_true,if_pos (idxT hlt),if_pos (idxT hlt),h.inputs41 N,Int.toNat_natCast,getD_drop w i 0 hlt,List.all_cons,wn i (by omega)]
     simp only [Option.bind_some]
     by_cases h1:w.getD i 0 < 0
     · rw [decide_eq_true h1,cond_true,decide_eq_false (show ¬ 0 ≤ w.getD i 0 by omega)];rfl
     · rw [decide_eq_false h1,cond_false,decide_eq_true (show 0 ≤ w.getD i 0 by omega)]
       by_cases h2:(k:Int) ≤ w.getD i 0
       · rw [decide_eq_true h2,cond_true,decide_eq_false (show ¬ w.getD i 0 ≤ (k:Int) - 1 by omega)];rfl
       · rw [decide_eq_false h2,cond_false,decide_eq_true (show w.getD i 0 ≤ (k:Int) - 1 by omega)]
         exact h.word39_loop N k0 k1 w hw F (i + 1) (by omega) (by omega)
   · rw [ltF hlt,cond_false,List.drop_eq_nil_of_le (by omega)];rfl
theorem Pm.word39 {x:MM} {k:Nat} (h:Pm x k) (N:Nat) (hN:1000 < N) (w:List Int) (hw:w.length ≤ 1000):g18 N x w = some (wordB k w):=by
 unfold g18
 rw [g18L26_eq]
 have:=h.word39_loop N (fun e2 e3 e4=>some e3) (fun e5 e6=>some (decide ((((e5.length:Nat):Int):Int) ≤ 100))) w hw N 0 (by omega) (by omega)
 simp only [Int.natCast_zero,List.drop_zero] at this
 rw [this]
 unfold wordB
 cases w.all fun t=>decide (0 ≤ t) && decide (t ≤ (k:Int) - 1) with
 | false=>simp
 | true =>
   rw [cond_true,Bool.and_true]
   congr 1
   by_cases h1:w.length ≤ 100
   · rw [decide_eq_true h1,decide_eq_true (by omega)]
   · rw [decide_eq_false h1,decide_eq_false (by omega)]
end Go.Pv
namespace Go.Pv
theorem rows_loop (N:Nat) {C:Type} (k0:List (List Int)→Option C) (l:List (List Int)) :
   ∀ (F i:Nat),7 - i < F→i ≤ 7→i ≤ l.length→g26L58f N F k0 l (i:Int) ((l.take i).map fun r=>r.take 4) = k0 ((l.take 7).map fun r=>r.take 4)
 | 0,i,h,_,_=>by omega
 | F + 1,i,h,hi,hil=>by
   rw [g26L58f_succ]
   unfold g26L58B
   by_cases hlt:i < l.length
   · rw [ltT hlt,cond_true]
     by_cases h7:i < 7
     · have e2:decide ((i:Int) ≤ 6) = true:=decide_eq_true (by omega)
       rw [e2,cond_true,if_pos (idxT hlt),Int.toNat_natCast,few_eq N _ 4 (by omega) (by omega)]
       simp only [Option.bind_some,show Int.toNat 4 = 4 from rfl]
       rw [if_pos (by simp [maxCount];omega),wn i (by omega)]
       have e3:(l.take i).map (fun r=>r.take 4) ++ [(l.getD i []).take 4] = (l.take (i + 1)).map fun r=>r.take 4:=by
         rw [← take_getD l i [] hlt,List.map_append];rfl
       rw [e3]
       exact rows_loop N k0 l F (i + 1) (by omega) (by omega) (by omega)
     · have e2:decide ((i:Int) ≤ 6) = false:=decide_eq_false (by omega)
       rw [e2,cond_false,show i = 7 by omega]
   · rw [ltF hlt,cond_false,List.take_of_length_le (by omega),List.take_of_length_le (show l.length ≤ 7 by omega)]
theorem rows_eq (N:Nat) (hN:10 < N) (l:List (List Int)):g26 N l = some ((l.take 7).map fun r=>r.take 4):=by
 unfold g26
 rw [g26L58_eq]
 exact rows_loop N _ l N 0 (by omega) (by omega) (by omega)
theorem rows_again (l:List (List Int)):((((l.take 7).map fun r=>r.take 4).take 7).map fun r=>r.take 4) = (l.take 7).map fun r=>r.take 4:=by
 rw [List.take_of_length_le (by simp;omega),List.map_map]
 congr 1
 funext r
 exact List.take_of_length_le (by simp;omega)
def rowB (x:MM) (k s:Nat):Bool:=decide ((x.1.getD s []).length = k) && (decide ((x.2.1.getD s []).length = k) && ((x.1.getD s []).all (fun t=>decide (0 ≤ t) && decide (t ≤ (x.1.length:Int) - 1)) && (x.2.1.getD s []).all (fun t=>decide (0 ≤ t) && decide (t ≤ 3))))
def chk (x:MM):Bool:=decide (1 ≤ x.1.length) && decide (x.1.length ≤ 6) && decide (x.2.1.length = x.1.length) && allN x.1.length 0 (rowB x (x.1.getD 0 []).length) && decide (1 ≤ (x.1.getD 0 []).length) && decide ((x.1.getD 0 []).length ≤ 3)
theorem chk_pm {x:MM} (h:chk x = true):Pm x (x.1.getD 0 []).length:=by
 unfold chk at h
 simp only [Bool.and_eq_true,decide_eq_true_eq] at h
 obtain ⟨⟨⟨⟨⟨h1,h2⟩,h3⟩,h4⟩,h5⟩,h6⟩:=h
 have hr:=(allN_iff _ _ _).1 h4
 refine ⟨h1,h2,h3,h5,h6,fun r hr'=>?_,fun r hr'=>?_⟩
 · obtain ⟨s,hs,rfl⟩:=List.mem_iff_getElem.1 hr'
   have:=hr s (by omega) (by omega)
   unfold rowB at this
   simp only [Bool.and_eq_true,decide_eq_true_eq,List.all_eq_true] at this
   have e:x.1.getD s [] = x.1[s]:=by simp [hs]
   rw [e] at this
   exact ⟨this.1,fun t ht=>by have:=this.2.2.1 t ht;omega⟩
 · obtain ⟨s,hs,rfl⟩:=List.mem_iff_getElem.1 hr'
   have:=hr s (by omega) (by omega)
   unfold rowB at this
   simp only [Bool.and_eq_true,decide_eq_true_eq,List.all_eq_true] at this
   have e:x.2.1.getD s [] = x.2.1[s]:=by simp [hs]
   rw [e] at this
   exact ⟨this.2.1,fun t ht=>this.2.2.2 t ht⟩
theorem inputs28 (N:Nat) (x:MM) (h:1 ≤ x.1.length):g28 N x = some (((x.1.getD 0 []).length:Nat):Int):=by
 unfold g28
 rw [if_pos ⟨by omega,by omega⟩]
 rfl
theorem check8_loop (N:Nat) (hN:20 < N) {C:Type} (k0:Int→MM→Option C) (k1:MM→Option C) (x:MM) (n1:1 ≤ x.1.length) (n6:x.1.length ≤ 6) (ho:x.2.1.length = x.1.length) (hr:∀ r ∈ x.1,r.length ≤ 4) (hr2:∀ r ∈ x.2.1,r.length ≤ 4) :
   ∀ (F i:Nat),x.1.length - i < F→i ≤ x.1.length→g8L122f N F k0 k1 (x.1.length:Int) x.1 (x.1.length:Int) (i:Int) x = bif allN (x.1.length - i) i (rowB x (x.1.getD 0 []).length) then k1 x else k0 90 x
 | 0,i,hF,_=>by omega
 | F + 1,i,hF,hi=>by
   rw [g8L122f_succ]
   unfold g8L122B
   by_cases hlt:i < x.1.length
   · have ho':i < x.2.1.length:=by omega
     have l1:=hr _ (getD_mem hlt [])
     have l2:=hr2 _ (getD_mem ho' [])
     rw [ltT hlt,cond_true,if_pos (idxT hlt),inputs28 N x n1,Int.toNat_natCast,allN_step hlt]
     simp only [Option.bind_some]
     unfold rowB
     by_cases h1:(x.1.getD i []).length = (x.1.getD 0 []).length
     · rw [show ieq (((x.1.getD i []).length:Nat):Int) (((x.1.getD 0 []).length:Nat):Int) = true from decide_eq_true (by omega),Bool.not_true,cond_false,if_pos (idxT ho'),decide_eq_true h1,Bool.true_and]
       by_cases h2:(x.2.1.getD i []).length = (x.1.getD 0 []).length
       · rw [show ieq (((x.2.1.getD i []).length:Nat):Int) (((x.1.getD 0 []).length:Nat):Int) = true from decide_eq_true (by omega),Bool.not_true,cond_false,decide_eq_true h2,Bool.true_and,w64 (by omega) (by omega),are_eq N _ _ _ (by omega) (by omega)]
         simp only [Option.bind_some]
         cases (x.1.getD i []).all fun t=>decide (0 ≤ t) && decide (t ≤ (x.1.length:Int) - 1) with
         | false=>rfl
         | true =>
           simp only [Bool.not_true,cond_false,Bool.true_and]
           rw [if_pos (idxT ho'),are_eq N _ _ _ (by omega) (by omega)]
           simp only [Option.bind_some]
           cases (x.2.1.getD i []).all fun t=>decide (0 ≤ t) && decide (t ≤ 3) with
           | false=>rfl
           | true =>
             simp only [Bool.not_true,cond_false,Bool.true_and]
             rw [wn i (by omega)]
             exact check8_loop N hN k0 k1 x n1 n6 ho hr hr2 F (i + 1) (by omega) (by omega)
       · rw [show ieq (((x.2.1.getD i []).length:Nat):Int) (((x.1.getD 0 []).length:Nat):Int) = false from decide_eq_false (by omega),decide_eq_false h2]
         rfl
     · rw [show ieq (((x.1.getD i []).length:Nat):Int) (((x.1.getD 0 []).length:Nat):Int) = false from decide_eq_false (by omega),decide_eq_false h1]
       rfl
   · rw [ltF hlt,cond_false,allN_end hlt];rfl
theorem are1 (N:Nat) (hN:20 < N) (lo hi v:Int):g27 N lo hi [v] = some (decide (lo ≤ v) && decide (v ≤ hi)):=by
 rw [are_eq N lo hi [v] (by simp;omega) (by simp)];simp
theorem check8 (N:Nat) (hN:20 < N) (x:MM) (hn:x.1.length ≤ 7) (hr:∀ r ∈ x.1,r.length ≤ 4) (hr2:∀ r ∈ x.2.1,r.length ≤ 4):g8 N x = some (bif chk x then 0 else 90):=by
 unfold g8 chk
 rw [are1 N hN]
 simp only [Option.bind_some]
 by_cases h1:1 ≤ x.1.length
 · by_cases h2:x.1.length ≤ 6
   · rw [decide_eq_true (show (1:Int) ≤ ((x.1.length:Nat):Int) by omega),decide_eq_true (show ((x.1.length:Nat):Int) ≤ 6 by omega),decide_eq_true h1,decide_eq_true h2]
     simp only [Bool.and_true,Bool.not_true,cond_false,Bool.true_and]
     by_cases h3:x.2.1.length = x.1.length
     · rw [show ieq (((x.2.1.length:Nat)):Int) ((x.1.length:Nat):Int) = true from decide_eq_true (by omega),Bool.not_true,cond_false,decide_eq_true h3,Bool.true_and,if_pos ⟨by omega,by omega⟩,are1 N hN]
       simp only [Option.bind_some,show Int.toNat 0 = 0 from rfl]
       by_cases h4:1 ≤ (x.1.getD 0 []).length
       · by_cases h5:(x.1.getD 0 []).length ≤ 3
         · rw [decide_eq_true (show (1:Int) ≤ (((x.1.getD 0 []).length:Nat):Int) by omega),decide_eq_true (show (((x.1.getD 0 []).length:Nat):Int) ≤ 3 by omega),decide_eq_true h4,decide_eq_true h5]
           simp only [Bool.and_true,Bool.not_true,cond_false]
           rw [g8L122_eq]
           have:=check8_loop N hN (fun e7 e8=>some e7) (fun e9=>some 0) x h1 h2 h3 hr hr2 N 0 (by omega) (by omega)
           simp only [Int.natCast_zero,Nat.sub_zero] at this
           rw [this]
           cases allN x.1.length 0 (rowB x (x.1.getD 0 []).length) <;> rfl
         · rw [decide_eq_false (show ¬ (((x.1.getD 0 []).length:Nat):Int) ≤ 3 by omega),decide_eq_false h5]
           simp
       · rw [decide_eq_false (show ¬ (1:Int) ≤ (((x.1.getD 0 []).length:Nat):Int) by omega),decide_eq_false h4]
         simp
     · rw [show ieq (((x.2.1.length:Nat)):Int) ((x.1.length:Nat):Int) = false from decide_eq_false (by omega),decide_eq_false h3]
       simp
   · rw [decide_eq_false (show ¬ ((x.1.length:Nat):Int) ≤ 6 by omega),decide_eq_false h2]
     simp
 · rw [decide_eq_false (show ¬ (1:Int) ≤ ((x.1.length:Nat):Int) by omega),decide_eq_false h1]
   simp
def entB (x:MM) (s j:Nat):Bool:=(decide (0 ≤ (x.1.getD s []).getD j 0) && decide ((x.1.getD s []).getD j 0 ≤ (x.1.length:Int) - 1)) && (decide (0 ≤ (x.2.1.getD s []).getD j 0) && decide ((x.2.1.getD s []).getD j 0 ≤ 3))
theorem check7_inner (N:Nat) {C:Type} (k0:Bool→Int→Int→Int→MM→Option C) (k1:Int→Int→Int→MM→Option C) (x:MM) (k s:Nat) (hk:k ≤ 4) (hs:s < x.1.length) (hs2:s < x.2.1.length) (l1:(x.1.getD s []).length = k) (l2:(x.2.1.getD s []).length = k) :
   ∀ (F i:Nat),k - i < F→i ≤ k→g7L32038f N F k0 k1 (x.1.length:Int) (k:Int) (s:Int) (i:Int) x = bif allN (k - i) i (entB x s) then k1 (x.1.length:Int) (k:Int) (s:Int) x else k0 false (x.1.length:Int) (k:Int) (s:Int) x
 | 0,i,hF,_=>by omega
 | F + 1,i,hF,hi=>by
   rw [g7L32038f_succ]
   unfold g7L32038B
   by_cases hlt:i < k
   · have i1:i < (x.1.getD s []).length:=by omega
     have i2:i < (x.2.1.getD s []).length:=by omega
     rw [ltT hlt,cond_true,if_pos (idxT hs),Int.toNat_natCast,if_pos (idxT i1),Int.toNat_natCast,if_pos (idxT hs),if_pos (idxT i1),if_pos (idxT hs2),if_pos (idxT i2),if_pos (idxT hs2),if_pos (idxT i2),wn i (by omega),allN_step hlt]
     unfold entB
     by_cases h1:(x.1.getD s []).getD i 0 < 0
     · rw [decide_eq_true h1,cond_true,decide_eq_false (show ¬ 0 ≤ (x.1.getD s []).getD i 0 by omega)];rfl
     · rw [decide_eq_false h1,cond_false,decide_eq_true (show 0 ≤ (x.1.getD s []).getD i 0 by omega)]
       by_cases h2:(x.1.length:Int) ≤ (x.1.getD s []).getD i 0
       · rw [decide_eq_true h2,cond_true,decide_eq_false (show ¬ (x.1.getD s []).getD i 0 ≤ (x.1.length:Int) - 1 by omega)];rfl
       · rw [decide_eq_false h2,cond_false,decide_eq_true (show (x.1.getD s []).getD i 0 ≤ (x.1.length:Int) - 1 by omega)]
         by_cases h3:(x.2.1.getD s []).getD i 0 < 0
         · rw [decide_eq_true h3,cond_true,decide_eq_false (show ¬ 0 ≤ (x.2.1.getD s []).getD i 0 by omega)];rfl
         · rw [decide_eq_false h3,cond_false,decide_eq_true (show 0 ≤ (x.2.1.getD s []).getD i 0 by omega)]
           by_cases h4:3 < (x.2.1.getD s []).getD i 0
           · rw [decide_eq_true h4,cond_true,decide_eq_false (show ¬ (x.2.1.getD s []).getD i 0 ≤ 3 by omega)];rfl
           · rw [decide_eq_false h4,cond_false,decide_eq_true (show (x.2.1.getD s []).getD i 0 ≤ 3 by omega)]
             exact check7_inner N k0 k1 x k s hk hs hs2 l1 l2 F (i + 1) (by omega) (by omega)
   · rw [ltF hlt,cond_false,allN_end hlt];rfl
theorem ent_row (x:MM) (k s:Nat) (l1:(x.1.getD s []).length = k) (l2:(x.2.1.getD s []).length = k):allN k 0 (entB x s) = ((x.1.getD s []).all (fun t=>decide (0 ≤ t) && decide (t ≤ (x.1.length:Int) - 1)) && (x.2.1.getD s []).all (fun t=>decide (0 ≤ t) && decide (t ≤ 3))):=by
 rw [Bool.eq_iff_iff,allN_iff,Bool.and_eq_true,List.all_eq_true,List.all_eq_true]
 constructor
 · intro h
   constructor
   · intro t ht
     obtain ⟨j,hj,rfl⟩:=List.mem_iff_getElem.1 ht
     have:=h j (by omega) (by omega)
     unfold entB at this
     rw [Bool.and_eq_true] at this
     have e:(x.1.getD s []).getD j 0 = (x.1.getD s [])[j]:=by rw [List.getD_eq_getElem?_getD (l:=x.1.getD s []),List.getElem?_eq_getElem hj];rfl
     rw [e] at this
     exact this.1
   · intro t ht
     obtain ⟨j,hj,rfl⟩:=List.mem_iff_getElem.1 ht
     have:=h j (by omega) (by omega)
     unfold entB at this
     rw [Bool.and_eq_true] at this
     have e:(x.2.1.getD s []).getD j 0 = (x.2.1.getD s [])[j]:=by rw [List.getD_eq_getElem?_getD (l:=x.2.1.getD s []),List.getElem?_eq_getElem hj];rfl
     rw [e] at this
     exact this.2
 · rintro ⟨h1,h2⟩ j _ hj
   unfold entB
   rw [Bool.and_eq_true]
   exact ⟨h1 _ (getD_mem (by omega) 0),h2 _ (getD_mem (by omega) 0)⟩
theorem check7_loop (N:Nat) (hN:20 < N) {C:Type} (k0:Bool→Int→MM→Option C) (k1:Int→MM→Option C) (x:MM) (k:Nat) (hk:k ≤ 4) (n6:x.1.length ≤ 6) (ho:x.2.1.length = x.1.length) :
   ∀ (F i:Nat),x.1.length - i < F→i ≤ x.1.length→g7L250f N F k0 k1 (x.1.length:Int) (k:Int) (i:Int) x = bif allN (x.1.length - i) i (rowB x k) then k1 (k:Int) x else k0 false (k:Int) x
 | 0,i,hF,_=>by omega
 | F + 1,i,hF,hi=>by
   rw [g7L250f_succ]
   unfold g7L250B
   by_cases hlt:i < x.1.length
   · have ho':i < x.2.1.length:=by omega
     rw [ltT hlt,cond_true,if_pos (idxT hlt),Int.toNat_natCast,allN_step hlt]
     by_cases h1:(x.1.getD i []).length = k
     · rw [show ieq (((x.1.getD i []).length:Nat):Int) (k:Int) = true from decide_eq_true (by omega),Bool.not_true,cond_false,if_pos (idxT ho')]
       by_cases h2:(x.2.1.getD i []).length = k
       · rw [show ieq (((x.2.1.getD i []).length:Nat):Int) (k:Int) = true from decide_eq_true (by omega),Bool.not_true,cond_false,g7L32038_eq]
         have e:=check7_inner N (fun e1 e2 e3 e4 e5=>k0 e1 e3 e5) (fun e6 e7 e8 e9=>g7L250f N F k0 k1 e6 e7 (IntKind.wrap .i64 (e8 + 1)) e9) x k i hk hlt ho' h1 h2 N 0 (by omega) (by omega)
         simp only [Int.natCast_zero,Nat.sub_zero] at e
         refine Eq.trans e ?_
         rw [ent_row x k i h1 h2]
         have er:rowB x k i = ((x.1.getD i []).all (fun t=>decide (0 ≤ t) && decide (t ≤ (x.1.length:Int) - 1)) && (x.2.1.getD i []).all (fun t=>decide (0 ≤ t) && decide (t ≤ 3))):=by
           unfold rowB
           rw [decide_eq_true h1,decide_eq_true h2,Bool.true_and,Bool.true_and]
         rw [er]
         cases ((x.1.getD i []).all (fun t=>decide (0 ≤ t) && decide (t ≤ (x.1.length:Int) - 1)) && (x.2.1.getD i []).all (fun t=>decide (0 ≤ t) && decide (t ≤ 3))) with
         | false=>rfl
         | true =>
           rw [cond_true,Bool.true_and,wn i (by omega)]
           exact check7_loop N hN k0 k1 x k hk n6 ho F (i + 1) (by omega) (by omega)
       · rw [show ieq (((x.2.1.getD i []).length:Nat):Int) (k:Int) = false from decide_eq_false (by omega)]
         unfold rowB
         rw [decide_eq_false h2]
         simp
     · rw [show ieq (((x.1.getD i []).length:Nat):Int) (k:Int) = false from decide_eq_false (by omega)]
       unfold rowB
       rw [decide_eq_false h1]
       simp
   · rw [ltF hlt,cond_false,allN_end hlt];rfl
theorem check7 (N:Nat) (hN:20 < N) (x:MM) (hr:∀ r ∈ x.1,r.length ≤ 4):g7 N x = some (chk x):=by
 unfold g7 chk
 by_cases h1:1 ≤ x.1.length
 · by_cases h2:x.1.length ≤ 6
   · rw [decide_eq_false (show ¬ ((x.1.length:Nat):Int) < 1 by omega),decide_eq_false (show ¬ (6:Int) < ((x.1.length:Nat):Int) by omega),decide_eq_true h1,decide_eq_true h2]
     simp only [cond_false,Bool.true_and]
     by_cases h3:x.2.1.length = x.1.length
     · have hk:=hr _ (getD_mem (l:=x.1) (i:=0) (by omega) [])
       rw [show ieq (((x.2.1.length:Nat)):Int) ((x.1.length:Nat):Int) = true from decide_eq_true (by omega),Bool.not_true,cond_false,decide_eq_true h3,Bool.true_and,if_pos ⟨by omega,by omega⟩,g7L250_eq]
       simp only [show Int.toNat 0 = 0 from rfl]
       have:=check7_loop N hN (fun e10 e11 e12=>some e10) (fun e13 e14=>bif (decide ((1:Int) ≤ e13)) then some (decide ((e13:Int) ≤ 3)) else some false) x (x.1.getD 0 []).length hk h2 h3 N 0 (by omega) (by omega)
       simp only [Int.natCast_zero,Nat.sub_zero] at this
       rw [this]
       cases allN x.1.length 0 (rowB x (x.1.getD 0 []).length) with
       | false=>rfl
       | true =>
         rw [cond_true,Bool.true_and]
         by_cases h4:1 ≤ (x.1.getD 0 []).length
         · rw [decide_eq_true (show (1:Int) ≤ (((x.1.getD 0 []).length:Nat):Int) by omega),cond_true,decide_eq_true h4,Bool.true_and]
           congr 1
           exact decide_eq_decide.2 (by omega)
         · rw [decide_eq_false (show ¬ (1:Int) ≤ (((x.1.getD 0 []).length:Nat):Int) by omega),cond_false,decide_eq_false h4,Bool.false_and]
     · rw [show ieq (((x.2.1.length:Nat)):Int) ((x.1.length:Nat):Int) = false from decide_eq_false (by omega),decide_eq_false h3]
       simp
   · rw [decide_eq_false (show ¬ ((x.1.length:Nat):Int) < 1 by omega),decide_eq_true (show (6:Int) < ((x.1.length:Nat):Int) by omega),decide_eq_false h2]
     simp
 · rw [decide_eq_true (show ((x.1.length:Nat):Int) < 1 by omega),decide_eq_false h1]
   simp
end Go.Pv
namespace Go.Pv
theorem awake_eq:g21v1 2000 = some true:=by kernel_rfl
end Go.Pv
