/- Plain texts, merged: QaD2, QaE, QaAn0, QaAnswers. -/
import Derived.Test.YtldhdlohhiphjaaMg1
/- Seat 06, plain: what questions ask. -/
set_option linter.unusedVariables false
set_option linter.unusedSimpArgs false
namespace Go.Pv
theorem mul_b {x y : Int} (h1 : -5 ≤ x ∧ x ≤ 5) (h2 : 0 ≤ y ∧ y ≤ 9) : -45 ≤ x * y ∧ x * y ≤ 45 := by
 obtain ⟨a1, a2⟩ := h1
 have l1 : x * y ≤ 5 * y := Int.mul_le_mul_of_nonneg_right a2 h2.1
 have l2 : -5 * y ≤ x * y := Int.mul_le_mul_of_nonneg_right a1 h2.1
 omega
theorem two_cases : ∀ {a k : List Int}, a.length = k.length → 1 ≤ k.length → k.length ≤ 2 → (∃ p x, a = [p] ∧ k = [x]) ∨ (∃ p q x y, a = [p, q] ∧ k = [x, y])
 | [], [], _, h, _ => by simp at h
 | [p], [x], _, _, _ => .inl ⟨p, x, rfl, rfl⟩
 | [p, q], [x, y], _, _, _ => .inr ⟨p, q, x, y, rfl, rfl⟩
 | _ :: _ :: _ :: _, k, h1, _, h3 => by simp at h1; omega
 | [], _ :: _, h, _, _ => by simp at h
 | [_], [], h, _, _ => by simp at h
 | [_], _ :: _ :: _, h, _, _ => by simp at h
 | [_, _], [], h, _, _ => by simp at h
 | [_, _], [_], h, _, _ => by simp at h
 | [_, _], _ :: _ :: _ :: _, h, _, _ => by simp at h
theorem holds_two (N : Nat) (hN : 100 < N) (q : QQ) (k : List Int) (hlen : q.1.length = k.length) (h1 : 1 ≤ k.length) (h2 : k.length ≤ 2) (hq : ∀ t ∈ q.1, -5 ≤ t ∧ t ≤ 5) (hk : ∀ t ∈ k, 0 ≤ t ∧ t ≤ 9) (hb : -9 ≤ q.2.1 ∧ q.2.1 ≤ 9) : g22 N q k = g63 N q k := by
 obtain ⟨M, rfl⟩ : ∃ M, N = M + 3 := ⟨N - 3, by omega⟩
 obtain ⟨qa, qb, qm, ⟨⟩⟩ := q
 have z : IntKind.wrap .i64 0 = 0 := by decide
 have z1 : IntKind.wrap .i64 1 = 1 := by decide
 have z2 : IntKind.wrap .i64 2 = 2 := by decide
 dsimp only at hlen hq hb
 rcases two_cases hlen h1 h2 with ⟨a, x, rfl, rfl⟩ | ⟨a, b, x, y, rfl, rfl⟩
 · skip
   have m1 := mul_b (hq a (by simp)) (hk x (by simp))
   have ea : IntKind.wrap .i64 (a * x) = a * x := w64 (by omega) (by omega)
   unfold g22 g63
   rw [g22L58_eq, g63L58_eq]
   rw [show M + 3 = (M + 2) + 1 from rfl, g22L58f_succ, g63L58f_succ]
   unfold g22L58B g63L58B
   simp [idx, z1, z, ea, maxCount]
   rw [show M + 2 = (M + 1) + 1 from rfl, g22L58f_succ, g63L58f_succ]
   unfold g22L58B g63L58B
   simp [idx, z1, z, ea, maxCount, sum88 _ [a * x] (by simp) (show 100 < M + 1 + 1 + 1 by omega) (fun t ht => by obtain rfl := List.mem_singleton.1 ht; omega)]
 · skip
   have m1 := mul_b (hq a (by simp)) (hk x (by simp))
   have m2 := mul_b (hq b (by simp)) (hk y (by simp))
   have ea : IntKind.wrap .i64 (a * x) = a * x := w64 (by omega) (by omega)
   have eb : IntKind.wrap .i64 (b * y) = b * y := w64 (by omega) (by omega)
   have ec : IntKind.wrap .i64 (a * x + b * y) = a * x + b * y := w64 (by omega) (by omega)
   unfold g22 g63
   rw [g22L58_eq, g63L58_eq]
   rw [show M + 3 = (M + 2) + 1 from rfl, g22L58f_succ, g63L58f_succ]
   unfold g22L58B g63L58B
   simp [idx, z1, z, ea, maxCount]
   rw [show M + 2 = (M + 1) + 1 from rfl, g22L58f_succ, g63L58f_succ]
   unfold g22L58B g63L58B
   simp [idx, z1, z2, z, ea, eb, ec, maxCount]
   rw [g22L58f_succ, g63L58f_succ]
   unfold g22L58B g63L58B
   simp [idx, z1, z2, z, ea, eb, ec, maxCount, sum88 _ [a * x, b * y] (by simp) (show 100 < M + 1 + 1 + 1 by omega) (fun t ht => by
     simp only [List.mem_cons, List.not_mem_nil, or_false] at ht
     rcases ht with rfl | rfl <;> omega)]
theorem holds_some (N : Nat) (hN : 100 < N) (q : QQ) (k : List Int) (hlen : q.1.length = k.length) (h1 : 1 ≤ k.length) (h2 : k.length ≤ 2) (hq : ∀ t ∈ q.1, -5 ≤ t ∧ t ≤ 5) (hk : ∀ t ∈ k, 0 ≤ t ∧ t ≤ 9) (hb : -9 ≤ q.2.1 ∧ q.2.1 ≤ 9) : ∃ b, g22 N q k = some b := by
 obtain ⟨M, rfl⟩ : ∃ M, N = M + 3 := ⟨N - 3, by omega⟩
 obtain ⟨qa, qb, qm, ⟨⟩⟩ := q
 have z : IntKind.wrap .i64 0 = 0 := by decide
 have z1 : IntKind.wrap .i64 1 = 1 := by decide
 have z2 : IntKind.wrap .i64 2 = 2 := by decide
 dsimp only at hlen hq hb
 rcases two_cases hlen h1 h2 with ⟨a, x, rfl, rfl⟩ | ⟨a, b, x, y, rfl, rfl⟩
 · skip
   unfold g22
   rw [g22L58_eq]
   rw [show M + 3 = (M + 2) + 1 from rfl, g22L58f_succ]
   unfold g22L58B
   simp [idx, z1, z, maxCount]
   rw [show M + 2 = (M + 1) + 1 from rfl, g22L58f_succ]
   unfold g22L58B
   by_cases hm : qm = 0 <;> simp [idx, z1, z, maxCount, ieq, hm] <;> first | omega | exact (Decidable.em _).symm
 · skip
   unfold g22
   rw [g22L58_eq]
   rw [show M + 3 = (M + 2) + 1 from rfl, g22L58f_succ]
   unfold g22L58B
   simp [idx, z1, z, maxCount]
   rw [show M + 2 = (M + 1) + 1 from rfl, g22L58f_succ]
   unfold g22L58B
   simp [idx, z1, z2, z, maxCount]
   rw [g22L58f_succ]
   unfold g22L58B
   by_cases hm : qm = 0 <;> simp [idx, z1, z2, z, maxCount, ieq, hm] <;> first | omega | exact (Decidable.em _).symm
end Go.Pv
namespace Go.Pv
theorem question_loop (N : Nat) {C : Type} (k0 : QQ → Int → Int → Int → Int → List Int → List Int → Option C) (n : Nat) (hn : n ≤ 5) (q : QQ) (a b c d : Int) (e : List Int) :
   ∀ (F i : Nat) (s : List Int), n - i < F → i ≤ n → s.length = i → (∀ t ∈ s, -5 ≤ t ∧ t ≤ 5) → ∃ s' : List Int, s'.length = n ∧ (∀ t ∈ s', -5 ≤ t ∧ t ≤ 5) ∧ g23L58f N F k0 (n : Int) (i : Int) q a b c d e s = k0 q a b c d e s'
 | 0, i, s, h, _, _, _ => by omega
 | F + 1, i, s, h, hi, ho, hb => by
   rw [g23L58f_succ]
   unfold g23L58B
   by_cases hlt : i < n
   · have e1 : decide ((i : Int) < (n : Int)) = true := by simp; omega
     have add : ∀ v : Int, -5 ≤ v → v ≤ 5 → ∃ s' : List Int, s'.length = n ∧ (∀ t ∈ s', -5 ≤ t ∧ t ≤ 5) ∧ g23L58f N F k0 (n : Int) ((i + 1 : Nat) : Int) q a b c d e (s ++ [v]) = k0 q a b c d e s' := fun v h1 h2 =>
       question_loop N k0 n hn q a b c d e F (i + 1) (s ++ [v]) (by omega) (by omega) (by simp [ho]) (fun t ht => by
         rcases List.mem_append.1 ht with ht | ht
         · exact hb t ht
         · obtain rfl := List.mem_singleton.1 ht; exact ⟨h1, h2⟩)
     have hmax : ∀ v : Int, s.length + [v].length ≤ maxCount := fun v => by simp [maxCount]; omega
     have hmax0 : s.length + List.length ([1] : List Nat) ≤ maxCount := by simp [maxCount]; omega
     rw [e1, cond_true, wn i (by omega)]
     by_cases h2 : i < q.1.length
     · have e2 : decide ((i : Int) < (q.1.length : Int)) = true := by simp; omega
       obtain ⟨v, ev, v1, v2⟩ := low (q.1.getD i 0) (m := 11) (by omega) (by omega)
       rw [e2, cond_true, if_pos ⟨by omega, by omega⟩, Int.toNat_natCast, ev, w64 (x := v - 5) (by omega) (by omega), if_pos (hmax _)]
       exact add (v - 5) (by omega) (by omega)
     · have e2 : decide ((i : Int) < (q.1.length : Int)) = false := by simp; omega
       rw [e2, cond_false, if_pos hmax0]
       exact add 1 (by omega) (by omega)
   · have e1 : decide ((i : Int) < (n : Int)) = false := by simp; omega
     rw [e1, cond_false]
     exact ⟨s, by omega, hb, rfl⟩
structure QT (q : QQ) (n : Int) : Prop where
 len : (q.1.length : Int) = n
 a : ∀ t ∈ q.1, -5 ≤ t ∧ t ≤ 5
 b : -9 ≤ q.2.1 ∧ q.2.1 ≤ 9
 m : 0 ≤ q.2.2.1 ∧ q.2.2.1 ≤ 9
theorem question_eq (N : Nat) (hN : 100 < N) (q : QQ) (n : Int) (h1 : 0 ≤ n) (h2 : n ≤ 5) : ∃ r, g23 N q n = some r ∧ QT r n := by
 obtain ⟨m, rfl⟩ : ∃ m : Nat, n = (m : Int) := ⟨n.toNat, by omega⟩
 unfold g23
 obtain ⟨v, ev, v1, v2⟩ := low q.2.1 (m := 19) (by omega) (by omega)
 obtain ⟨w, ew, w1, w2⟩ := low q.2.2.1 (m := 10) (by omega) (by omega)
 rw [ev, ew, w64 (x := v - 9) (by omega) (by omega), g23L58_eq]
 obtain ⟨s, s1, s2, s3⟩ := question_loop N (fun e1 e2 e3 e4 e5 e6 e7 => some ((e7, e4, e5, ()) : QQ)) m (by omega) q 0 0 (v - 9) w [] N 0 [] (by omega) (by omega) rfl (fun t ht => by cases ht)
 simp only [Int.natCast_zero] at s3
 exact ⟨_, s3, ⟨by simp [s1], s2, by simp; omega, by simp; omega⟩⟩
theorem QT.asked {q : QQ} {n : Int} (h : QT q n) : askedB q n = true := by
 unfold askedB
 simp only [Bool.and_eq_true, decide_eq_true_eq]
 refine ⟨h.len, ?_, h.b, h.m⟩
 rw [List.all_eq_true]
 intro t ht
 have := h.a t ht
 simp; omega
theorem begun_loop (N : Nat) {C : Type} (k0 : PP → List Int → List Int → Option C) (x : PP) (hx : PT x) (k : List Int) (hk : k.length ≤ x.2.2.1.length) (hb : ∀ t ∈ k, 0 ≤ t ∧ t ≤ 9) (z : List Int) :
   ∀ (F i : Nat) (c : List Int), k.length - i < F → i ≤ k.length → c.length = 5 → (∀ t ∈ c, 0 ≤ t ∧ t ≤ 9 * (i : Int)) → g64L58f N F k0 k (k.length : Int) (i : Int) x z c = k0 x z ((List.range (k.length - i)).foldl (fun c j => c.set (x.2.2.1.getD (i + j) 0).toNat (c.getD (x.2.2.1.getD (i + j) 0).toNat 0 + k.getD (i + j) 0)) c)
 | 0, i, c, h, _, _, _ => by omega
 | F + 1, i, c, h, hi, hc, hcb => by
   rw [g64L58f_succ]
   unfold g64L58B
   obtain ⟨s1, s2, s3⟩ := hx.start
   obtain ⟨n1, n2⟩ := hx.n
   by_cases hlt : i < k.length
   · have e1 : decide ((i : Int) < (k.length : Int)) = true := by simp; omega
     obtain ⟨t1, t2⟩ := s3 _ (getD_mem (show i < x.2.2.1.length by omega) 0)
     obtain ⟨b1, b2⟩ := hb _ (getD_mem hlt 0)
     have q : idx (x.2.2.1.getD i 0) 5 := ⟨t1, by omega⟩
     have hcm := hcb _ (getD_mem (show (x.2.2.1.getD i 0).toNat < c.length by omega) 0)
     rw [e1, cond_true, if_pos ⟨by omega, by omega⟩, if_pos ⟨by omega, by omega⟩, Int.toNat_natCast, if_pos q, if_pos q, wn i (by omega), w64 (by omega) (by omega)]
     dsimp only
     rw [begun_loop N k0 x hx k hk hb z F (i + 1) _ (by omega) (by omega) (by simp [hc]) (fun t ht => by
       rcases List.mem_or_eq_of_mem_set ht with ht | rfl
       · have := hcb t ht; omega
       · omega)]
     rw [show k.length - i = (k.length - (i + 1)) + 1 by omega, List.range_succ_eq_map, List.foldl_cons, List.foldl_map]
     simp only [Nat.add_zero, Nat.succ_eq_add_one, Nat.add_comm 1, Nat.add_assoc]
   · have e1 : decide ((i : Int) < (k.length : Int)) = false := by simp; omega
     rw [e1, cond_false, show k.length - i = 0 by omega]; rfl
theorem crowd_loop (N : Nat) {C : Type} (k0 : PP → List Int → Option C) (x : PP) (hx : PT x) (k : List Int) (hk : k.length ≤ x.2.2.1.length) (hb : ∀ t ∈ k, 0 ≤ t ∧ t ≤ 9) :
   ∀ (F i : Nat) (c : List Int), k.length - i < F → i ≤ k.length → (c.length : Int) = x.1 → (∀ t ∈ c, 0 ≤ t ∧ t ≤ 9 * (i : Int)) → g28L58f N F k0 k (i : Int) x c = k0 x ((List.range (k.length - i)).foldl (fun c j => c.set (x.2.2.1.getD (i + j) 0).toNat (c.getD (x.2.2.1.getD (i + j) 0).toNat 0 + k.getD (i + j) 0)) c)
 | 0, i, c, h, _, _, _ => by omega
 | F + 1, i, c, h, hi, hc, hcb => by
   rw [g28L58f_succ]
   unfold g28L58B
   obtain ⟨s1, s2, s3⟩ := hx.start
   obtain ⟨n1, n2⟩ := hx.n
   by_cases hlt : i < k.length
   · have e1 : decide ((i : Int) < (k.length : Int)) = true := by simp; omega
     obtain ⟨t1, t2⟩ := s3 _ (getD_mem (show i < x.2.2.1.length by omega) 0)
     obtain ⟨b1, b2⟩ := hb _ (getD_mem hlt 0)
     have q : idx (x.2.2.1.getD i 0) c.length := ⟨t1, by omega⟩
     have q2 : (x.2.2.1.getD i 0).toNat < c.length := by omega
     have hcm := hcb _ (getD_mem q2 0)
     have q3 : idx (i : Int) x.2.2.1.length := ⟨by omega, by omega⟩
     have q4 : idx (i : Int) k.length := ⟨by omega, by omega⟩
     rw [e1, cond_true, if_pos q3, if_pos q3, Int.toNat_natCast, if_pos q, if_pos q2, if_pos q4, if_pos q, if_pos q2, wn i (by omega), w64 (by omega) (by omega)]
     dsimp only
     rw [crowd_loop N k0 x hx k hk hb F (i + 1) _ (by omega) (by omega) (by simp [hc]) (fun t ht => by
       rcases List.mem_or_eq_of_mem_set ht with ht | rfl
       · have := hcb t ht; omega
       · omega)]
     rw [show k.length - i = (k.length - (i + 1)) + 1 by omega, List.range_succ_eq_map, List.foldl_cons, List.foldl_map]
     simp only [Nat.add_zero, Nat.succ_eq_add_one, Nat.add_comm 1, Nat.add_assoc]
   · have e1 : decide ((i : Int) < (k.length : Int)) = false := by simp; omega
     rw [e1, cond_false, show k.length - i = 0 by omega]; rfl
theorem foldl_len (x : PP) (k : List Int) : ∀ (l : List Nat) (c : List Int), (l.foldl (fun c j => c.set (x.2.2.1.getD (0 + j) 0).toNat (c.getD (x.2.2.1.getD (0 + j) 0).toNat 0 + k.getD (0 + j) 0)) c).length = c.length
 | [], c => rfl
 | j :: l, c => by simp only [List.foldl_cons]; rw [foldl_len x k l]; simp
def begunL (x : PP) (k c : List Int) : List Int := (List.range k.length).foldl (fun c j => c.set (x.2.2.1.getD (0 + j) 0).toNat (c.getD (x.2.2.1.getD (0 + j) 0).toNat 0 + k.getD (0 + j) 0)) c
theorem begun_eq (N : Nat) (hN : 100 < N) (x : PP) (hx : PT x) (k : List Int) (hk : Crowd k (x.2.2.1.length : Int)) : g64 N x k = some (begunL x k (List.replicate 5 0)) := by
 unfold g64
 have hl := hk.len
 have h2 := hx.start.2.1
 rw [g64L58_eq]
 have := begun_loop N (fun e1 e2 e3 => some e3) x hx k (by omega) hk.le (List.replicate 5 0) N 0 (List.replicate 5 0) (by omega) (by omega) (by simp) (fun t ht => by have := List.eq_of_mem_replicate ht; omega)
 simp only [Int.natCast_zero, Nat.sub_zero] at this
 exact this
theorem crowd28_eq (N : Nat) (hN : 100 < N) (x : PP) (hx : PT x) (k : List Int) (hk : Crowd k (x.2.2.1.length : Int)) : g28 N x k = some (begunL x k (List.replicate x.1.toNat 0)) := by
 unfold g28
 have hl := hk.len
 have h2 := hx.start.2.1
 obtain ⟨n1, n2⟩ := hx.n
 have hm : mkOk x.1 x.1 := ⟨by omega, by omega, by omega⟩
 rw [if_pos hm, g28L58_eq]
 have := crowd_loop N (fun e1 e2 => some e2) x hx k (by omega) hk.le N 0 (List.replicate x.1.toNat 0) (by omega) (by omega) (by simp; omega) (fun t ht => by have := List.eq_of_mem_replicate ht; omega)
 simp only [Int.natCast_zero, Nat.sub_zero] at this
 exact this
end Go.Pv
namespace Go.Pv
theorem begun_pad {x : PP} (hx : PT x) (k : List Int) : ∀ (l : List Nat) (c : List Int), (c.length : Int) = x.1 → (∀ j ∈ l, j < x.2.2.1.length) →
   l.foldl (fun c j => c.set (x.2.2.1.getD (0 + j) 0).toNat (c.getD (x.2.2.1.getD (0 + j) 0).toNat 0 + k.getD (0 + j) 0)) (pad c) = pad (l.foldl (fun c j => c.set (x.2.2.1.getD (0 + j) 0).toNat (c.getD (x.2.2.1.getD (0 + j) 0).toNat 0 + k.getD (0 + j) 0)) c)
 | [], _, _, _ => rfl
 | j :: l, c, hc, h => by
   simp only [List.foldl_cons]
   obtain ⟨t1, t2⟩ := hx.start.2.2 _ (getD_mem (h j (by simp)) 0)
   rw [getD_pad, pad_set _ _ _ (by rw [Nat.zero_add]; omega)]
   exact begun_pad hx k l _ (by rw [List.length_set]; exact hc) (fun i hi => h i (by simp [hi]))
theorem begun_sum {x : PP} (hx : PT x) (k : List Int) (hp : ∀ t ∈ k, 0 ≤ t) : ∀ (m i : Nat) (c : List Int), (c.length : Int) = x.1 → i + m ≤ x.2.2.1.length → i + m ≤ k.length → (∀ t ∈ c, 0 ≤ t) →
   (((List.range m).foldl (fun c j => c.set (x.2.2.1.getD (i + j) 0).toNat (c.getD (x.2.2.1.getD (i + j) 0).toNat 0 + k.getD (i + j) 0)) c).sum = c.sum + ((k.drop i).take m).sum) ∧ (∀ t ∈ (List.range m).foldl (fun c j => c.set (x.2.2.1.getD (i + j) 0).toNat (c.getD (x.2.2.1.getD (i + j) 0).toNat 0 + k.getD (i + j) 0)) c, 0 ≤ t)
 | 0, i, c, _, _, _, h => by simp; exact h
 | m + 1, i, c, hc, h1, h2, h => by
   rw [List.range_succ_eq_map, List.foldl_cons, List.foldl_map]
   have hsh : ∀ (c' : List Int), (List.range m).foldl (fun c j => c.set (x.2.2.1.getD (i + j.succ) 0).toNat (c.getD (x.2.2.1.getD (i + j.succ) 0).toNat 0 + k.getD (i + j.succ) 0)) c' = (List.range m).foldl (fun c j => c.set (x.2.2.1.getD ((i + 1) + j) 0).toNat (c.getD (x.2.2.1.getD ((i + 1) + j) 0).toNat 0 + k.getD ((i + 1) + j) 0)) c' := fun c' => by
     congr 1
     funext c j
     rw [show i + j.succ = i + 1 + j by omega]
   rw [hsh]
   obtain ⟨t1, t2⟩ := hx.start.2.2 _ (getD_mem (show i < x.2.2.1.length by omega) 0)
   have hk0 := hp _ (getD_mem (show i < k.length by omega) 0)
   have hg := h _ (getD_mem (show (x.2.2.1.getD i 0).toNat < c.length by omega) 0)
   simp only [Nat.add_zero]
   have := begun_sum hx k hp m (i + 1) (c.set (x.2.2.1.getD i 0).toNat (c.getD (x.2.2.1.getD i 0).toNat 0 + k.getD i 0)) (by rw [List.length_set]; exact hc) (by omega) (by omega) (fun t ht => by
     rcases List.mem_or_eq_of_mem_set ht with ht | rfl
     · exact h t ht
     · omega)
   refine ⟨?_, this.2⟩
   rw [this.1, set_sum _ _ _ (by omega), getD_drop k i (by omega), List.take_succ_cons, List.sum_cons]
   omega
theorem begun_crowd {x : PP} (hx : PT x) {k : List Int} (hk : Crowd k (x.2.2.1.length : Int)) : ∃ c, Crowd c x.1 ∧ g64 2000 x k = some (pad c) ∧ g28 2000 x k = some c := by
 obtain ⟨n1, n2⟩ := hx.n
 have hl := hk.len
 have hs := begun_sum hx k hk.pos k.length 0 (List.replicate x.1.toNat 0) (by simp; omega) (by omega) (by omega) (fun t ht => by have := List.eq_of_mem_replicate ht; omega)
 refine ⟨begunL x k (List.replicate x.1.toNat 0), ⟨by unfold begunL; rw [foldl_len]; simp; omega, hs.2, ?_⟩, ?_, crowd28_eq 2000 (by omega) x hx k hk⟩
 · have h1 : (begunL x k (List.replicate x.1.toNat 0)).sum = k.sum := by
     have := hs.1
     rw [List.drop_zero, List.take_length] at this
     unfold begunL
     rw [this]
     have hz : ∀ n : Nat, (List.replicate n (0 : Int)).sum = 0 := fun n => by
       induction n with
       | zero => rfl
       | succ n ih => rw [List.replicate_succ, List.sum_cons, ih]; rfl
     rw [hz]; omega
   rw [h1]; exact hk.sum
 · rw [begun_eq 2000 (by omega) x hx k hk]
   have hp : List.replicate 5 (0 : Int) = pad (List.replicate x.1.toNat 0) := by
     unfold pad
     rw [List.length_replicate, List.replicate_append_replicate]
     congr 1; omega
   unfold begunL
   rw [hp, begun_pad hx k _ _ (by simp; omega) (fun j hj => by have := List.mem_range.1 hj; omega)]
theorem right_eq {x : PP} (hx : PT x) {q : QQ} (hq : QT q (x.2.2.1.length : Int)) {k : List Int} (hk : Crowd k (x.2.2.1.length : Int)) :
   ∃ (r b : Bool) (c : List Int) (v : Int), g53 2000 x q k = some r ∧ g63 2000 q k = some b ∧ g64 2000 x k = some (pad c) ∧ g73 2000 x (pad c) = some v ∧ (r = true ↔ v = (if b then 1 else 0)) := by
 obtain ⟨c, hc, e1, e2⟩ := begun_crowd hx hk
 have hl := hk.len; have ql := hq.len
 have s1 := hx.start.1; have s2 := hx.start.2.1
 have hw := holds_two 2000 (by omega) q k (by omega) (by omega) (by omega) hq.a hk.le hq.b
 obtain ⟨b, hb⟩ := holds_some 2000 (by omega) q k (by omega) (by omega) (by omega) hq.a hk.le hq.b
 obtain ⟨v, v1, v2, v3⟩ := dec73 hx hc
 obtain ⟨u, u1, u2, u3, u4⟩ := decides38 hx hc
 cases b with
 | true =>
   refine ⟨ieq u 1, true, c, v, ?_, by rw [← hw]; exact hb, e1, v1, ?_⟩
   · unfold g53
     rw [hb]
     simp only [Option.bind_some, cond_true]
     rw [e2]
     simp only [Option.bind_some]
     rw [u1]
     simp only [Option.bind_some]
   · rw [if_pos rfl, v3 1 (by omega), ← u4 1 (by omega) (by omega)]
     simp only [ieq, decide_eq_true_eq]
 | false =>
   refine ⟨ieq u 0, false, c, v, ?_, by rw [← hw]; exact hb, e1, v1, ?_⟩
   · unfold g53
     rw [hb]
     simp only [Option.bind_some, cond_false]
     rw [e2]
     simp only [Option.bind_some]
     rw [u1]
     simp only [Option.bind_some]
   · rw [if_neg (by simp), v3 0 (by omega), ← u4 0 (by omega) (by omega)]
     simp only [ieq, decide_eq_true_eq]
noncomputable def rightB (x : PP) (q : QQ) (k : List Int) : Bool := (g53 2000 x q k).getD false
theorem right53 {x : PP} (hx : PT x) {q : QQ} (hq : QT q (x.2.2.1.length : Int)) {k : List Int} (hk : Crowd k (x.2.2.1.length : Int)) : g53 2000 x q k = some (rightB x q k) := by
 obtain ⟨r, b, c, v, h1, _⟩ := right_eq hx hq hk
 unfold rightB; rw [h1]; rfl
theorem round51 {x : PP} (hx : PT x) {q : QQ} (hq : QT q (x.2.2.1.length : Int)) {k : List Int} (hk : Crowd k (x.2.2.1.length : Int)) {C : Type} (kn k1 : PP → QQ → List Int → Bool → Int → Option C) (v4 : List Int) (v5 : Bool) (v6 : Int) :
   g51R122B 2000 kn k1 x q v4 v5 v6 k = if rightB x q k = true then kn x q v4 v5 v6 else k1 x q k false 0 := by
 obtain ⟨r, b, c, v, h1, h2, h3, h4, h5⟩ := right_eq hx hq hk
 have hr : rightB x q k = r := by unfold rightB; rw [h1]; rfl
 rw [hr]
 unfold g51R122B
 rw [h2]
 simp only [Option.bind_some]
 cases b with
 | true =>
   rw [cond_true, h3]
   simp only [Option.bind_some]
   rw [h4]
   simp only [Option.bind_some]
   rw [if_pos rfl] at h5
   by_cases hv : v = 1
   · rw [if_pos (h5.2 hv), hv, ieq_self, Bool.not_true, cond_false]
   · rw [if_neg (fun h => hv (h5.1 h)), show ieq v 1 = false by simp only [ieq, decide_eq_false_iff_not]; exact hv, Bool.not_false, cond_true]
 | false =>
   rw [cond_false, h3]
   simp only [Option.bind_some]
   rw [h4]
   simp only [Option.bind_some]
   rw [if_neg (by simp)] at h5
   by_cases hv : v = 0
   · rw [if_pos (h5.2 hv), hv, ieq_self, Bool.not_true, cond_false]
   · rw [if_neg (fun h => hv (h5.1 h)), show ieq v 0 = false by simp only [ieq, decide_eq_false_iff_not]; exact hv, Bool.not_false, cond_true]
abbrev t51 : Ty := .pair (.int .i64) (tyO [.box (.d (.pair (.int .i64) (.pair (.lst (.int .i64)) (.pair (.lst (.int .i64)) (.pair (.lst (.arr 4 (.int .i64))) .unit))))) (.a (.d (.pair (.int .i64) (.pair (.lst (.int .i64)) (.pair (.lst (.int .i64)) (.pair (.lst (.arr 4 (.int .i64))) .unit)))))), .box (.d (.pair (.lst (.int .i64)) (.pair (.int .i64) (.pair (.int .i64) .unit)))) (.a (.d (.pair (.lst (.int .i64)) (.pair (.int .i64) (.pair (.int .i64) .unit))))), .box (.d (.lst (.int .i64))) (.a (.d (.lst (.int .i64)))), .box (.d .bool) (.a (.d .bool)), .box (.d (.int .i64)) (.a (.d (.int .i64)))])
noncomputable abbrev run51 : Cbs t51 := ⟨(g51R122 2000).told.run [(.ref 2 0 []), (.ref 3 0 []), (.ref 4 0 []), (.ref 5 0 []), (.ref 6 0 [])], .unit, fun _ _ => none⟩
abbrev s51 (x : PP) (q : QQ) : t51.T := (0, (x, q, ([] : List Int), false, (0 : Int), ()))
abbrev d51 (x : PP) (q : QQ) (k : List Int) : t51.T := (1, (x, q, k, false, (0 : Int), ()))
theorem y51 {x : PP} (hx : PT x) {q : QQ} (hq : QT q (x.2.2.1.length : Int)) {k : List Int} (hk : Crowd k (x.2.2.1.length : Int)) :
   run51.y (s51 x q) [.dat (.lst (.int .i64)) k] = if rightB x q k = true then some (s51 x q, true) else some (d51 x q k, false) :=
 ((g51R122_run 2000 x q [] false 0 0 k).trans (if_pos rfl)).trans (round51 hx hq hk _ _ [] false 0)
theorem crowd1 {a : Int} (h1 : 1 ≤ a) (h2 : a ≤ 9) : Crowd [a] 1 := ⟨rfl, fun t ht => by obtain rfl := List.mem_singleton.1 ht; omega, by simp; omega⟩
theorem crowd2 {a b : Int} (h0 : 0 ≤ a) (h1 : 0 ≤ b) (h2 : 1 ≤ a + b) (h3 : a + b ≤ 9) : Crowd [a, b] 2 := ⟨rfl, fun t ht => by
 simp only [List.mem_cons, List.not_mem_nil, or_false] at ht
 rcases ht with rfl | rfl <;> omega, by simp; omega⟩
section
variable {x : PP} (hx : PT x) {q : QQ} (hq : QT q (x.2.2.1.length : Int)) {C : Type} (k0 k1 : Cbs t51 → t51.T → Option C)
include hx hq
theorem kinds1_loop (h1 : x.2.2.1.length = 1) : ∀ (F a : Nat), 10 - a < F → a ≤ 10 → (∀ i : Nat, 1 ≤ i → i < a → rightB x q [(i : Int)] = true) →
   ((∀ k, Crowd k 1 → rightB x q k = true) ∧ g96xL6f 2000 F t51 k0 k1 1 (a : Int) run51 (s51 x q) = k1 run51 (s51 x q)) ∨ ∃ k, Crowd k 1 ∧ rightB x q k = false ∧ g96xL6f 2000 F t51 k0 k1 1 (a : Int) run51 (s51 x q) = k0 run51 (d51 x q k)
 | 0, a, hF, _, _ => by omega
 | F + 1, a, hF, ha, hall => by
   rw [g96xL6f_succ]
   unfold g96xL6B
   by_cases hlt : a < 10
   · rw [decide_eq_true (show (a : Int) < 10 by omega), cond_true, ieq_self, cond_true, wn a (by omega)]
     by_cases h0 : 0 < a
     · rw [decide_eq_true (show (0 : Int) < (a : Int) by omega), cond_true]
       have hk : Crowd [(a : Int)] (x.2.2.1.length : Int) := by rw [h1]; exact crowd1 (by omega) (by omega)
       have hy := y51 hx hq hk
       by_cases hr : rightB x q [(a : Int)] = true
       · rw [if_pos hr] at hy
         rcases kinds1_loop h1 F (a + 1) (by omega) (by omega) (fun i i1 i2 => by
           by_cases hia : i = a
           · subst hia; exact hr
           · exact hall i i1 (by omega)) with ⟨g1, g2⟩ | ⟨k, g1, g2, g3⟩
         · exact .inl ⟨g1, (congrArg (fun o => Option.bind o _) hy).trans g2⟩
         · exact .inr ⟨k, g1, g2, (congrArg (fun o => Option.bind o _) hy).trans g3⟩
       · rw [if_neg hr] at hy
         exact .inr ⟨[(a : Int)], crowd1 (by omega) (by omega), by rw [Bool.not_eq_true] at hr; exact hr, congrArg (fun o => Option.bind o _) hy⟩
     · rw [decide_eq_false (show ¬ (0 : Int) < (a : Int) by omega), cond_false]
       exact kinds1_loop h1 F (a + 1) (by omega) (by omega) (fun i i1 i2 => by omega)
   · rw [decide_eq_false (show ¬ (a : Int) < 10 by omega), cond_false]
     refine .inl ⟨fun k hk => ?_, rfl⟩
     have hl := hk.len
     match k, hl with
     | [p], _ =>
       have hp := hk.le p (by simp)
       have hs := hk.sum
       simp only [List.sum_cons, List.sum_nil] at hs
       have := hall p.toNat (by omega) (by omega)
       rw [show ((p.toNat : Nat) : Int) = p by omega] at this
       exact this
theorem kinds2_row (h1 : x.2.2.1.length = 2) (a : Nat) (ha : a ≤ 9) (K0 K1 : Int → Int → Cbs t51 → t51.T → Option C) : ∀ (F b : Nat), 10 - a - b < F → b ≤ 10 - a → (∀ i j : Nat, i < a → 1 ≤ i + j → i + j ≤ 9 → rightB x q [(i : Int), (j : Int)] = true) → (∀ j : Nat, 1 ≤ a + j → j < b → rightB x q [(a : Int), (j : Int)] = true) →
   ((∀ i j : Nat, i < a + 1 → 1 ≤ i + j → i + j ≤ 9 → rightB x q [(i : Int), (j : Int)] = true) ∧ g96xL3278f 2000 F t51 K0 K1 2 (a : Int) (a : Int) ((10 - a : Nat) : Int) (b : Int) run51 (s51 x q) = K1 2 (a : Int) run51 (s51 x q)) ∨ ∃ k, Crowd k 2 ∧ rightB x q k = false ∧ g96xL3278f 2000 F t51 K0 K1 2 (a : Int) (a : Int) ((10 - a : Nat) : Int) (b : Int) run51 (s51 x q) = K0 2 (a : Int) run51 (d51 x q k)
 | 0, b, hF, _, _, _ => by omega
 | F + 1, b, hF, hb, hall, hrow => by
   rw [g96xL3278f_succ]
   unfold g96xL3278B
   by_cases hlt : b < 10 - a
   · rw [decide_eq_true (show (b : Int) < ((10 - a : Nat) : Int) by omega), cond_true, wn b (by omega), w64 (x := (a : Int) + (b : Int)) (by omega) (by omega)]
     by_cases h0 : 0 < a + b
     · rw [decide_eq_true (show (0 : Int) < (a : Int) + (b : Int) by omega), cond_true]
       have hc2 : Crowd [(a : Int), (b : Int)] 2 := crowd2 (by omega) (by omega) (by omega) (by omega)
       have hk : Crowd [(a : Int), (b : Int)] (x.2.2.1.length : Int) := by rw [h1]; exact hc2
       have hy := y51 hx hq hk
       by_cases hr : rightB x q [(a : Int), (b : Int)] = true
       · rw [if_pos hr] at hy
         rcases kinds2_row h1 a ha K0 K1 F (b + 1) (by omega) (by omega) hall (fun j j1 j2 => by
           by_cases hjb : j = b
           · subst hjb; exact hr
           · exact hrow j j1 (by omega)) with ⟨g1, g2⟩ | ⟨k, g1, g2, g3⟩
         · exact .inl ⟨g1, (congrArg (fun o => Option.bind o _) hy).trans g2⟩
         · exact .inr ⟨k, g1, g2, (congrArg (fun o => Option.bind o _) hy).trans g3⟩
       · rw [if_neg hr] at hy
         exact .inr ⟨_, hc2, by rw [Bool.not_eq_true] at hr; exact hr, congrArg (fun o => Option.bind o _) hy⟩
     · rw [decide_eq_false (show ¬ (0 : Int) < (a : Int) + (b : Int) by omega), cond_false]
       exact kinds2_row h1 a ha K0 K1 F (b + 1) (by omega) (by omega) hall (fun j j1 j2 => by omega)
   · rw [decide_eq_false (show ¬ (b : Int) < ((10 - a : Nat) : Int) by omega), cond_false]
     refine .inl ⟨fun i j hi h1 h2 => ?_, rfl⟩
     by_cases hia : i = a
     · subst hia; exact hrow j h1 (by omega)
     · exact hall i j (by omega) h1 h2
theorem kinds2_loop (h1 : x.2.2.1.length = 2) : ∀ (F a : Nat), 10 - a < F → a ≤ 10 → (∀ i j : Nat, i < a → 1 ≤ i + j → i + j ≤ 9 → rightB x q [(i : Int), (j : Int)] = true) →
   ((∀ k, Crowd k 2 → rightB x q k = true) ∧ g96xL6f 2000 F t51 k0 k1 2 (a : Int) run51 (s51 x q) = k1 run51 (s51 x q)) ∨ ∃ k, Crowd k 2 ∧ rightB x q k = false ∧ g96xL6f 2000 F t51 k0 k1 2 (a : Int) run51 (s51 x q) = k0 run51 (d51 x q k)
 | 0, a, hF, _, _ => by omega
 | F + 1, a, hF, ha, hall => by
   rw [g96xL6f_succ]
   unfold g96xL6B
   by_cases hlt : a < 10
   · rw [decide_eq_true (show (a : Int) < 10 by omega), cond_true, show ieq 2 1 = false from rfl, cond_false, g96xL3278_eq, w64 (x := 10 - (a : Int)) (by omega) (by omega), show (10 : Int) - (a : Int) = ((10 - a : Nat) : Int) by omega]
     have el := kinds2_row hx hq h1 a (by omega) (fun e3 e4 e5 e6 => (k0 e5 e6)) (fun e7 e8 e9 e10 => (g96xL6f 2000 F t51 k0 k1 e7 (IntKind.wrap .i64 (e8 + 1)) e9 e10)) 2000 0 (by omega) (by omega) hall (fun j j1 j2 => by omega)
     simp only [Int.natCast_zero] at el
     rcases el with ⟨g1, g2⟩ | ⟨k, g1, g2, g3⟩
     · rcases kinds2_loop h1 F (a + 1) (by omega) (by omega) g1 with ⟨f1, f2⟩ | ⟨k, f1, f2, f3⟩
       · exact .inl ⟨f1, g2.trans ((congrArg (fun z => g96xL6f 2000 F t51 k0 k1 2 z run51 (s51 x q)) (wn a (by omega))).trans f2)⟩
       · exact .inr ⟨k, f1, f2, g2.trans ((congrArg (fun z => g96xL6f 2000 F t51 k0 k1 2 z run51 (s51 x q)) (wn a (by omega))).trans f3)⟩
     · exact .inr ⟨k, g1, g2, g3⟩
   · rw [decide_eq_false (show ¬ (a : Int) < 10 by omega), cond_false]
     refine .inl ⟨fun k hk => ?_, rfl⟩
     have hl := hk.len
     match k, hl with
     | [p, r], _ =>
       have hp := hk.le p (by simp)
       have hr := hk.le r (by simp)
       have hs := hk.sum
       simp only [List.sum_cons, List.sum_nil] at hs
       have := hall p.toNat r.toNat (by omega) (by omega) (by omega)
       rw [show ((p.toNat : Nat) : Int) = p by omega, show ((r.toNat : Nat) : Int) = r by omega] at this
       exact this
end
theorem answers51 {x : PP} (hx : PT x) {q : QQ} (hq : QT q (x.2.2.1.length : Int)) :
   ((∀ k, Crowd k (x.2.2.1.length : Int) → rightB x q k = true) ∧ g51 2000 x q = some ([], true, 0, ())) ∨ ∃ k, Crowd k (x.2.2.1.length : Int) ∧ rightB x q k = false ∧ g51 2000 x q = some (k, false, 0, ()) := by
 have s1 := hx.start.1; have s2 := hx.start.2.1
 have ql := hq.len
 have e1 := hx.check 2000 (by omega)
 have e2 : g61 2000 q ((List.length x.2.2.1 : Nat) : Int) = some true := by rw [isQ_eq 2000 q _ (by omega) (by omega), hq.asked]
 have el : ((∀ k, Crowd k (x.2.2.1.length : Int) → rightB x q k = true) ∧ g96xL6f 2000 2000 t51 (fun e11 e12 => some ((()), ((e11, e12), ()), (()))) (fun e13 e14 => some ((()), ((e13, e14), ()), (()))) (x.2.2.1.length : Int) 0 run51 (s51 x q) = some ((()), ((run51, s51 x q), ()), (()))) ∨
     ∃ k, Crowd k (x.2.2.1.length : Int) ∧ rightB x q k = false ∧ g96xL6f 2000 2000 t51 (fun e11 e12 => some ((()), ((e11, e12), ()), (()))) (fun e13 e14 => some ((()), ((e13, e14), ()), (()))) (x.2.2.1.length : Int) 0 run51 (s51 x q) = some ((()), ((run51, d51 x q k), ()), (())) := by
   by_cases h1 : x.2.2.1.length = 1
   · have := kinds1_loop hx hq (C := Unit × ((Cbs t51 × t51.T) × Unit) × Unit) (fun e11 e12 => some ((()), ((e11, e12), ()), (()))) (fun e13 e14 => some ((()), ((e13, e14), ()), (()))) h1 2000 0 (by omega) (by omega) (fun i i1 i2 => by omega)
     rw [h1]; exact this
   · have h2 : x.2.2.1.length = 2 := by omega
     have := kinds2_loop hx hq (C := Unit × ((Cbs t51 × t51.T) × Unit) × Unit) (fun e11 e12 => some ((()), ((e11, e12), ()), (()))) (fun e13 e14 => some ((()), ((e13, e14), ()), (()))) h2 2000 0 (by omega) (by omega) (fun i j i1 i2 => by omega)
     rw [h2]; exact this
 unfold g51
 rw [e1]
 simp only [Option.bind_some]
 rw [ieq_self, Bool.not_true, cond_false, e2]
 simp only [Option.bind_some]
 rw [Bool.not_true, cond_false]
 unfold g82x
 simp only [Option.bind_some]
 unfold g96x
 rw [g96xL6_eq]
 rcases el with ⟨h1, h2⟩ | ⟨k, h1, h2, h3⟩
 · exact .inl ⟨h1, (congrArg (fun o => Option.bind o _) h2).trans rfl⟩
 · exact .inr ⟨k, h1, h2, (congrArg (fun o => Option.bind o _) h3).trans rfl⟩
end Go.Pv
namespace Go.Pv
def kL1 : List (List Int) := [[1], [2], [3], [4], [5], [6], [7], [8], [9]]
def kL2 : List (List Int) := (List.range 10).flatMap fun a => ((List.range (10 - a)).filter fun b => decide (1 ≤ a + b)).map fun b : Nat => [((a : Nat) : Int), (b : Int)]
theorem kinds1 : g83 2000 1 = some kL1 := by kernel_rfl
theorem kinds2 : g83 2000 2 = some kL2 := by kernel_rfl
theorem kL1_ok : ∀ k, k ∈ kL1 ↔ Crowd k 1 := fun k => by
 constructor
 · intro h
   have : kL1.all (fun k => crowdB k 1) = true := by kernel_rfl
   exact crowd_of_b (List.all_eq_true.1 this k h)
 · intro h
   have hl := h.len
   match k, hl with
   | [p], _ =>
     have hs := h.sum
     simp only [List.sum_cons, List.sum_nil] at hs
     simp [kL1]; omega
theorem kL2_ok : ∀ k, k ∈ kL2 ↔ Crowd k 2 := fun k => by
 constructor
 · intro h
   have : kL2.all (fun k => crowdB k 2) = true := by kernel_rfl
   exact crowd_of_b (List.all_eq_true.1 this k h)
 · intro h
   have hl := h.len
   match k, hl with
   | [p, q], _ =>
     have hp := h.le p (by simp)
     have hq := h.le q (by simp)
     have hs := h.sum
     simp only [List.sum_cons, List.sum_nil] at hs
     refine List.mem_flatMap.2 ⟨p.toNat, List.mem_range.2 (by omega), List.mem_map.2 ⟨q.toNat, List.mem_filter.2 ⟨List.mem_range.2 (by omega), by simp; omega⟩, ?_⟩⟩
     rw [show ((p.toNat : Nat) : Int) = p by omega, show ((q.toNat : Nat) : Int) = q by omega]
theorem all52 {x : PP} (hx : PT x) {q : QQ} (hq : QT q (x.2.2.1.length : Int)) {C : Type} (k0 : Bool → PP → QQ → Option C) (k1 : PP → QQ → Option C) (L : List (List Int)) (hL : ∀ k ∈ L, Crowd k (x.2.2.1.length : Int)) (hlen : L.length ≤ 1000) :
   ∀ (F i : Nat), L.length - i < F → i ≤ L.length → (∀ j, j < i → rightB x q (L.getD j []) = true) → ((∀ k ∈ L, rightB x q k = true) ∧ g52L58f 2000 F k0 k1 L (i : Int) x q = k1 x q) ∨ ((∃ k ∈ L, rightB x q k = false) ∧ g52L58f 2000 F k0 k1 L (i : Int) x q = k0 false x q)
 | 0, i, hF, _, _ => by omega
 | F + 1, i, hF, hi, hall => by
   rw [g52L58f_succ]
   unfold g52L58B
   by_cases hlt : i < L.length
   · have hm := getD_mem hlt []
     rw [decide_eq_true (show (i : Int) < ((L.length : Nat) : Int) by omega), cond_true, if_pos (ix hlt), Int.toNat_natCast, right53 hx hq (hL _ hm)]
     simp only [Option.bind_some]
     by_cases hr : rightB x q (L.getD i []) = true
     · rw [hr, Bool.not_true, cond_false, wn i (by omega)]
       exact all52 hx hq k0 k1 L hL hlen F (i + 1) (by omega) (by omega) (fun j hj => by
         by_cases hji : j = i
         · subst hji; exact hr
         · exact hall j (by omega))
     · rw [Bool.not_eq_true] at hr
       rw [hr, Bool.not_false, cond_true]
       exact .inr ⟨⟨_, hm, hr⟩, rfl⟩
   · rw [decide_eq_false (show ¬ (i : Int) < ((L.length : Nat) : Int) by omega), cond_false]
     refine .inl ⟨fun k hk => ?_, rfl⟩
     obtain ⟨j, hj, he⟩ := List.getElem_of_mem hk
     have := hall j (by omega)
     rw [List.getD_eq_getElem?_getD, List.getElem?_eq_getElem hj, Option.getD_some, he] at this
     exact this
theorem answers52 {x : PP} (hx : PT x) {q : QQ} (hq : QT q (x.2.2.1.length : Int)) : ((∀ k, Crowd k (x.2.2.1.length : Int) → rightB x q k = true) ∧ g52 2000 x q = some true) ∨ ((∃ k, Crowd k (x.2.2.1.length : Int) ∧ rightB x q k = false) ∧ g52 2000 x q = some false) := by
 have s1 := hx.start.1; have s2 := hx.start.2.1
 have H : ∀ L : List (List Int), g83 2000 ((x.2.2.1.length : Nat) : Int) = some L → (∀ k, k ∈ L ↔ Crowd k (x.2.2.1.length : Int)) → L.length ≤ 1000 → ((∀ k, Crowd k (x.2.2.1.length : Int) → rightB x q k = true) ∧ g52 2000 x q = some true) ∨ ((∃ k, Crowd k (x.2.2.1.length : Int) ∧ rightB x q k = false) ∧ g52 2000 x q = some false) := by
   intro L h1 h2 h3
   unfold g52
   rw [h1]
   simp only [Option.bind_some]
   rw [g52L58_eq]
   have := all52 hx hq (fun e3 e4 e5 => some e3) (fun e6 e7 => some true) L (fun k hk => (h2 k).1 hk) h3 2000 0 (by omega) (by omega) (fun j hj => by omega)
   simp only [Int.natCast_zero] at this
   rcases this with ⟨a, b⟩ | ⟨⟨k, a, c⟩, b⟩
   · exact .inl ⟨fun k hk => a k ((h2 k).2 hk), b⟩
   · exact .inr ⟨⟨k, (h2 k).1 a, c⟩, b⟩
 by_cases h1 : x.2.2.1.length = 1
 · exact H kL1 (by rw [h1]; exact kinds1) (by rw [h1]; exact kL1_ok) (by simp [kL1])
 · have h2 : x.2.2.1.length = 2 := by omega
   exact H kL2 (by rw [h2]; exact kinds2) (by rw [h2]; exact kL2_ok) (by decide)
theorem bad51 {x : PP} (hx : PT x) (q : QQ) (hl : q.1.length ≤ 100) (h : askedB q (x.2.2.1.length : Int) = false) : g51 2000 x q = some ([], false, 1, ()) := by
 unfold g51
 rw [hx.check 2000 (by omega)]
 simp only [Option.bind_some]
 rw [ieq_self, Bool.not_true, cond_false, isQ_eq 2000 q _ hl (by omega), h]
 rfl
theorem ones1 : g54 2000 1 = some [1] := by kernel_rfl
theorem ones2 : g54 2000 2 = some [1, 1] := by kernel_rfl
theorem tallyAnswers_plain (p : PP) (q0 : QQ) : g12 2000 p q0 = some true := by
 obtain ⟨x, ex, hx, _⟩ := tame_eq 2000 (by omega) p 3 (by omega) (by omega)
 have s1 := hx.start.1; have s2 := hx.start.2.1
 obtain ⟨q, eq, hq⟩ := question_eq 2000 (by omega) q0 ((x.2.2.1.length : Nat) : Int) (by omega) (by omega)
 have ql := hq.len
 have ef : g17 2000 q.1 3 = some q.1 := by
   rw [few_eq 2000 q.1 3 (by omega) (by omega), List.take_of_length_le (by simp; omega)]
 obtain ⟨qa, qb, qm, ⟨⟩⟩ := q
 simp only at ef ql
 have ew : IntKind.wrap .i64 (3 - ((x.2.2.1.length : Nat) : Int)) = 3 - ((x.2.2.1.length : Nat) : Int) := w64 (by omega) (by omega)
 obtain ⟨o, eo, ho⟩ : ∃ o, g54 2000 (3 - ((x.2.2.1.length : Nat) : Int)) = some o ∧ o.length = 3 - x.2.2.1.length := by
   by_cases h1 : x.2.2.1.length = 1
   · exact ⟨[1, 1], by rw [h1]; exact ones2, by rw [h1]; rfl⟩
   · exact ⟨[1], by rw [show x.2.2.1.length = 2 by omega]; exact ones1, by rw [show x.2.2.1.length = 2 by omega]; rfl⟩
 have b1 : g51 2000 x (o, 0, 0, ()) = some ([], false, 1, ()) := bad51 hx _ (by simp only; omega) (by
   unfold askedB
   simp only
   rw [show decide ((o.length : Int) = ((x.2.2.1.length : Nat) : Int)) = false by rw [decide_eq_false_iff_not]; omega]
   rfl)
 have b2 : g51 2000 x (qa, 10, 0, ()) = some ([], false, 1, ()) := bad51 hx _ (by simp only; omega) (by
   unfold askedB
   simp only
   rw [show decide ((-9 : Int) ≤ 10) = true from rfl, show decide ((10 : Int) ≤ 9) = false from rfl]
   simp)
 unfold g12
 rw [ex]
 simp only [Option.bind_some]
 rw [eq]
 simp only [Option.bind_some]
 rw [hx.given 2000]
 simp only [Option.bind_some]
 rw [ef, ew]
 simp only [Option.bind_some]
 rw [eo]
 simp only [Option.bind_some]
 rw [b1, b2]
 rcases answers51 hx hq with ⟨h1, h2⟩ | ⟨k, h1, h2, h3⟩
 · rcases answers52 hx hq with ⟨g1, g2⟩ | ⟨⟨k, g1, g2⟩, _⟩
   · rw [h2, g2]
     simp only [Option.bind_some, awake_true]
     rfl
   · have := h1 k g1; rw [g2] at this; cases this
 · rcases answers52 hx hq with ⟨g1, g2⟩ | ⟨_, g2⟩
   · have := g1 k h1; rw [h2] at this; cases this
   · have hr := right53 hx hq h1
     rw [h2] at hr
     have hk := crowded_eq 2000 k (x.2.2.1.length : Int) (by have := h1.len; omega) (by omega)
     rw [h1.b] at hk
     rw [h3, g2]
     simp only [Option.bind_some]
     rw [hk, hr]
     simp only [Option.bind_some, awake_true]
     rfl
end Go.Pv
