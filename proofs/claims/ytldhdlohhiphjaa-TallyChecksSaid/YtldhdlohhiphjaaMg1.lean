/- Plain texts, merged: QaA, QaB, QaC, QaD, QaA2, QaD2, QaE, QaM, QaChk, QaAw. -/
import Derived.Test.YtldhdlohhiphjaaPvL06
/- Seat 06, plain: lists in ranges, sums, copies, the question. -/
set_option linter.unusedVariables false
set_option linter.unusedSimpArgs false
namespace Go.Pv
abbrev PP := Int × List Int × List Int × List (List Int) × Unit
abbrev QQ := List Int × Int × Int × Unit
theorem w64 {x : Int} (h1 : -9223372036854775808 ≤ x) (h2 : x < 9223372036854775808) : IntKind.wrap .i64 x = x := by rw [IntKind.wrap_i64]; omega
theorem wn (i : Nat) (h : i < 1000000) : IntKind.wrap .i64 ((i : Int) + 1) = ((i + 1 : Nat) : Int) := by rw [w64 (by omega) (by omega)]; simp
@[simp] theorem ieq_self (x : Int) : ieq x x = true := by simp only [ieq, decide_true]
theorem getD_mem {α : Type} {l : List α} {i : Nat} (h : i < l.length) (d : α) : l.getD i d ∈ l := by
 rw [List.getD_eq_getElem?_getD, List.getElem?_eq_getElem h]; simp
theorem getD_drop (l : List Int) (i : Nat) (h : i < l.length) : l.drop i = l.getD i 0 :: l.drop (i + 1) := by
 rw [List.drop_eq_getElem_cons h]; simp [h]
theorem any_loop (N : Nat) {C : Type} (k0 : Int → Option C) (k1 : Option C) (l : List Int) (f : (Int × Unit) → Option Bool) (p : Int → Bool) (hf : ∀ x, f (x, ()) = some (p x)) (hl : l.length < 4611686018427387904) :
   ∀ (F i : Nat), l.length - i < F → i ≤ l.length → ((l.drop i).any p = true ∧ ∃ j : Nat, g90L26f N F k0 k1 l f (l.length : Int) (i : Int) = k0 j) ∨ ((l.drop i).any p = false ∧ g90L26f N F k0 k1 l f (l.length : Int) (i : Int) = k1)
 | 0, i, h, _ => by omega
 | F + 1, i, h, hi => by
   rw [g90L26f_succ]
   unfold g90L26B
   by_cases hlt : i < l.length
   · have e1 : decide ((i : Int) < (l.length : Int)) = true := by simp; omega
     have e2 : idx (i : Int) l.length := ⟨by omega, by omega⟩
     rw [e1, cond_true, if_pos e2, Int.toNat_natCast, hf]
     simp only [Option.bind_some]
     rw [getD_drop l i hlt, List.any_cons]
     cases hp : p (l.getD i 0) with
     | true => exact .inl ⟨by simp, i, rfl⟩
     | false =>
       simp only [cond_false, Bool.false_or]
       have e3 : IntKind.wrap .i64 ((i : Int) + 1) = ((i + 1 : Nat) : Int) := by rw [w64 (by omega) (by omega)]; simp
       rw [e3]
       exact any_loop N k0 k1 l f p hf hl F (i + 1) (by omega) (by omega)
   · have e1 : decide ((i : Int) < (l.length : Int)) = false := by simp; omega
     rw [e1, cond_false, List.drop_eq_nil_of_le (by omega)]
     exact .inr ⟨rfl, rfl⟩
theorem are_eq (N : Nat) (lo hi : Int) (l : List Int) (hN : l.length < N) (hl : l.length < 4611686018427387904) : g60 N lo hi l = some (l.all fun x => decide (lo ≤ x) && decide (x ≤ hi)) := by
 unfold g60 g86 g90
 rw [g90L26_eq]
 have := any_loop N (fun e2 => some e2) (some (-1)) l (fun (x1 : (Int) × (Unit)) => Option.bind (g87 N x1.1 lo hi) fun y2 => some y2) (fun x => decide (x < lo) || decide (hi < x))
   (fun x => by
     simp only [g87]
     cases h : decide (x < lo) <;> simp) hl N 0 (by omega) (by omega)
 simp only [Int.natCast_zero, List.drop_zero] at this
 have hx : (l.all fun x => decide (lo ≤ x) && decide (x ≤ hi)) = !(l.any fun x => decide (x < lo) || decide (hi < x)) := by
   rw [List.not_any_eq_all_not]
   congr 1
   funext x
   by_cases h1 : x < lo <;> by_cases h2 : hi < x <;> simp [h1, h2] <;> omega
 rcases this with ⟨h1, j, h2⟩ | ⟨h1, h2⟩
 · rw [h2, hx, h1]
   simp
 · rw [h2, hx, h1]
   simp
theorem few_eq (N : Nat) (l : List Int) (k : Int) (h0 : 0 ≤ k) (hk : k ≤ 1000) : g17 N l k = some (l.take k.toNat) := by
 unfold g17
 have e : imin (l.length : Int) k = ((min l.length k.toNat : Nat) : Int) := by simp only [imin]; split <;> omega
 rw [e, if_pos ⟨by omega, by omega, by omega⟩]
 have : List.take (min l.length k.toNat) l = l.take k.toNat := by
   rcases Nat.le_total l.length k.toNat with h | h
   · rw [Nat.min_eq_left h, List.take_of_length_le h, List.take_length]
   · rw [Nat.min_eq_right h]
 simp [this, maxCount]
 omega
theorem sum88_loop (N : Nat) {C : Type} (k0 : Int → Option C) (l : List Int) (hl : l.length ≤ 100) (hb : ∀ x ∈ l, -1000000 ≤ x ∧ x ≤ 1000000) :
   ∀ (F i : Nat) (s : Int), l.length - i < F → i ≤ l.length → -1000000 * (i : Int) ≤ s → s ≤ 1000000 * (i : Int) → g88L58f N F k0 s l (l.length : Int) (i : Int) = k0 (s + (l.drop i).sum)
 | 0, i, s, h, _, _, _ => by omega
 | F + 1, i, s, h, hi, h1, h2 => by
   rw [g88L58f_succ]
   unfold g88L58B
   by_cases hlt : i < l.length
   · have e1 : decide ((i : Int) < (l.length : Int)) = true := by simp; omega
     have e2 : idx (i : Int) l.length := ⟨by omega, by omega⟩
     obtain ⟨b1, b2⟩ := hb _ (getD_mem hlt 0)
     rw [e1, cond_true, if_pos e2, Int.toNat_natCast, wn i (by omega), w64 (by omega) (by omega)]
     dsimp only
     rw [sum88_loop N k0 l hl hb F (i + 1) (s + l.getD i 0) (by omega) (by omega) (by omega) (by omega), getD_drop l i hlt, List.sum_cons]
     congr 1; omega
   · have e1 : decide ((i : Int) < (l.length : Int)) = false := by simp; omega
     rw [e1, cond_false, List.drop_eq_nil_of_le (by omega)]; simp
theorem sum88 (N : Nat) (l : List Int) (hl : l.length ≤ 100) (hN : 100 < N) (hb : ∀ x ∈ l, -1000000 ≤ x ∧ x ≤ 1000000) : g88 N l = some l.sum := by
 unfold g88
 rw [g88L58_eq]
 have := sum88_loop N (fun e1 => some e1) l hl hb N 0 0 (by omega) (by omega) (by omega) (by omega)
 simp only [Int.natCast_zero, List.drop_zero, Int.zero_add] at this
 exact this
def crowdB (l : List Int) (many : Int) : Bool := decide ((l.length : Int) = many) && ((l.all fun x => decide (0 ≤ x) && decide (x ≤ 9)) && (decide (1 ≤ l.sum) && decide (l.sum ≤ 9)))
theorem isCrowd_eq (N : Nat) (l : List Int) (many : Int) (hl : l.length ≤ 100) (hN : 100 < N) : g62 N l many = some (crowdB l many) := by
 unfold g62 crowdB
 rw [are_eq N 0 9 l (by omega) (by omega)]
 by_cases h1 : (l.length : Int) = many
 · simp only [ieq, h1, decide_true, cond_true, Option.bind_some, Bool.true_and]
   cases h2 : l.all fun x => decide (0 ≤ x) && decide (x ≤ 9) with
   | false => rfl
   | true =>
     rw [List.all_eq_true] at h2
     have hb : ∀ x ∈ l, -1000000 ≤ x ∧ x ≤ 1000000 := fun x hx => by
       have := h2 x hx
       simp only [Bool.and_eq_true, decide_eq_true_eq] at this
       omega
     rw [cond_true, sum88 N l hl hN hb]
     simp only [Option.bind_some]
     rw [are_eq N 1 9 _ (by simp; omega) (by simp)]
     simp
 · simp [ieq, h1]
end Go.Pv
namespace Go.Pv
def RLt (r s : List Int) : Prop := r.getD 0 0 < s.getD 0 0 ∨ r.getD 0 0 = s.getD 0 0 ∧ r.getD 1 0 < s.getD 1 0
def RuleOk (n : Int) (r : List Int) : Prop := r.length = 4 ∧ (∀ t ∈ r, 0 ≤ t ∧ t < n) ∧ r.getD 0 0 ≤ r.getD 1 0
structure PT (x : PP) : Prop where
 n : 1 ≤ x.1 ∧ x.1 ≤ 5
 out : (x.2.1.length : Int) = x.1 ∧ ∀ o ∈ x.2.1, 0 ≤ o ∧ o ≤ 1
 start : 1 ≤ x.2.2.1.length ∧ x.2.2.1.length ≤ 2 ∧ ∀ s ∈ x.2.2.1, 0 ≤ s ∧ s < x.1
 rules : x.2.2.2.1.length ≤ 15 ∧ (∀ r ∈ x.2.2.2.1, RuleOk x.1 r) ∧ x.2.2.2.1.Pairwise RLt
theorem cmp97 (N : Nat) (a b : Int) : g97 N a b = some (if a < b then -1 else if b < a then 1 else 0) := by
 have h99 : ∀ x : Int, g99 N x = some false := fun x => by simp [g99]
 unfold g97
 rw [h99, h99]
 simp only [Option.bind_some, cond_false]
 by_cases h : a < b
 · simp [h]
 · by_cases h2 : b < a <;> simp [h, h2]
theorem compare_lt (N : Nat) (hN : 5 < N) (a b c d : Int) (h : a < c ∨ a = c ∧ b < d) : g85 N [a, b] [c, d] = some (-1) := by
 unfold g85
 rw [g85L26_eq]
 obtain ⟨M, rfl⟩ : ∃ M, N = M + 3 := ⟨N - 3, by omega⟩
 rw [show M + 3 = (M + 2) + 1 from rfl, g85L26f_succ]
 unfold g85L26B
 have q0 : idx (0 : Int) 2 := by decide
 have q1 : idx (1 : Int) 2 := by decide
 rcases h with h | ⟨rfl, h⟩
 · simp [cmp97, h, idx, ieq]
 · have hab : ¬ (a < a) := by omega
   have e1 : IntKind.wrap .i64 1 = 1 := by decide
   simp [cmp97, idx, ieq, hab, e1]
   rw [show M + 2 = (M + 1) + 1 from rfl, g85L26f_succ]
   unfold g85L26B
   simp [cmp97, idx, ieq, h, e1]
theorem PT.check_loop {x : PP} (h : PT x) (N : Nat) (hN : 20 < N) {C : Type} (k0 : Int → PP → Option C) (k1 : PP → Option C) :
   ∀ (F i : Nat), x.2.2.2.1.length - i < F → i ≤ x.2.2.2.1.length → g59L122f N F k0 k1 x.1 x.2.2.2.1 (x.2.2.2.1.length : Int) (i : Int) x = k1 x
 | 0, i, hF, _ => by omega
 | F + 1, i, hF, hi => by
   rw [g59L122f_succ]
   unfold g59L122B
   obtain ⟨hn1, hn2⟩ := h.n
   obtain ⟨hr1, hr2, hr3⟩ := h.rules
   by_cases hlt : i < x.2.2.2.1.length
   · have e1 : decide ((i : Int) < (x.2.2.2.1.length : Int)) = true := by simp; omega
     have e2 : idx (i : Int) x.2.2.2.1.length := ⟨by omega, by omega⟩
     obtain ⟨r1, r2, r3⟩ := hr2 _ (getD_mem hlt (List.replicate 4 0))
     have ih := h.check_loop N hN k0 k1 F (i + 1) (by omega) (by omega)
     have hprev : 0 < i → RLt (x.2.2.2.1.getD (i - 1) (List.replicate 4 0)) (x.2.2.2.1.getD i (List.replicate 4 0)) := fun hp => by
       have := List.pairwise_iff_getElem.1 hr3 (i - 1) i (by omega) hlt (by omega)
       rw [List.getD_eq_getElem?_getD, List.getD_eq_getElem?_getD, List.getElem?_eq_getElem (show i - 1 < _ by omega), List.getElem?_eq_getElem hlt]
       exact this
     have hprev2 : 0 < i → RuleOk x.1 (x.2.2.2.1.getD (i - 1) (List.replicate 4 0)) := fun hp => hr2 _ (getD_mem (by omega) _)
     rw [e1, cond_true, if_pos e2, if_pos (by decide), Int.toNat_natCast]
     generalize hq : x.2.2.2.1.getD i (List.replicate 4 0) = q at r1 r2 r3 hprev
     match q, r1 with
     | [a, b, c, d], _ =>
       have e5 : g60 N 0 (IntKind.wrap .i64 (x.1 - 1)) [a, b, c, d] = some true := by
         rw [are_eq N _ _ _ (by simp; omega) (by simp), w64 (by omega) (by omega)]
         congr 1
         rw [List.all_eq_true]
         intro t ht
         obtain ⟨a1, a2⟩ := r2 t ht
         simp; omega
       have e6 : decide (b < a) = false := by simp at r3; simp; omega
       rw [if_pos (by decide), if_pos (by decide)]
       simp only [show Int.toNat 4 = 4 from rfl, show Int.toNat 0 = 0 from rfl, show Int.toNat 1 = 1 from rfl, List.take, List.drop, e5, Option.bind_some, Bool.not_true, cond_false, List.getD_cons_zero, List.getD_cons_succ, e6]
       by_cases hp : 0 < i
       · have e7 : decide ((0 : Int) < (i : Int)) = true := by simp; omega
         have e8 : IntKind.wrap .i64 ((i : Int) - 1) = ((i - 1 : Nat) : Int) := by rw [w64 (by omega) (by omega)]; omega
         have e9 : idx ((i - 1 : Nat) : Int) x.2.2.2.1.length := ⟨by omega, by omega⟩
         rw [e7, cond_true, e8, if_pos e9, if_pos (by decide), if_pos (by decide), Int.toNat_natCast]
         have hx := hprev hp
         obtain ⟨p1, p2, p3⟩ := hprev2 hp
         generalize hq2 : x.2.2.2.1.getD (i - 1) (List.replicate 4 0) = q2 at p1 p2 p3 hx
         match q2, p1 with
         | [a', b', c', d'], _ =>
           simp only [RLt, List.getD_cons_zero, List.getD_cons_succ] at hx
           simp only [show Int.toNat 2 = 2 from rfl, List.take, List.drop]
           rw [compare_lt N (by omega) a' b' a b hx]
           simp only [Option.bind_some]
           rw [show decide ((0 : Int) ≤ -1) = false from rfl, cond_false, wn i (by omega)]
           exact ih
       · have e7 : decide ((0 : Int) < (i : Int)) = false := by simp; omega
         rw [e7, cond_false, wn i (by omega)]
         exact ih
   · have e1 : decide ((i : Int) < (x.2.2.2.1.length : Int)) = false := by simp; omega
     rw [e1, cond_false]
theorem PT.check {x : PP} (h : PT x) (N : Nat) (hN : 20 < N) : g59 N x = some 0 := by
 obtain ⟨hn1, hn2⟩ := h.n
 obtain ⟨ho1, ho2⟩ := h.out
 obtain ⟨hs1, hs2, hs3⟩ := h.start
 obtain ⟨hr1, hr2, hr3⟩ := h.rules
 unfold g59
 have e1 : g60 N 1 5 [x.1] = some true := by
   rw [are_eq N _ _ _ (by simp; omega) (by simp)]; simp; omega
 have e2 : ieq ((List.length x.2.1 : Nat) : Int) x.1 = true := by simp only [ieq, decide_eq_true_eq]; exact ho1
 have e3 : g60 N 0 1 x.2.1 = some true := by
   rw [are_eq N _ _ _ (by omega) (by omega)]
   congr 1
   rw [List.all_eq_true]
   intro t ht
   have := ho2 t ht
   simp; omega
 have e4 : g60 N 1 2 [((List.length x.2.2.1 : Nat) : Int)] = some true := by
   rw [are_eq N _ _ _ (by simp; omega) (by simp)]; simp; omega
 have e5 : g60 N 0 (IntKind.wrap .i64 (x.1 - 1)) x.2.2.1 = some true := by
   rw [are_eq N _ _ _ (by omega) (by omega), w64 (by omega) (by omega)]
   congr 1
   rw [List.all_eq_true]
   intro t ht
   have := hs3 t ht
   simp; omega
 have e6 : decide ((15 : Int) < ((List.length x.2.2.2.1 : Nat) : Int)) = false := by simp; omega
 rw [e1, e2, e3, e4, e5, e6]
 simp only [Option.bind_some, Bool.not_true, cond_false]
 rw [g59L122_eq]
 have := h.check_loop N hN (fun e7 e8 => some e7) (fun e9 => some (0 : Int)) N 0 (by omega) (by omega)
 simp only [Int.natCast_zero] at this
 exact this
end Go.Pv
namespace Go.Pv
def cn (n : Nat) : Nat → Nat | 0 => 0 | a + 1 => cn n a + (n - a)
structure RInv (n a b : Nat) (R : List (List Int)) : Prop where
 ok : ∀ r ∈ R, RuleOk (n : Int) r ∧ (r.getD 0 0 < (a : Int) ∨ r.getD 0 0 = (a : Int) ∧ r.getD 1 0 < (b : Int))
 sorted : R.Pairwise RLt
 few : R.length ≤ cn n a + (b - a)
end Go.Pv
namespace Go.Pv
theorem sum_nonneg : ∀ l : List Int, (∀ t ∈ l, 0 ≤ t) → 0 ≤ l.sum
 | [], _ => by simp
 | a :: l, h => by
   have h1 := h a (by simp)
   have h2 := sum_nonneg l (fun t ht => h t (by simp [ht]))
   simp only [List.sum_cons]; omega
theorem mem_le_sum : ∀ l : List Int, (∀ t ∈ l, 0 ≤ t) → ∀ t ∈ l, t ≤ l.sum
 | [], _, t, ht => by cases ht
 | a :: l, h, t, ht => by
   have h1 := h a (by simp)
   have h2 := sum_nonneg l (fun t ht => h t (by simp [ht]))
   simp only [List.sum_cons]
   rcases List.mem_cons.1 ht with rfl | ht
   · omega
   · have := mem_le_sum l (fun t ht => h t (by simp [ht])) t ht
     omega
theorem set_sum : ∀ (l : List Int) (i : Nat) (v : Int), i < l.length → (l.set i v).sum = l.sum - l.getD i 0 + v
 | [], i, v, h => by simp at h
 | a :: l, 0, v, h => by simp; omega
 | a :: l, i + 1, v, h => by
   have := set_sum l i v (by simpa using h)
   simp only [List.set_cons_succ, List.sum_cons, List.getD_cons_succ, this]; omega
structure Crowd (l : List Int) (n : Int) : Prop where
 len : (l.length : Int) = n
 pos : ∀ t ∈ l, 0 ≤ t
 sum : 1 ≤ l.sum ∧ l.sum ≤ 9
theorem Crowd.le {l : List Int} {n : Int} (h : Crowd l n) : ∀ t ∈ l, 0 ≤ t ∧ t ≤ 9 := fun t ht => by
 have := mem_le_sum l h.pos t ht
 have := h.pos t ht
 have := h.sum.2
 omega
theorem Crowd.b {l : List Int} {n : Int} (h : Crowd l n) : crowdB l n = true := by
 unfold crowdB
 simp only [Bool.and_eq_true, decide_eq_true_eq]
 refine ⟨h.len, ?_, h.sum⟩
 rw [List.all_eq_true]
 intro t ht
 have := h.le t ht
 simp; omega
theorem crowd_of_b {l : List Int} {n : Int} (h : crowdB l n = true) : Crowd l n := by
 unfold crowdB at h
 simp only [Bool.and_eq_true, decide_eq_true_eq] at h
 obtain ⟨h1, h2, h3⟩ := h
 rw [List.all_eq_true] at h2
 exact ⟨h1, fun t ht => by have := h2 t ht; simp at this; omega, h3⟩
end Go.Pv
namespace Go.Pv
theorem sum55_loop (N : Nat) {C : Type} (k0 : Int → Option C) (l : List Int) (hl : l.length ≤ 100) (hb : ∀ x ∈ l, -1000000 ≤ x ∧ x ≤ 1000000) :
   ∀ (F i : Nat) (s : Int), l.length - i < F → i ≤ l.length → -1000000 * (i : Int) ≤ s → s ≤ 1000000 * (i : Int) → g55L58f N F k0 l s (i : Int) = k0 (s + (l.drop i).sum)
 | 0, i, s, h, _, _, _ => by omega
 | F + 1, i, s, h, hi, h1, h2 => by
   rw [g55L58f_succ]
   unfold g55L58B
   by_cases hlt : i < l.length
   · have e1 : decide ((i : Int) < (l.length : Int)) = true := by simp; omega
     have e2 : idx (i : Int) l.length := ⟨by omega, by omega⟩
     obtain ⟨b1, b2⟩ := hb _ (getD_mem hlt 0)
     rw [e1, cond_true, if_pos e2, Int.toNat_natCast, wn i (by omega), w64 (by omega) (by omega)]
     dsimp only
     rw [sum55_loop N k0 l hl hb F (i + 1) (s + l.getD i 0) (by omega) (by omega) (by omega) (by omega), getD_drop l i hlt, List.sum_cons]
     congr 1; omega
   · have e1 : decide ((i : Int) < (l.length : Int)) = false := by simp; omega
     rw [e1, cond_false, List.drop_eq_nil_of_le (by omega)]; simp
theorem sum55 (N : Nat) (l : List Int) (hl : l.length ≤ 100) (hN : 100 < N) (hb : ∀ x ∈ l, -1000000 ≤ x ∧ x ≤ 1000000) : g55 N l = some l.sum := by
 unfold g55
 rw [g55L58_eq]
 have := sum55_loop N (fun e1 => some e1) l hl hb N 0 0 (by omega) (by omega) (by omega) (by omega)
 simp only [Int.natCast_zero, List.drop_zero, Int.zero_add] at this
 exact this
theorem crowded_loop (N : Nat) {C : Type} (k0 : List Int → Int → Bool → Option C) (k1 : List Int → Int → Option C) (l : List Int) (m : Int) (hl : l.length ≤ 100) :
   ∀ (F i : Nat), l.length - i < F → i ≤ l.length → g21L26f N F k0 k1 l m (i : Int) = bif (l.drop i).all (fun x => decide (0 ≤ x) && decide (x ≤ 9)) then k1 l m else k0 l m false
 | 0, i, h, _ => by omega
 | F + 1, i, h, hi => by
   rw [g21L26f_succ]
   unfold g21L26B
   by_cases hlt : i < l.length
   · have e1 : decide ((i : Int) < (l.length : Int)) = true := by simp; omega
     have e2 : idx (i : Int) l.length := ⟨by omega, by omega⟩
     rw [e1, cond_true, if_pos e2, if_pos e2, Int.toNat_natCast, wn i (by omega)]
     dsimp only
     rw [crowded_loop N k0 k1 l m hl F (i + 1) (by omega) (by omega), getD_drop l i hlt, List.all_cons]
     by_cases h1 : l.getD i 0 < 0
     · have : ¬ (0 ≤ l.getD i 0) := by omega
       simp only [h1, this, decide_true, decide_false, cond_true, cond_false, Bool.false_and]
     · have h1' : 0 ≤ l.getD i 0 := by omega
       by_cases h2 : 9 < l.getD i 0
       · have : ¬ (l.getD i 0 ≤ 9) := by omega
         simp only [h1, h2, this, decide_true, decide_false, cond_true, cond_false, Bool.false_and, Bool.and_false]
       · have h2' : l.getD i 0 ≤ 9 := by omega
         simp only [h1, h2, h1', h2', decide_true, decide_false, cond_false, Bool.true_and]
   · have e1 : decide ((i : Int) < (l.length : Int)) = false := by simp; omega
     rw [e1, cond_false, List.drop_eq_nil_of_le (by omega)]; rfl
theorem crowded_eq (N : Nat) (l : List Int) (many : Int) (hl : l.length ≤ 100) (hN : 100 < N) : g21 N l many = some (crowdB l many) := by
 unfold g21 crowdB
 rw [g21L26_eq]
 have := crowded_loop N (fun e1 e2 e3 => some e3) (fun e4 e5 => bif (ieq ((List.length e4 : Nat) : Int) e5) then Option.bind (g55 N e4) fun r6 => bif (decide ((1 : Int) ≤ r6)) then Option.bind (g55 N e4) fun r7 => some (decide ((r7 : Int) ≤ 9)) else some false else some false) l many hl N 0 (by omega) (by omega)
 simp only [Int.natCast_zero, List.drop_zero] at this
 refine this.trans ?_
 cases h2 : l.all fun x => decide (0 ≤ x) && decide (x ≤ 9) with
 | false => simp
 | true =>
   rw [List.all_eq_true] at h2
   have hb : ∀ x ∈ l, -1000000 ≤ x ∧ x ≤ 1000000 := fun x hx => by
     have := h2 x hx
     simp only [Bool.and_eq_true, decide_eq_true_eq] at this
     omega
   rw [cond_true, sum55 N l hl hN hb]
   by_cases h1 : (l.length : Int) = many
   · simp only [ieq, h1, decide_true, cond_true, Option.bind_some, Bool.true_and]
     by_cases h3 : 1 ≤ l.sum <;> simp [h3]
   · simp [ieq, h1]
end Go.Pv
namespace Go.Pv
end Go.Pv
namespace Go.Pv
structure QT (q : QQ) (n : Int) : Prop where
 len : (q.1.length : Int) = n
 a : ∀ t ∈ q.1, -5 ≤ t ∧ t ≤ 5
 b : -9 ≤ q.2.1 ∧ q.2.1 ≤ 9
 m : 0 ≤ q.2.2.1 ∧ q.2.2.1 ≤ 9
theorem begun_loop (N : Nat) {C : Type} (k0 : PP → List Int → List Int → Option C) (x : PP) (hx : PT x) (k : List Int) (hk : k.length ≤ x.2.2.1.length) (hb : ∀ t ∈ k, 0 ≤ t ∧ t ≤ 9) (z : List Int) :
   ∀ (F i : Nat) (c : List Int), k.length - i < F → i ≤ k.length → c.length = 5 → (∀ t ∈ c, 0 ≤ t ∧ t ≤ 9 * (i : Int)) → g64L58f N F k0 k (k.length : Int) (i : Int) x z c = k0 x z ((List.range (k.length - i)).foldl (fun c j => c.set (x.2.2.1.getD (i + j) 0).toNat (c.getD (x.2.2.1.getD (i + j) 0).toNat 0 + k.getD (i + j) 0)) c)
 | 0, i, c, h, _, _, _ => by omega
 | F + 1, i, c, h, hi, hc, hcb => by
   rw [g64L58f_succ]
   unfold g64L58B
   obtain ⟨s1, s2, s3⟩ := hx.start
   obtain ⟨n1, n2⟩ := hx.n
   by_cases hlt : i < k.length
   · have e1 : decide ((i : Int) < (k.length : Int)) = true := by simp; omega
     obtain ⟨t1, t2⟩ := s3 _ (getD_mem (show i < x.2.2.1.length by omega) 0)
     obtain ⟨b1, b2⟩ := hb _ (getD_mem hlt 0)
     have q : idx (x.2.2.1.getD i 0) 5 := ⟨t1, by omega⟩
     have hcm := hcb _ (getD_mem (show (x.2.2.1.getD i 0).toNat < c.length by omega) 0)
     rw [e1, cond_true, if_pos ⟨by omega, by omega⟩, if_pos ⟨by omega, by omega⟩, Int.toNat_natCast, if_pos q, if_pos q, wn i (by omega), w64 (by omega) (by omega)]
     dsimp only
     rw [begun_loop N k0 x hx k hk hb z F (i + 1) _ (by omega) (by omega) (by simp [hc]) (fun t ht => by
       rcases List.mem_or_eq_of_mem_set ht with ht | rfl
       · have := hcb t ht; omega
       · omega)]
     rw [show k.length - i = (k.length - (i + 1)) + 1 by omega, List.range_succ_eq_map, List.foldl_cons, List.foldl_map]
     simp only [Nat.add_zero, Nat.succ_eq_add_one, Nat.add_comm 1, Nat.add_assoc]
   · have e1 : decide ((i : Int) < (k.length : Int)) = false := by simp; omega
     rw [e1, cond_false, show k.length - i = 0 by omega]; rfl
theorem crowd_loop (N : Nat) {C : Type} (k0 : PP → List Int → Option C) (x : PP) (hx : PT x) (k : List Int) (hk : k.length ≤ x.2.2.1.length) (hb : ∀ t ∈ k, 0 ≤ t ∧ t ≤ 9) :
   ∀ (F i : Nat) (c : List Int), k.length - i < F → i ≤ k.length → (c.length : Int) = x.1 → (∀ t ∈ c, 0 ≤ t ∧ t ≤ 9 * (i : Int)) → g28L58f N F k0 k (i : Int) x c = k0 x ((List.range (k.length - i)).foldl (fun c j => c.set (x.2.2.1.getD (i + j) 0).toNat (c.getD (x.2.2.1.getD (i + j) 0).toNat 0 + k.getD (i + j) 0)) c)
 | 0, i, c, h, _, _, _ => by omega
 | F + 1, i, c, h, hi, hc, hcb => by
   rw [g28L58f_succ]
   unfold g28L58B
   obtain ⟨s1, s2, s3⟩ := hx.start
   obtain ⟨n1, n2⟩ := hx.n
   by_cases hlt : i < k.length
   · have e1 : decide ((i : Int) < (k.length : Int)) = true := by simp; omega
     obtain ⟨t1, t2⟩ := s3 _ (getD_mem (show i < x.2.2.1.length by omega) 0)
     obtain ⟨b1, b2⟩ := hb _ (getD_mem hlt 0)
     have q : idx (x.2.2.1.getD i 0) c.length := ⟨t1, by omega⟩
     have q2 : (x.2.2.1.getD i 0).toNat < c.length := by omega
     have hcm := hcb _ (getD_mem q2 0)
     have q3 : idx (i : Int) x.2.2.1.length := ⟨by omega, by omega⟩
     have q4 : idx (i : Int) k.length := ⟨by omega, by omega⟩
     rw [e1, cond_true, if_pos q3, if_pos q3, Int.toNat_natCast, if_pos q, if_pos q2, if_pos q4, if_pos q, if_pos q2, wn i (by omega), w64 (by omega) (by omega)]
     dsimp only
     rw [crowd_loop N k0 x hx k hk hb F (i + 1) _ (by omega) (by omega) (by simp [hc]) (fun t ht => by
       rcases List.mem_or_eq_of_mem_set ht with ht | rfl
       · have := hcb t ht; omega
       · omega)]
     rw [show k.length - i = (k.length - (i + 1)) + 1 by omega, List.range_succ_eq_map, List.foldl_cons, List.foldl_map]
     simp only [Nat.add_zero, Nat.succ_eq_add_one, Nat.add_comm 1, Nat.add_assoc]
   · have e1 : decide ((i : Int) < (k.length : Int)) = false := by simp; omega
     rw [e1, cond_false, show k.length - i = 0 by omega]; rfl
theorem take_set (l : List Int) (n i : Nat) (v : Int) : (l.set i v).take n = (l.take n).set i v := by
 rw [List.take_set]
theorem getD_take (l : List Int) (n i : Nat) (h : i < n) : (l.take n).getD i 0 = l.getD i 0 := by
 simp [List.getD_eq_getElem?_getD, List.getElem?_take, h]
theorem foldl_take (x : PP) (hx : PT x) (k : List Int) (n : Nat) (hn : (n : Int) = x.1) : ∀ (l : List Nat) (c : List Int), (∀ j ∈ l, j < x.2.2.1.length) →
   (l.foldl (fun c j => c.set (x.2.2.1.getD (0 + j) 0).toNat (c.getD (x.2.2.1.getD (0 + j) 0).toNat 0 + k.getD (0 + j) 0)) c).take n = l.foldl (fun c j => c.set (x.2.2.1.getD (0 + j) 0).toNat (c.getD (x.2.2.1.getD (0 + j) 0).toNat 0 + k.getD (0 + j) 0)) (c.take n)
 | [], c, _ => rfl
 | j :: l, c, h => by
   simp only [List.foldl_cons]
   rw [foldl_take x hx k n hn l _ (fun j hj => h j (by simp [hj])), take_set]
   congr 2
   obtain ⟨t1, t2⟩ := hx.start.2.2 _ (getD_mem (h j (by simp)) 0)
   rw [Nat.zero_add, getD_take _ _ _ (by omega)]
theorem foldl_len (x : PP) (k : List Int) : ∀ (l : List Nat) (c : List Int), (l.foldl (fun c j => c.set (x.2.2.1.getD (0 + j) 0).toNat (c.getD (x.2.2.1.getD (0 + j) 0).toNat 0 + k.getD (0 + j) 0)) c).length = c.length
 | [], c => rfl
 | j :: l, c => by simp only [List.foldl_cons]; rw [foldl_len x k l]; simp
def begunL (x : PP) (k c : List Int) : List Int := (List.range k.length).foldl (fun c j => c.set (x.2.2.1.getD (0 + j) 0).toNat (c.getD (x.2.2.1.getD (0 + j) 0).toNat 0 + k.getD (0 + j) 0)) c
theorem begun_eq (N : Nat) (hN : 100 < N) (x : PP) (hx : PT x) (k : List Int) (hk : Crowd k (x.2.2.1.length : Int)) : g64 N x k = some (begunL x k (List.replicate 5 0)) := by
 unfold g64
 have hl := hk.len
 have h2 := hx.start.2.1
 rw [g64L58_eq]
 have := begun_loop N (fun e1 e2 e3 => some e3) x hx k (by omega) hk.le (List.replicate 5 0) N 0 (List.replicate 5 0) (by omega) (by omega) (by simp) (fun t ht => by have := List.eq_of_mem_replicate ht; omega)
 simp only [Int.natCast_zero, Nat.sub_zero] at this
 exact this
theorem crowd28_eq (N : Nat) (hN : 100 < N) (x : PP) (hx : PT x) (k : List Int) (hk : Crowd k (x.2.2.1.length : Int)) : g28 N x k = some (begunL x k (List.replicate x.1.toNat 0)) := by
 unfold g28
 have hl := hk.len
 have h2 := hx.start.2.1
 obtain ⟨n1, n2⟩ := hx.n
 have hm : mkOk x.1 x.1 := ⟨by omega, by omega, by omega⟩
 rw [if_pos hm, g28L58_eq]
 have := crowd_loop N (fun e1 e2 => some e2) x hx k (by omega) hk.le N 0 (List.replicate x.1.toNat 0) (by omega) (by omega) (by simp; omega) (fun t ht => by have := List.eq_of_mem_replicate ht; omega)
 simp only [Int.natCast_zero, Nat.sub_zero] at this
 exact this
theorem crowd_eq (N : Nat) (hN : 100 < N) (x : PP) (hx : PT x) (k : List Int) (hk : Crowd k (x.2.2.1.length : Int)) : ∃ c, g25 N x k = some (c, 0, ()) ∧ g28 N x k = some c ∧ (c.length : Int) = x.1 := by
 obtain ⟨n1, n2⟩ := hx.n
 have hl := hk.len
 have h2 := hx.start.2.1
 refine ⟨begunL x k (List.replicate x.1.toNat 0), ?_, crowd28_eq N hN x hx k hk, by unfold begunL; rw [foldl_len]; simp; omega⟩
 unfold g25
 rw [hx.check N (by omega), isCrowd_eq N k _ (by omega) hN, hk.b, begun_eq N hN x hx k hk]
 simp only [Option.bind_some, ieq_self, Bool.not_true, cond_false]
 rw [if_pos ⟨by omega, by omega, by omega⟩]
 unfold g65
 have ht : (begunL x k (List.replicate 5 0)).take x.1.toNat = begunL x k (List.replicate x.1.toNat 0) := by
   unfold begunL
   rw [foldl_take x hx k x.1.toNat (by omega) _ _ (fun j hj => by have := List.mem_range.1 hj; omega)]
   congr 1
   rw [List.take_replicate]; congr 1; omega
 have hlen : (begunL x k (List.replicate x.1.toNat 0)).length = x.1.toNat := by unfold begunL; rw [foldl_len]; simp
 rw [ht, show Int.toNat 0 = 0 from rfl, List.drop_zero, if_pos (by omega), if_pos (by rw [hlen]; simp [maxCount]; omega)]
 rfl
end Go.Pv
namespace Go.Pv
def dec (c : List Int) (i : Nat) : List Int := c.set i (c.getD i 0 - 1)
def inc (c : List Int) (i : Nat) : List Int := c.set i (c.getD i 0 + 1)
theorem dec_len (c : List Int) (i : Nat) : (dec c i).length = c.length := by simp [dec]
theorem inc_len (c : List Int) (i : Nat) : (inc c i).length = c.length := by simp [inc]
theorem getD_set (c : List Int) (i j : Nat) (v : Int) : (c.set i v).getD j 0 = if i = j ∧ i < c.length then v else c.getD j 0 := by
 simp only [List.getD_eq_getElem?_getD, List.getElem?_set]
 by_cases h : i = j
 · subst h
   by_cases h2 : i < c.length
   · simp [h2]
   · simp [h2]
 · simp [h]
def Bd (k : Int) (c : List Int) : Prop := ∀ j, -k ≤ c.getD j 0 ∧ c.getD j 0 ≤ k
theorem Bd.dec {k : Int} {c : List Int} (h : Bd k c) (i : Nat) : Bd (k + 1) (dec c i) := fun j => by
 have h1 := h j
 have h2 := h i
 unfold Go.Pv.dec
 rw [getD_set]
 split <;> omega
theorem Bd.inc {k : Int} {c : List Int} (h : Bd k c) (i : Nat) : Bd (k + 1) (inc c i) := fun j => by
 have h1 := h j
 have h2 := h i
 unfold Go.Pv.inc
 rw [getD_set]
 split <;> omega
def canL (p q : Nat) (c : List Int) : Bool := decide (0 ≤ (dec (dec c p) q).getD p 0) && decide (0 ≤ (dec (dec c p) q).getD q 0)
def stepL (p q s t : Nat) (c : List Int) : List Int := inc (inc (dec (dec c p) q) s) t
def canR (r : List Int) (c : List Int) : Bool := canL (r.getD 0 0).toNat (r.getD 1 0).toNat c
def stepR (r : List Int) (c : List Int) : List Int := stepL (r.getD 0 0).toNat (r.getD 1 0).toNat (r.getD 2 0).toNat (r.getD 3 0).toNat c
theorem rule_nat {n : Int} {r : List Int} (h : RuleOk n r) : ∃ p q s t : Nat, r = [(p : Int), (q : Int), (s : Int), (t : Int)] ∧ (p : Int) < n ∧ (q : Int) < n ∧ (s : Int) < n ∧ (t : Int) < n := by
 obtain ⟨h1, h2, _⟩ := h
 match r, h1 with
 | [a, b, c, d], _ =>
   have ha := h2 a (by simp)
   have hb := h2 b (by simp)
   have hc := h2 c (by simp)
   have hd := h2 d (by simp)
   refine ⟨a.toNat, b.toNat, c.toNat, d.toNat, ?_, by omega, by omega, by omega, by omega⟩
   rw [Int.toNat_of_nonneg ha.1, Int.toNat_of_nonneg hb.1, Int.toNat_of_nonneg hc.1, Int.toNat_of_nonneg hd.1]
theorem ix {p n : Nat} (h : p < n) : idx (p : Int) n := ⟨by omega, by omega⟩
theorem getD_pos {c : List Int} (h : ∀ t ∈ c, 0 ≤ t) (j : Nat) : 0 ≤ c.getD j 0 := by
 by_cases hj : j < c.length
 · exact h _ (getD_mem hj 0)
 · rw [List.getD_eq_getElem?_getD, List.getElem?_eq_none (by omega)]; simp
theorem pos_of_getD {c : List Int} (h : ∀ j, 0 ≤ c.getD j 0) : ∀ t ∈ c, 0 ≤ t := fun t ht => by
 obtain ⟨j, hj, rfl⟩ := List.getElem_of_mem ht
 have := h j
 rw [List.getD_eq_getElem?_getD, List.getElem?_eq_getElem hj] at this
 exact this
theorem stepL_sum {c : List Int} {p q s t : Nat} (hp : p < c.length) (hq : q < c.length) (hs : s < c.length) (ht : t < c.length) : (stepL p q s t c).sum = c.sum := by
 have s1 : (dec c p).sum = c.sum - 1 := by unfold dec; rw [set_sum _ _ _ hp]; omega
 have s2 : (dec (dec c p) q).sum = c.sum - 2 := by
   have := set_sum (dec c p) q ((dec c p).getD q 0 - 1) (by rw [dec_len]; exact hq)
   show ((dec c p).set q _).sum = _
   omega
 have s3 : (inc (dec (dec c p) q) s).sum = c.sum - 1 := by
   have := set_sum (dec (dec c p) q) s ((dec (dec c p) q).getD s 0 + 1) (by rw [dec_len, dec_len]; exact hs)
   show ((dec (dec c p) q).set s _).sum = _
   omega
 have := set_sum (inc (dec (dec c p) q) s) t ((inc (dec (dec c p) q) s).getD t 0 + 1) (by rw [inc_len, dec_len, dec_len]; exact ht)
 show ((inc (dec (dec c p) q) s).set t _).sum = _
 omega
theorem Crowd.step {c : List Int} {n : Int} (h : Crowd c n) {p q s t : Nat} (hp : p < c.length) (hq : q < c.length) (hs : s < c.length) (ht : t < c.length) (hcan : canL p q c = true) : Crowd (stepL p q s t c) n := by
 unfold canL at hcan
 simp only [Bool.and_eq_true, decide_eq_true_eq] at hcan
 have s4 := stepL_sum hp hq hs ht
 have p1 : ∀ j, 0 ≤ (dec (dec c p) q).getD j 0 := fun j => by
   by_cases h1 : j = p
   · subst h1; exact hcan.1
   · by_cases h2 : j = q
     · subst h2; exact hcan.2
     · have := getD_pos h.pos j
       unfold dec
       rw [getD_set, if_neg (by omega), getD_set, if_neg (by omega)]
       exact this
 have p2 : ∀ j, 0 ≤ (inc (dec (dec c p) q) s).getD j 0 := fun j => by
   have h1 := p1 j
   have h2 := p1 s
   unfold inc
   rw [getD_set]
   split <;> omega
 have p3 : ∀ j, 0 ≤ (stepL p q s t c).getD j 0 := fun j => by
   have h1 := p2 j
   have h2 := p2 t
   show 0 ≤ ((inc (dec (dec c p) q) s).set t _).getD j 0
   rw [getD_set]
   split <;> omega
 refine ⟨?_, pos_of_getD p3, by rw [s4]; exact h.sum⟩
 rw [← h.len]
 simp only [stepL, inc_len, dec_len]
theorem Crowd.stepR {x : PP} (hx : PT x) {c : List Int} (h : Crowd c x.1) {r : List Int} (hr : RuleOk x.1 r) (hcan : canR r c = true) : Crowd (stepR r c) x.1 := by
 obtain ⟨p, q, s, t, rfl, hp, hq, hs, ht⟩ := rule_nat hr
 have := h.len
 exact h.step (p := p) (q := q) (s := s) (t := t) (by omega) (by omega) (by omega) (by omega) hcan
end Go.Pv
namespace Go.Pv
def RP (x : PP) (i : Nat) : Prop := (∀ t ∈ x.2.2.2.1.getD i (List.replicate 4 0), 0 ≤ t ∧ t < x.1) ∧ (x.2.2.2.1.getD i (List.replicate 4 0)).getD 0 0 ≤ (x.2.2.2.1.getD i (List.replicate 4 0)).getD 1 0 ∧
 (0 < i → RLt (x.2.2.2.1.getD (i - 1) (List.replicate 4 0)) (x.2.2.2.1.getD i (List.replicate 4 0)))
structure Head (x : PP) : Prop where
 n : 1 ≤ x.1 ∧ x.1 ≤ 5
 lo : (x.2.1.length : Int) = x.1
 ls : 1 ≤ x.2.2.1.length ∧ x.2.2.1.length ≤ 2
 lr : x.2.2.2.1.length ≤ 15
structure Rest (x : PP) : Prop where
 o : ∀ o ∈ x.2.1, 0 ≤ o ∧ o ≤ 1
 s : ∀ s ∈ x.2.2.1, 0 ≤ s ∧ s < x.1
 r : ∀ i, i < x.2.2.2.1.length → RP x i
theorem rlt_trans {a b c : List Int} (h : RLt a b) (k : RLt b c) : RLt a c := by
 unfold RLt at *; omega
theorem pt_iff {x : PP} (h4 : ∀ r ∈ x.2.2.2.1, r.length = 4) : PT x ↔ Head x ∧ Rest x := by
 constructor
 · intro h
   refine ⟨⟨h.n, h.out.1, ⟨h.start.1, h.start.2.1⟩, h.rules.1⟩, ⟨h.out.2, h.start.2.2, fun i hi => ?_⟩⟩
   obtain ⟨r1, r2, r3⟩ := h.rules.2.1 _ (getD_mem hi (List.replicate 4 0))
   refine ⟨r2, r3, fun hp => ?_⟩
   have := List.pairwise_iff_getElem.1 h.rules.2.2 (i - 1) i (by omega) hi (by omega)
   rw [List.getD_eq_getElem?_getD, List.getD_eq_getElem?_getD, List.getElem?_eq_getElem (show i - 1 < _ by omega), List.getElem?_eq_getElem hi]
   exact this
 · rintro ⟨h, k⟩
   have gd : ∀ i (hi : i < x.2.2.2.1.length), x.2.2.2.1.getD i (List.replicate 4 0) = x.2.2.2.1[i] := fun i hi => by rw [List.getD_eq_getElem?_getD, List.getElem?_eq_getElem hi]; rfl
   refine ⟨h.n, ⟨h.lo, k.o⟩, ⟨h.ls.1, h.ls.2, k.s⟩, ⟨h.lr, fun r hr => ?_, ?_⟩⟩
   · obtain ⟨i, hi, rfl⟩ := List.getElem_of_mem hr
     have := k.r i hi
     unfold RP at this
     rw [gd i hi] at this
     exact ⟨h4 _ hr, this.1, this.2.1⟩
   · have key : ∀ (d i : Nat) (hj : i + d + 1 < x.2.2.2.1.length), RLt x.2.2.2.1[i] x.2.2.2.1[i + d + 1] := by
       intro d
       induction d with
       | zero =>
         intro i hj
         have := (k.r (i + 1) hj).2.2 (by omega)
         rw [gd (i + 1) hj, show i + 1 - 1 = i by omega, gd i (by omega)] at this
         exact this
       | succ d ih =>
         intro i hj
         have a := ih i (by omega)
         have := (k.r (i + d + 1 + 1) hj).2.2 (by omega)
         rw [gd (i + d + 1 + 1) hj, show i + d + 1 + 1 - 1 = i + d + 1 by omega, gd (i + d + 1) (by omega)] at this
         exact rlt_trans a this
     refine List.pairwise_iff_getElem.2 fun i j hi hj hij => ?_
     have := key (j - i - 1) i (by omega)
     simp only [show i + (j - i - 1) + 1 = j by omega] at this
     exact this
theorem compare_ge (N : Nat) (hN : 5 < N) (a b c d : Int) (h : ¬ (a < c ∨ a = c ∧ b < d)) : ∃ v, g85 N [a, b] [c, d] = some v ∧ 0 ≤ v := by
 obtain ⟨M, rfl⟩ : ∃ M, N = M + 3 := ⟨N - 3, by omega⟩
 unfold g85
 rw [g85L26_eq]
 rw [show M + 3 = (M + 2) + 1 from rfl, g85L26f_succ]
 unfold g85L26B
 have h1 : ¬ a < c := fun h2 => h (.inl h2)
 by_cases h2 : c < a
 · refine ⟨1, ?_, by omega⟩
   simp [cmp97, idx, ieq, h1, h2]
 · have h3 : a = c := by omega
   subst h3
   have h4 : ¬ b < d := fun h5 => h (.inr ⟨rfl, h5⟩)
   have z1 : IntKind.wrap .i64 (0 + 1) = 1 := by decide
   have z2 : IntKind.wrap .i64 (1 + 1) = 2 := by decide
   have z3 : IntKind.wrap .i64 1 = 1 := by decide
   have z4 : IntKind.wrap .i64 2 = 2 := by decide
   by_cases h5 : d < b
   · refine ⟨1, ?_, by omega⟩
     simp [cmp97, idx, ieq, h1, z1, z3]
     rw [show M + 2 = (M + 1) + 1 from rfl, g85L26f_succ]
     unfold g85L26B
     simp [cmp97, idx, ieq, h4, h5]
   · have h6 : b = d := by omega
     subst h6
     refine ⟨0, ?_, by omega⟩
     simp [cmp97, idx, ieq, h1, z1, z3]
     rw [show M + 2 = (M + 1) + 1 from rfl, g85L26f_succ]
     unfold g85L26B
     simp [cmp97, idx, ieq, h4, z2]
     rw [g85L26f_succ]
     unfold g85L26B
     simp [cmp97, idx, ieq, z4]
theorem rules59 {x : PP} (hh : Head x) (h4 : ∀ r ∈ x.2.2.2.1, r.length = 4) (N : Nat) (hN : 20 < N) {C : Type} (k0 : Int → PP → Option C) (k1 : PP → Option C) :
   ∀ (F i : Nat), x.2.2.2.1.length - i < F → i ≤ x.2.2.2.1.length → (∀ j, j < i → RP x j) → ((∀ j, j < x.2.2.2.1.length → RP x j) ∧ g59L122f N F k0 k1 x.1 x.2.2.2.1 (x.2.2.2.1.length : Int) (i : Int) x = k1 x) ∨ ((∃ j, j < x.2.2.2.1.length ∧ ¬ RP x j) ∧ g59L122f N F k0 k1 x.1 x.2.2.2.1 (x.2.2.2.1.length : Int) (i : Int) x = k0 60 x)
 | 0, i, hF, _, _ => by omega
 | F + 1, i, hF, hi, hall => by
   rw [g59L122f_succ]
   unfold g59L122B
   obtain ⟨hn1, hn2⟩ := hh.n
   have hr1 := hh.lr
   by_cases hlt : i < x.2.2.2.1.length
   · have e1 : decide ((i : Int) < (x.2.2.2.1.length : Int)) = true := by simp; omega
     have e2 : idx (i : Int) x.2.2.2.1.length := ⟨by omega, by omega⟩
     have r1 := h4 _ (getD_mem hlt (List.replicate 4 0))
     have go_on : RP x i → ((∀ j, j < x.2.2.2.1.length → RP x j) ∧ g59L122f N F k0 k1 x.1 x.2.2.2.1 (x.2.2.2.1.length : Int) ((i + 1 : Nat) : Int) x = k1 x) ∨ ((∃ j, j < x.2.2.2.1.length ∧ ¬ RP x j) ∧ g59L122f N F k0 k1 x.1 x.2.2.2.1 (x.2.2.2.1.length : Int) ((i + 1 : Nat) : Int) x = k0 60 x) := fun hp =>
       rules59 hh h4 N hN k0 k1 F (i + 1) (by omega) (by omega) (fun j hj => by
         by_cases hji : j = i
         · subst hji; exact hp
         · exact hall j (by omega))
     have bad : ¬ RP x i → ∃ j, j < x.2.2.2.1.length ∧ ¬ RP x j := fun h => ⟨i, hlt, h⟩
     rw [e1, cond_true, if_pos e2, if_pos (by decide), Int.toNat_natCast]
     unfold RP at go_on bad
     generalize hq : x.2.2.2.1.getD i (List.replicate 4 0) = q at r1 go_on bad
     match q, r1 with
     | [a, b, c, d], _ =>
       rw [if_pos (by decide), if_pos (by decide)]
       simp only [show Int.toNat 4 = 4 from rfl, show Int.toNat 0 = 0 from rfl, show Int.toNat 1 = 1 from rfl, List.take, List.drop, List.getD_cons_zero, List.getD_cons_succ] at go_on bad ⊢
       rw [are_eq N _ _ _ (by simp; omega) (by simp), w64 (x := x.1 - 1) (by omega) (by omega)]
       simp only [Option.bind_some]
       by_cases hin : ∀ t ∈ [a, b, c, d], 0 ≤ t ∧ t < x.1
       · have e5 : (List.all [a, b, c, d] fun t => decide (0 ≤ t) && decide (t ≤ x.1 - 1)) = true := by
           rw [List.all_eq_true]
           intro t ht
           obtain ⟨a1, a2⟩ := hin t ht
           simp; omega
         rw [e5, Bool.not_true, cond_false]
         by_cases hba : b < a
         · rw [decide_eq_true hba, cond_true]
           exact .inr ⟨bad (fun h => by have := h.2.1; omega), rfl⟩
         · rw [decide_eq_false hba, cond_false]
           by_cases hp : 0 < i
           · have e7 : decide ((0 : Int) < (i : Int)) = true := by simp; omega
             have e8 : IntKind.wrap .i64 ((i : Int) - 1) = ((i - 1 : Nat) : Int) := by rw [w64 (by omega) (by omega)]; omega
             have e9 : idx ((i - 1 : Nat) : Int) x.2.2.2.1.length := ⟨by omega, by omega⟩
             rw [e7, cond_true, e8, if_pos e9, if_pos (by decide), if_pos (by decide), Int.toNat_natCast]
             have p1 := h4 _ (getD_mem (show i - 1 < x.2.2.2.1.length by omega) (List.replicate 4 0))
             generalize hq2 : x.2.2.2.1.getD (i - 1) (List.replicate 4 0) = q2 at p1 go_on bad
             match q2, p1 with
             | [a', b', c', d'], _ =>
               simp only [RLt, List.getD_cons_zero, List.getD_cons_succ] at go_on bad
               simp only [show Int.toNat 2 = 2 from rfl, List.take, List.drop]
               by_cases hl : a' < a ∨ a' = a ∧ b' < b
               · rw [compare_lt N (by omega) a' b' a b hl]
                 simp only [Option.bind_some]
                 rw [show decide ((0 : Int) ≤ -1) = false from rfl, cond_false, wn i (by omega)]
                 exact go_on ⟨hin, by omega, fun _ => hl⟩
               · obtain ⟨v, v1, v2⟩ := compare_ge N (by omega) a' b' a b hl
                 rw [v1]
                 simp only [Option.bind_some]
                 rw [decide_eq_true v2, cond_true]
                 exact .inr ⟨bad (fun h => hl (h.2.2 hp)), rfl⟩
           · have e7 : decide ((0 : Int) < (i : Int)) = false := by simp; omega
             rw [e7, cond_false, wn i (by omega)]
             exact go_on ⟨hin, by omega, fun h => absurd h hp⟩
       · have e5 : (List.all [a, b, c, d] fun t => decide (0 ≤ t) && decide (t ≤ x.1 - 1)) = false := by
           cases hc : (List.all [a, b, c, d] fun t => decide (0 ≤ t) && decide (t ≤ x.1 - 1)) with
           | false => rfl
           | true =>
             exfalso
             rw [List.all_eq_true] at hc
             exact hin fun t ht => by have := hc t ht; simp at this; omega
         rw [e5, Bool.not_false, cond_true]
         exact .inr ⟨bad (fun h => hin h.1), rfl⟩
   · have e1 : decide ((i : Int) < (x.2.2.2.1.length : Int)) = false := by simp; omega
     rw [e1, cond_false]
     exact .inl ⟨fun j hj => hall j (by omega), rfl⟩
theorem check59 {x : PP} (h4 : ∀ r ∈ x.2.2.2.1, r.length = 4) (l1 : x.2.1.length ≤ 100) (l2 : x.2.2.1.length ≤ 100) : (PT x ∧ g59 2000 x = some 0) ∨ (¬ PT x ∧ g59 2000 x = some 60) := by
 rw [pt_iff h4]
 unfold g59
 rw [are_eq 2000 1 5 [x.1] (by simp) (by simp)]
 simp only [Option.bind_some]
 by_cases q1 : 1 ≤ x.1 ∧ x.1 ≤ 5
 · rw [show (List.all [x.1] fun x => decide (1 ≤ x) && decide (x ≤ 5)) = true by simp; omega, Bool.not_true, cond_false]
   by_cases q2 : (x.2.1.length : Int) = x.1
   · rw [show (!ieq ((List.length x.2.1 : Nat) : Int) x.1) = false by simp only [ieq, decide_eq_true q2, Bool.not_true], cond_false, are_eq 2000 0 1 x.2.1 (by omega) (by omega)]
     simp only [Option.bind_some]
     by_cases q3 : ∀ o ∈ x.2.1, 0 ≤ o ∧ o ≤ 1
     · rw [show (x.2.1.all fun x => decide (0 ≤ x) && decide (x ≤ 1)) = true by rw [List.all_eq_true]; intro t ht; have := q3 t ht; simp; omega, Bool.not_true, cond_false, are_eq 2000 1 2 [((List.length x.2.2.1 : Nat) : Int)] (by simp) (by simp)]
       simp only [Option.bind_some]
       by_cases q4 : 1 ≤ x.2.2.1.length ∧ x.2.2.1.length ≤ 2
       · rw [show (List.all [((List.length x.2.2.1 : Nat) : Int)] fun x => decide (1 ≤ x) && decide (x ≤ 2)) = true by simp; omega, Bool.not_true, cond_false, are_eq 2000 _ _ x.2.2.1 (by omega) (by omega), w64 (x := x.1 - 1) (by omega) (by omega)]
         simp only [Option.bind_some]
         by_cases q5 : ∀ s ∈ x.2.2.1, 0 ≤ s ∧ s < x.1
         · rw [show (x.2.2.1.all fun t => decide (0 ≤ t) && decide (t ≤ x.1 - 1)) = true by rw [List.all_eq_true]; intro t ht; have := q5 t ht; simp; omega, Bool.not_true, cond_false]
           by_cases q6 : x.2.2.2.1.length ≤ 15
           · rw [decide_eq_false (show ¬ (15 : Int) < ((x.2.2.2.1.length : Nat) : Int) by omega), cond_false, g59L122_eq]
             have hh : Head x := ⟨q1, q2, q4, q6⟩
             have := rules59 hh h4 2000 (by omega) (fun e7 e8 => some e7) (fun e9 => some (0 : Int)) 2000 0 (by omega) (by omega) (fun j hj => by omega)
             simp only [Int.natCast_zero] at this
             rcases this with ⟨a, b⟩ | ⟨⟨j, a, c⟩, b⟩
             · exact .inl ⟨⟨hh, ⟨q3, q5, a⟩⟩, b⟩
             · exact .inr ⟨fun h => c (h.2.r j a), b⟩
           · rw [decide_eq_true (show (15 : Int) < ((x.2.2.2.1.length : Nat) : Int) by omega), cond_true]
             exact .inr ⟨fun h => q6 h.1.lr, rfl⟩
         · rw [show (x.2.2.1.all fun t => decide (0 ≤ t) && decide (t ≤ x.1 - 1)) = false by
             cases hc : (x.2.2.1.all fun t => decide (0 ≤ t) && decide (t ≤ x.1 - 1)) with
             | false => rfl
             | true =>
               exfalso
               rw [List.all_eq_true] at hc
               exact q5 fun t ht => by have := hc t ht; simp at this; omega, Bool.not_false, cond_true]
           exact .inr ⟨fun h => q5 h.2.s, rfl⟩
       · rw [show (List.all [((List.length x.2.2.1 : Nat) : Int)] fun x => decide (1 ≤ x) && decide (x ≤ 2)) = false by
           cases hc : (List.all [((List.length x.2.2.1 : Nat) : Int)] fun x => decide (1 ≤ x) && decide (x ≤ 2)) with
           | false => rfl
           | true => exfalso; simp at hc; omega, Bool.not_false, cond_true]
         exact .inr ⟨fun h => q4 h.1.ls, rfl⟩
     · rw [show (x.2.1.all fun x => decide (0 ≤ x) && decide (x ≤ 1)) = false by
         cases hc : (x.2.1.all fun x => decide (0 ≤ x) && decide (x ≤ 1)) with
         | false => rfl
         | true =>
           exfalso
           rw [List.all_eq_true] at hc
           exact q3 fun t ht => by have := hc t ht; simp at this; omega, Bool.not_false, cond_true]
       exact .inr ⟨fun h => q3 h.2.o, rfl⟩
   · rw [show (!ieq ((List.length x.2.1 : Nat) : Int) x.1) = true by simp only [ieq, decide_eq_false q2, Bool.not_false], cond_true]
     exact .inr ⟨fun h => q2 h.1.lo, rfl⟩
 · rw [show (List.all [x.1] fun x => decide (1 ≤ x) && decide (x ≤ 5)) = false by
     cases hc : (List.all [x.1] fun x => decide (1 ≤ x) && decide (x ≤ 5)) with
     | false => rfl
     | true => exfalso; simp at hc; omega, Bool.not_false, cond_true]
   exact .inr ⟨fun h => q1 h.1.n, rfl⟩
theorem outs57 {x : PP} (N : Nat) (hh : Head x) {C : Type} (k0 : Bool → Int → PP → Option C) (k1 : Int → PP → Option C) :
   ∀ (F i : Nat), x.2.1.length - i < F → i ≤ x.2.1.length → (∀ j, j < i → 0 ≤ x.2.1.getD j 0 ∧ x.2.1.getD j 0 ≤ 1) → ((∀ o ∈ x.2.1, 0 ≤ o ∧ o ≤ 1) ∧ g57L122f N F k0 k1 x.1 (i : Int) x = k1 x.1 x) ∨ ((¬ ∀ o ∈ x.2.1, 0 ≤ o ∧ o ≤ 1) ∧ g57L122f N F k0 k1 x.1 (i : Int) x = k0 false x.1 x)
 | 0, i, hF, _, _ => by omega
 | F + 1, i, hF, hi, hall => by
   rw [g57L122f_succ]
   unfold g57L122B
   have hn := hh.n; have hlo := hh.lo
   by_cases hlt : i < x.2.1.length
   · have hgo : 0 ≤ x.2.1.getD i 0 ∧ x.2.1.getD i 0 ≤ 1 → ((∀ o ∈ x.2.1, 0 ≤ o ∧ o ≤ 1) ∧ g57L122f N F k0 k1 x.1 ((i + 1 : Nat) : Int) x = k1 x.1 x) ∨ ((¬ ∀ o ∈ x.2.1, 0 ≤ o ∧ o ≤ 1) ∧ g57L122f N F k0 k1 x.1 ((i + 1 : Nat) : Int) x = k0 false x.1 x) := fun h =>
       outs57 N hh k0 k1 F (i + 1) (by omega) (by omega) (fun j hj => by
         by_cases hji : j = i
         · subst hji; exact h
         · exact hall j (by omega))
     rw [decide_eq_true (show (i : Int) < x.1 by omega), cond_true, if_pos (ix hlt), Int.toNat_natCast, if_pos (ix hlt), wn i (by omega)]
     by_cases h0 : x.2.1.getD i 0 = 0
     · rw [h0, ieq_self, Bool.not_true, cond_false]
       rw [h0] at hgo
       exact hgo (by omega)
     · rw [show ieq (x.2.1.getD i 0) 0 = false by simp only [ieq, decide_eq_false h0], Bool.not_false, cond_true]
       by_cases h1 : x.2.1.getD i 0 = 1
       · rw [h1, ieq_self, Bool.not_true, cond_false]
         rw [h1] at hgo
         exact hgo (by omega)
       · rw [show ieq (x.2.1.getD i 0) 1 = false by simp only [ieq, decide_eq_false h1], Bool.not_false, cond_true]
         exact .inr ⟨fun h => by have := h _ (getD_mem hlt 0); omega, rfl⟩
   · rw [decide_eq_false (show ¬ (i : Int) < x.1 by omega), cond_false]
     refine .inl ⟨fun o ho => ?_, rfl⟩
     obtain ⟨j, hj, he⟩ := List.getElem_of_mem ho
     have := hall j (by omega)
     rw [List.getD_eq_getElem?_getD, List.getElem?_eq_getElem hj, Option.getD_some, he] at this
     exact this
theorem starts57 {x : PP} (N : Nat) (hh : Head x) {C : Type} (k0 : Bool → Int → PP → Option C) (k1 : Int → PP → Option C) :
   ∀ (F i : Nat), x.2.2.1.length - i < F → i ≤ x.2.2.1.length → (∀ j, j < i → 0 ≤ x.2.2.1.getD j 0 ∧ x.2.2.1.getD j 0 < x.1) → ((∀ o ∈ x.2.2.1, 0 ≤ o ∧ o < x.1) ∧ g57L250f N F k0 k1 x.1 (i : Int) x = k1 x.1 x) ∨ ((¬ ∀ o ∈ x.2.2.1, 0 ≤ o ∧ o < x.1) ∧ g57L250f N F k0 k1 x.1 (i : Int) x = k0 false x.1 x)
 | 0, i, hF, _, _ => by omega
 | F + 1, i, hF, hi, hall => by
   rw [g57L250f_succ]
   unfold g57L250B
   have hn := hh.n; have hls := hh.ls
   by_cases hlt : i < x.2.2.1.length
   · rw [decide_eq_true (show (i : Int) < ((x.2.2.1.length : Nat) : Int) by omega), cond_true, if_pos (ix hlt), Int.toNat_natCast, if_pos (ix hlt), wn i (by omega)]
     by_cases h0 : x.2.2.1.getD i 0 < 0
     · rw [decide_eq_true h0, cond_true]
       exact .inr ⟨fun h => by have := h _ (getD_mem hlt 0); omega, rfl⟩
     · rw [decide_eq_false h0, cond_false]
       by_cases h1 : x.1 ≤ x.2.2.1.getD i 0
       · rw [decide_eq_true h1, cond_true]
         exact .inr ⟨fun h => by have := h _ (getD_mem hlt 0); omega, rfl⟩
       · rw [decide_eq_false h1, cond_false]
         exact starts57 N hh k0 k1 F (i + 1) (by omega) (by omega) (fun j hj => by
           by_cases hji : j = i
           · subst hji; omega
           · exact hall j (by omega))
   · rw [decide_eq_false (show ¬ (i : Int) < ((x.2.2.1.length : Nat) : Int) by omega), cond_false]
     refine .inl ⟨fun o ho => ?_, rfl⟩
     obtain ⟨j, hj, he⟩ := List.getElem_of_mem ho
     have := hall j (by omega)
     rw [List.getD_eq_getElem?_getD, List.getElem?_eq_getElem hj, Option.getD_some, he] at this
     exact this
theorem four57 {x : PP} (N : Nat) (hN : 20 < N) {C : Type} (k0 : Bool → Int → Int → PP → List Int → Option C) (k1 : Int → Int → PP → List Int → Option C) (n i : Int) (r : List Int) (h4 : r.length = 4) :
   ∀ (F k : Nat), 4 - k < F → k ≤ 4 → (∀ j, j < k → 0 ≤ r.getD j 0 ∧ r.getD j 0 < n) → ((∀ t ∈ r, 0 ≤ t ∧ t < n) ∧ g57L129610f N F k0 k1 n i (k : Int) x r = k1 n i x r) ∨ ((¬ ∀ t ∈ r, 0 ≤ t ∧ t < n) ∧ g57L129610f N F k0 k1 n i (k : Int) x r = k0 false n i x r)
 | 0, k, hF, _, _ => by omega
 | F + 1, k, hF, hk, hall => by
   rw [g57L129610f_succ]
   unfold g57L129610B
   by_cases hlt : k < 4
   · have hi4 : idx (k : Int) 4 := ⟨by omega, by omega⟩
     rw [decide_eq_true (show (k : Int) < 4 by omega), cond_true, if_pos hi4, if_pos hi4, Int.toNat_natCast, wn k (by omega)]
     by_cases h0 : r.getD k 0 < 0
     · rw [decide_eq_true h0, cond_true]
       exact .inr ⟨fun h => by have := h _ (getD_mem (show k < r.length by omega) 0); omega, rfl⟩
     · rw [decide_eq_false h0, cond_false]
       by_cases h1 : n ≤ r.getD k 0
       · rw [decide_eq_true h1, cond_true]
         exact .inr ⟨fun h => by have := h _ (getD_mem (show k < r.length by omega) 0); omega, rfl⟩
       · rw [decide_eq_false h1, cond_false]
         exact four57 N hN k0 k1 n i r h4 F (k + 1) (by omega) (by omega) (fun j hj => by
           by_cases hjk : j = k
           · subst hjk; omega
           · exact hall j (by omega))
   · rw [decide_eq_false (show ¬ (k : Int) < 4 by omega), cond_false]
     refine .inl ⟨fun o ho => ?_, rfl⟩
     obtain ⟨j, hj, he⟩ := List.getElem_of_mem ho
     have := hall j (by omega)
     rw [List.getD_eq_getElem?_getD, List.getElem?_eq_getElem hj, Option.getD_some, he] at this
     exact this
theorem rules57 {x : PP} (hh : Head x) (h4 : ∀ r ∈ x.2.2.2.1, r.length = 4) (N : Nat) (hN : 20 < N) {C : Type} (k0 : Bool → PP → Option C) (k1 : PP → Option C) :
   ∀ (F i : Nat), x.2.2.2.1.length - i < F → i ≤ x.2.2.2.1.length → (∀ j, j < i → RP x j) → ((∀ j, j < x.2.2.2.1.length → RP x j) ∧ g57L506f N F k0 k1 x.1 (i : Int) x = k1 x) ∨ ((∃ j, j < x.2.2.2.1.length ∧ ¬ RP x j) ∧ g57L506f N F k0 k1 x.1 (i : Int) x = k0 false x)
 | 0, i, hF, _, _ => by omega
 | F + 1, i, hF, hi, hall => by
   rw [g57L506f_succ]
   unfold g57L506B
   have hn := hh.n; have hr1 := hh.lr
   by_cases hlt : i < x.2.2.2.1.length
   · have r1 := h4 _ (getD_mem hlt (List.replicate 4 0))
     have go_on : RP x i → ((∀ j, j < x.2.2.2.1.length → RP x j) ∧ g57L506f N F k0 k1 x.1 ((i + 1 : Nat) : Int) x = k1 x) ∨ ((∃ j, j < x.2.2.2.1.length ∧ ¬ RP x j) ∧ g57L506f N F k0 k1 x.1 ((i + 1 : Nat) : Int) x = k0 false x) := fun hp =>
       rules57 hh h4 N hN k0 k1 F (i + 1) (by omega) (by omega) (fun j hj => by
         by_cases hji : j = i
         · subst hji; exact hp
         · exact hall j (by omega))
     have bad : ¬ RP x i → ∃ j, j < x.2.2.2.1.length ∧ ¬ RP x j := fun h => ⟨i, hlt, h⟩
     have i0 : idx 0 4 := by decide
     have i1 : idx 1 4 := by decide
     rw [decide_eq_true (show (i : Int) < ((x.2.2.2.1.length : Nat) : Int) by omega), cond_true, if_pos (ix hlt), Int.toNat_natCast, g57L129610_eq]
     have el := fun a b => four57 (x := x) (C := C) N hN a b x.1 (i : Int) (x.2.2.2.1.getD i (List.replicate 4 0)) r1 N 0 (by omega) (by omega) (fun j hj => by omega)
     simp only [Int.natCast_zero] at el
     unfold RP at go_on bad
     rcases el (fun e11 e12 e13 e14 e15 => (k0 e11 e14)) (fun e16 e17 e18 e19 => if idx 0 4 then if idx 1 4 then bif (decide (((List.getD e19 (Int.toNat 1) 0) : Int) < (List.getD e19 (Int.toNat 0) 0))) then (k0 false e18) else bif (decide ((0 : Int) < e17)) then if idx (IntKind.wrap .i64 (e17 - 1)) (List.length e18.2.2.2.1) then if idx 0 4 then if idx 0 4 then bif (decide (((List.getD e19 (Int.toNat 0) 0) : Int) < (List.getD (List.getD e18.2.2.2.1 (Int.toNat (IntKind.wrap .i64 (e17 - 1))) (List.replicate 4 0)) (Int.toNat 0) 0))) then (k0 false e18) else if idx 0 4 then if idx 0 4 then bif (ieq (List.getD (List.getD e18.2.2.2.1 (Int.toNat (IntKind.wrap .i64 (e17 - 1))) (List.replicate 4 0)) (Int.toNat 0) 0) (List.getD e19 (Int.toNat 0) 0)) then if idx 1 4 then if idx 1 4 then bif (decide (((List.getD e19 (Int.toNat 1) 0) : Int) ≤ (List.getD (List.getD e18.2.2.2.1 (Int.toNat (IntKind.wrap .i64 (e17 - 1))) (List.replicate 4 0)) (Int.toNat 1) 0))) then (k0 false e18) else (g57L506f N F k0 k1 e16 (IntKind.wrap .i64 (e17 + 1)) e18) else none else none else (g57L506f N F k0 k1 e16 (IntKind.wrap .i64 (e17 + 1)) e18) else none else none else none else none else none else (g57L506f N F k0 k1 e16 (IntKind.wrap .i64 (e17 + 1)) e18) else none else none) with ⟨hin, e⟩ | ⟨hin, e⟩
     · have e8 : IntKind.wrap .i64 ((i : Int) - 1) = (i : Int) - 1 := w64 (by omega) (by omega)
       generalize hq : x.2.2.2.1.getD i (List.replicate 4 0) = q at r1 go_on bad hin e
       simp only [if_pos i0, if_pos i1, show Int.toNat 0 = 0 from rfl, show Int.toNat 1 = 1 from rfl] at e
       by_cases hba : q.getD 1 0 < q.getD 0 0
       · rw [decide_eq_true hba, cond_true] at e
         exact .inr ⟨bad (fun h => by have := h.2.1; omega), e⟩
       · rw [decide_eq_false hba, cond_false] at e
         by_cases hp : 0 < i
         · rw [decide_eq_true (show (0 : Int) < (i : Int) by omega), cond_true, e8, show (i : Int) - 1 = ((i - 1 : Nat) : Int) by omega, if_pos (ix (show i - 1 < x.2.2.2.1.length by omega)), Int.toNat_natCast] at e
           generalize hq2 : x.2.2.2.1.getD (i - 1) (List.replicate 4 0) = q2 at go_on bad e
           unfold RLt at go_on bad
           by_cases c1 : q.getD 0 0 < q2.getD 0 0
           · rw [decide_eq_true c1, cond_true] at e
             exact .inr ⟨bad (fun h => by have := h.2.2 hp; omega), e⟩
           · rw [decide_eq_false c1, cond_false] at e
             by_cases c2 : q2.getD 0 0 = q.getD 0 0
             · rw [show ieq (q2.getD 0 0) (q.getD 0 0) = true by simp only [ieq, decide_eq_true c2], cond_true] at e
               by_cases c3 : q.getD 1 0 ≤ q2.getD 1 0
               · rw [decide_eq_true c3, cond_true] at e
                 exact .inr ⟨bad (fun h => by have := h.2.2 hp; omega), e⟩
               · rw [decide_eq_false c3, cond_false, wn i (by omega)] at e
                 rcases go_on ⟨hin, by omega, fun _ => by omega⟩ with ⟨g1, g2⟩ | ⟨g1, g2⟩
                 · exact .inl ⟨g1, e.trans g2⟩
                 · exact .inr ⟨g1, e.trans g2⟩
             · rw [show ieq (q2.getD 0 0) (q.getD 0 0) = false by simp only [ieq, decide_eq_false c2], cond_false, wn i (by omega)] at e
               rcases go_on ⟨hin, by omega, fun _ => by omega⟩ with ⟨g1, g2⟩ | ⟨g1, g2⟩
               · exact .inl ⟨g1, e.trans g2⟩
               · exact .inr ⟨g1, e.trans g2⟩
         · rw [decide_eq_false (show ¬ (0 : Int) < (i : Int) by omega), cond_false, wn i (by omega)] at e
           rcases go_on ⟨hin, by omega, fun h => absurd h hp⟩ with ⟨g1, g2⟩ | ⟨g1, g2⟩
           · exact .inl ⟨g1, e.trans g2⟩
           · exact .inr ⟨g1, e.trans g2⟩
     · exact .inr ⟨bad (fun h => hin h.1), e⟩
   · rw [decide_eq_false (show ¬ (i : Int) < ((x.2.2.2.1.length : Nat) : Int) by omega), cond_false]
     exact .inl ⟨fun j hj => hall j (by omega), rfl⟩
theorem check57 {x : PP} (h4 : ∀ r ∈ x.2.2.2.1, r.length = 4) : (PT x ∧ g57 2000 x = some true) ∨ (¬ PT x ∧ g57 2000 x = some false) := by
 rw [pt_iff h4]
 unfold g57
 by_cases a1 : x.1 < 1
 · rw [decide_eq_true a1, cond_true]; exact .inr ⟨fun h => by have := h.1.n; omega, rfl⟩
 rw [decide_eq_false a1, cond_false]
 by_cases a2 : 5 < x.1
 · rw [decide_eq_true a2, cond_true]; exact .inr ⟨fun h => by have := h.1.n; omega, rfl⟩
 rw [decide_eq_false a2, cond_false]
 by_cases a3 : (x.2.1.length : Int) = x.1
 · rw [show (!ieq ((List.length x.2.1 : Nat) : Int) x.1) = false by simp only [ieq, decide_eq_true a3, Bool.not_true], cond_false]
   by_cases a4 : ((x.2.2.1.length : Nat) : Int) < 1
   · rw [decide_eq_true a4, cond_true]; exact .inr ⟨fun h => by have := h.1.ls; omega, rfl⟩
   rw [decide_eq_false a4, cond_false]
   by_cases a5 : (2 : Int) < ((x.2.2.1.length : Nat) : Int)
   · rw [decide_eq_true a5, cond_true]; exact .inr ⟨fun h => by have := h.1.ls; omega, rfl⟩
   rw [decide_eq_false a5, cond_false]
   by_cases a6 : (15 : Int) < ((x.2.2.2.1.length : Nat) : Int)
   · rw [decide_eq_true a6, cond_true]; exact .inr ⟨fun h => by have := h.1.lr; omega, rfl⟩
   rw [decide_eq_false a6, cond_false, g57L122_eq]
   have hh : Head x := ⟨by omega, a3, by omega, by omega⟩
   have b1 := outs57 2000 hh (fun e1 e2 e3 => some e1) (fun e4 e5 => g57L250 2000 (fun e6 e7 e8 => some e6) (fun e9 e10 => g57L506 2000 (fun e20 e21 => some e20) (fun e22 => some true) e9 0 e10) e4 0 e5) 2000 0 (by omega) (by omega) (fun j hj => by omega)
   simp only [Int.natCast_zero] at b1
   rcases b1 with ⟨o1, e1⟩ | ⟨o1, e1⟩
   · rw [e1, g57L250_eq]
     have b2 := starts57 2000 hh (fun e6 e7 e8 => some e6) (fun e9 e10 => g57L506 2000 (fun e20 e21 => some e20) (fun e22 => some true) e9 0 e10) 2000 0 (by omega) (by omega) (fun j hj => by omega)
     simp only [Int.natCast_zero] at b2
     rcases b2 with ⟨s1, e2⟩ | ⟨s1, e2⟩
     · rw [e2, g57L506_eq]
       have b3 := rules57 hh h4 2000 (by omega) (fun e20 e21 => some e20) (fun e22 => some true) 2000 0 (by omega) (by omega) (fun j hj => by omega)
       simp only [Int.natCast_zero] at b3
       rcases b3 with ⟨r1, e3⟩ | ⟨⟨j, r1, r2⟩, e3⟩
       · exact .inl ⟨⟨hh, ⟨o1, s1, r1⟩⟩, e3⟩
       · exact .inr ⟨fun h => r2 (h.2.r j r1), e3⟩
     · exact .inr ⟨fun h => s1 h.2.s, e2⟩
   · exact .inr ⟨fun h => o1 h.2.o, e1⟩
 · rw [show (!ieq ((List.length x.2.1 : Nat) : Int) x.1) = true by simp only [ieq, decide_eq_false a3, Bool.not_false], cond_true]
   exact .inr ⟨fun h => a3 h.1.lo, rfl⟩
end Go.Pv
namespace Go.Pv
theorem awake_true : g29 2000 = some true := by kernel_rfl
end Go.Pv
