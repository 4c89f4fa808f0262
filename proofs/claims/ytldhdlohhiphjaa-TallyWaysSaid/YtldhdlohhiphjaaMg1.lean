/- Plain texts, merged: QaA, QaB, QaC, QaD, QaM, QaR, QaR2, QaR3, QaOp, QaW, QaAw, QaWays. -/
import Derived.Test.YtldhdlohhiphjaaPvL06
/- Seat 06, plain: lists in ranges, sums, copies, the question. -/
set_option linter.unusedVariables false
set_option linter.unusedSimpArgs false
namespace Go.Pv
abbrev PP := Int × List Int × List Int × List (List Int) × Unit
theorem w64 {x : Int} (h1 : -9223372036854775808 ≤ x) (h2 : x < 9223372036854775808) : IntKind.wrap .i64 x = x := by rw [IntKind.wrap_i64]; omega
theorem wu64 (x : Int) : IntKind.wrap .u64 x = x % 18446744073709551616 := by simp only [IntKind.wrap, IntKind.signed, IntKind.bits]; simp
theorem wu64n {x : Int} (h1 : 0 ≤ x) (h2 : x < 18446744073709551616) : IntKind.wrap .u64 x = x := by rw [wu64]; omega
theorem wn (i : Nat) (h : i < 1000000) : IntKind.wrap .i64 ((i : Int) + 1) = ((i + 1 : Nat) : Int) := by rw [w64 (by omega) (by omega)]; simp
@[simp] theorem ieq_self (x : Int) : ieq x x = true := by simp only [ieq, decide_true]
theorem low (x : Int) {m : Int} (hm : 0 < m) (hm2 : m < 1000000) : ∃ r : Int, IntKind.wrap .i64 (Int.tmod (IntKind.wrap .u64 x) m) = r ∧ 0 ≤ r ∧ r < m := by
 refine ⟨(x % 18446744073709551616) % m, ?_, Int.emod_nonneg _ (by omega), Int.emod_lt_of_pos _ hm⟩
 rw [wu64, Int.tmod_eq_emod_of_nonneg (Int.emod_nonneg _ (by decide))]
 have h1 := Int.emod_nonneg (x % 18446744073709551616) (show m ≠ 0 by omega)
 have h2 := Int.emod_lt_of_pos (x % 18446744073709551616) hm
 exact w64 (by omega) (by omega)
theorem getD_mem {α : Type} {l : List α} {i : Nat} (h : i < l.length) (d : α) : l.getD i d ∈ l := by
 rw [List.getD_eq_getElem?_getD, List.getElem?_eq_getElem h]; simp
theorem getD_drop (l : List Int) (i : Nat) (h : i < l.length) : l.drop i = l.getD i 0 :: l.drop (i + 1) := by
 rw [List.drop_eq_getElem_cons h]; simp [h]
theorem any_loop (N : Nat) {C : Type} (k0 : Int → Option C) (k1 : Option C) (l : List Int) (f : (Int × Unit) → Option Bool) (p : Int → Bool) (hf : ∀ x, f (x, ()) = some (p x)) (hl : l.length < 4611686018427387904) :
   ∀ (F i : Nat), l.length - i < F → i ≤ l.length → ((l.drop i).any p = true ∧ ∃ j : Nat, g90L26f N F k0 k1 l f (l.length : Int) (i : Int) = k0 j) ∨ ((l.drop i).any p = false ∧ g90L26f N F k0 k1 l f (l.length : Int) (i : Int) = k1)
 | 0, i, h, _ => by omega
 | F + 1, i, h, hi => by
   rw [g90L26f_succ]
   unfold g90L26B
   by_cases hlt : i < l.length
   · have e1 : decide ((i : Int) < (l.length : Int)) = true := by simp; omega
     have e2 : idx (i : Int) l.length := ⟨by omega, by omega⟩
     rw [e1, cond_true, if_pos e2, Int.toNat_natCast, hf]
     simp only [Option.bind_some]
     rw [getD_drop l i hlt, List.any_cons]
     cases hp : p (l.getD i 0) with
     | true => exact .inl ⟨by simp, i, rfl⟩
     | false =>
       simp only [cond_false, Bool.false_or]
       have e3 : IntKind.wrap .i64 ((i : Int) + 1) = ((i + 1 : Nat) : Int) := by rw [w64 (by omega) (by omega)]; simp
       rw [e3]
       exact any_loop N k0 k1 l f p hf hl F (i + 1) (by omega) (by omega)
   · have e1 : decide ((i : Int) < (l.length : Int)) = false := by simp; omega
     rw [e1, cond_false, List.drop_eq_nil_of_le (by omega)]
     exact .inr ⟨rfl, rfl⟩
theorem are_eq (N : Nat) (lo hi : Int) (l : List Int) (hN : l.length < N) (hl : l.length < 4611686018427387904) : g60 N lo hi l = some (l.all fun x => decide (lo ≤ x) && decide (x ≤ hi)) := by
 unfold g60 g86 g90
 rw [g90L26_eq]
 have := any_loop N (fun e2 => some e2) (some (-1)) l (fun (x1 : (Int) × (Unit)) => Option.bind (g87 N x1.1 lo hi) fun y2 => some y2) (fun x => decide (x < lo) || decide (hi < x))
   (fun x => by
     simp only [g87]
     cases h : decide (x < lo) <;> simp) hl N 0 (by omega) (by omega)
 simp only [Int.natCast_zero, List.drop_zero] at this
 have hx : (l.all fun x => decide (lo ≤ x) && decide (x ≤ hi)) = !(l.any fun x => decide (x < lo) || decide (hi < x)) := by
   rw [List.not_any_eq_all_not]
   congr 1
   funext x
   by_cases h1 : x < lo <;> by_cases h2 : hi < x <;> simp [h1, h2] <;> omega
 rcases this with ⟨h1, j, h2⟩ | ⟨h1, h2⟩
 · rw [h2, hx, h1]
   simp
 · rw [h2, hx, h1]
   simp
theorem few_eq (N : Nat) (l : List Int) (k : Int) (h0 : 0 ≤ k) (hk : k ≤ 1000) : g17 N l k = some (l.take k.toNat) := by
 unfold g17
 have e : imin (l.length : Int) k = ((min l.length k.toNat : Nat) : Int) := by simp only [imin]; split <;> omega
 rw [e, if_pos ⟨by omega, by omega, by omega⟩]
 have : List.take (min l.length k.toNat) l = l.take k.toNat := by
   rcases Nat.le_total l.length k.toNat with h | h
   · rw [Nat.min_eq_left h, List.take_of_length_le h, List.take_length]
   · rw [Nat.min_eq_right h]
 simp [this, maxCount]
 omega
theorem sum88_loop (N : Nat) {C : Type} (k0 : Int → Option C) (l : List Int) (hl : l.length ≤ 100) (hb : ∀ x ∈ l, -1000000 ≤ x ∧ x ≤ 1000000) :
   ∀ (F i : Nat) (s : Int), l.length - i < F → i ≤ l.length → -1000000 * (i : Int) ≤ s → s ≤ 1000000 * (i : Int) → g88L58f N F k0 s l (l.length : Int) (i : Int) = k0 (s + (l.drop i).sum)
 | 0, i, s, h, _, _, _ => by omega
 | F + 1, i, s, h, hi, h1, h2 => by
   rw [g88L58f_succ]
   unfold g88L58B
   by_cases hlt : i < l.length
   · have e1 : decide ((i : Int) < (l.length : Int)) = true := by simp; omega
     have e2 : idx (i : Int) l.length := ⟨by omega, by omega⟩
     obtain ⟨b1, b2⟩ := hb _ (getD_mem hlt 0)
     rw [e1, cond_true, if_pos e2, Int.toNat_natCast, wn i (by omega), w64 (by omega) (by omega)]
     dsimp only
     rw [sum88_loop N k0 l hl hb F (i + 1) (s + l.getD i 0) (by omega) (by omega) (by omega) (by omega), getD_drop l i hlt, List.sum_cons]
     congr 1; omega
   · have e1 : decide ((i : Int) < (l.length : Int)) = false := by simp; omega
     rw [e1, cond_false, List.drop_eq_nil_of_le (by omega)]; simp
theorem sum88 (N : Nat) (l : List Int) (hl : l.length ≤ 100) (hN : 100 < N) (hb : ∀ x ∈ l, -1000000 ≤ x ∧ x ≤ 1000000) : g88 N l = some l.sum := by
 unfold g88
 rw [g88L58_eq]
 have := sum88_loop N (fun e1 => some e1) l hl hb N 0 0 (by omega) (by omega) (by omega) (by omega)
 simp only [Int.natCast_zero, List.drop_zero, Int.zero_add] at this
 exact this
def crowdB (l : List Int) (many : Int) : Bool := decide ((l.length : Int) = many) && ((l.all fun x => decide (0 ≤ x) && decide (x ≤ 9)) && (decide (1 ≤ l.sum) && decide (l.sum ≤ 9)))
theorem isCrowd_eq (N : Nat) (l : List Int) (many : Int) (hl : l.length ≤ 100) (hN : 100 < N) : g62 N l many = some (crowdB l many) := by
 unfold g62 crowdB
 rw [are_eq N 0 9 l (by omega) (by omega)]
 by_cases h1 : (l.length : Int) = many
 · simp only [ieq, h1, decide_true, cond_true, Option.bind_some, Bool.true_and]
   cases h2 : l.all fun x => decide (0 ≤ x) && decide (x ≤ 9) with
   | false => rfl
   | true =>
     rw [List.all_eq_true] at h2
     have hb : ∀ x ∈ l, -1000000 ≤ x ∧ x ≤ 1000000 := fun x hx => by
       have := h2 x hx
       simp only [Bool.and_eq_true, decide_eq_true_eq] at this
       omega
     rw [cond_true, sum88 N l hl hN hb]
     simp only [Option.bind_some]
     rw [are_eq N 1 9 _ (by simp; omega) (by simp)]
     simp
 · simp [ieq, h1]
theorem ints_loop (N : Nat) {C : Type} (k0 : Bool → Option C) (k1 : Option C) (c : List Int) (hc : c.length ≤ 100) :
   ∀ (F i : Nat), c.length - i < F → i ≤ c.length → g27L58f N F k0 k1 c c (i : Int) = k1
 | 0, i, h, _ => by omega
 | F + 1, i, h, hi => by
   rw [g27L58f_succ]
   unfold g27L58B
   by_cases hlt : i < c.length
   · have e1 : decide ((i : Int) < (c.length : Int)) = true := by simp; omega
     have q : idx (i : Int) c.length := ⟨by omega, by omega⟩
     rw [e1, cond_true, if_pos q, if_pos q, ieq_self, Bool.not_true, cond_false, wn i (by omega)]
     exact ints_loop N k0 k1 c hc F (i + 1) (by omega) (by omega)
   · have e1 : decide ((i : Int) < (c.length : Int)) = false := by simp; omega
     rw [e1, cond_false]
theorem ints_self (N : Nat) (hN : 100 < N) (c : List Int) (hc : c.length ≤ 100) : g27 N c c = some true := by
 unfold g27
 rw [ieq_self, Bool.not_true, cond_false, g27L58_eq]
 have := ints_loop N (fun e1 => some e1) (some true) c hc N 0 (by omega) (by omega)
 simpa using this
end Go.Pv
namespace Go.Pv
def RLt (r s : List Int) : Prop := r.getD 0 0 < s.getD 0 0 ∨ r.getD 0 0 = s.getD 0 0 ∧ r.getD 1 0 < s.getD 1 0
def RuleOk (n : Int) (r : List Int) : Prop := r.length = 4 ∧ (∀ t ∈ r, 0 ≤ t ∧ t < n) ∧ r.getD 0 0 ≤ r.getD 1 0
structure PT (x : PP) : Prop where
 n : 1 ≤ x.1 ∧ x.1 ≤ 5
 out : (x.2.1.length : Int) = x.1 ∧ ∀ o ∈ x.2.1, 0 ≤ o ∧ o ≤ 1
 start : 1 ≤ x.2.2.1.length ∧ x.2.2.1.length ≤ 2 ∧ ∀ s ∈ x.2.2.1, 0 ≤ s ∧ s < x.1
 rules : x.2.2.2.1.length ≤ 15 ∧ (∀ r ∈ x.2.2.2.1, RuleOk x.1 r) ∧ x.2.2.2.1.Pairwise RLt
theorem cmp97 (N : Nat) (a b : Int) : g97 N a b = some (if a < b then -1 else if b < a then 1 else 0) := by
 have h99 : ∀ x : Int, g99 N x = some false := fun x => by simp [g99]
 unfold g97
 rw [h99, h99]
 simp only [Option.bind_some, cond_false]
 by_cases h : a < b
 · simp [h]
 · by_cases h2 : b < a <;> simp [h, h2]
theorem compare_lt (N : Nat) (hN : 5 < N) (a b c d : Int) (h : a < c ∨ a = c ∧ b < d) : g85 N [a, b] [c, d] = some (-1) := by
 unfold g85
 rw [g85L26_eq]
 obtain ⟨M, rfl⟩ : ∃ M, N = M + 3 := ⟨N - 3, by omega⟩
 rw [show M + 3 = (M + 2) + 1 from rfl, g85L26f_succ]
 unfold g85L26B
 have q0 : idx (0 : Int) 2 := by decide
 have q1 : idx (1 : Int) 2 := by decide
 rcases h with h | ⟨rfl, h⟩
 · simp [cmp97, h, idx, ieq]
 · have hab : ¬ (a < a) := by omega
   have e1 : IntKind.wrap .i64 1 = 1 := by decide
   simp [cmp97, idx, ieq, hab, e1]
   rw [show M + 2 = (M + 1) + 1 from rfl, g85L26f_succ]
   unfold g85L26B
   simp [cmp97, idx, ieq, h, e1]
theorem PT.check_loop {x : PP} (h : PT x) (N : Nat) (hN : 20 < N) {C : Type} (k0 : Int → PP → Option C) (k1 : PP → Option C) :
   ∀ (F i : Nat), x.2.2.2.1.length - i < F → i ≤ x.2.2.2.1.length → g59L122f N F k0 k1 x.1 x.2.2.2.1 (x.2.2.2.1.length : Int) (i : Int) x = k1 x
 | 0, i, hF, _ => by omega
 | F + 1, i, hF, hi => by
   rw [g59L122f_succ]
   unfold g59L122B
   obtain ⟨hn1, hn2⟩ := h.n
   obtain ⟨hr1, hr2, hr3⟩ := h.rules
   by_cases hlt : i < x.2.2.2.1.length
   · have e1 : decide ((i : Int) < (x.2.2.2.1.length : Int)) = true := by simp; omega
     have e2 : idx (i : Int) x.2.2.2.1.length := ⟨by omega, by omega⟩
     obtain ⟨r1, r2, r3⟩ := hr2 _ (getD_mem hlt (List.replicate 4 0))
     have ih := h.check_loop N hN k0 k1 F (i + 1) (by omega) (by omega)
     have hprev : 0 < i → RLt (x.2.2.2.1.getD (i - 1) (List.replicate 4 0)) (x.2.2.2.1.getD i (List.replicate 4 0)) := fun hp => by
       have := List.pairwise_iff_getElem.1 hr3 (i - 1) i (by omega) hlt (by omega)
       rw [List.getD_eq_getElem?_getD, List.getD_eq_getElem?_getD, List.getElem?_eq_getElem (show i - 1 < _ by omega), List.getElem?_eq_getElem hlt]
       exact this
     have hprev2 : 0 < i → RuleOk x.1 (x.2.2.2.1.getD (i - 1) (List.replicate 4 0)) := fun hp => hr2 _ (getD_mem (by omega) _)
     rw [e1, cond_true, if_pos e2, if_pos (by decide), Int.toNat_natCast]
     generalize hq : x.2.2.2.1.getD i (List.replicate 4 0) = q at r1 r2 r3 hprev
     match q, r1 with
     | [a, b, c, d], _ =>
       have e5 : g60 N 0 (IntKind.wrap .i64 (x.1 - 1)) [a, b, c, d] = some true := by
         rw [are_eq N _ _ _ (by simp; omega) (by simp), w64 (by omega) (by omega)]
         congr 1
         rw [List.all_eq_true]
         intro t ht
         obtain ⟨a1, a2⟩ := r2 t ht
         simp; omega
       have e6 : decide (b < a) = false := by simp at r3; simp; omega
       rw [if_pos (by decide), if_pos (by decide)]
       simp only [show Int.toNat 4 = 4 from rfl, show Int.toNat 0 = 0 from rfl, show Int.toNat 1 = 1 from rfl, List.take, List.drop, e5, Option.bind_some, Bool.not_true, cond_false, List.getD_cons_zero, List.getD_cons_succ, e6]
       by_cases hp : 0 < i
       · have e7 : decide ((0 : Int) < (i : Int)) = true := by simp; omega
         have e8 : IntKind.wrap .i64 ((i : Int) - 1) = ((i - 1 : Nat) : Int) := by rw [w64 (by omega) (by omega)]; omega
         have e9 : idx ((i - 1 : Nat) : Int) x.2.2.2.1.length := ⟨by omega, by omega⟩
         rw [e7, cond_true, e8, if_pos e9, if_pos (by decide), if_pos (by decide), Int.toNat_natCast]
         have hx := hprev hp
         obtain ⟨p1, p2, p3⟩ := hprev2 hp
         generalize hq2 : x.2.2.2.1.getD (i - 1) (List.replicate 4 0) = q2 at p1 p2 p3 hx
         match q2, p1 with
         | [a', b', c', d'], _ =>
           simp only [RLt, List.getD_cons_zero, List.getD_cons_succ] at hx
           simp only [show Int.toNat 2 = 2 from rfl, List.take, List.drop]
           rw [compare_lt N (by omega) a' b' a b hx]
           simp only [Option.bind_some]
           rw [show decide ((0 : Int) ≤ -1) = false from rfl, cond_false, wn i (by omega)]
           exact ih
       · have e7 : decide ((0 : Int) < (i : Int)) = false := by simp; omega
         rw [e7, cond_false, wn i (by omega)]
         exact ih
   · have e1 : decide ((i : Int) < (x.2.2.2.1.length : Int)) = false := by simp; omega
     rw [e1, cond_false]
theorem PT.check {x : PP} (h : PT x) (N : Nat) (hN : 20 < N) : g59 N x = some 0 := by
 obtain ⟨hn1, hn2⟩ := h.n
 obtain ⟨ho1, ho2⟩ := h.out
 obtain ⟨hs1, hs2, hs3⟩ := h.start
 obtain ⟨hr1, hr2, hr3⟩ := h.rules
 unfold g59
 have e1 : g60 N 1 5 [x.1] = some true := by
   rw [are_eq N _ _ _ (by simp; omega) (by simp)]; simp; omega
 have e2 : ieq ((List.length x.2.1 : Nat) : Int) x.1 = true := by simp only [ieq, decide_eq_true_eq]; exact ho1
 have e3 : g60 N 0 1 x.2.1 = some true := by
   rw [are_eq N _ _ _ (by omega) (by omega)]
   congr 1
   rw [List.all_eq_true]
   intro t ht
   have := ho2 t ht
   simp; omega
 have e4 : g60 N 1 2 [((List.length x.2.2.1 : Nat) : Int)] = some true := by
   rw [are_eq N _ _ _ (by simp; omega) (by simp)]; simp; omega
 have e5 : g60 N 0 (IntKind.wrap .i64 (x.1 - 1)) x.2.2.1 = some true := by
   rw [are_eq N _ _ _ (by omega) (by omega), w64 (by omega) (by omega)]
   congr 1
   rw [List.all_eq_true]
   intro t ht
   have := hs3 t ht
   simp; omega
 have e6 : decide ((15 : Int) < ((List.length x.2.2.2.1 : Nat) : Int)) = false := by simp; omega
 rw [e1, e2, e3, e4, e5, e6]
 simp only [Option.bind_some, Bool.not_true, cond_false]
 rw [g59L122_eq]
 have := h.check_loop N hN (fun e7 e8 => some e7) (fun e9 => some (0 : Int)) N 0 (by omega) (by omega)
 simp only [Int.natCast_zero] at this
 exact this
theorem PT.given {x : PP} (h : PT x) (N : Nat) : g26 N x = some x := by
 unfold g26
 obtain ⟨hn1, hn2⟩ := h.n
 obtain ⟨ho1, ho2⟩ := h.out
 obtain ⟨hs1, hs2, hs3⟩ := h.start
 rw [few_eq N _ 6 (by omega) (by omega), few_eq N _ 3 (by omega) (by omega)]
 simp only [Option.bind_some, show Int.toNat 6 = 6 from rfl, show Int.toNat 3 = 3 from rfl]
 rw [List.take_of_length_le (by omega), List.take_of_length_le (by omega)]
 have := h.rules.1
 simp [maxCount]; omega
end Go.Pv
namespace Go.Pv
theorem tame_out (N : Nat) {C : Type} (k0 : Int → PP → Int → Int → List Int → List Int → List (List Int) → List Int → List Int → List (List Int) → Option C) (n : Nat) (hn : n ≤ 5) (x : PP) (a b : Int) (c d : List Int) (e : List (List Int)) (s : List Int) (r : List (List Int)) :
   ∀ (F i : Nat) (o : List Int), n - i < F → i ≤ n → o.length = i → (∀ t ∈ o, 0 ≤ t ∧ t ≤ 1) → ∃ o' : List Int, o'.length = n ∧ (∀ t ∈ o', 0 ≤ t ∧ t ≤ 1) ∧ g18L122f N F k0 (n : Int) (i : Int) x a b c d e o s r = k0 (n : Int) x a b c d e o' s r
 | 0, i, o, h, _, _, _ => by omega
 | F + 1, i, o, h, hi, ho, hb => by
   rw [g18L122f_succ]
   unfold g18L122B
   by_cases hlt : i < n
   · have e1 : decide ((i : Int) < (n : Int)) = true := by simp; omega
     have add : ∀ v : Int, 0 ≤ v → v ≤ 1 → ∃ o' : List Int, o'.length = n ∧ (∀ t ∈ o', 0 ≤ t ∧ t ≤ 1) ∧ g18L122f N F k0 (n : Int) ((i + 1 : Nat) : Int) x a b c d e (o ++ [v]) s r = k0 (n : Int) x a b c d e o' s r := fun v h1 h2 =>
       tame_out N k0 n hn x a b c d e s r F (i + 1) (o ++ [v]) (by omega) (by omega) (by simp [ho]) (fun t ht => by
         rcases List.mem_append.1 ht with ht | ht
         · exact hb t ht
         · obtain rfl := List.mem_singleton.1 ht; exact ⟨h1, h2⟩)
     rw [e1, cond_true, wn i (by omega)]
     have hmax : ∀ v : Int, o.length + [v].length ≤ maxCount := fun v => by simp [maxCount]; omega
     have hmax0 : o.length + List.length ([0] : List Nat) ≤ maxCount := by simp [maxCount]; omega
     by_cases h2 : i < x.2.1.length
     · have e2 : decide ((i : Int) < (x.2.1.length : Int)) = true := by simp; omega
       obtain ⟨v, ev, v1, v2⟩ := low (x.2.1.getD i 0) (m := 2) (by omega) (by omega)
       rw [e2, cond_true, if_pos ⟨by omega, by omega⟩, Int.toNat_natCast, ev, if_pos (hmax v)]
       exact add v v1 (by omega)
     · have e2 : decide ((i : Int) < (x.2.1.length : Int)) = false := by simp; omega
       rw [e2, cond_false, if_pos hmax0]
       exact add 0 (by omega) (by omega)
   · have e1 : decide ((i : Int) < (n : Int)) = false := by simp; omega
     rw [e1, cond_false]
     exact ⟨o, by omega, hb, rfl⟩
theorem tame_start (N : Nat) {C : Type} (k0 : Int → PP → Int → Int → List Int → List Int → List (List Int) → List Int → List Int → List (List Int) → Option C) (n : Nat) (hn0 : 1 ≤ n) (hn : n ≤ 5) (x : PP) (a b : Int) (c d : List Int) (e : List (List Int)) (o : List Int) (r : List (List Int)) :
   ∀ (F i : Nat) (s : List Int), 2 - i < F → i ≤ 2 → s.length = i → (∀ t ∈ s, 0 ≤ t ∧ t < (n : Int)) → ∃ s' : List Int, 1 ≤ s'.length ∧ s'.length ≤ 2 ∧ (∀ t ∈ s', 0 ≤ t ∧ t < (n : Int)) ∧ g18L250f N F k0 (n : Int) (i : Int) x a b c d e o s r = k0 (n : Int) x a b c d e o s' r
 | 0, i, o, h, _, _, _ => by omega
 | F + 1, i, s, h, hi, ho, hb => by
   rw [g18L250f_succ]
   unfold g18L250B
   have add : i < 2 → ∀ v : Int, 0 ≤ v → v < (n : Int) → ∃ s' : List Int, 1 ≤ s'.length ∧ s'.length ≤ 2 ∧ (∀ t ∈ s', 0 ≤ t ∧ t < (n : Int)) ∧ g18L250f N F k0 (n : Int) ((i + 1 : Nat) : Int) x a b c d e o (s ++ [v]) r = k0 (n : Int) x a b c d e o s' r := fun hi2 v h1 h2 =>
       tame_start N k0 n hn0 hn x a b c d e o r F (i + 1) (s ++ [v]) (by omega) (by omega) (by simp [ho]) (fun t ht => by
         rcases List.mem_append.1 ht with ht | ht
         · exact hb t ht
         · obtain rfl := List.mem_singleton.1 ht; exact ⟨h1, h2⟩)
   have hmax : ∀ v : Int, s.length + [v].length ≤ maxCount := fun v => by simp [maxCount]; omega
   have hmax0 : s.length + List.length ([0] : List Nat) ≤ maxCount := by simp [maxCount]; omega
   have hw : IntKind.wrap .u64 (n : Int) = (n : Int) := wu64n (by omega) (by omega)
   have hz : ¬ ((n : Int) = 0) := by omega
   obtain ⟨v, ev, v1, v2⟩ := low (x.2.2.1.getD i 0) (m := (n : Int)) (by omega) (by omega)
   rw [wn i (by omega), hw]
   by_cases h1 : i < 1
   · have e1 : decide ((i : Int) < 1) = true := by simp; omega
     rw [e1, cond_true]
     by_cases h2 : i < x.2.2.1.length
     · have e2 : decide ((i : Int) < (x.2.2.1.length : Int)) = true := by simp; omega
       rw [e2, cond_true, if_pos ⟨by omega, by omega⟩, if_neg hz, Int.toNat_natCast, ev, if_pos (hmax v)]
       exact add (by omega) v v1 v2
     · have e2 : decide ((i : Int) < (x.2.2.1.length : Int)) = false := by simp; omega
       rw [e2, cond_false, if_pos hmax0]
       exact add (by omega) 0 (by omega) (by omega)
   · have e1 : decide ((i : Int) < 1) = false := by simp; omega
     rw [e1, cond_false]
     by_cases h2 : i < x.2.2.1.length
     · have e2 : decide ((i : Int) < (x.2.2.1.length : Int)) = true := by simp; omega
       rw [e2, cond_true]
       by_cases h3 : i < 2
       · have e3 : decide ((i : Int) < 2) = true := by simp; omega
         rw [e3, cond_true, cond_true, if_pos ⟨by omega, by omega⟩, if_neg hz, Int.toNat_natCast, ev, if_pos (hmax v)]
         exact add (by omega) v v1 v2
       · have e3 : decide ((i : Int) < 2) = false := by simp; omega
         rw [e3, cond_false]
         exact ⟨s, by omega, by omega, hb, rfl⟩
     · have e2 : decide ((i : Int) < (x.2.2.1.length : Int)) = false := by simp; omega
       rw [e2, cond_false]
       exact ⟨s, by omega, by omega, hb, rfl⟩
def AddR (n : Nat) (a b : Nat) (R R' : List (List Int)) : Prop := R' = R ∨ ∃ c d : Int, 0 ≤ c ∧ c < (n : Int) ∧ 0 ≤ d ∧ d < (n : Int) ∧ R' = R ++ [[(a : Int), (b : Int), c, d]]
theorem tame_rule (N : Nat) {C : Type} (k0 : Int → Int → Int → PP → Int → Int → List Int → List Int → List (List Int) → List Int → List Int → List (List Int) → Option C) (n : Nat) (hn0 : 1 ≤ n) (hn : n ≤ 5) (p q : Nat) (x : PP) (a b : Int) (c d : List Int) (e : List (List Int)) (o s : List Int) (R : List (List Int)) (hR : R.length ≤ 100) :
   ∀ (F i : Nat), 41 - i < F → i ≤ 40 → ∃ R' : List (List Int), AddR n p q R R' ∧ g18L2073746f N F k0 (n : Int) (p : Int) (q : Int) (i : Int) x a b c d e o s R = k0 (n : Int) (p : Int) (q : Int) x a b c d e o s R'
 | 0, i, h, _ => by omega
 | F + 1, i, h, hi => by
   rw [g18L2073746f_succ]
   unfold g18L2073746B
   have hw : IntKind.wrap .u64 (n : Int) = (n : Int) := wu64n (by omega) (by omega)
   have hz : ¬ ((n : Int) = 0) := by omega
   by_cases h1 : i < x.2.2.2.1.length
   · have e1 : decide ((i : Int) < (x.2.2.2.1.length : Int)) = true := by simp; omega
     rw [e1, cond_true]
     by_cases h2 : i < 40
     · have e2 : decide ((i : Int) < 40) = true := by simp; omega
       have ih := tame_rule N k0 n hn0 hn p q x a b c d e o s R hR F (i + 1) (by omega) (by omega)
       rw [e2, cond_true, if_pos ⟨by omega, by omega⟩, if_pos (by decide), hw, if_neg hz, if_pos (by decide), if_neg hz, wn i (by omega), if_pos (by decide), if_neg hz, if_pos (by decide), if_neg hz]
       cases hc : ieq (imin (IntKind.wrap .i64 (Int.tmod (IntKind.wrap .u64 ((x.2.2.2.1.getD (Int.toNat (i : Int)) (List.replicate 4 0)).getD (Int.toNat 0) 0)) (n : Int))) (IntKind.wrap .i64 (Int.tmod (IntKind.wrap .u64 ((x.2.2.2.1.getD (Int.toNat (i : Int)) (List.replicate 4 0)).getD (Int.toNat 1) 0)) (n : Int)))) (p : Int) with
       | false => exact ih
       | true =>
         cases hd : ieq (imax (IntKind.wrap .i64 (Int.tmod (IntKind.wrap .u64 ((x.2.2.2.1.getD (Int.toNat (i : Int)) (List.replicate 4 0)).getD (Int.toNat 0) 0)) (n : Int))) (IntKind.wrap .i64 (Int.tmod (IntKind.wrap .u64 ((x.2.2.2.1.getD (Int.toNat (i : Int)) (List.replicate 4 0)).getD (Int.toNat 1) 0)) (n : Int)))) (q : Int) with
         | false => exact ih
         | true =>
           obtain ⟨v, ev, v1, v2⟩ := low ((x.2.2.2.1.getD (Int.toNat (i : Int)) (List.replicate 4 0)).getD (Int.toNat 2) 0) (m := (n : Int)) (by omega) (by omega)
           obtain ⟨w, ew, w1, w2⟩ := low ((x.2.2.2.1.getD (Int.toNat (i : Int)) (List.replicate 4 0)).getD (Int.toNat 3) 0) (m := (n : Int)) (by omega) (by omega)
           simp only [Bool.not_true, cond_false]
           rw [ev, ew, if_pos (by simp [maxCount]; omega)]
           exact ⟨_, .inr ⟨v, w, v1, v2, w1, w2, rfl⟩, rfl⟩
     · have e2 : decide ((i : Int) < 40) = false := by simp; omega
       rw [e2, cond_false]
       exact ⟨R, .inl rfl, rfl⟩
   · have e1 : decide ((i : Int) < (x.2.2.2.1.length : Int)) = false := by simp; omega
     rw [e1, cond_false]
     exact ⟨R, .inl rfl, rfl⟩
def cn (n : Nat) : Nat → Nat | 0 => 0 | a + 1 => cn n a + (n - a)
theorem cn_le (n : Nat) : ∀ a, cn n a ≤ n * a
 | 0 => by simp [cn]
 | a + 1 => by have := cn_le n a; simp only [cn, Nat.mul_succ]; omega
structure RInv (n a b : Nat) (R : List (List Int)) : Prop where
 ok : ∀ r ∈ R, RuleOk (n : Int) r ∧ (r.getD 0 0 < (a : Int) ∨ r.getD 0 0 = (a : Int) ∧ r.getD 1 0 < (b : Int))
 sorted : R.Pairwise RLt
 few : R.length ≤ cn n a + (b - a)
theorem RInv.add {n a b : Nat} {R R' : List (List Int)} (h : RInv n a b R) (hab : a ≤ b) (hb : b < n) (ha : AddR n a b R R') : RInv n a (b + 1) R' := by
 rcases ha with rfl | ⟨c, d, c1, c2, d1, d2, rfl⟩
 · refine ⟨fun r hr => ?_, h.sorted, by have := h.few; omega⟩
   obtain ⟨h1, h2⟩ := h.ok r hr
   exact ⟨h1, by omega⟩
 · refine ⟨fun r hr => ?_, ?_, by have := h.few; simp; omega⟩
   · rcases List.mem_append.1 hr with hr | hr
     · obtain ⟨h1, h2⟩ := h.ok r hr
       exact ⟨h1, by omega⟩
     · obtain rfl := List.mem_singleton.1 hr
       refine ⟨⟨rfl, fun t ht => ?_, by simp; omega⟩, by simp; omega⟩
       simp only [List.mem_cons, List.not_mem_nil, or_false] at ht
       rcases ht with rfl | rfl | rfl | rfl <;> constructor <;> omega
   · rw [List.pairwise_append]
     refine ⟨h.sorted, List.pairwise_singleton _ _, fun r hr s hs => ?_⟩
     obtain rfl := List.mem_singleton.1 hs
     exact (h.ok r hr).2
theorem tame_b (N : Nat) (hN : 100 < N) {C : Type} (k0 : Int → Int → PP → Int → Int → List Int → List Int → List (List Int) → List Int → List Int → List (List Int) → Option C) (n : Nat) (hn0 : 1 ≤ n) (hn : n ≤ 5) (p : Nat) (hp : p < n) (x : PP) (a b : Int) (c d : List Int) (e : List (List Int)) (o s : List Int) :
   ∀ (F q : Nat) (R : List (List Int)), n - q < F → p ≤ q → q ≤ n → RInv n p q R → ∃ R' : List (List Int), RInv n p n R' ∧ g18L32402f N F k0 (n : Int) (p : Int) (q : Int) x a b c d e o s R = k0 (n : Int) (p : Int) x a b c d e o s R'
 | 0, q, R, h, _, _, _ => by omega
 | F + 1, q, R, h, hq, hqn, hR => by
   rw [g18L32402f_succ]
   unfold g18L32402B
   by_cases hlt : q < n
   · have e1 : decide ((q : Int) < (n : Int)) = true := by simp; omega
     have hc : R.length ≤ 100 := by
       have h1 := hR.few
       have h2 := cn_le n p
       have h3 : n * p ≤ 5 * 5 := Nat.mul_le_mul hn (by omega)
       omega
     rw [e1, cond_true, g18L2073746_eq]
     obtain ⟨R1, ha, he⟩ := tame_rule N (fun e21 e22 e23 e24 e25 e26 e27 e28 e29 e30 e31 e32 => g18L32402f N F k0 e21 e22 (IntKind.wrap .i64 (e23 + 1)) e24 e25 e26 e27 e28 e29 e30 e31 e32) n hn0 hn p q x a b c d e o s R hc N 0 (by omega) (by omega)
     obtain ⟨R2, hi, he2⟩ := tame_b N hN k0 n hn0 hn p hp x a b c d e o s F (q + 1) R1 (by omega) (by omega) (by omega) (hR.add hq hlt ha)
     refine ⟨R2, hi, ?_⟩
     simp only [Int.natCast_zero] at he
     refine he.trans ?_
     rw [wn q (by omega)]
     exact he2
   · have e1 : decide ((q : Int) < (n : Int)) = false := by simp; omega
     rw [e1, cond_false]
     obtain rfl : q = n := by omega
     exact ⟨R, hR, rfl⟩
theorem RInv.next {n a : Nat} {R : List (List Int)} (h : RInv n a n R) (ha : a < n) : RInv n (a + 1) (a + 1) R := by
 refine ⟨fun r hr => ?_, h.sorted, by have := h.few; simp only [cn]; omega⟩
 obtain ⟨h1, h2⟩ := h.ok r hr
 exact ⟨h1, .inl (by omega)⟩
theorem tame_a (N : Nat) (hN : 100 < N) {C : Type} (k0 : PP → Int → Int → List Int → List Int → List (List Int) → List Int → List Int → List (List Int) → Option C) (n : Nat) (hn0 : 1 ≤ n) (hn : n ≤ 5) (x : PP) (a b : Int) (c d : List Int) (e : List (List Int)) (o s : List Int) :
   ∀ (F p : Nat) (R : List (List Int)), n - p < F → p ≤ n → RInv n p p R → ∃ R' : List (List Int), RInv n n n R' ∧ g18L506f N F k0 (n : Int) (p : Int) x a b c d e o s R = k0 x a b c d e o s R'
 | 0, p, R, h, _, _ => by omega
 | F + 1, p, R, h, hp, hR => by
   rw [g18L506f_succ]
   unfold g18L506B
   by_cases hlt : p < n
   · have e1 : decide ((p : Int) < (n : Int)) = true := by simp; omega
     rw [e1, cond_true, g18L32402_eq]
     obtain ⟨R1, hi, he⟩ := tame_b N hN (fun e33 e34 e35 e36 e37 e38 e39 e40 e41 e42 e43 => g18L506f N F k0 e33 (IntKind.wrap .i64 (e34 + 1)) e35 e36 e37 e38 e39 e40 e41 e42 e43) n hn0 hn p hlt x a b c d e o s N p R (by omega) (by omega) (by omega) hR
     obtain ⟨R2, hi2, he2⟩ := tame_a N hN k0 n hn0 hn x a b c d e o s F (p + 1) R1 (by omega) (by omega) (hi.next hlt)
     refine ⟨R2, hi2, he.trans ?_⟩
     rw [wn p (by omega)]
     exact he2
   · have e1 : decide ((p : Int) < (n : Int)) = false := by simp; omega
     rw [e1, cond_false]
     obtain rfl : p = n := by omega
     exact ⟨R, hR, rfl⟩
theorem tame_eq (N : Nat) (hN : 100 < N) (x : PP) (most : Int) (h1 : 1 ≤ most) (h2 : most ≤ 5) : ∃ y : PP, g18 N x most = some y ∧ PT y ∧ y.1 ≤ most := by
 unfold g18
 rw [wu64n (x := most) (by omega) (by omega), if_neg (by omega)]
 obtain ⟨r, er, r1, r2⟩ := low x.1 (m := most) (by omega) (by omega)
 rw [er, w64 (x := 1 + r) (by omega) (by omega)]
 obtain ⟨n, hn⟩ : ∃ n : Nat, 1 + r = (n : Int) := ⟨(1 + r).toNat, by omega⟩
 rw [hn, g18L122_eq]
 have hn0 : 1 ≤ n := by omega
 have hn5 : n ≤ 5 := by omega
 obtain ⟨o, o1, o2, oe⟩ := tame_out N (fun e1 e2 e3 e4 e5 e6 e7 e8 e9 e10 => g18L250 N (fun e11 e12 e13 e14 e15 e16 e17 e18 e19 e20 => g18L506 N (fun e44 e45 e46 e47 e48 e49 e50 e51 e52 => some ((e46, e50, e51, e52, ()) : PP)) e11 0 e12 e13 e14 e15 e16 e17 e18 e19 e20) e1 0 e2 e3 e4 e5 e6 e7 e8 e9 e10)
   n hn5 x 0 (n : Int) [] [] [] [] [] N 0 [] (by omega) (by omega) rfl (fun t ht => by cases ht)
 simp only [Int.natCast_zero] at oe
 obtain ⟨s, s1, s2, s3, se⟩ := tame_start N (fun e11 e12 e13 e14 e15 e16 e17 e18 e19 e20 => g18L506 N (fun e44 e45 e46 e47 e48 e49 e50 e51 e52 => some ((e46, e50, e51, e52, ()) : PP)) e11 0 e12 e13 e14 e15 e16 e17 e18 e19 e20)
   n hn0 hn5 x 0 (n : Int) [] [] [] o [] N 0 [] (by omega) (by omega) rfl (fun t ht => by cases ht)
 simp only [Int.natCast_zero] at se
 obtain ⟨R, hR, re⟩ := tame_a N hN (fun e44 e45 e46 e47 e48 e49 e50 e51 e52 => some ((e46, e50, e51, e52, ()) : PP)) n hn0 hn5 x 0 (n : Int) [] [] [] o s N 0 [] (by omega) (by omega) ⟨fun r hr => (List.not_mem_nil hr).elim, List.Pairwise.nil, by simp⟩
 simp only [Int.natCast_zero] at re
 refine ⟨((n : Int), o, s, R, ()), ?_, ⟨⟨by simp; omega, by simp; omega⟩, ⟨by simp [o1], o2⟩, ⟨s1, s2, s3⟩, ?_, fun r hr => (hR.ok r hr).1, hR.sorted⟩, by simp; omega⟩
 · rw [oe, g18L250_eq, se, g18L506_eq, re]
 · have := hR.few
   have h15 : cn n n ≤ 15 := by
     have : n = 1 ∨ n = 2 ∨ n = 3 ∨ n = 4 ∨ n = 5 := by omega
     rcases this with rfl | rfl | rfl | rfl | rfl <;> decide
   simp only [Nat.sub_self, Nat.add_zero] at this
   exact Nat.le_trans this h15
end Go.Pv
namespace Go.Pv
theorem sum_nonneg : ∀ l : List Int, (∀ t ∈ l, 0 ≤ t) → 0 ≤ l.sum
 | [], _ => by simp
 | a :: l, h => by
   have h1 := h a (by simp)
   have h2 := sum_nonneg l (fun t ht => h t (by simp [ht]))
   simp only [List.sum_cons]; omega
theorem mem_le_sum : ∀ l : List Int, (∀ t ∈ l, 0 ≤ t) → ∀ t ∈ l, t ≤ l.sum
 | [], _, t, ht => by cases ht
 | a :: l, h, t, ht => by
   have h1 := h a (by simp)
   have h2 := sum_nonneg l (fun t ht => h t (by simp [ht]))
   simp only [List.sum_cons]
   rcases List.mem_cons.1 ht with rfl | ht
   · omega
   · have := mem_le_sum l (fun t ht => h t (by simp [ht])) t ht
     omega
theorem set_sum : ∀ (l : List Int) (i : Nat) (v : Int), i < l.length → (l.set i v).sum = l.sum - l.getD i 0 + v
 | [], i, v, h => by simp at h
 | a :: l, 0, v, h => by simp; omega
 | a :: l, i + 1, v, h => by
   have := set_sum l i v (by simpa using h)
   simp only [List.set_cons_succ, List.sum_cons, List.getD_cons_succ, this]; omega
structure Crowd (l : List Int) (n : Int) : Prop where
 len : (l.length : Int) = n
 pos : ∀ t ∈ l, 0 ≤ t
 sum : 1 ≤ l.sum ∧ l.sum ≤ 9
theorem Crowd.le {l : List Int} {n : Int} (h : Crowd l n) : ∀ t ∈ l, 0 ≤ t ∧ t ≤ 9 := fun t ht => by
 have := mem_le_sum l h.pos t ht
 have := h.pos t ht
 have := h.sum.2
 omega
theorem Crowd.b {l : List Int} {n : Int} (h : Crowd l n) : crowdB l n = true := by
 unfold crowdB
 simp only [Bool.and_eq_true, decide_eq_true_eq]
 refine ⟨h.len, ?_, h.sum⟩
 rw [List.all_eq_true]
 intro t ht
 have := h.le t ht
 simp; omega
theorem gathered_loop (N : Nat) {C : Type} (k0 : Int → Int → List Int → Option C) (l : List Int) (n : Nat) (hn : n ≤ 5) (most : Int) (hm : 0 ≤ most ∧ most ≤ 9) :
   ∀ (F i : Nat) (left : Int) (c : List Int), n - i < F → i ≤ n → c.length = i → (∀ t ∈ c, 0 ≤ t) → c.sum + left = most → 0 ≤ left → ∃ (left' : Int) (c' : List Int), c'.length = n ∧ (∀ t ∈ c', 0 ≤ t) ∧ c'.sum + left' = most ∧ 0 ≤ left' ∧ g24L122f N F k0 l (n : Int) most left (i : Int) c = k0 most left' c'
 | 0, i, left, c, h, _, _, _, _, _ => by omega
 | F + 1, i, left, c, h, hi, hc, hp, hs, hl => by
   rw [g24L122f_succ]
   unfold g24L122B
   have h0 := sum_nonneg c hp
   by_cases hlt : i < n
   · have e1 : decide ((i : Int) < (n : Int)) = true := by simp; omega
     rw [e1, cond_true, wn i (by omega)]
     have hmax : ∀ v : Int, c.length + [v].length ≤ maxCount := fun v => by simp [maxCount]; omega
     have hmax0 : c.length + List.length ([0] : List Nat) ≤ maxCount := by simp [maxCount]; omega
     have add : ∀ v : Int, 0 ≤ v → v ≤ left → _ := fun v h1 h2 => gathered_loop N k0 l n hn most hm F (i + 1) (left - v) (c ++ [v]) (by omega) (by omega) (by simp [hc]) (fun t ht => by
         rcases List.mem_append.1 ht with ht | ht
         · exact hp t ht
         · obtain rfl := List.mem_singleton.1 ht; exact h1) (by simp; omega) (by omega)
     by_cases h2 : i < l.length
     · have e2 : decide ((i : Int) < (l.length : Int)) = true := by simp; omega
       obtain ⟨v, ev, v1, v2⟩ := low (l.getD i 0) (m := left + 1) (by omega) (by omega)
       rw [e2, cond_true, if_pos ⟨by omega, by omega⟩, w64 (x := left + 1) (by omega) (by omega), wu64n (x := left + 1) (by omega) (by omega), if_neg (by omega), Int.toNat_natCast, ev, if_pos (hmax v), w64 (x := left - v) (by omega) (by omega)]
       exact add v v1 (by omega)
     · have e2 : decide ((i : Int) < (l.length : Int)) = false := by simp; omega
       rw [e2, cond_false, if_pos hmax0, w64 (x := left - 0) (by omega) (by omega)]
       exact add 0 (by omega) (by omega)
   · have e1 : decide ((i : Int) < (n : Int)) = false := by simp; omega
     rw [e1, cond_false]
     exact ⟨left, c, by omega, hp, hs, hl, rfl⟩
theorem gathered_eq (N : Nat) (hN : 100 < N) (l : List Int) (n : Int) (h1 : 1 ≤ n) (h2 : n ≤ 5) (most : Int) (hm : 1 ≤ most) (hm2 : most ≤ 9) : ∃ c, g24 N l n most = some c ∧ Crowd c n ∧ c.sum ≤ most := by
 obtain ⟨m, rfl⟩ : ∃ m : Nat, n = (m : Int) := ⟨n.toNat, by omega⟩
 unfold g24
 rw [g24L122_eq]
 obtain ⟨left, c, c1, c2, c3, c4, c5⟩ := gathered_loop N (fun e1 e2 e3 => bif (ieq e2 e1) then if idx 0 (List.length e3) then if (Int.toNat 0) < List.length e3 then some (List.set e3 (Int.toNat 0) 1) else none else none else some e3) l m (by omega) most ⟨by omega, by omega⟩ N 0 most [] (by omega) (by omega) rfl (fun t ht => by cases ht) (by simp) (by omega)
 simp only [Int.natCast_zero] at c5
 rw [c5]
 have h0 := sum_nonneg c c2
 by_cases he : left = most
 · have e1 : ieq left most = true := by simp [ieq, he]
   have hc : 0 < c.length := by omega
   rw [e1, cond_true, if_pos ⟨by omega, by omega⟩, if_pos (by simpa using hc)]
   have hg := mem_le_sum c c2 _ (getD_mem hc 0)
   have hg2 := c2 _ (getD_mem hc 0)
   have hs := set_sum c 0 1 hc
   refine ⟨_, rfl, ⟨by simp [c1], fun t ht => ?_, ?_⟩, ?_⟩
   · rcases List.mem_or_eq_of_mem_set ht with ht | rfl
     · exact c2 t ht
     · omega
   · simp only [show Int.toNat 0 = 0 from rfl]; rw [hs]; omega
   · simp only [show Int.toNat 0 = 0 from rfl]; rw [hs]; omega
 · have e1 : ieq left most = false := by simp [ieq, he]
   rw [e1, cond_false]
   exact ⟨_, rfl, ⟨by omega, c2, by omega⟩, by omega⟩
end Go.Pv
namespace Go.Pv
def dec (c : List Int) (i : Nat) : List Int := c.set i (c.getD i 0 - 1)
def inc (c : List Int) (i : Nat) : List Int := c.set i (c.getD i 0 + 1)
theorem dec_len (c : List Int) (i : Nat) : (dec c i).length = c.length := by simp [dec]
theorem inc_len (c : List Int) (i : Nat) : (inc c i).length = c.length := by simp [inc]
theorem getD_set (c : List Int) (i j : Nat) (v : Int) : (c.set i v).getD j 0 = if i = j ∧ i < c.length then v else c.getD j 0 := by
 simp only [List.getD_eq_getElem?_getD, List.getElem?_set]
 by_cases h : i = j
 · subst h
   by_cases h2 : i < c.length
   · simp [h2]
   · simp [h2]
 · simp [h]
def Bd (k : Int) (c : List Int) : Prop := ∀ j, -k ≤ c.getD j 0 ∧ c.getD j 0 ≤ k
theorem Bd.dec {k : Int} {c : List Int} (h : Bd k c) (i : Nat) : Bd (k + 1) (dec c i) := fun j => by
 have h1 := h j
 have h2 := h i
 unfold Go.Pv.dec
 rw [getD_set]
 split <;> omega
theorem Bd.inc {k : Int} {c : List Int} (h : Bd k c) (i : Nat) : Bd (k + 1) (inc c i) := fun j => by
 have h1 := h j
 have h2 := h i
 unfold Go.Pv.inc
 rw [getD_set]
 split <;> omega
theorem wdec {k : Int} {c : List Int} (h : Bd k c) (hk : k ≤ 100) (i : Nat) : c.set i (IntKind.wrap .i64 (c.getD i 0 - 1)) = dec c i := by
 have := h i
 rw [w64 (by omega) (by omega)]; rfl
theorem winc {k : Int} {c : List Int} (h : Bd k c) (hk : k ≤ 100) (i : Nat) : c.set i (IntKind.wrap .i64 (c.getD i 0 + 1)) = inc c i := by
 have := h i
 rw [w64 (by omega) (by omega)]; rfl
def canL (p q : Nat) (c : List Int) : Bool := decide (0 ≤ (dec (dec c p) q).getD p 0) && decide (0 ≤ (dec (dec c p) q).getD q 0)
def stepL (p q s t : Nat) (c : List Int) : List Int := inc (inc (dec (dec c p) q) s) t
def canR (r : List Int) (c : List Int) : Bool := canL (r.getD 0 0).toNat (r.getD 1 0).toNat c
def stepR (r : List Int) (c : List Int) : List Int := stepL (r.getD 0 0).toNat (r.getD 1 0).toNat (r.getD 2 0).toNat (r.getD 3 0).toNat c
theorem rule_nat {n : Int} {r : List Int} (h : RuleOk n r) : ∃ p q s t : Nat, r = [(p : Int), (q : Int), (s : Int), (t : Int)] ∧ (p : Int) < n ∧ (q : Int) < n ∧ (s : Int) < n ∧ (t : Int) < n := by
 obtain ⟨h1, h2, _⟩ := h
 match r, h1 with
 | [a, b, c, d], _ =>
   have ha := h2 a (by simp)
   have hb := h2 b (by simp)
   have hc := h2 c (by simp)
   have hd := h2 d (by simp)
   refine ⟨a.toNat, b.toNat, c.toNat, d.toNat, ?_, by omega, by omega, by omega, by omega⟩
   rw [Int.toNat_of_nonneg ha.1, Int.toNat_of_nonneg hb.1, Int.toNat_of_nonneg hc.1, Int.toNat_of_nonneg hd.1]
theorem ix {p n : Nat} (h : p < n) : idx (p : Int) n := ⟨by omega, by omega⟩
theorem can77 (N : Nat) (p q s t : Nat) (hp : p < 5) (hq : q < 5) (c : List Int) (hc : Bd 50 c) : g77 N [(p : Int), (q : Int), (s : Int), (t : Int)] c = some (canL p q c) := by
 unfold g77 canL
 have h0 : idx 0 4 := by decide
 have h1 : idx 1 4 := by decide
 have w1 := wdec hc (by omega) p
 have w2 := wdec (hc.dec p) (by omega) q
 simp only [show Int.toNat 0 = 0 from rfl, show Int.toNat 1 = 1 from rfl, List.getD_cons_zero, List.getD_cons_succ, Int.toNat_natCast, if_pos h0, if_pos h1, if_pos (ix hp), if_pos (ix hq), w1, w2]
 cases decide (0 ≤ (dec (dec c p) q).getD p 0) <;> rfl
theorem after78 (N : Nat) (p q s t : Nat) (hp : p < 5) (hq : q < 5) (hs : s < 5) (ht : t < 5) (c : List Int) (hc : Bd 50 c) : g78 N [(p : Int), (q : Int), (s : Int), (t : Int)] c = some (stepL p q s t c) := by
 unfold g78 stepL
 have h0 : idx 0 4 := by decide
 have h1 : idx 1 4 := by decide
 have h2 : idx 2 4 := by decide
 have h3 : idx 3 4 := by decide
 have w1 := wdec hc (by omega) p
 have w2 := wdec (hc.dec p) (by omega) q
 have w3 := winc ((hc.dec p).dec q) (by omega) s
 have w4 := winc (((hc.dec p).dec q).inc s) (by omega) t
 simp only [show Int.toNat 0 = 0 from rfl, show Int.toNat 1 = 1 from rfl, show Int.toNat 2 = 2 from rfl, show Int.toNat 3 = 3 from rfl, List.getD_cons_zero, List.getD_cons_succ, Int.toNat_natCast, if_pos h0, if_pos h1, if_pos h2, if_pos h3, if_pos (ix hp), if_pos (ix hq), if_pos (ix hs), if_pos (ix ht), w1, w2, w3, w4]
def meetL (x : PP) (c : List Int) (r : Int) : List Int × Bool × Unit :=
 if 0 ≤ r ∧ r < (x.2.2.2.1.length : Int) then bif canR (x.2.2.2.1.getD r.toNat (List.replicate 4 0)) c then (stepR (x.2.2.2.1.getD r.toNat (List.replicate 4 0)) c, true, ()) else (c, false, ()) else (c, false, ())
theorem meet42 (N : Nat) (x : PP) (hx : PT x) (c : List Int) (hc : (c.length : Int) = x.1) (hb : Bd 50 c) (r : Int) : g42 N x c r = some (meetL x c r) := by
 unfold g42 meetL
 by_cases h1 : r < 0
 · have e1 : decide (r < 0) = true := by simpa using h1
   rw [e1, cond_true, if_neg (by omega)]
 · have e1 : decide (r < 0) = false := by simpa using h1
   rw [e1, cond_false]
   by_cases h2 : (x.2.2.2.1.length : Int) ≤ r
   · have e2 : decide (((List.length x.2.2.2.1 : Nat) : Int) ≤ r) = true := by simpa using h2
     rw [e2, cond_true, if_neg (by omega)]
   · have e2 : decide (((List.length x.2.2.2.1 : Nat) : Int) ≤ r) = false := by simpa using h2
     have hr : r.toNat < x.2.2.2.1.length := by omega
     obtain ⟨p, q, s, t, hR, hp, hq, hs, ht⟩ := rule_nat (hx.rules.2.1 _ (getD_mem hr (List.replicate 4 0)))
     have hn := hx.n
     have hp : p < c.length := by omega
     have hq : q < c.length := by omega
     have hs : s < c.length := by omega
     have ht : t < c.length := by omega
     rw [e2, cond_false, if_pos ⟨by omega, by omega⟩, if_pos (by simp [maxCount]; omega), if_pos (show 0 ≤ r ∧ r < (x.2.2.2.1.length : Int) from ⟨by omega, by omega⟩), hR]
     have h0 : idx 0 4 := by decide
     have h1 : idx 1 4 := by decide
     have h2 : idx 2 4 := by decide
     have h3 : idx 3 4 := by decide
     have w1 := wdec hb (by omega) p
     have w2 := wdec (hb.dec p) (by omega) q
     have w3 := winc ((hb.dec p).dec q) (by omega) s
     have w4 := winc (((hb.dec p).dec q).inc s) (by omega) t
     simp only [canR, stepR, canL, stepL, show Int.toNat 0 = 0 from rfl, show Int.toNat 1 = 1 from rfl, show Int.toNat 2 = 2 from rfl, show Int.toNat 3 = 3 from rfl, List.getD_cons_zero, List.getD_cons_succ, Int.toNat_natCast, List.nil_append, dec_len, inc_len, if_pos h0, if_pos h1, if_pos h2, if_pos h3, if_pos (ix hp), if_pos (ix hq), if_pos (ix hs), if_pos (ix ht), if_pos hp, if_pos hq, if_pos hs, if_pos ht, w1, w2, w3, w4]
     by_cases k1 : (dec (dec c p) q).getD p 0 < 0
     · have k1' : ¬ (0 ≤ (dec (dec c p) q).getD p 0) := by omega
       simp only [k1, k1', decide_true, decide_false, cond_true, cond_false, Bool.false_and]
     · have k1' : 0 ≤ (dec (dec c p) q).getD p 0 := by omega
       by_cases k2 : (dec (dec c p) q).getD q 0 < 0
       · have k2' : ¬ (0 ≤ (dec (dec c p) q).getD q 0) := by omega
         simp only [k1, k1', k2, k2', decide_true, decide_false, cond_true, cond_false, Bool.false_and, Bool.and_false]
       · have k2' : 0 ≤ (dec (dec c p) q).getD q 0 := by omega
         simp only [k1, k1', k2, k2', decide_true, decide_false, cond_true, cond_false, Bool.and_true, Bool.true_and]
theorem getD_pos {c : List Int} (h : ∀ t ∈ c, 0 ≤ t) (j : Nat) : 0 ≤ c.getD j 0 := by
 by_cases hj : j < c.length
 · exact h _ (getD_mem hj 0)
 · rw [List.getD_eq_getElem?_getD, List.getElem?_eq_none (by omega)]; simp
theorem pos_of_getD {c : List Int} (h : ∀ j, 0 ≤ c.getD j 0) : ∀ t ∈ c, 0 ≤ t := fun t ht => by
 obtain ⟨j, hj, rfl⟩ := List.getElem_of_mem ht
 have := h j
 rw [List.getD_eq_getElem?_getD, List.getElem?_eq_getElem hj] at this
 exact this
theorem Crowd.bd {c : List Int} {n : Int} (h : Crowd c n) : Bd 50 c := fun j => by
 by_cases hj : j < c.length
 · have := h.le _ (getD_mem hj 0); omega
 · rw [List.getD_eq_getElem?_getD, List.getElem?_eq_none (by omega)]; simp
theorem stepL_sum {c : List Int} {p q s t : Nat} (hp : p < c.length) (hq : q < c.length) (hs : s < c.length) (ht : t < c.length) : (stepL p q s t c).sum = c.sum := by
 have s1 : (dec c p).sum = c.sum - 1 := by unfold dec; rw [set_sum _ _ _ hp]; omega
 have s2 : (dec (dec c p) q).sum = c.sum - 2 := by
   have := set_sum (dec c p) q ((dec c p).getD q 0 - 1) (by rw [dec_len]; exact hq)
   show ((dec c p).set q _).sum = _
   omega
 have s3 : (inc (dec (dec c p) q) s).sum = c.sum - 1 := by
   have := set_sum (dec (dec c p) q) s ((dec (dec c p) q).getD s 0 + 1) (by rw [dec_len, dec_len]; exact hs)
   show ((dec (dec c p) q).set s _).sum = _
   omega
 have := set_sum (inc (dec (dec c p) q) s) t ((inc (dec (dec c p) q) s).getD t 0 + 1) (by rw [inc_len, dec_len, dec_len]; exact ht)
 show ((inc (dec (dec c p) q) s).set t _).sum = _
 omega
theorem Crowd.step {c : List Int} {n : Int} (h : Crowd c n) {p q s t : Nat} (hp : p < c.length) (hq : q < c.length) (hs : s < c.length) (ht : t < c.length) (hcan : canL p q c = true) : Crowd (stepL p q s t c) n := by
 unfold canL at hcan
 simp only [Bool.and_eq_true, decide_eq_true_eq] at hcan
 have s4 := stepL_sum hp hq hs ht
 have p1 : ∀ j, 0 ≤ (dec (dec c p) q).getD j 0 := fun j => by
   by_cases h1 : j = p
   · subst h1; exact hcan.1
   · by_cases h2 : j = q
     · subst h2; exact hcan.2
     · have := getD_pos h.pos j
       unfold dec
       rw [getD_set, if_neg (by omega), getD_set, if_neg (by omega)]
       exact this
 have p2 : ∀ j, 0 ≤ (inc (dec (dec c p) q) s).getD j 0 := fun j => by
   have h1 := p1 j
   have h2 := p1 s
   unfold inc
   rw [getD_set]
   split <;> omega
 have p3 : ∀ j, 0 ≤ (stepL p q s t c).getD j 0 := fun j => by
   have h1 := p2 j
   have h2 := p2 t
   show 0 ≤ ((inc (dec (dec c p) q) s).set t _).getD j 0
   rw [getD_set]
   split <;> omega
 refine ⟨?_, pos_of_getD p3, by rw [s4]; exact h.sum⟩
 rw [← h.len]
 simp only [stepL, inc_len, dec_len]
theorem Crowd.stepR {x : PP} (hx : PT x) {c : List Int} (h : Crowd c x.1) {r : List Int} (hr : RuleOk x.1 r) (hcan : canR r c = true) : Crowd (stepR r c) x.1 := by
 obtain ⟨p, q, s, t, rfl, hp, hq, hs, ht⟩ := rule_nat hr
 have := h.len
 exact h.step (p := p) (q := q) (s := s) (t := t) (by omega) (by omega) (by omega) (by omega) hcan
theorem Crowd.meet {x : PP} (hx : PT x) {c : List Int} (h : Crowd c x.1) (r : Int) : Crowd (meetL x c r).1 x.1 := by
 unfold meetL
 split
 · rename_i hr
   cases hc : canR (x.2.2.2.1.getD r.toNat (List.replicate 4 0)) c with
   | false => exact h
   | true => exact h.stepR hx (hx.rules.2.1 _ (getD_mem (by omega) _)) hc
 · exact h
def pad (c : List Int) : List Int := c ++ List.replicate (5 - c.length) 0
theorem getD_pad (c : List Int) (j : Nat) : (pad c).getD j 0 = c.getD j 0 := by
 unfold pad
 simp only [List.getD_eq_getElem?_getD, List.getElem?_append, List.getElem?_replicate]
 split
 · rfl
 · rename_i h
   rw [List.getElem?_eq_none (by omega)]
   split <;> rfl
theorem pad_set (c : List Int) (i : Nat) (v : Int) (h : i < c.length) : (pad c).set i v = pad (c.set i v) := by
 unfold pad
 rw [List.set_append_left _ _ h, List.length_set]
theorem pad_dec (c : List Int) (i : Nat) (h : i < c.length) : dec (pad c) i = pad (dec c i) := by unfold dec; rw [getD_pad, pad_set _ _ _ h]
theorem pad_inc (c : List Int) (i : Nat) (h : i < c.length) : inc (pad c) i = pad (inc c i) := by unfold inc; rw [getD_pad, pad_set _ _ _ h]
theorem pad_bd {k : Int} {c : List Int} (h : Bd k c) : Bd k (pad c) := fun j => by rw [getD_pad]; exact h j
theorem pad_can (p q : Nat) (c : List Int) (hp : p < c.length) (hq : q < c.length) : canL p q (pad c) = canL p q c := by
 unfold canL
 rw [pad_dec c p hp, pad_dec _ q (by rw [dec_len]; exact hq), getD_pad, getD_pad]
theorem pad_step (p q s t : Nat) (c : List Int) (hp : p < c.length) (hq : q < c.length) (hs : s < c.length) (ht : t < c.length) : stepL p q s t (pad c) = pad (stepL p q s t c) := by
 unfold stepL
 rw [pad_dec c p hp, pad_dec _ q (by rw [dec_len]; exact hq), pad_inc _ s (by rw [dec_len, dec_len]; exact hs), pad_inc _ t (by rw [inc_len, dec_len, dec_len]; exact ht)]
theorem pad_take (c : List Int) : (pad c).take c.length = c := by unfold pad; rw [List.take_left']; rfl
theorem of72 (N : Nat) (c : List Int) (h : c.length ≤ 5) : g72 N c = some (pad c) := by
 unfold g72 copyP pad
 rw [List.take_of_length_le h, List.drop_replicate]
theorem can_pad (N : Nat) {x : PP} (hx : PT x) {c : List Int} (hc : Crowd c x.1) {r : List Int} (hr : RuleOk x.1 r) : g77 N r (pad c) = some (canR r c) := by
 obtain ⟨p, q, s, t, rfl, hp, hq, hs, ht⟩ := rule_nat hr
 have := hc.len
 have := hx.n
 rw [can77 N p q s t (by omega) (by omega) _ (pad_bd hc.bd), pad_can p q c (by omega) (by omega)]
 rfl
theorem after_pad (N : Nat) {x : PP} (hx : PT x) {c : List Int} (hc : Crowd c x.1) {r : List Int} (hr : RuleOk x.1 r) : g78 N r (pad c) = some (pad (stepR r c)) := by
 obtain ⟨p, q, s, t, rfl, hp, hq, hs, ht⟩ := rule_nat hr
 have := hc.len
 have := hx.n
 rw [after78 N p q s t (by omega) (by omega) (by omega) (by omega) _ (pad_bd hc.bd), pad_step p q s t c (by omega) (by omega) (by omega) (by omega)]
 rfl
end Go.Pv
namespace Go.Pv
theorem nodup_len : ∀ {L M : List (List Int)}, L.Nodup → (∀ d ∈ L, d ∈ M) → L.length ≤ M.length
 | [], M, _, _ => by simp
 | a :: L, M, h, hs => by
   have h1 := List.nodup_cons.1 h
   have ha : a ∈ M := hs a (by simp)
   have ih := nodup_len (L := L) (M := M.erase a) h1.2 (fun d hd => by
     have hne : d ≠ a := fun e => h1.1 (e ▸ hd)
     exact (List.mem_erase_of_ne hne).2 (hs d (by simp [hd])))
   have hl := List.length_erase_of_mem ha
   have hp := List.length_pos_of_mem ha
   simp only [List.length_cons]
   omega
def allC : Nat → Nat → List (List Int)
 | 0, 0 => [[]]
 | 0, _ + 1 => []
 | n + 1, s => (List.range (s + 1)).flatMap fun k => (allC n (s - k)).map fun l => (k : Int) :: l
theorem mem_allC : ∀ (n s : Nat) (l : List Int), l.length = n → (∀ t ∈ l, 0 ≤ t) → l.sum = (s : Int) → l ∈ allC n s
 | 0, 0, [], _, _, _ => by simp [allC]
 | 0, s + 1, [], _, _, h => by simp at h; omega
 | n + 1, s, a :: l, hl, hp, hs => by
   have ha := hp a (by simp)
   have hn := sum_nonneg l (fun t ht => hp t (by simp [ht]))
   simp only [List.sum_cons] at hs
   simp only [allC, List.mem_flatMap, List.mem_range, List.mem_map]
   refine ⟨a.toNat, by omega, l, mem_allC n (s - a.toNat) l (by simpa using hl) (fun t ht => hp t (by simp [ht])) (by omega), by rw [Int.toNat_of_nonneg ha]⟩
def lensB : Bool := [1, 2, 3, 4, 5].all fun n => [0, 1, 2, 3, 4, 5, 6, 7, 8, 9].all fun s => decide ((allC n s).length ≤ 715)
theorem lens_ok : lensB = true := by decide +kernel
theorem allC_len (n s : Nat) (h1 : 1 ≤ n) (h2 : n ≤ 5) (h3 : s ≤ 9) : (allC n s).length ≤ 715 := by
 have h := lens_ok
 unfold lensB at h
 have a := List.all_eq_true.1 h n (by simp; omega)
 have b := List.all_eq_true.1 a s (by simp; omega)
 exact of_decide_eq_true b
def nbr (x : PP) (c : List Int) : List (List Int) := (x.2.2.2.1.filter fun r => canR r c).map fun r => stepR r c
def addN (L : List (List Int)) (d : List Int) : List (List Int) := if d ∈ L then L else L ++ [d]
def rnd (x : PP) (L : List (List Int)) (c : List Int) : List (List Int) := (nbr x c).foldl addN L
def bfs (x : PP) : Nat → Nat → List (List Int) → List (List Int)
 | 0, _, L => L
 | F + 1, i, L => if i < L.length then bfs x F (i + 1) (rnd x L (L.getD i [])) else L
inductive Reach (x : PP) : List Int → List Int → Prop
 | refl (c) : Reach x c c
 | step {c d e} : Reach x c d → e ∈ nbr x d → Reach x c e
theorem Reach.trans {x : PP} {c d e : List Int} (h1 : Reach x c d) (h2 : Reach x d e) : Reach x c e := by
 induction h2 with
 | refl => exact h1
 | step _ hn ih => exact ih.step hn
theorem nbr_crowd {x : PP} (hx : PT x) {c d : List Int} (hc : Crowd c x.1) (hd : d ∈ nbr x c) : Crowd d x.1 ∧ d.sum = c.sum := by
 unfold nbr at hd
 obtain ⟨r, hr, rfl⟩ := List.mem_map.1 hd
 obtain ⟨hr, hcan⟩ := List.mem_filter.1 hr
 have hro := hx.rules.2.1 r hr
 refine ⟨hc.stepR hx hro hcan, ?_⟩
 obtain ⟨p, q, s, t, rfl, hp, hq, hs, ht⟩ := rule_nat hro
 have hl := hc.len
 exact stepL_sum (p := p) (q := q) (s := s) (t := t) (by omega) (by omega) (by omega) (by omega)
theorem Reach.crowd {x : PP} (hx : PT x) {c d : List Int} (h : Reach x c d) (hc : Crowd c x.1) : Crowd d x.1 ∧ d.sum = c.sum := by
 induction h with
 | refl => exact ⟨hc, rfl⟩
 | step _ hn ih =>
   obtain ⟨h1, h2⟩ := nbr_crowd hx ih.1 hn
   exact ⟨h1, h2.trans ih.2⟩
theorem addN_mem {L : List (List Int)} {d e : List Int} : e ∈ addN L d ↔ e ∈ L ∨ e = d := by
 unfold addN
 split
 · rename_i h
   constructor
   · exact .inl
   · rintro (h1 | rfl)
     · exact h1
     · exact h
 · simp
theorem addN_nodup {L : List (List Int)} (h : L.Nodup) (d : List Int) : (addN L d).Nodup := by
 unfold addN
 split
 · exact h
 · rename_i hd
   rw [List.nodup_append]
   refine ⟨h, by simp, fun a ha b hb => ?_⟩
   obtain rfl := List.mem_singleton.1 hb
   exact fun e => hd (e ▸ ha)
theorem addN_pre (L : List (List Int)) (d : List Int) : ∃ T, addN L d = L ++ T := by
 unfold addN
 split
 · exact ⟨[], by simp⟩
 · exact ⟨[d], rfl⟩
theorem fold_mem {ds : List (List Int)} : ∀ {L : List (List Int)} {e : List Int}, e ∈ ds.foldl addN L ↔ e ∈ L ∨ e ∈ ds := by
 induction ds with
 | nil => intro L e; simp
 | cons d ds ih =>
   intro L e
   rw [List.foldl_cons, ih, addN_mem, List.mem_cons, or_assoc]
theorem fold_nodup {ds : List (List Int)} : ∀ {L : List (List Int)}, L.Nodup → (ds.foldl addN L).Nodup := by
 induction ds with
 | nil => intro L h; exact h
 | cons d ds ih => intro L h; exact ih (addN_nodup h d)
theorem fold_pre {ds : List (List Int)} : ∀ (L : List (List Int)), ∃ T, ds.foldl addN L = L ++ T := by
 induction ds with
 | nil => intro L; exact ⟨[], by simp⟩
 | cons d ds ih =>
   intro L
   obtain ⟨T, h1⟩ := addN_pre L d
   obtain ⟨T2, h2⟩ := ih (addN L d)
   exact ⟨T ++ T2, by rw [List.foldl_cons, h2, h1, List.append_assoc]⟩
structure BInv (x : PP) (c : List Int) (i : Nat) (L : List (List Int)) : Prop where
 head : L.getD 0 [] = c ∧ 0 < L.length
 nodup : L.Nodup
 reach : ∀ d ∈ L, Reach x c d
 closed : ∀ j, j < i → ∀ e ∈ nbr x (L.getD j []), e ∈ L
 le : i ≤ L.length
theorem getD_app (L T : List (List Int)) (i : Nat) (h : i < L.length) : (L ++ T).getD i [] = L.getD i [] := by
 simp only [List.getD_eq_getElem?_getD, List.getElem?_append, h, if_true]
theorem BInv.next {x : PP} {c : List Int} {i : Nat} {L : List (List Int)} (h : BInv x c i L) (hi : i < L.length) : BInv x c (i + 1) (rnd x L (L.getD i [])) := by
 obtain ⟨T, hT⟩ := fold_pre (ds := nbr x (L.getD i [])) L
 have hm := h.reach _ (getD_mem hi [])
 refine ⟨?_, fold_nodup h.nodup, fun d hd => ?_, fun j hj e he => ?_, ?_⟩
 · unfold rnd
   rw [hT, getD_app _ _ _ h.head.2]
   exact ⟨h.head.1, by have := h.head.2; simp; omega⟩
 · rcases fold_mem.1 hd with hd | hd
   · exact h.reach d hd
   · exact hm.step hd
 · unfold rnd at he ⊢
   refine fold_mem.2 ?_
   rw [hT, getD_app _ _ _ (by omega)] at he
   by_cases hji : j = i
   · subst hji; exact .inr he
   · exact .inl (h.closed j (by omega) e he)
 · unfold rnd
   rw [hT]; simp; omega
theorem BInv.len {x : PP} (hx : PT x) {c : List Int} (hc : Crowd c x.1) {i : Nat} {L : List (List Int)} (h : BInv x c i L) : L.length ≤ 715 := by
 have hn := hx.n
 have hs := hc.sum
 refine Nat.le_trans (nodup_len h.nodup (M := allC x.1.toNat c.sum.toNat) fun d hd => ?_) (allC_len _ _ (by omega) (by omega) (by omega))
 obtain ⟨h1, h2⟩ := (h.reach d hd).crowd hx hc
 have := h1.len
 exact mem_allC _ _ d (by omega) h1.pos (by rw [h2]; omega)
theorem BInv.start (x : PP) (c : List Int) : BInv x c 0 [c] :=
 ⟨⟨rfl, by simp⟩, by simp, fun d hd => by obtain rfl := List.mem_singleton.1 hd; exact .refl d, fun j hj => by omega, by simp⟩
structure Found (x : PP) (c : List Int) (L : List (List Int)) : Prop where
 head : L.getD 0 [] = c ∧ 0 < L.length
 nodup : L.Nodup
 mem : ∀ d, d ∈ L ↔ Reach x c d
 len : L.length ≤ 715
theorem BInv.found {x : PP} (hx : PT x) {c : List Int} (hc : Crowd c x.1) {L : List (List Int)} (h : BInv x c L.length L) : Found x c L := by
 refine ⟨h.head, h.nodup, fun d => ⟨h.reach d, fun hr => ?_⟩, h.len hx hc⟩
 induction hr with
 | refl => rw [← h.head.1]; exact getD_mem h.head.2 []
 | step _ hn ih =>
   obtain ⟨j, hj, rfl⟩ := List.getElem_of_mem ih
   refine h.closed j hj _ ?_
   rw [List.getD_eq_getElem?_getD, List.getElem?_eq_getElem hj]
   exact hn
theorem bfs_found {x : PP} (hx : PT x) {c : List Int} (hc : Crowd c x.1) : ∀ (F i : Nat) (L : List (List Int)), BInv x c i L → 715 < F + i → Found x c (bfs x F i L)
 | 0, i, L, h, hF => by have := h.len hx hc; have := h.le; omega
 | F + 1, i, L, h, hF => by
   unfold bfs
   split
   · rename_i hi
     exact bfs_found hx hc F (i + 1) _ (h.next hi) (by omega)
   · rename_i hi
     have : i = L.length := by have := h.le; omega
     subst this
     exact h.found hx hc
end Go.Pv
namespace Go.Pv
section
variable {α β : Type} {eq : α → α → Bool} (heq : ∀ a b, eq a b = true ↔ a = b)
include heq
theorem find_put [DecidableEq α] (k k' : α) (v : β) : ∀ m : List (α × β), mapFind eq k' (mapPut eq k v m) = if k' = k then some v else mapFind eq k' m
 | [] => by
   simp only [mapPut, mapFind]
   by_cases h : k' = k
   · rw [if_pos ((heq _ _).2 h), if_pos h]
   · rw [if_neg (fun h2 => h ((heq _ _).1 h2)), if_neg h]
 | q :: r => by
   simp only [mapPut]
   by_cases h1 : eq k q.1 = true
   · rw [if_pos h1]
     have e1 := (heq _ _).1 h1
     simp only [mapFind]
     by_cases h : k' = k
     · rw [if_pos ((heq _ _).2 h), if_pos h]
     · have h2 : ¬ (eq k' q.1 = true) := fun h2 => h ((heq _ _).1 h2 |>.trans e1.symm)
       have h3 : ¬ (eq k' k = true) := fun h2 => h ((heq _ _).1 h2)
       rw [if_neg h3, if_neg h, if_neg h2]
   · rw [if_neg h1]
     simp only [mapFind]
     by_cases h2 : eq k' q.1 = true
     · have e2 := (heq _ _).1 h2
       have h : k' ≠ k := fun h => h1 ((heq _ _).2 (h.symm.trans e2))
       rw [if_pos h2, if_neg h, if_pos h2]
     · rw [if_neg h2, find_put k k' v r, if_neg h2]
end
theorem go_eq : ∀ a b : List Int, Ty.beq.go ieq a b = true ↔ a = b
 | [], [] => by simp [Ty.beq.go]
 | [], _ :: _ => by simp [Ty.beq.go]
 | _ :: _, [] => by simp [Ty.beq.go]
 | x :: a, y :: b => by simp [Ty.beq.go, go_eq a b, ieq]
theorem arr_eq (a b : List Int) : Ty.beq (.arr 5 (.int .i64)) a b = true ↔ a = b := go_eq a b
theorem int_eq (a b : Int) : Ty.beq (.int .i64) a b = true ↔ a = b := by
 show ieq a b = true ↔ a = b
 simp [ieq]
theorem pad_inj {a b : List Int} (h : a.length = b.length) (he : pad a = pad b) : a = b := by
 have := congrArg (List.take a.length) he
 rw [pad_take] at this
 rw [this, h, pad_take]
abbrev HowT := List (List Int × (List Int × Int × Unit))
def HInv (n : Int) (how : HowT) (L : List (List Int)) : Prop := ∀ e : List Int, (e.length : Int) = n → (mapFind (Ty.beq (.arr 5 (.int .i64))) (pad e) how).isSome = decide (e ∈ L)
abbrev t79 : Ty := .pair (.int .i64) (tyO [.box (.d (.pair (.int .i64) (.pair (.lst (.int .i64)) (.pair (.lst (.int .i64)) (.pair (.lst (.arr 4 (.int .i64))) .unit))))) (.a (.d (.pair (.int .i64) (.pair (.lst (.int .i64)) (.pair (.lst (.int .i64)) (.pair (.lst (.arr 4 (.int .i64))) .unit)))))), .box .leaf (.a (.mp 13 0)), .box (.d (.lst (.arr 5 (.int .i64)))) (.a (.sl (.arr 5 (.int .i64)) 18 0)), .box (.d (.int .i64)) (.a (.d (.int .i64))), .map (.arr 5 (.int .i64)) (.pair (.arr 5 (.int .i64)) (.pair (.int .i64) .unit)), .vec (.arr 5 (.int .i64))])
noncomputable abbrev run79 (N : Nat) : Cbs t79 := ⟨(g79R7826 N).told.run [(.ref 2 0 []), (.ref 6 0 []), (.ref 7 0 []), (.ref 8 0 [])], .unit, fun _ _ => none⟩
theorem nbr_drop (x : PP) (d : List Int) (k : Nat) (hk : k < x.2.2.2.1.length) (L : List (List Int)) :
   (((x.2.2.2.1.drop k).filter fun r => canR r d).map fun r => stepR r d).foldl addN L =
     (((x.2.2.2.1.drop (k + 1)).filter fun r => canR r d).map fun r => stepR r d).foldl addN (if canR (x.2.2.2.1.getD k (List.replicate 4 0)) d = true then addN L (stepR (x.2.2.2.1.getD k (List.replicate 4 0)) d) else L) := by
 have hd : x.2.2.2.1.drop k = x.2.2.2.1.getD k (List.replicate 4 0) :: x.2.2.2.1.drop (k + 1) := by
   rw [List.drop_eq_getElem_cons hk]; simp [hk]
 rw [hd, List.filter_cons]
 split <;> rfl
theorem reach_loop (N : Nat) {x : PP} (hx : PT x) {C : Type} (k0 k1 : Cbs t79 → t79.T → Option C) (d : List Int) (hd : Crowd d x.1) (i : Nat) :
   ∀ (F k : Nat) (L : List (List Int)) (how : HowT), x.2.2.2.1.length - k < F → k ≤ x.2.2.2.1.length → HInv x.1 how L → i < L.length → L.length + (x.2.2.2.1.length - k) ≤ 10000 → ∃ how', HInv x.1 how' ((((x.2.2.2.1.drop k).filter fun r => canR r d).map fun r => stepR r d).foldl addN L) ∧
     g98xL6f N F t79 k0 k1 (pad d) x.2.2.2.1 (x.2.2.2.1.length : Int) (k : Int) (run79 N) ((0, (x, (), (), (i : Int), how, L.map pad, ())) : t79.T) = k1 (run79 N) ((0, (x, (), (), (i : Int), how', ((((x.2.2.2.1.drop k).filter fun r => canR r d).map fun r => stepR r d).foldl addN L).map pad, ())) : t79.T)
 | 0, k, L, how, h, _, _, _, _ => by omega
 | F + 1, k, L, how, h, hk, hI, hi, hlen => by
   rw [g98xL6f_succ]
   unfold g98xL6B
   have hr15 := hx.rules.1
   by_cases hlt : k < x.2.2.2.1.length
   · have e1 : decide ((k : Int) < (x.2.2.2.1.length : Int)) = true := by simp; omega
     have hro := hx.rules.2.1 _ (getD_mem hlt (List.replicate 4 0))
     rw [e1, cond_true, if_pos (ix hlt), Int.toNat_natCast]
     dsimp only
     rw [can_pad N hx hd hro, nbr_drop x d k hlt L]
     simp only [Option.bind_some]
     cases hcan : canR (x.2.2.2.1.getD k (List.replicate 4 0)) d with
     | false =>
       simp only [cond_false]
       rw [wn k (by omega)]
       obtain ⟨how', h1, h2⟩ := reach_loop N hx k0 k1 d hd i F (k + 1) L how (by omega) (by omega) hI hi (by omega)
       exact ⟨how', h1, h2⟩
     | true =>
       have hs := hd.stepR hx hro hcan
       simp only [cond_true]
       rw [after_pad N hx hd hro]
       simp only [Option.bind_some, if_true]
       generalize stepR (x.2.2.2.1.getD k (List.replicate 4 0)) d = e at hs ⊢
       have hy : (g79R7826 N).told.run [(.ref 2 0 []), (.ref 6 0 []), (.ref 7 0 []), (.ref 8 0 [])] ((0 : Int), (x, (), (), (i : Int), how, L.map pad, ())) [.dat (.int .i64) (k : Int), .dat (.arr 5 (.int .i64)) (pad e)] = g79R7826B N (fun vo2 vo8 vo13 vo18 => some (((0, (vo2, (), (), vo8, vo13, vo18, ())) : t79.T), true)) x (i : Int) how (L.map pad) (k : Int) (pad e) :=
         (g79R7826_run N x (i : Int) how (L.map pad) 0 (k : Int) (pad e)).trans (if_pos rfl)
       have hf := hI e hs.len
       rw [wn k (by omega)]
       by_cases hm : e ∈ L
       · have ea : addN L e = L := by unfold addN; rw [if_pos hm]
         rw [decide_eq_true hm] at hf
         rw [ea]
         have hy2 : g79R7826B N (fun vo2 vo8 vo13 vo18 => some (((0, (vo2, (), (), vo8, vo13, vo18, ())) : t79.T), true)) x (i : Int) how (L.map pad) (k : Int) (pad e) = some (((0, (x, (), (), (i : Int), how, L.map pad, ())) : t79.T), true) := by
           unfold g79R7826B
           rw [hf, Bool.not_true, cond_false]
         obtain ⟨how', a1, a2⟩ := reach_loop N hx k0 k1 d hd i F (k + 1) L how (by omega) (by omega) hI hi (by omega)
         exact ⟨how', a1, (congrArg (fun o => Option.bind o _) (hy.trans hy2)).trans a2⟩
       · have ea : addN L e = L ++ [e] := by unfold addN; rw [if_neg hm]
         rw [decide_eq_false hm] at hf
         rw [ea]
         have hy2 : g79R7826B N (fun vo2 vo8 vo13 vo18 => some (((0, (vo2, (), (), vo8, vo13, vo18, ())) : t79.T), true)) x (i : Int) how (L.map pad) (k : Int) (pad e) = some (((0, (x, (), (), (i : Int), mapPut (Ty.beq (.arr 5 (.int .i64))) (pad e) ((List.getD (L.map pad) (Int.toNat (i : Int)) (List.replicate 5 0)), (k : Int), ()) how, (L ++ [e]).map pad, ())) : t79.T), true) := by
           unfold g79R7826B
           rw [hf, Bool.not_false, cond_true, if_pos ⟨by omega, by simp; omega⟩, if_pos (by simp; omega), if_pos (by simp [maxCount]; omega), show List.map pad L ++ [pad e] = (L ++ [e]).map pad by simp]
         obtain ⟨how', a1, a2⟩ := reach_loop N hx k0 k1 d hd i F (k + 1) (L ++ [e]) (mapPut (Ty.beq (.arr 5 (.int .i64))) (pad e) ((List.getD (L.map pad) (Int.toNat (i : Int)) (List.replicate 5 0)), (k : Int), ()) how) (by omega) (by omega) (fun e' he' => by
           rw [find_put arr_eq]
           by_cases hee : e' = e
           · subst hee
             simp
           · have hp : ¬ (pad e' = pad e) := fun hp => hee (pad_inj (by have := hs.len; omega) hp)
             rw [if_neg hp, hI e' he']
             simp [hee]) (by simp; omega) (by simp; omega)
         exact ⟨how', a1, (congrArg (fun o => Option.bind o _) (hy.trans hy2)).trans a2⟩
   · have e1 : decide ((k : Int) < (x.2.2.2.1.length : Int)) = false := by simp; omega
     rw [e1, cond_false, List.drop_eq_nil_of_le (by omega)]
     exact ⟨how, hI, rfl⟩
theorem reached_loop (N : Nat) (hN : 100 < N) {x : PP} (hx : PT x) {C : Type} (k0 : PP → Int → HowT → List (List Int) → Option C) {c : List Int} (hc : Crowd c x.1) :
   ∀ (F i : Nat) (L : List (List Int)) (how : HowT), 716 < F + i → BInv x c i L → HInv x.1 how L → ∃ how' L', Found x c L' ∧ HInv x.1 how' L' ∧ L' = bfs x F i L ∧ g79L122f N F k0 x (i : Int) how (L.map pad) = k0 x (L'.length : Int) how' (L'.map pad)
 | 0, i, L, how, hF, hB, hI => by have := hB.len hx hc; have := hB.le; omega
 | F + 1, i, L, how, hF, hB, hI => by
   rw [g79L122f_succ]
   unfold g79L122B
   have hl := hB.len hx hc
   have hr15 := hx.rules.1
   unfold bfs
   by_cases hlt : i < L.length
   · have e1 : decide ((i : Int) < ((L.map pad).length : Int)) = true := by simp; omega
     have hm := (hB.reach _ (getD_mem hlt [])).crowd hx hc
     have eg : (L.map pad).getD i (List.replicate 5 0) = pad (L.getD i []) := by
       simp only [List.getD_eq_getElem?_getD, List.getElem?_map, List.getElem?_eq_getElem hlt, Option.map_some, Option.getD_some]
     rw [if_pos hlt, e1, cond_true, if_pos ⟨by omega, by simp; omega⟩, if_pos (by simp; omega), Int.toNat_natCast, eg]
     unfold g95x
     simp only [Option.bind_some]
     unfold g98x
     rw [g98xL6_eq]
     obtain ⟨how1, h1, h2⟩ := reach_loop N hx (fun e6 e7 => some ((()), ((e6, e7), ()), (()))) (fun e8 e9 => some ((()), ((e8, e9), ()), (()))) (L.getD i []) hm.1 i N 0 L how (by omega) (by omega) hI hlt (by omega)
     simp only [Int.natCast_zero, List.drop_zero] at h1 h2
     have hnb : (((x.2.2.2.1.filter fun r => canR r (L.getD i [])).map fun r => stepR r (L.getD i [])).foldl addN L) = rnd x L (L.getD i []) := rfl
     rw [hnb] at h1 h2
     obtain ⟨how', L', g1, g2, g3, g4⟩ := reached_loop N hN hx k0 hc F (i + 1) (rnd x L (L.getD i [])) how1 (by omega) (hB.next hlt) h1
     refine ⟨how', L', g1, g2, g3, ?_⟩
     refine (congrArg (fun o => Option.bind o _) h2).trans ?_
     simp only [Option.bind_some, asT]
     rw [if_pos trivial, wn i (by omega)]
     exact g4
   · have e1 : decide ((i : Int) < ((L.map pad).length : Int)) = false := by simp; omega
     have hi : i = L.length := by have := hB.le; omega
     rw [e1, cond_false, if_neg hlt]
     subst hi
     exact ⟨how, L, hB.found hx hc, hI, rfl, rfl⟩
def allL (x : PP) (c : List Int) : List (List Int) := bfs x 2000 0 [c]
theorem allL_found {x : PP} (hx : PT x) {c : List Int} (hc : Crowd c x.1) : Found x c (allL x c) := bfs_found hx hc 2000 0 [c] (.start x c) (by omega)
theorem reached79 {x : PP} (hx : PT x) {c : List Int} (hc : Crowd c x.1) : ∃ how, HInv x.1 how (allL x c) ∧ g79 2000 x (pad c) = some ((allL x c).map pad, how, ()) := by
 unfold g79
 rw [g79L122_eq]
 obtain ⟨how, L, h1, h2, h3, h4⟩ := reached_loop 2000 (by omega) hx (fun e3 e4 e5 e6 => some ((e6, e5, ()) : List (List Int) × HowT × Unit)) hc 2000 0 [c] (mapPut (Ty.beq (.arr 5 (.int .i64))) (pad c) ((List.replicate 5 0), 0, ()) []) (by omega) (.start x c) (fun e he => by
   rw [find_put arr_eq]
   by_cases hee : e = c
   · subst hee; simp
   · have hp : ¬ (pad e = pad c) := fun hp => hee (pad_inj (by have := hc.len; omega) hp)
     rw [if_neg hp]
     simp [mapFind, hee])
 subst h3
 simp only [Int.natCast_zero] at h4
 exact ⟨how, h2, h4⟩
end Go.Pv
namespace Go.Pv
def keyP : List Int → Int → Int | [], k => k | a :: l, k => keyP l (10 * k + a)
theorem key_loop (N : Nat) {C : Type} (k0 : Int → Option C) (l : List Int) (hl : l.length ≤ 5) (hb : ∀ t ∈ l, 0 ≤ t ∧ t ≤ 9) :
   ∀ (F i : Nat) (k : Int), l.length - i < F → i ≤ l.length → 0 ≤ k → k < 10 ^ i → g76L58f N F k0 l k (i : Int) = k0 (keyP (l.drop i) k)
 | 0, i, k, h, _, _, _ => by omega
 | F + 1, i, k, h, hi, h0, h1 => by
   rw [g76L58f_succ]
   unfold g76L58B
   by_cases hlt : i < l.length
   · have e1 : decide ((i : Int) < (l.length : Int)) = true := by simp; omega
     obtain ⟨b1, b2⟩ := hb _ (getD_mem hlt 0)
     have hp : (10 : Int) ^ (i + 1) = 10 * 10 ^ i := by rw [Int.pow_succ]; omega
     have h5 : (10 : Int) ^ i ≤ 10 ^ 5 := by
       have h1 : (10 : Nat) ^ i ≤ 10 ^ 5 := Nat.pow_le_pow_right (by omega) (by omega)
       have h2 : ((10 ^ i : Nat) : Int) ≤ ((10 ^ 5 : Nat) : Int) := Int.ofNat_le.2 h1
       simpa using h2
     have h6 : (10 : Int) ^ 5 = 100000 := by decide
     rw [e1, cond_true, if_pos (ix hlt), Int.toNat_natCast, wn i (by omega), w64 (x := 10 * k) (by omega) (by omega), w64 (x := 10 * k + l.getD i 0) (by omega) (by omega), getD_drop l i hlt]
     exact key_loop N k0 l hl hb F (i + 1) _ (by omega) (by omega) (by omega) (by omega)
   · have e1 : decide ((i : Int) < (l.length : Int)) = false := by simp; omega
     rw [e1, cond_false, List.drop_eq_nil_of_le (by omega)]; rfl
theorem keyN_eq (N : Nat) (hN : 100 < N) {l : List Int} (hl : l.length ≤ 5) (hb : ∀ t ∈ l, 0 ≤ t ∧ t ≤ 9) : g76 N l = some (keyP l 0) := by
 unfold g76
 rw [g76L58_eq]
 have := key_loop N (fun e1 => some e1) l hl hb N 0 0 (by omega) (by omega) (by omega) (by simp)
 simp only [Int.natCast_zero, List.drop_zero] at this
 exact this
theorem keyP_inj : ∀ (a b : List Int) (j k : Int), a.length = b.length → (∀ t ∈ a, 0 ≤ t ∧ t ≤ 9) → (∀ t ∈ b, 0 ≤ t ∧ t ≤ 9) → keyP a j = keyP b k → j = k ∧ a = b
 | [], [], j, k, _, _, _, h => ⟨h, rfl⟩
 | x :: a, y :: b, j, k, hl, ha, hb, h => by
   obtain ⟨h1, h2⟩ := keyP_inj a b (10 * j + x) (10 * k + y) (by simpa using hl) (fun t ht => ha t (by simp [ht])) (fun t ht => hb t (by simp [ht])) h
   have hx := ha x (by simp)
   have hy := hb y (by simp)
   have : j = k := by omega
   subst this
   have : x = y := by omega
   subst this
   exact ⟨rfl, by rw [h2]⟩
def KInv (n : Int) (known : List (Int × Int)) (L : List (List Int)) : Prop := ∀ e : List Int, Crowd e n → mapFind (Ty.beq (.int .i64)) (keyP e 0) known = if e ∈ L then some (L.idxOf e : Int) else none
def rowL (L : List (List Int)) (ds : List (List Int)) : List Int := ds.map fun d => (L.idxOf d : Int)
theorem idx_app {L T : List (List Int)} {e : List Int} (h : e ∈ L) : (L ++ T).idxOf e = L.idxOf e := by rw [List.idxOf_append, if_pos h]
theorem rowL_app {L T : List (List Int)} {ds : List (List Int)} (h : ∀ d ∈ ds, d ∈ L) : rowL (L ++ T) ds = rowL L ds := by
 unfold rowL
 exact List.map_congr_left fun d hd => by rw [idx_app (h d hd)]
def Rows39 (x : PP) (i : Nat) (L next : List (List Int)) : Prop := next.length = i ∧ ∀ j, j < i → next.getD j [] = rowL L (nbr x (L.getD j []))
end Go.Pv
namespace Go.Pv
theorem open_eq (N : Nat) (hN : 100 < N) {x : PP} (hx : PT x) : ∀ {cs : List (List Int)}, cs.length ≤ 10 → (∀ c ∈ cs, Crowd c x.1) → g70 N x cs = some 0 := by
 intro cs hl hcs
 have hn := hx.n
 unfold g70
 rw [hx.check N (by omega)]
 simp only [Option.bind_some, ieq_self, Bool.not_true, cond_false]
 rw [g70L58_eq]
 have : ∀ (F i : Nat), cs.length - i < F → i ≤ cs.length → g70L58f N F (fun e3 e4 => some e3) (fun e5 => some (0 : Int)) cs (cs.length : Int) (i : Int) x = some 0 := by
   intro F
   induction F with
   | zero => intro i h _; omega
   | succ F ih =>
     intro i h hi
     rw [g70L58f_succ]
     unfold g70L58B
     by_cases hlt : i < cs.length
     · have e1 : decide ((i : Int) < (cs.length : Int)) = true := by simp; omega
       have hc := hcs _ (getD_mem hlt [])
       have := hc.len
       rw [e1, cond_true, if_pos (ix hlt), Int.toNat_natCast, isCrowd_eq N _ _ (by omega) hN, hc.b]
       simp only [Option.bind_some, Bool.not_true, cond_false]
       rw [wn i (by omega)]
       exact ih (i + 1) (by omega) (by omega)
     · have e1 : decide ((i : Int) < (cs.length : Int)) = false := by simp; omega
       rw [e1, cond_false]
 have h0 := this N 0 (by omega) (by omega)
 simp only [Int.natCast_zero] at h0
 exact h0
end Go.Pv
namespace Go.Pv
def First (x : PP) (L : List (List Int)) (p : Nat) (e : List Int) : Prop := p < L.length ∧ e ∈ nbr x (L.getD p []) ∧ ∀ q, q < p → e ∉ nbr x (L.getD q [])
theorem First.uniq {x : PP} {L : List (List Int)} {p q : Nat} {e : List Int} (h1 : First x L p e) (h2 : First x L q e) : p = q := by
 rcases Nat.lt_trichotomy p q with h | h | h
 · exact absurd h1.2.1 (h2.2.2 p h)
 · exact h
 · exact absurd h2.2.1 (h1.2.2 q h)
theorem First.app {x : PP} {L : List (List Int)} {p : Nat} {e : List Int} (h : First x L p e) (T : List (List Int)) : First x (L ++ T) p e := by
 have h1 := h.1
 refine ⟨by simp; omega, by rw [getD_app _ _ _ h1]; exact h.2.1, fun q hq => by rw [getD_app _ _ _ (by omega)]; exact h.2.2 q hq⟩
theorem First.new {x : PP} {L : List (List Int)} {i : Nat} {d e : List Int} (hi : i < L.length) (hLd : L.getD i [] = d) (he : e ∈ nbr x d) (hcl : ∀ q, q < i → ∀ e ∈ nbr x (L.getD q []), e ∈ L) (hm : e ∉ L) : First x (L ++ [e]) i e := by
 refine ⟨by simp; omega, by rw [getD_app _ _ _ hi, hLd]; exact he, fun q hq h => ?_⟩
 rw [getD_app _ _ _ (by omega)] at h
 exact hm (hcl q hq e h)
abbrev ruleAt (x : PP) (k : Nat) : List Int := x.2.2.2.1.getD k (List.replicate 4 0)
theorem nbr_rule {x : PP} {d : List Int} {k : Nat} (hk : k < x.2.2.2.1.length) (hcan : canR (ruleAt x k) d = true) : stepR (ruleAt x k) d ∈ nbr x d :=
 List.mem_map.2 ⟨_, List.mem_filter.2 ⟨getD_mem hk _, hcan⟩, rfl⟩
def WInv (x : PP) (c : List Int) (how : HowT) (L : List (List Int)) : Prop := ∀ e, e ∈ L → e ≠ c → ∃ p k : Nat, p < L.idxOf e ∧ First x L p e ∧ k < x.2.2.2.1.length ∧ canR (ruleAt x k) (L.getD p []) = true ∧ stepR (ruleAt x k) (L.getD p []) = e ∧ mapFind (Ty.beq (.arr 5 (.int .i64))) (pad e) how = some (pad (L.getD p []), (k : Int), ())
theorem idx_new {L : List (List Int)} {e : List Int} (hm : e ∉ L) : (L ++ [e]).idxOf e = L.length := by
 rw [List.idxOf_append, if_neg hm]; simp
theorem WInv.add {x : PP} {c : List Int} {how : HowT} {L : List (List Int)} (h : WInv x c how L) {i k : Nat} {d e : List Int} (hi : i < L.length) (hLd : L.getD i [] = d) (hcl : ∀ q, q < i → ∀ e ∈ nbr x (L.getD q []), e ∈ L) (hcr : ∀ e ∈ L, Crowd e x.1) (hm : e ∉ L) (hk : k < x.2.2.2.1.length) (hcan : canR (ruleAt x k) d = true) (he : stepR (ruleAt x k) d = e) (hec : Crowd e x.1) :
   WInv x c (mapPut (Ty.beq (.arr 5 (.int .i64))) (pad e) (pad d, (k : Int), ()) how) (L ++ [e]) := by
 intro e' he' hne
 by_cases hee : e' = e
 · subst hee
   refine ⟨i, k, by rw [idx_new hm]; exact hi, First.new hi hLd (he ▸ nbr_rule hk hcan) hcl hm, hk, ?_, ?_, ?_⟩
   · rw [getD_app _ _ _ hi, hLd]; exact hcan
   · rw [getD_app _ _ _ hi, hLd]; exact he
   · rw [find_put arr_eq, if_pos rfl, getD_app _ _ _ hi, hLd]
 · have hin : e' ∈ L := by
     rcases List.mem_append.1 he' with h1 | h1
     · exact h1
     · exact absurd (List.mem_singleton.1 h1) hee
   obtain ⟨p, k', a1, a2, a3, a4, a5, a6⟩ := h e' hin hne
   have hp : ¬ (pad e' = pad e) := fun hp => hee (pad_inj (by have := hec.len; have := (hcr e' hin).len; omega) hp)
   refine ⟨p, k', by rw [idx_app hin]; exact a1, a2.app _, a3, ?_, ?_, ?_⟩
   · rw [getD_app _ _ _ a2.1]; exact a4
   · rw [getD_app _ _ _ a2.1]; exact a5
   · rw [find_put arr_eq, if_neg hp, a6, getD_app _ _ _ a2.1]
theorem getD_appI (L T : List Int) (i : Nat) (h : i < L.length) : (L ++ T).getD i 0 = L.getD i 0 := by
 simp only [List.getD_eq_getElem?_getD, List.getElem?_append, h, if_true]
def SInv (x : PP) (L : List (List Int)) (steps : List Int) : Prop := steps.length = L.length ∧ steps.getD 0 0 = 0 ∧ (∀ j, j < L.length → 0 ≤ steps.getD j 0 ∧ steps.getD j 0 ≤ j) ∧ ∀ j, 0 < j → j < L.length → ∃ p, p < j ∧ First x L p (L.getD j []) ∧ steps.getD j 0 = steps.getD p 0 + 1
theorem SInv.add {x : PP} {L : List (List Int)} {steps : List Int} (h : SInv x L steps) {i : Nat} {d e : List Int} (hi : i < L.length) (hL : L.length ≤ 10000) (hLd : L.getD i [] = d) (hcl : ∀ q, q < i → ∀ e ∈ nbr x (L.getD q []), e ∈ L) (hm : e ∉ L) (he : e ∈ nbr x d) :
   SInv x (L ++ [e]) (steps ++ [IntKind.wrap .i64 (steps.getD i 0 + 1)]) := by
 obtain ⟨h1, h2, h3, h4⟩ := h
 obtain ⟨b1, b2⟩ := h3 i hi
 rw [w64 (x := steps.getD i 0 + 1) (by omega) (by omega)]
 have hlast : (steps ++ [steps.getD i 0 + 1]).getD L.length 0 = steps.getD i 0 + 1 := by
   rw [List.getD_eq_getElem?_getD, List.getElem?_append_right (by omega), h1, Nat.sub_self]; rfl
 refine ⟨by simp [h1], by rw [getD_appI _ _ _ (by omega)]; exact h2, fun j hj => ?_, fun j hj0 hj => ?_⟩
 · by_cases hji : j = L.length
   · subst hji
     rw [hlast]; omega
   · have hj' : j < L.length := by simp at hj; omega
     rw [getD_appI _ _ _ (by omega)]
     exact h3 j hj'
 · by_cases hji : j = L.length
   · subst hji
     refine ⟨i, hi, ?_, ?_⟩
     · have : (L ++ [e]).getD L.length [] = e := by
         rw [List.getD_eq_getElem?_getD, List.getElem?_append_right (by omega), Nat.sub_self]; rfl
       rw [this]
       exact First.new hi hLd he hcl hm
     · rw [hlast, getD_appI _ _ _ (by omega)]
   · have hj' : j < L.length := by simp at hj; omega
     obtain ⟨p, a1, a2, a3⟩ := h4 j hj0 hj'
     refine ⟨p, a1, ?_, ?_⟩
     · rw [getD_app _ _ _ hj']; exact a2.app _
     · rw [getD_appI _ _ _ (by omega), getD_appI _ _ _ (by omega)]; exact a3
theorem reach_loopW (N : Nat) {x : PP} (hx : PT x) {C : Type} (k0 k1 : Cbs t79 → t79.T → Option C) (c : List Int) (d : List Int) (hd : Crowd d x.1) (i : Nat) :
   ∀ (F k : Nat) (L : List (List Int)) (how : HowT), x.2.2.2.1.length - k < F → k ≤ x.2.2.2.1.length → HInv x.1 how L → i < L.length → WInv x c how L → L.getD i [] = d → (∀ q, q < i → ∀ e ∈ nbr x (L.getD q []), e ∈ L) → (∀ e ∈ L, Crowd e x.1) → L.length + (x.2.2.2.1.length - k) ≤ 10000 → ∃ how', HInv x.1 how' ((((x.2.2.2.1.drop k).filter fun r => canR r d).map fun r => stepR r d).foldl addN L) ∧ WInv x c how' ((((x.2.2.2.1.drop k).filter fun r => canR r d).map fun r => stepR r d).foldl addN L) ∧
     g98xL6f N F t79 k0 k1 (pad d) x.2.2.2.1 (x.2.2.2.1.length : Int) (k : Int) (run79 N) ((0, (x, (), (), (i : Int), how, L.map pad, ())) : t79.T) = k1 (run79 N) ((0, (x, (), (), (i : Int), how', ((((x.2.2.2.1.drop k).filter fun r => canR r d).map fun r => stepR r d).foldl addN L).map pad, ())) : t79.T)
 | 0, k, L, how, h, _, _, _, _, _, _, _, _ => by omega
 | F + 1, k, L, how, h, hk, hI, hi, hW, hLd, hcl, hcr, hlen => by
   rw [g98xL6f_succ]
   unfold g98xL6B
   have hr15 := hx.rules.1
   by_cases hlt : k < x.2.2.2.1.length
   · have e1 : decide ((k : Int) < (x.2.2.2.1.length : Int)) = true := by simp; omega
     have hro := hx.rules.2.1 _ (getD_mem hlt (List.replicate 4 0))
     rw [e1, cond_true, if_pos (ix hlt), Int.toNat_natCast]
     dsimp only
     rw [can_pad N hx hd hro, nbr_drop x d k hlt L]
     simp only [Option.bind_some]
     cases hcan : canR (x.2.2.2.1.getD k (List.replicate 4 0)) d with
     | false =>
       simp only [cond_false]
       rw [wn k (by omega)]
       obtain ⟨how', h1, h1', h2⟩ := reach_loopW N hx k0 k1 c d hd i F (k + 1) L how (by omega) (by omega) hI hi hW hLd hcl hcr (by omega)
       exact ⟨how', h1, h1', h2⟩
     | true =>
       have hs := hd.stepR hx hro hcan
       simp only [cond_true]
       rw [after_pad N hx hd hro]
       simp only [Option.bind_some, if_true]
       generalize hse : stepR (x.2.2.2.1.getD k (List.replicate 4 0)) d = e at hs ⊢
       have hy : (g79R7826 N).told.run [(.ref 2 0 []), (.ref 6 0 []), (.ref 7 0 []), (.ref 8 0 [])] ((0 : Int), (x, (), (), (i : Int), how, L.map pad, ())) [.dat (.int .i64) (k : Int), .dat (.arr 5 (.int .i64)) (pad e)] = g79R7826B N (fun vo2 vo8 vo13 vo18 => some (((0, (vo2, (), (), vo8, vo13, vo18, ())) : t79.T), true)) x (i : Int) how (L.map pad) (k : Int) (pad e) :=
         (g79R7826_run N x (i : Int) how (L.map pad) 0 (k : Int) (pad e)).trans (if_pos rfl)
       have hf := hI e hs.len
       rw [wn k (by omega)]
       by_cases hm : e ∈ L
       · have ea : addN L e = L := by unfold addN; rw [if_pos hm]
         rw [decide_eq_true hm] at hf
         rw [ea]
         have hy2 : g79R7826B N (fun vo2 vo8 vo13 vo18 => some (((0, (vo2, (), (), vo8, vo13, vo18, ())) : t79.T), true)) x (i : Int) how (L.map pad) (k : Int) (pad e) = some (((0, (x, (), (), (i : Int), how, L.map pad, ())) : t79.T), true) := by
           unfold g79R7826B
           rw [hf, Bool.not_true, cond_false]
         obtain ⟨how', a1, a1', a2⟩ := reach_loopW N hx k0 k1 c d hd i F (k + 1) L how (by omega) (by omega) hI hi hW hLd hcl hcr (by omega)
         exact ⟨how', a1, a1', (congrArg (fun o => Option.bind o _) (hy.trans hy2)).trans a2⟩
       · have ea : addN L e = L ++ [e] := by unfold addN; rw [if_neg hm]
         rw [decide_eq_false hm] at hf
         rw [ea]
         have hy2 : g79R7826B N (fun vo2 vo8 vo13 vo18 => some (((0, (vo2, (), (), vo8, vo13, vo18, ())) : t79.T), true)) x (i : Int) how (L.map pad) (k : Int) (pad e) = some (((0, (x, (), (), (i : Int), mapPut (Ty.beq (.arr 5 (.int .i64))) (pad e) ((List.getD (L.map pad) (Int.toNat (i : Int)) (List.replicate 5 0)), (k : Int), ()) how, (L ++ [e]).map pad, ())) : t79.T), true) := by
           unfold g79R7826B
           rw [hf, Bool.not_false, cond_true, if_pos ⟨by omega, by simp; omega⟩, if_pos (by simp; omega), if_pos (by simp [maxCount]; omega), show List.map pad L ++ [pad e] = (L ++ [e]).map pad by simp]
         have egd : (L.map pad).getD (Int.toNat (i : Int)) (List.replicate 5 0) = pad d := by
           rw [Int.toNat_natCast, ← hLd]
           simp only [List.getD_eq_getElem?_getD, List.getElem?_map, List.getElem?_eq_getElem hi, Option.map_some, Option.getD_some]
         obtain ⟨how', a1, a1', a2⟩ := reach_loopW N hx k0 k1 c d hd i F (k + 1) (L ++ [e]) (mapPut (Ty.beq (.arr 5 (.int .i64))) (pad e) ((List.getD (L.map pad) (Int.toNat (i : Int)) (List.replicate 5 0)), (k : Int), ()) how) (by omega) (by omega) (fun e' he' => by
           rw [find_put arr_eq]
           by_cases hee : e' = e
           · subst hee
             simp
           · have hp : ¬ (pad e' = pad e) := fun hp => hee (pad_inj (by have := hs.len; omega) hp)
             rw [if_neg hp, hI e' he']
             simp [hee]) (by simp; omega) (by rw [egd]; exact hW.add hi hLd hcl hcr hm hlt hcan hse hs) (by rw [getD_app _ _ _ hi]; exact hLd) (fun q hq e' he' => by
             rw [getD_app _ _ _ (by omega)] at he'
             exact List.mem_append.2 (.inl (hcl q hq e' he'))) (fun e' he' => by
             rcases List.mem_append.1 he' with h1 | h1
             · exact hcr e' h1
             · obtain rfl := List.mem_singleton.1 h1; exact hs) (by simp; omega)
         exact ⟨how', a1, a1', (congrArg (fun o => Option.bind o _) (hy.trans hy2)).trans a2⟩
   · have e1 : decide ((k : Int) < (x.2.2.2.1.length : Int)) = false := by simp; omega
     rw [e1, cond_false, List.drop_eq_nil_of_le (by omega)]
     exact ⟨how, hI, hW, rfl⟩
theorem reached_loopW (N : Nat) (hN : 100 < N) {x : PP} (hx : PT x) {C : Type} (k0 : PP → Int → HowT → List (List Int) → Option C) {c : List Int} (hc : Crowd c x.1) :
   ∀ (F i : Nat) (L : List (List Int)) (how : HowT), 716 < F + i → BInv x c i L → HInv x.1 how L → WInv x c how L → ∃ how' L', Found x c L' ∧ HInv x.1 how' L' ∧ WInv x c how' L' ∧ L' = bfs x F i L ∧ g79L122f N F k0 x (i : Int) how (L.map pad) = k0 x (L'.length : Int) how' (L'.map pad)
 | 0, i, L, how, hF, hB, hI, hW => by have := hB.len hx hc; have := hB.le; omega
 | F + 1, i, L, how, hF, hB, hI, hW => by
   rw [g79L122f_succ]
   unfold g79L122B
   have hl := hB.len hx hc
   have hr15 := hx.rules.1
   unfold bfs
   by_cases hlt : i < L.length
   · have e1 : decide ((i : Int) < ((L.map pad).length : Int)) = true := by simp; omega
     have hm := (hB.reach _ (getD_mem hlt [])).crowd hx hc
     have eg : (L.map pad).getD i (List.replicate 5 0) = pad (L.getD i []) := by
       simp only [List.getD_eq_getElem?_getD, List.getElem?_map, List.getElem?_eq_getElem hlt, Option.map_some, Option.getD_some]
     rw [if_pos hlt, e1, cond_true, if_pos ⟨by omega, by simp; omega⟩, if_pos (by simp; omega), Int.toNat_natCast, eg]
     unfold g95x
     simp only [Option.bind_some]
     unfold g98x
     rw [g98xL6_eq]
     obtain ⟨how1, h1, h1', h2⟩ := reach_loopW N hx (fun e6 e7 => some ((()), ((e6, e7), ()), (()))) (fun e8 e9 => some ((()), ((e8, e9), ()), (()))) c (L.getD i []) hm.1 i N 0 L how (by omega) (by omega) hI hlt hW rfl hB.closed (fun e he => ((hB.reach e he).crowd hx hc).1) (by omega)
     simp only [Int.natCast_zero, List.drop_zero] at h1 h1' h2
     have hnb : (((x.2.2.2.1.filter fun r => canR r (L.getD i [])).map fun r => stepR r (L.getD i [])).foldl addN L) = rnd x L (L.getD i []) := rfl
     rw [hnb] at h1 h1' h2
     obtain ⟨how', L', g1, g2, g2', g3, g4⟩ := reached_loopW N hN hx k0 hc F (i + 1) (rnd x L (L.getD i [])) how1 (by omega) (hB.next hlt) h1 h1'
     refine ⟨how', L', g1, g2, g2', g3, ?_⟩
     refine (congrArg (fun o => Option.bind o _) h2).trans ?_
     simp only [Option.bind_some, asT]
     rw [if_pos trivial, wn i (by omega)]
     exact g4
   · have e1 : decide ((i : Int) < ((L.map pad).length : Int)) = false := by simp; omega
     have hi : i = L.length := by have := hB.le; omega
     rw [e1, cond_false, if_neg hlt]
     subst hi
     exact ⟨how, L, hB.found hx hc, hI, hW, rfl, rfl⟩
theorem reached79W {x : PP} (hx : PT x) {c : List Int} (hc : Crowd c x.1) : ∃ how, HInv x.1 how (allL x c) ∧ WInv x c how (allL x c) ∧ g79 2000 x (pad c) = some ((allL x c).map pad, how, ()) := by
 unfold g79
 rw [g79L122_eq]
 obtain ⟨how, L, h1, h2, h2', h3, h4⟩ := reached_loopW 2000 (by omega) hx (fun e3 e4 e5 e6 => some ((e6, e5, ()) : List (List Int) × HowT × Unit)) hc 2000 0 [c] (mapPut (Ty.beq (.arr 5 (.int .i64))) (pad c) ((List.replicate 5 0), 0, ()) []) (by omega) (.start x c) (fun e he => by
   rw [find_put arr_eq]
   by_cases hee : e = c
   · subst hee; simp
   · have hp : ¬ (pad e = pad c) := fun hp => hee (pad_inj (by have := hc.len; omega) hp)
     rw [if_neg hp]
     simp [mapFind, hee]) (fun e he hne => absurd (List.mem_singleton.1 he) hne)
 subst h3
 simp only [Int.natCast_zero] at h4
 exact ⟨how, h2, h2', h4⟩
theorem ref_loopW (N : Nat) (hN : 100 < N) {x : PP} (hx : PT x) {C : Type} (k0 : Int → PP → List Int → List (List Int) → List Int → List (Int × Int) → List (List Int) → List Int → List (List Int) → List (List Int) → List Int → List (List Int) → Option C) (d : List Int) (hd : Crowd d x.1) (i : Nat) (u1 : List (List Int)) (u2 : List Int) (u3 u4 : List (List Int)) (u5 : List Int) (u6 : List (List Int)) :
   ∀ (F k : Nat) (L : List (List Int)) (steps : List Int) (known : List (Int × Int)) (done : List (List Int)), x.2.2.2.1.length - k < F → k ≤ x.2.2.2.1.length → KInv x.1 known L → i < L.length → L.getD i [] = d → SInv x L steps → (∀ q, q < i → ∀ e ∈ nbr x (L.getD q []), e ∈ L) → L.length + (x.2.2.2.1.length - k) ≤ 10000 → done.length ≤ k → (∀ e ∈ done, e ∈ L) → ∃ known' steps', KInv x.1 known' ((((x.2.2.2.1.drop k).filter fun r => canR r d).map fun r => stepR r d).foldl addN L) ∧ SInv x ((((x.2.2.2.1.drop k).filter fun r => canR r d).map fun r => stepR r d).foldl addN L) steps' ∧
     g39L64074f N F k0 (i : Int) (k : Int) x (rowL L done) L steps known u1 u2 u3 u4 u5 u6 = k0 (i : Int) x (rowL ((((x.2.2.2.1.drop k).filter fun r => canR r d).map fun r => stepR r d).foldl addN L) (done ++ (((x.2.2.2.1.drop k).filter fun r => canR r d).map fun r => stepR r d))) ((((x.2.2.2.1.drop k).filter fun r => canR r d).map fun r => stepR r d).foldl addN L) steps' known' u1 u2 u3 u4 u5 u6
 | 0, k, L, steps, known, done, h, _, _, _, _, _, _, _, _, _ => by omega
 | F + 1, k, L, steps, known, done, h, hk, hI, hi, hLd, hS, hcl, hlen, hdl, hdone => by
   have hst := hS.1
   rw [g39L64074f_succ]
   unfold g39L64074B
   have hr15 := hx.rules.1
   by_cases hlt : k < x.2.2.2.1.length
   · have e1 : decide ((k : Int) < (x.2.2.2.1.length : Int)) = true := by simp; omega
     have hro := hx.rules.2.1 _ (getD_mem hlt (List.replicate 4 0))
     have hdrop : x.2.2.2.1.drop k = x.2.2.2.1.getD k (List.replicate 4 0) :: x.2.2.2.1.drop (k + 1) := by
       rw [List.drop_eq_getElem_cons hlt]; simp [hlt]
     rw [e1, cond_true, if_pos (ix hi), Int.toNat_natCast, if_pos hi, hLd, meet42 N x hx d hd.len hd.bd]
     simp only [Option.bind_some]
     have hm : meetL x d (k : Int) = bif canR (x.2.2.2.1.getD k (List.replicate 4 0)) d then (stepR (x.2.2.2.1.getD k (List.replicate 4 0)) d, true, ()) else (d, false, ()) := by
       unfold meetL
       rw [if_pos ⟨by omega, by omega⟩, Int.toNat_natCast]
     rw [hm, wn k (by omega), hdrop, List.filter_cons]
     cases hcan : canR (x.2.2.2.1.getD k (List.replicate 4 0)) d with
     | false =>
       simp only [cond_false, Bool.not_false, cond_true, Bool.false_eq_true, if_false]
       exact ref_loopW N hN hx k0 d hd i u1 u2 u3 u4 u5 u6 F (k + 1) L steps known done (by omega) (by omega) hI hi hLd hS hcl (by omega) (by omega) hdone
     | true =>
       have hs := hd.stepR hx hro hcan
       simp only [cond_false, Bool.not_true, cond_true, if_true, List.map_cons, List.foldl_cons]
       have hnb := nbr_rule hlt hcan
       generalize stepR (x.2.2.2.1.getD k (List.replicate 4 0)) d = e at hs hnb ⊢
       have hsl := hs.len
       have hn := hx.n
       rw [keyN_eq N hN (l := e) (by omega) hs.le]
       simp only [Option.bind_some]
       rw [hI e hs]
       by_cases hmem : e ∈ L
       · have ea : addN L e = L := by unfold addN; rw [if_pos hmem]
         rw [if_pos hmem, ea]
         simp only [Option.isSome_some, Bool.not_true, cond_false, Option.getD_some]
         rw [if_pos (by simp [rowL, maxCount]; omega)]
         have er : rowL L done ++ [(L.idxOf e : Int)] = rowL L (done ++ [e]) := by simp [rowL]
         rw [er]
         have := ref_loopW N hN hx k0 d hd i u1 u2 u3 u4 u5 u6 F (k + 1) L steps known (done ++ [e]) (by omega) (by omega) hI hi hLd hS hcl (by omega) (by simp; omega) (fun e' he' => by
           rcases List.mem_append.1 he' with h1 | h1
           · exact hdone e' h1
           · obtain rfl := List.mem_singleton.1 h1; exact hmem)
         simpa only [List.append_assoc, List.singleton_append] using this
       · have ea : addN L e = L ++ [e] := by unfold addN; rw [if_neg hmem]
         rw [if_neg hmem, ea]
         simp only [Option.isSome_none, Bool.not_false, cond_true]
         rw [if_pos (by simp [maxCount]; omega), if_pos (by rw [hst]; exact ix hi), if_pos (by rw [hst]; exact hi), if_pos (by simp [maxCount]; omega), if_pos (by simp [rowL, maxCount]; omega)]
         have hix : (L ++ [e]).idxOf e = L.length := by
           rw [List.idxOf_append, if_neg hmem]; simp
         have er : rowL L done ++ [((L.length : Nat) : Int)] = rowL (L ++ [e]) (done ++ [e]) := by
           have := rowL_app (T := [e]) hdone
           unfold rowL at this ⊢
           rw [List.map_append, this]
           simp [hix]
         rw [er]
         have := ref_loopW N hN hx k0 d hd i u1 u2 u3 u4 u5 u6 F (k + 1) (L ++ [e]) (steps ++ [IntKind.wrap .i64 (steps.getD i 0 + 1)]) (mapPut (Ty.beq (.int .i64)) (keyP e 0) ((L.length : Nat) : Int) known) (done ++ [e]) (by omega) (by omega) (fun e' he' => by
           rw [find_put int_eq]
           by_cases hee : e' = e
           · subst hee
             rw [if_pos rfl, if_pos (by simp), hix]
           · have hp : ¬ (keyP e' 0 = keyP e 0) := fun hp => hee (keyP_inj e' e 0 0 (by have := he'.len; omega) he'.le hs.le hp).2
             rw [if_neg hp, hI e' he']
             by_cases hm2 : e' ∈ L
             · rw [if_pos hm2, if_pos (by simp [hm2]), idx_app hm2]
             · rw [if_neg hm2, if_neg (by simp [hm2, hee])]) (by simp; omega) (by rw [getD_app _ _ _ hi]; exact hLd) (hS.add hi (by omega) hLd hcl hmem hnb) (fun q hq e' he' => by
           rw [getD_app _ _ _ (by omega)] at he'
           exact List.mem_append.2 (.inl (hcl q hq e' he'))) (by simp; omega) (by simp; omega) (fun e' he' => by
           rcases List.mem_append.1 he' with h1 | h1
           · exact List.mem_append.2 (.inl (hdone e' h1))
           · exact List.mem_append.2 (.inr h1))
         simpa only [List.append_assoc, List.singleton_append] using this
   · have e1 : decide ((k : Int) < (x.2.2.2.1.length : Int)) = false := by simp; omega
     rw [e1, cond_false, List.drop_eq_nil_of_le (by omega)]
     exact ⟨known, steps, hI, hS, by simp⟩
theorem ref39_loopW (N : Nat) (hN : 100 < N) {x : PP} (hx : PT x) {C : Type} (k0 : PP → List (List Int) → List Int → List (Int × Int) → List (List Int) → List Int → List (List Int) → List (List Int) → List Int → List (List Int) → Option C) {c : List Int} (hc : Crowd c x.1) (u1 : List (List Int)) (u2 : List Int) (u3 u4 : List (List Int)) (u5 : List Int) :
   ∀ (F i : Nat) (L : List (List Int)) (steps : List Int) (known : List (Int × Int)) (next : List (List Int)), 716 < F + i → BInv x c i L → KInv x.1 known L → SInv x L steps → Rows39 x i L next → ∃ known' steps' next', Rows39 x (bfs x F i L).length (bfs x F i L) next' ∧ SInv x (bfs x F i L) steps' ∧ g39L250f N F k0 (i : Int) x L steps known u1 u2 u3 u4 u5 next = k0 x (bfs x F i L) steps' known' u1 u2 u3 u4 u5 next'
 | 0, i, L, steps, known, next, hF, hB, hI, hst, hR => by have := hB.len hx hc; have := hB.le; omega
 | F + 1, i, L, steps, known, next, hF, hB, hI, hS, hR => by
   have hst := hS.1
   rw [g39L250f_succ]
   unfold g39L250B
   have hl := hB.len hx hc
   have hr15 := hx.rules.1
   unfold bfs
   by_cases hlt : i < L.length
   · have e1 : decide ((i : Int) < (L.length : Int)) = true := by simp; omega
     have hm := (hB.reach _ (getD_mem hlt [])).crowd hx hc
     rw [if_pos hlt, e1, cond_true, g39L64074_eq]
     obtain ⟨known1, steps1, h1, h2, h3⟩ := ref_loopW N hN hx (fun e5 e6 e7 e8 e9 e10 e11 e12 e13 e14 e15 e16 => if List.length e16 + List.length [e7] ≤ maxCount then g39L250f N F k0 (IntKind.wrap .i64 (e5 + 1)) e6 e8 e9 e10 e11 e12 e13 e14 e15 (e16 ++ [e7]) else none) (L.getD i []) hm.1 i u1 u2 u3 u4 u5 next N 0 L steps known [] (by omega) (by omega) hI hlt rfl hS hB.closed (by omega) (by simp) (fun e he => by cases he)
     simp only [Int.natCast_zero, List.drop_zero, List.nil_append] at h1 h2 h3
     have hnb : (((x.2.2.2.1.filter fun r => canR r (L.getD i [])).map fun r => stepR r (L.getD i [])).foldl addN L) = rnd x L (L.getD i []) := rfl
     have hnb2 : ((x.2.2.2.1.filter fun r => canR r (L.getD i [])).map fun r => stepR r (L.getD i [])) = nbr x (L.getD i []) := rfl
     rw [hnb] at h1 h2 h3
     rw [hnb2] at h3
     have hB2 := hB.next hlt
     have hl2 := hB2.len hx hc
     obtain ⟨T, hT⟩ := fold_pre (ds := nbr x (L.getD i [])) L
     have hT : rnd x L (L.getD i []) = L ++ T := hT
     have hRl := hR.1
     have hR2 : Rows39 x (i + 1) (rnd x L (L.getD i [])) (next ++ [rowL (rnd x L (L.getD i [])) (nbr x (L.getD i []))]) := by
       refine ⟨by simp [hRl], fun j hj => ?_⟩
       by_cases hji : j = i
       · subst hji
         rw [List.getD_eq_getElem?_getD, List.getElem?_append_right (by omega), hRl, Nat.sub_self]
         have : (rnd x L (L.getD j [])).getD j [] = L.getD j [] := by rw [hT, getD_app _ _ _ hlt]
         rw [this]; rfl
       · have : (rnd x L (L.getD i [])).getD j [] = L.getD j [] := by rw [hT, getD_app _ _ _ (by omega)]
         rw [this, getD_app _ _ _ (by omega), hR.2 j (by omega), hT, rowL_app (fun d hd => hB.closed j (by omega) d hd)]
     obtain ⟨known2, steps2, next2, g1, g2, g3⟩ := ref39_loopW N hN hx k0 hc u1 u2 u3 u4 u5 F (i + 1) (rnd x L (L.getD i [])) steps1 known1 _ (by omega) hB2 h1 h2 hR2
     refine ⟨known2, steps2, next2, g1, g2, ?_⟩
     refine Eq.trans h3 ?_
     rw [if_pos (by simp [maxCount]; omega), wn i (by omega)]
     exact g3
   · have e1 : decide ((i : Int) < (L.length : Int)) = false := by simp; omega
     have hi : i = L.length := by have := hB.le; omega
     rw [e1, cond_false, if_neg hlt]
     subst hi
     exact ⟨known, steps, next, hR, hS, rfl⟩
theorem ref39W {x : PP} (hx : PT x) {c : List Int} (hc : Crowd c x.1) : ∃ steps next, Rows39 x (allL x c).length (allL x c) next ∧ SInv x (allL x c) steps ∧ g39 2000 x c = some (allL x c, steps, next, ()) := by
 unfold g39
 have hcl := hc.len
 have hn := hx.n
 rw [keyN_eq 2000 (by omega) (l := c) (by omega) hc.le]
 simp only [Option.bind_some]
 rw [g39L250_eq]
 obtain ⟨known, steps, next, h1, h2, h3⟩ := ref39_loopW 2000 (by omega) hx (fun e17 e18 e19 e20 e21 e22 e23 e24 e25 e26 => some ((e18, e19, e26, ()) : List (List Int) × List Int × List (List Int) × Unit)) hc [] [] [] [] [] 2000 0 [c] [0] (mapPut (Ty.beq (.int .i64)) (keyP c 0) 0 []) [] (by omega) (.start x c) (fun e he => by
   rw [find_put int_eq]
   by_cases hee : e = c
   · subst hee; simp
   · have hp : ¬ (keyP e 0 = keyP c 0) := fun hp => hee (keyP_inj e c 0 0 (by have := he.len; omega) he.le hc.le hp).2
     rw [if_neg hp]
     simp [mapFind, hee]) ⟨rfl, rfl, fun j hj => by have : j = 0 := by simpa using hj
                                                    subst this; exact ⟨by decide, by decide⟩, fun j h0 h1 => by simp at h1; omega⟩ ⟨rfl, fun j hj => by omega⟩
 simp only [Int.natCast_zero] at h3
 exact ⟨steps, next, h1, h2, h3⟩
end Go.Pv
namespace Go.Pv
theorem awake_true : g29 2000 = some true := by kernel_rfl
end Go.Pv
namespace Go.Pv
def doW (x : PP) : List Int → List Int → List Int × Nat
 | c, [] => (c, 0)
 | c, r :: w => bif (meetL x c r).2.1 then ((doW x (meetL x c r).1 w).1, (doW x (meetL x c r).1 w).2 + 1) else (c, 0)
theorem do41W_loop (N : Nat) {x : PP} (hx : PT x) (w : List Int) (hw : w.length ≤ 1000) :
   ∀ (F i : Nat) (c : List Int), w.length - i < F → i ≤ w.length → Crowd c x.1 → g41L26f N F (fun e2 e3 e4 e5 e6 => some (e4, e5, ())) (fun e7 e8 e9 => some (e7, ((List.length e8 : Nat) : Int), ())) c w (i : Int) x = some ((doW x c (w.drop i)).1, ((i + (doW x c (w.drop i)).2 : Nat) : Int), ())
 | 0, i, c, h, _, _ => by omega
 | F + 1, i, c, h, hi, hc => by
   rw [g41L26f_succ]
   unfold g41L26B
   by_cases hlt : i < w.length
   · have e1 : decide ((i : Int) < (w.length : Int)) = true := by simp; omega
     rw [e1, cond_true, if_pos (ix hlt), Int.toNat_natCast, getD_drop w i hlt, meet42 N x hx c hc.len hc.bd]
     generalize w.getD i 0 = r
     simp only [Option.bind_some]
     unfold doW
     have hm := hc.meet hx r
     cases hb : (meetL x c r).2.1 with
     | false => simp only [Bool.not_false, cond_true, cond_false, Nat.add_zero]
     | true =>
       simp only [Bool.not_true, cond_false, cond_true]
       rw [wn i (by omega)]
       refine (do41W_loop N hx w hw F (i + 1) _ (by omega) (by omega) hm).trans ?_
       congr 3
       omega
   · have e1 : decide ((i : Int) < (w.length : Int)) = false := by simp; omega
     rw [e1, cond_false, List.drop_eq_nil_of_le (by omega)]
     have : i = w.length := by omega
     rw [this]
     rfl
theorem do41W_eq (N : Nat) (hN : 1001 < N) {x : PP} (hx : PT x) (c w : List Int) (hc : Crowd c x.1) (hw : w.length ≤ 1000) : g41 N x c w = some ((doW x c w).1, ((doW x c w).2 : Int), ()) := by
 unfold g41
 rw [g41L26_eq]
 have := do41W_loop N hx w hw N 0 c (by omega) (by omega) hc
 simp only [Int.natCast_zero, List.drop_zero, Nat.zero_add] at this
 exact this
theorem doW_snoc {x : PP} {d : List Int} {k : Int} (hk : (meetL x d k).2.1 = true) : ∀ (w c : List Int), doW x c w = (d, w.length) → doW x c (w ++ [k]) = ((meetL x d k).1, w.length + 1)
 | [], c, h => by
   have : c = d := congrArg Prod.fst h
   subst this
   simp only [List.nil_append, doW, hk, cond_true, List.length_nil]
 | r :: w, c, h => by
   simp only [List.cons_append, doW] at h ⊢
   cases hr : (meetL x c r).2.1 with
   | false => rw [hr] at h; have := congrArg Prod.snd h; simp at this
   | true =>
     rw [hr, cond_true] at h
     have h1 := congrArg Prod.fst h
     have h2 := congrArg Prod.snd h
     simp only [List.length_cons, Nat.add_right_cancel_iff] at h1 h2
     have ih := doW_snoc hk w (meetL x c r).1 (Prod.ext h1 h2)
     rw [cond_true, ih]
     rfl
theorem idx_atW {L : List (List Int)} (hn : L.Nodup) {j : Nat} (h : j < L.length) : L.idxOf (L.getD j []) = j := by
 rw [List.getD_eq_getElem?_getD, List.getElem?_eq_getElem h, Option.getD_some]
 have hm : L[j] ∈ L := List.getElem_mem h
 have h1 := List.idxOf_lt_length_of_mem hm
 have h2 : L[L.idxOf L[j]] = L[j] := List.getElem_idxOf h1
 have hp := List.pairwise_iff_getElem.1 hn
 rcases Nat.lt_trichotomy (L.idxOf L[j]) j with h3 | h3 | h3
 · exact absurd h2 (hp _ _ h1 h h3)
 · exact h3
 · exact absurd h2.symm (hp _ _ h h1 h3)
theorem back81 {x : PP} (hx : PT x) {c : List Int} (hc : Crowd c x.1) {how : HowT} {L : List (List Int)} {steps : List Int} (hF : Found x c L) (hW : WInv x c how L) (hS : SInv x L steps) :
   ∀ (F j : Nat), j < F → j < L.length → ∃ w : List Int, (w.length : Int) = steps.getD j 0 ∧ w.length ≤ j ∧ doW x c w = (L.getD j [], w.length) ∧ g81x 2000 F (pad (L.getD j [])) c how c how = some (((), ()), ((), (c, (), how, ()), ()), (w, ()))
 | 0, j, h, _ => by omega
 | F + 1, j, h, hj => by
   have hcl := hc.len
   have hn := hx.n
   have hlen := hF.len
   rw [g81x_succ]
   unfold g81xB
   rw [of72 2000 c (by omega)]
   simp only [Option.bind_some]
   have hmem : L.getD j [] ∈ L := getD_mem hj []
   have hcr : Crowd (L.getD j []) x.1 := (((hF.mem _).1 hmem).crowd hx hc).1
   by_cases hec : L.getD j [] = c
   · have hj0 : j = 0 := by
       have h1 := idx_atW hF.nodup hj
       have h2 := idx_atW hF.nodup hF.head.2
       rw [hF.head.1] at h2
       rw [hec] at h1
       omega
     subst hj0
     rw [(arr_eq _ _).2 (by rw [hec]), cond_true]
     exact ⟨[], by rw [hS.2.1]; rfl, by simp, by rw [hec]; rfl, rfl⟩
   · have hne : Ty.beq (.arr 5 (.int .i64)) (pad (L.getD j [])) (pad c) = false := by
       cases hb : Ty.beq (.arr 5 (.int .i64)) (pad (L.getD j [])) (pad c) with
       | false => rfl
       | true => exact absurd (pad_inj (by have := hcr.len; omega) ((arr_eq _ _).1 hb)) hec
     have hj0 : 0 < j := by
       rcases Nat.eq_zero_or_pos j with h0 | h0
       · subst h0; exact absurd hF.head.1 hec
       · exact h0
     obtain ⟨p, k, a1, a2, a3, a4, a5, a6⟩ := hW _ hmem hec
     rw [idx_atW hF.nodup hj] at a1
     obtain ⟨p', b1, b2, b3⟩ := hS.2.2.2 j hj0 hj
     have hpp := a2.uniq b2
     subst hpp
     obtain ⟨w, c1, c2, c3, c4⟩ := back81 hx hc hF hW hS F p (by omega) a2.1
     have hr15 := hx.rules.1
     have hmk : meetL x (L.getD p []) (k : Int) = (L.getD j [], true, ()) := by
       unfold meetL
       rw [if_pos ⟨by omega, by omega⟩, Int.toNat_natCast]
       show (bif canR (ruleAt x k) (L.getD p []) then (stepR (ruleAt x k) (L.getD p []), true, ()) else (L.getD p [], false, ())) = _
       rw [a4, cond_true, a5]
     rw [hne, cond_false, a6]
     simp only [Option.getD_some]
     rw [c4]
     simp only [Option.bind_some]
     rw [if_pos (by simp [maxCount]; omega)]
     refine ⟨w ++ [(k : Int)], by rw [b3, ← c1]; simp, by simp; omega, ?_, rfl⟩
     rw [doW_snoc (by rw [hmk]) w c c3, hmk, List.length_append]
     rfl
theorem way49 {x : PP} (hx : PT x) {c b : List Int} (hc : Crowd c x.1) (hb : Crowd b x.1) {steps : List Int} (hS : SInv x (allL x c) steps) :
   (b ∉ allL x c → g49 2000 x c b = some (([] : List Int), false, 0, ())) ∧
   (b ∈ allL x c → ∃ w : List Int, (w.length : Int) = steps.getD ((allL x c).idxOf b) 0 ∧ w.length ≤ 715 ∧ doW x c w = (b, w.length) ∧ g49 2000 x c b = some (w, true, 0, ())) := by
 obtain ⟨how, hH, hW, hr⟩ := reached79W hx hc
 have hF := allL_found hx hc
 have hcl := hc.len
 have hbl := hb.len
 have hn := hx.n
 have hlen := hF.len
 unfold g49
 rw [open_eq 2000 (by omega) hx (by simp) (fun d hd => by
   rcases List.mem_cons.1 hd with h1 | h1
   · subst h1; exact hc
   · obtain rfl := List.mem_singleton.1 h1; exact hb)]
 simp only [Option.bind_some, ieq_self, Bool.not_true, cond_false]
 rw [of72 2000 c (by omega), of72 2000 b (by omega)]
 simp only [Option.bind_some]
 rw [hr]
 simp only [Option.bind_some]
 rw [hH b hbl]
 constructor
 · intro hm
   rw [decide_eq_false hm, Bool.not_false, cond_true]
 · intro hm
   rw [decide_eq_true hm, Bool.not_true, cond_false]
   have hj := List.idxOf_lt_length_of_mem hm
   have hat : (allL x c).getD ((allL x c).idxOf b) [] = b := by
     rw [List.getD_eq_getElem?_getD, List.getElem?_eq_getElem hj, Option.getD_some, List.getElem_idxOf]
   obtain ⟨w, c1, c2, c3, c4⟩ := back81 hx hc hF hW hS 2000 _ (by omega) hj
   rw [hat] at c3 c4
   refine ⟨w, c1, by omega, c3, ?_⟩
   rw [c4]
   rfl
theorem steps50 {x : PP} (hx : PT x) {c b : List Int} (hc : Crowd c x.1) (hb : Crowd b x.1) {steps : List Int} {next : List (List Int)} (hS : SInv x (allL x c) steps) (hr : g39 2000 x c = some (allL x c, steps, next, ())) :
   g50 2000 x c b = some (if b ∈ allL x c then steps.getD ((allL x c).idxOf b) 0 else -1) := by
 unfold g50
 rw [hr]
 simp only [Option.bind_some]
 rw [g50L58_eq]
 have hF := allL_found hx hc
 have hlen := hF.len
 have hbl := hb.len
 have hn := hx.n
 have hkb := keyN_eq 2000 (by omega) (l := b) (by omega) hb.le
 have : ∀ (F i : Nat), (allL x c).length - i < F → i ≤ (allL x c).length → (∀ q, q < i → (allL x c).getD q [] ≠ b) → g50L58f 2000 F (fun e4 e5 => some e4) (fun e6 => some (-1 : Int)) b (i : Int) (allL x c, steps, next, ()) = some (if b ∈ allL x c then steps.getD ((allL x c).idxOf b) 0 else -1) := by
   intro F
   induction F with
   | zero => intro i h; omega
   | succ F ih =>
     intro i hF' hi hq
     rw [g50L58f_succ]
     unfold g50L58B
     by_cases hlt : i < (allL x c).length
     · have e1 : decide ((i : Int) < ((allL x c).length : Int)) = true := by simp; omega
       have hm := getD_mem hlt []
       have hcr : Crowd ((allL x c).getD i []) x.1 := (((hF.mem _).1 hm).crowd hx hc).1
       have := hcr.len
       dsimp only
       rw [e1, cond_true, if_pos (ix hlt), Int.toNat_natCast, keyN_eq 2000 (by omega) (l := (allL x c).getD i []) (by omega) hcr.le, hkb]
       simp only [Option.bind_some]
       by_cases he : (allL x c).getD i [] = b
       · have hix := idx_atW hF.nodup hlt
         rw [he] at hix hm
         rw [he, ieq_self, cond_true, if_pos (by rw [hS.1]; exact ix hlt), if_pos hm, hix]
       · have hk : ¬ (keyP ((allL x c).getD i []) 0 = keyP b 0) := fun hk => he (keyP_inj _ _ 0 0 (by omega) hcr.le hb.le hk).2
         rw [show ieq (keyP ((allL x c).getD i []) 0) (keyP b 0) = false from decide_eq_false hk, cond_false, wn i (by omega)]
         exact ih (i + 1) (by omega) (by omega) (fun q hq' => by
           by_cases hqi : q = i
           · subst hqi; exact he
           · exact hq q (by omega))
     · have e1 : decide ((i : Int) < ((allL x c).length : Int)) = false := by simp; omega
       have hm : b ∉ allL x c := fun hm => by
         have hj := List.idxOf_lt_length_of_mem hm
         refine hq ((allL x c).idxOf b) (by omega) ?_
         rw [List.getD_eq_getElem?_getD, List.getElem?_eq_getElem hj, Option.getD_some, List.getElem_idxOf]
       dsimp only
       rw [e1, cond_false, if_neg hm]
 have h0 := this 2000 0 (by omega) (by omega) (fun q hq => by omega)
 simp only [Int.natCast_zero] at h0
 exact h0
theorem own43W {x : PP} (hx : PT x) {c : List Int} (hc : Crowd c x.1) : g43 2000 x c = some (((allL x c).length : Int), 0, ()) := by
 obtain ⟨how, _, hr⟩ := reached79 hx hc
 have := hc.len
 have := hx.n
 unfold g43
 rw [open_eq 2000 (by omega) hx (by simp) (fun d hd => by obtain rfl := List.mem_singleton.1 hd; exact hc)]
 simp only [Option.bind_some, ieq_self, Bool.not_true, cond_false]
 rw [of72 2000 c (by omega)]
 simp only [Option.bind_some]
 rw [hr]
 simp only [Option.bind_some, List.length_map]
theorem ways_round {C : Type} (rec : List Int → List Int → Int → PP → PP → (List (List Int) × List Int × List (List Int) × Unit) → Option C) (k0 : Bool → PP → PP → (List (List Int) × List Int × List (List Int) × Unit) → Option C) (k1 : PP → PP → (List (List Int) × List Int × List (List Int) × Unit) → Option C) {x : PP} (hx : PT x) {c b : List Int} (hc : Crowd c x.1) (hb : Crowd b x.1) {steps : List Int} {next : List (List Int)} (hS : SInv x (allL x c) steps) (hr : g39 2000 x c = some (allL x c, steps, next, ())) (i : Int) (hi : i < 2) :
   ∃ b', Crowd b' x.1 ∧ g11L2042B 2000 rec k0 k1 c b i x x (allL x c, steps, next, ()) = rec c b' (IntKind.wrap .i64 (i + 1)) x x (allL x c, steps, next, ()) := by
 have hF := allL_found hx hc
 have hlen := hF.len
 have hpos := hF.head.2
 have ei : decide (i < 2) = true := by simpa using hi
 have hbl := hb.len
 have hn := hx.n
 have elast : IntKind.wrap .i64 (((allL x c).length : Int) - 1) = (((allL x c).length - 1 : Nat) : Int) := by
   rw [w64 (by omega) (by omega)]; omega
 have hm : (allL x c).getD ((allL x c).length - 1) [] ∈ allL x c := getD_mem (by omega) []
 refine ⟨(allL x c).getD ((allL x c).length - 1) [], (((hF.mem _).1 hm).crowd hx hc).1, ?_⟩
 unfold g11L2042B
 obtain ⟨w1, w2⟩ := way49 hx hc hb hS
 have hs := steps50 hx hc hb hS hr
 rw [ei, cond_true, hs]
 by_cases hin : b ∈ allL x c
 · obtain ⟨w, c1, c2, c3, c4⟩ := w2 hin
   have hb0 := hS.2.2.1 _ (List.idxOf_lt_length_of_mem hin)
   have ed : decide ((0 : Int) ≤ steps.getD ((allL x c).idxOf b) 0) = true := decide_eq_true hb0.1
   rw [c4, if_pos hin]
   simp only [Option.bind_some, ieq_self, Bool.not_true, cond_false, cond_true]
   rw [ed, show beqB true true = true from rfl, Bool.not_true, cond_false, do41W_eq 2000 (by omega) hx c w hc (by omega), c3]
   simp only [Option.bind_some]
   rw [c1, ieq_self, Bool.not_true, cond_false, cond_false, ints_self 2000 (by omega) b (by omega)]
   simp only [Option.bind_some, Bool.not_true, cond_false]
   rw [elast, if_pos (ix (by omega)), Int.toNat_natCast]
 · rw [w1 hin, if_neg hin]
   simp only [Option.bind_some, ieq_self, Bool.not_true, cond_false, cond_true, Bool.not_false]
   rw [show beqB false (decide ((0 : Int) ≤ -1)) = true from rfl, Bool.not_true, cond_false, show ieq ((List.length ([] : List Int) : Nat) : Int) 0 = true from rfl, Bool.not_true, cond_false, do41W_eq 2000 (by omega) hx c [] hc (by simp)]
   simp only [Option.bind_some]
   rw [elast, if_pos (ix (by omega)), Int.toNat_natCast]
theorem tallyWays_plain (p : PP) (l : List (List Int)) : g11 2000 p l = some true := by
 unfold g11
 obtain ⟨x, ex, hx, _⟩ := tame_eq 2000 (by omega) p 5 (by omega) (by omega)
 have hn := hx.n
 obtain ⟨a, ea, ha, _⟩ := gathered_eq 2000 (by omega) (l.getD 0 []) x.1 (by omega) (by omega) 9 (by omega) (by omega)
 obtain ⟨b, eb, hb, _⟩ := gathered_eq 2000 (by omega) (l.getD 1 []) x.1 (by omega) (by omega) 9 (by omega) (by omega)
 obtain ⟨steps, next, _, hS, hr⟩ := ref39W hx ha
 rw [ex]
 simp only [Option.bind_some]
 rw [hx.given 2000]
 simp only [Option.bind_some]
 rw [if_pos ⟨by omega, by omega⟩, show Int.toNat 0 = 0 from rfl, show Int.toNat 1 = 1 from rfl, ea]
 simp only [Option.bind_some]
 rw [if_pos ⟨by omega, by omega⟩, eb]
 simp only [Option.bind_some]
 rw [hr, own43W hx ha]
 simp only [Option.bind_some, ieq_self, Bool.not_true, cond_false]
 rw [g11L2042_eq, show (2000 : Nat) = 1997 + 1 + 1 + 1 from rfl, g11L2042f_succ]
 obtain ⟨b1, hb1, e1⟩ := ways_round (fun a b c d e f => g11L2042f (1997 + 1 + 1 + 1) (1997 + 1 + 1) (fun e13 e14 e15 e16 => some e13) (fun e17 e18 e19 => Option.bind (g29 (1997 + 1 + 1 + 1)) fun r20 => some r20) a b c d e f) (fun e13 e14 e15 e16 => some e13) (fun e17 e18 e19 => Option.bind (g29 (1997 + 1 + 1 + 1)) fun r20 => some r20) hx ha hb hS hr 0 (by omega)
 refine e1.trans ?_
 rw [g11L2042f_succ]
 obtain ⟨b2, hb2, e2⟩ := ways_round (fun a b c d e f => g11L2042f (1997 + 1 + 1 + 1) (1997 + 1) (fun e13 e14 e15 e16 => some e13) (fun e17 e18 e19 => Option.bind (g29 (1997 + 1 + 1 + 1)) fun r20 => some r20) a b c d e f) (fun e13 e14 e15 e16 => some e13) (fun e17 e18 e19 => Option.bind (g29 (1997 + 1 + 1 + 1)) fun r20 => some r20) hx ha hb1 hS hr (IntKind.wrap .i64 (0 + 1)) (by decide)
 refine e2.trans ?_
 rw [g11L2042f_succ]
 unfold g11L2042B
 have e3 : decide (IntKind.wrap .i64 (IntKind.wrap .i64 (0 + 1) + 1) < 2) = false := by decide
 rw [e3, cond_false]
 show (Option.bind (g29 2000) fun r20 => some r20) = some true
 rw [awake_true]; rfl
end Go.Pv
