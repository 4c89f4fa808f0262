/- Plain texts, merged: QaA, QaB, QaC, QaD, QaMk0. -/
import Derived.Test.YtldhdlohhiphjaaPvL06
/- Seat 06, plain: lists in ranges, sums, copies, the question. -/
set_option linter.unusedVariables false
set_option linter.unusedSimpArgs false
namespace Go.Pv
abbrev PP := Int × List Int × List Int × List (List Int) × Unit
abbrev QQ := List Int × Int × Int × Unit
theorem w64 {x : Int} (h1 : -9223372036854775808 ≤ x) (h2 : x < 9223372036854775808) : IntKind.wrap .i64 x = x := by rw [IntKind.wrap_i64]; omega
theorem wu64 (x : Int) : IntKind.wrap .u64 x = x % 18446744073709551616 := by simp only [IntKind.wrap, IntKind.signed, IntKind.bits]; simp
theorem wu64n {x : Int} (h1 : 0 ≤ x) (h2 : x < 18446744073709551616) : IntKind.wrap .u64 x = x := by rw [wu64]; omega
theorem wn (i : Nat) (h : i < 1000000) : IntKind.wrap .i64 ((i : Int) + 1) = ((i + 1 : Nat) : Int) := by rw [w64 (by omega) (by omega)]; simp
@[simp] theorem ieq_self (x : Int) : ieq x x = true := by simp only [ieq, decide_true]
theorem low (x : Int) {m : Int} (hm : 0 < m) (hm2 : m < 1000000) : ∃ r : Int, IntKind.wrap .i64 (Int.tmod (IntKind.wrap .u64 x) m) = r ∧ 0 ≤ r ∧ r < m := by
  refine ⟨(x % 18446744073709551616) % m, ?_, Int.emod_nonneg _ (by omega), Int.emod_lt_of_pos _ hm⟩
  rw [wu64, Int.tmod_eq_emod_of_nonneg (Int.emod_nonneg _ (by decide))]
  have h1 := Int.emod_nonneg (x % 18446744073709551616) (show m ≠ 0 by omega)
  have h2 := Int.emod_lt_of_pos (x % 18446744073709551616) hm
  exact w64 (by omega) (by omega)
theorem getD_mem {α : Type} {l : List α} {i : Nat} (h : i < l.length) (d : α) : l.getD i d ∈ l := by
  rw [List.getD_eq_getElem?_getD, List.getElem?_eq_getElem h]; simp
theorem getD_drop (l : List Int) (i : Nat) (h : i < l.length) : l.drop i = l.getD i 0 :: l.drop (i + 1) := by
  rw [List.drop_eq_getElem_cons h]; simp [h]
theorem take_getD {α : Type} (l : List α) (i : Nat) (d : α) (h : i < l.length) : l.take i ++ [l.getD i d] = l.take (i + 1) := by
  rw [List.take_add_one]; simp [h]
theorem any_loop (N : Nat) {C : Type} (k0 : Int → Option C) (k1 : Option C) (l : List Int) (f : (Int × Unit) → Option Bool) (p : Int → Bool) (hf : ∀ x, f (x, ()) = some (p x)) (hl : l.length < 4611686018427387904) :
    ∀ (F i : Nat), l.length - i < F → i ≤ l.length → ((l.drop i).any p = true ∧ ∃ j : Nat, g90L26f N F k0 k1 l f (l.length : Int) (i : Int) = k0 j) ∨ ((l.drop i).any p = false ∧ g90L26f N F k0 k1 l f (l.length : Int) (i : Int) = k1)
  | 0, i, h, _ => by omega
  | F + 1, i, h, hi => by
    rw [g90L26f_succ]
    unfold g90L26B
    by_cases hlt : i < l.length
    · have e1 : decide ((i : Int) < (l.length : Int)) = true := by simp; omega
      have e2 : idx (i : Int) l.length := ⟨by omega, by omega⟩
      rw [e1, cond_true, if_pos e2, Int.toNat_natCast, hf]
      simp only [Option.bind_some]
      rw [getD_drop l i hlt, List.any_cons]
      cases hp : p (l.getD i 0) with
      | true => exact .inl ⟨by simp, i, rfl⟩
      | false =>
        simp only [cond_false, Bool.false_or]
        have e3 : IntKind.wrap .i64 ((i : Int) + 1) = ((i + 1 : Nat) : Int) := by rw [w64 (by omega) (by omega)]; simp
        rw [e3]
        exact any_loop N k0 k1 l f p hf hl F (i + 1) (by omega) (by omega)
    · have e1 : decide ((i : Int) < (l.length : Int)) = false := by simp; omega
      rw [e1, cond_false, List.drop_eq_nil_of_le (by omega)]
      exact .inr ⟨rfl, rfl⟩
theorem are_eq (N : Nat) (lo hi : Int) (l : List Int) (hN : l.length < N) (hl : l.length < 4611686018427387904) : g60 N lo hi l = some (l.all fun x => decide (lo ≤ x) && decide (x ≤ hi)) := by
  unfold g60 g86 g90
  rw [g90L26_eq]
  have := any_loop N (fun e2 => some e2) (some (-1)) l (fun (x1 : (Int) × (Unit)) => Option.bind (g87 N x1.1 lo hi) fun y2 => some y2) (fun x => decide (x < lo) || decide (hi < x))
    (fun x => by
      simp only [g87]
      cases h : decide (x < lo) <;> simp) hl N 0 (by omega) (by omega)
  simp only [Int.natCast_zero, List.drop_zero] at this
  have hx : (l.all fun x => decide (lo ≤ x) && decide (x ≤ hi)) = !(l.any fun x => decide (x < lo) || decide (hi < x)) := by
    rw [List.not_any_eq_all_not]
    congr 1
    funext x
    by_cases h1 : x < lo <;> by_cases h2 : hi < x <;> simp [h1, h2] <;> omega
  rcases this with ⟨h1, j, h2⟩ | ⟨h1, h2⟩
  · rw [h2, hx, h1]
    simp
  · rw [h2, hx, h1]
    simp
theorem few_eq (N : Nat) (l : List Int) (k : Int) (h0 : 0 ≤ k) (hk : k ≤ 1000) : g17 N l k = some (l.take k.toNat) := by
  unfold g17
  have e : imin (l.length : Int) k = ((min l.length k.toNat : Nat) : Int) := by simp only [imin]; split <;> omega
  rw [e, if_pos ⟨by omega, by omega, by omega⟩]
  have : List.take (min l.length k.toNat) l = l.take k.toNat := by
    rcases Nat.le_total l.length k.toNat with h | h
    · rw [Nat.min_eq_left h, List.take_of_length_le h, List.take_length]
    · rw [Nat.min_eq_right h]
  simp [this, maxCount]
  omega
theorem sum88_loop (N : Nat) {C : Type} (k0 : Int → Option C) (l : List Int) (hl : l.length ≤ 100) (hb : ∀ x ∈ l, -1000000 ≤ x ∧ x ≤ 1000000) :
    ∀ (F i : Nat) (s : Int), l.length - i < F → i ≤ l.length → -1000000 * (i : Int) ≤ s → s ≤ 1000000 * (i : Int) → g88L58f N F k0 s l (l.length : Int) (i : Int) = k0 (s + (l.drop i).sum)
  | 0, i, s, h, _, _, _ => by omega
  | F + 1, i, s, h, hi, h1, h2 => by
    rw [g88L58f_succ]
    unfold g88L58B
    by_cases hlt : i < l.length
    · have e1 : decide ((i : Int) < (l.length : Int)) = true := by simp; omega
      have e2 : idx (i : Int) l.length := ⟨by omega, by omega⟩
      obtain ⟨b1, b2⟩ := hb _ (getD_mem hlt 0)
      rw [e1, cond_true, if_pos e2, Int.toNat_natCast, wn i (by omega), w64 (by omega) (by omega)]
      dsimp only
      rw [sum88_loop N k0 l hl hb F (i + 1) (s + l.getD i 0) (by omega) (by omega) (by omega) (by omega), getD_drop l i hlt, List.sum_cons]
      congr 1; omega
    · have e1 : decide ((i : Int) < (l.length : Int)) = false := by simp; omega
      rw [e1, cond_false, List.drop_eq_nil_of_le (by omega)]; simp
theorem sum88 (N : Nat) (l : List Int) (hl : l.length ≤ 100) (hN : 100 < N) (hb : ∀ x ∈ l, -1000000 ≤ x ∧ x ≤ 1000000) : g88 N l = some l.sum := by
  unfold g88
  rw [g88L58_eq]
  have := sum88_loop N (fun e1 => some e1) l hl hb N 0 0 (by omega) (by omega) (by omega) (by omega)
  simp only [Int.natCast_zero, List.drop_zero, Int.zero_add] at this
  exact this
def crowdB (l : List Int) (many : Int) : Bool := decide ((l.length : Int) = many) && ((l.all fun x => decide (0 ≤ x) && decide (x ≤ 9)) && (decide (1 ≤ l.sum) && decide (l.sum ≤ 9)))
theorem isCrowd_eq (N : Nat) (l : List Int) (many : Int) (hl : l.length ≤ 100) (hN : 100 < N) : g62 N l many = some (crowdB l many) := by
  unfold g62 crowdB
  rw [are_eq N 0 9 l (by omega) (by omega)]
  by_cases h1 : (l.length : Int) = many
  · simp only [ieq, h1, decide_true, cond_true, Option.bind_some, Bool.true_and]
    cases h2 : l.all fun x => decide (0 ≤ x) && decide (x ≤ 9) with
    | false => rfl
    | true =>
      rw [List.all_eq_true] at h2
      have hb : ∀ x ∈ l, -1000000 ≤ x ∧ x ≤ 1000000 := fun x hx => by
        have := h2 x hx
        simp only [Bool.and_eq_true, decide_eq_true_eq] at this
        omega
      rw [cond_true, sum88 N l hl hN hb]
      simp only [Option.bind_some]
      rw [are_eq N 1 9 _ (by simp; omega) (by simp)]
      simp
  · simp [ieq, h1]
theorem ints_loop (N : Nat) {C : Type} (k0 : Bool → Option C) (k1 : Option C) (c : List Int) (hc : c.length ≤ 100) :
    ∀ (F i : Nat), c.length - i < F → i ≤ c.length → g27L58f N F k0 k1 c c (i : Int) = k1
  | 0, i, h, _ => by omega
  | F + 1, i, h, hi => by
    rw [g27L58f_succ]
    unfold g27L58B
    by_cases hlt : i < c.length
    · have e1 : decide ((i : Int) < (c.length : Int)) = true := by simp; omega
      have q : idx (i : Int) c.length := ⟨by omega, by omega⟩
      rw [e1, cond_true, if_pos q, if_pos q, ieq_self, Bool.not_true, cond_false, wn i (by omega)]
      exact ints_loop N k0 k1 c hc F (i + 1) (by omega) (by omega)
    · have e1 : decide ((i : Int) < (c.length : Int)) = false := by simp; omega
      rw [e1, cond_false]
theorem ints_self (N : Nat) (hN : 100 < N) (c : List Int) (hc : c.length ≤ 100) : g27 N c c = some true := by
  unfold g27
  rw [ieq_self, Bool.not_true, cond_false, g27L58_eq]
  have := ints_loop N (fun e1 => some e1) (some true) c hc N 0 (by omega) (by omega)
  simpa using this
end Go.Pv
namespace Go.Pv
def RLt (r s : List Int) : Prop := r.getD 0 0 < s.getD 0 0 ∨ r.getD 0 0 = s.getD 0 0 ∧ r.getD 1 0 < s.getD 1 0
def RuleOk (n : Int) (r : List Int) : Prop := r.length = 4 ∧ (∀ t ∈ r, 0 ≤ t ∧ t < n) ∧ r.getD 0 0 ≤ r.getD 1 0
structure PT (x : PP) : Prop where
  n : 1 ≤ x.1 ∧ x.1 ≤ 5
  out : (x.2.1.length : Int) = x.1 ∧ ∀ o ∈ x.2.1, 0 ≤ o ∧ o ≤ 1
  start : 1 ≤ x.2.2.1.length ∧ x.2.2.1.length ≤ 2 ∧ ∀ s ∈ x.2.2.1, 0 ≤ s ∧ s < x.1
  rules : x.2.2.2.1.length ≤ 15 ∧ (∀ r ∈ x.2.2.2.1, RuleOk x.1 r) ∧ x.2.2.2.1.Pairwise RLt
theorem cmp97 (N : Nat) (a b : Int) : g97 N a b = some (if a < b then -1 else if b < a then 1 else 0) := by
  have h99 : ∀ x : Int, g99 N x = some false := fun x => by simp [g99]
  unfold g97
  rw [h99, h99]
  simp only [Option.bind_some, cond_false]
  by_cases h : a < b
  · simp [h]
  · by_cases h2 : b < a <;> simp [h, h2]
theorem compare_lt (N : Nat) (hN : 5 < N) (a b c d : Int) (h : a < c ∨ a = c ∧ b < d) : g85 N [a, b] [c, d] = some (-1) := by
  unfold g85
  rw [g85L26_eq]
  obtain ⟨M, rfl⟩ : ∃ M, N = M + 3 := ⟨N - 3, by omega⟩
  rw [show M + 3 = (M + 2) + 1 from rfl, g85L26f_succ]
  unfold g85L26B
  have q0 : idx (0 : Int) 2 := by decide
  have q1 : idx (1 : Int) 2 := by decide
  rcases h with h | ⟨rfl, h⟩
  · simp [cmp97, h, idx, ieq]
  · have hab : ¬ (a < a) := by omega
    have e1 : IntKind.wrap .i64 1 = 1 := by decide
    simp [cmp97, idx, ieq, hab, e1]
    rw [show M + 2 = (M + 1) + 1 from rfl, g85L26f_succ]
    unfold g85L26B
    simp [cmp97, idx, ieq, h, e1]
theorem PT.check_loop {x : PP} (h : PT x) (N : Nat) (hN : 20 < N) {C : Type} (k0 : Int → PP → Option C) (k1 : PP → Option C) :
    ∀ (F i : Nat), x.2.2.2.1.length - i < F → i ≤ x.2.2.2.1.length → g59L122f N F k0 k1 x.1 x.2.2.2.1 (x.2.2.2.1.length : Int) (i : Int) x = k1 x
  | 0, i, hF, _ => by omega
  | F + 1, i, hF, hi => by
    rw [g59L122f_succ]
    unfold g59L122B
    obtain ⟨hn1, hn2⟩ := h.n
    obtain ⟨hr1, hr2, hr3⟩ := h.rules
    by_cases hlt : i < x.2.2.2.1.length
    · have e1 : decide ((i : Int) < (x.2.2.2.1.length : Int)) = true := by simp; omega
      have e2 : idx (i : Int) x.2.2.2.1.length := ⟨by omega, by omega⟩
      obtain ⟨r1, r2, r3⟩ := hr2 _ (getD_mem hlt (List.replicate 4 0))
      have ih := h.check_loop N hN k0 k1 F (i + 1) (by omega) (by omega)
      have hprev : 0 < i → RLt (x.2.2.2.1.getD (i - 1) (List.replicate 4 0)) (x.2.2.2.1.getD i (List.replicate 4 0)) := fun hp => by
        have := List.pairwise_iff_getElem.1 hr3 (i - 1) i (by omega) hlt (by omega)
        rw [List.getD_eq_getElem?_getD, List.getD_eq_getElem?_getD, List.getElem?_eq_getElem (show i - 1 < _ by omega), List.getElem?_eq_getElem hlt]
        exact this
      have hprev2 : 0 < i → RuleOk x.1 (x.2.2.2.1.getD (i - 1) (List.replicate 4 0)) := fun hp => hr2 _ (getD_mem (by omega) _)
      rw [e1, cond_true, if_pos e2, if_pos (by decide), Int.toNat_natCast]
      generalize hq : x.2.2.2.1.getD i (List.replicate 4 0) = q at r1 r2 r3 hprev
      match q, r1 with
      | [a, b, c, d], _ =>
        have e5 : g60 N 0 (IntKind.wrap .i64 (x.1 - 1)) [a, b, c, d] = some true := by
          rw [are_eq N _ _ _ (by simp; omega) (by simp), w64 (by omega) (by omega)]
          congr 1
          rw [List.all_eq_true]
          intro t ht
          obtain ⟨a1, a2⟩ := r2 t ht
          simp; omega
        have e6 : decide (b < a) = false := by simp at r3; simp; omega
        rw [if_pos (by decide), if_pos (by decide)]
        simp only [show Int.toNat 4 = 4 from rfl, show Int.toNat 0 = 0 from rfl, show Int.toNat 1 = 1 from rfl, List.take, List.drop, e5, Option.bind_some, Bool.not_true, cond_false, List.getD_cons_zero, List.getD_cons_succ, e6]
        by_cases hp : 0 < i
        · have e7 : decide ((0 : Int) < (i : Int)) = true := by simp; omega
          have e8 : IntKind.wrap .i64 ((i : Int) - 1) = ((i - 1 : Nat) : Int) := by rw [w64 (by omega) (by omega)]; omega
          have e9 : idx ((i - 1 : Nat) : Int) x.2.2.2.1.length := ⟨by omega, by omega⟩
          rw [e7, cond_true, e8, if_pos e9, if_pos (by decide), if_pos (by decide), Int.toNat_natCast]
          have hx := hprev hp
          obtain ⟨p1, p2, p3⟩ := hprev2 hp
          generalize hq2 : x.2.2.2.1.getD (i - 1) (List.replicate 4 0) = q2 at p1 p2 p3 hx
          match q2, p1 with
          | [a', b', c', d'], _ =>
            simp only [RLt, List.getD_cons_zero, List.getD_cons_succ] at hx
            simp only [show Int.toNat 2 = 2 from rfl, List.take, List.drop]
            rw [compare_lt N (by omega) a' b' a b hx]
            simp only [Option.bind_some]
            rw [show decide ((0 : Int) ≤ -1) = false from rfl, cond_false, wn i (by omega)]
            exact ih
        · have e7 : decide ((0 : Int) < (i : Int)) = false := by simp; omega
          rw [e7, cond_false, wn i (by omega)]
          exact ih
    · have e1 : decide ((i : Int) < (x.2.2.2.1.length : Int)) = false := by simp; omega
      rw [e1, cond_false]
theorem PT.check {x : PP} (h : PT x) (N : Nat) (hN : 20 < N) : g59 N x = some 0 := by
  obtain ⟨hn1, hn2⟩ := h.n
  obtain ⟨ho1, ho2⟩ := h.out
  obtain ⟨hs1, hs2, hs3⟩ := h.start
  obtain ⟨hr1, hr2, hr3⟩ := h.rules
  unfold g59
  have e1 : g60 N 1 5 [x.1] = some true := by
    rw [are_eq N _ _ _ (by simp; omega) (by simp)]; simp; omega
  have e2 : ieq ((List.length x.2.1 : Nat) : Int) x.1 = true := by simp only [ieq, decide_eq_true_eq]; exact ho1
  have e3 : g60 N 0 1 x.2.1 = some true := by
    rw [are_eq N _ _ _ (by omega) (by omega)]
    congr 1
    rw [List.all_eq_true]
    intro t ht
    have := ho2 t ht
    simp; omega
  have e4 : g60 N 1 2 [((List.length x.2.2.1 : Nat) : Int)] = some true := by
    rw [are_eq N _ _ _ (by simp; omega) (by simp)]; simp; omega
  have e5 : g60 N 0 (IntKind.wrap .i64 (x.1 - 1)) x.2.2.1 = some true := by
    rw [are_eq N _ _ _ (by omega) (by omega), w64 (by omega) (by omega)]
    congr 1
    rw [List.all_eq_true]
    intro t ht
    have := hs3 t ht
    simp; omega
  have e6 : decide ((15 : Int) < ((List.length x.2.2.2.1 : Nat) : Int)) = false := by simp; omega
  rw [e1, e2, e3, e4, e5, e6]
  simp only [Option.bind_some, Bool.not_true, cond_false]
  rw [g59L122_eq]
  have := h.check_loop N hN (fun e7 e8 => some e7) (fun e9 => some (0 : Int)) N 0 (by omega) (by omega)
  simp only [Int.natCast_zero] at this
  exact this
theorem PT.given {x : PP} (h : PT x) (N : Nat) : g26 N x = some x := by
  unfold g26
  obtain ⟨hn1, hn2⟩ := h.n
  obtain ⟨ho1, ho2⟩ := h.out
  obtain ⟨hs1, hs2, hs3⟩ := h.start
  rw [few_eq N _ 6 (by omega) (by omega), few_eq N _ 3 (by omega) (by omega)]
  simp only [Option.bind_some, show Int.toNat 6 = 6 from rfl, show Int.toNat 3 = 3 from rfl]
  rw [List.take_of_length_le (by omega), List.take_of_length_le (by omega)]
  have := h.rules.1
  simp [maxCount]; omega
end Go.Pv
namespace Go.Pv
theorem tame_out (N : Nat) {C : Type} (k0 : Int → PP → Int → Int → List Int → List Int → List (List Int) → List Int → List Int → List (List Int) → Option C) (n : Nat) (hn : n ≤ 5) (x : PP) (a b : Int) (c d : List Int) (e : List (List Int)) (s : List Int) (r : List (List Int)) :
    ∀ (F i : Nat) (o : List Int), n - i < F → i ≤ n → o.length = i → (∀ t ∈ o, 0 ≤ t ∧ t ≤ 1) → ∃ o' : List Int, o'.length = n ∧ (∀ t ∈ o', 0 ≤ t ∧ t ≤ 1) ∧ g18L122f N F k0 (n : Int) (i : Int) x a b c d e o s r = k0 (n : Int) x a b c d e o' s r
  | 0, i, o, h, _, _, _ => by omega
  | F + 1, i, o, h, hi, ho, hb => by
    rw [g18L122f_succ]
    unfold g18L122B
    by_cases hlt : i < n
    · have e1 : decide ((i : Int) < (n : Int)) = true := by simp; omega
      have add : ∀ v : Int, 0 ≤ v → v ≤ 1 → ∃ o' : List Int, o'.length = n ∧ (∀ t ∈ o', 0 ≤ t ∧ t ≤ 1) ∧ g18L122f N F k0 (n : Int) ((i + 1 : Nat) : Int) x a b c d e (o ++ [v]) s r = k0 (n : Int) x a b c d e o' s r := fun v h1 h2 =>
        tame_out N k0 n hn x a b c d e s r F (i + 1) (o ++ [v]) (by omega) (by omega) (by simp [ho]) (fun t ht => by
          rcases List.mem_append.1 ht with ht | ht
          · exact hb t ht
          · obtain rfl := List.mem_singleton.1 ht; exact ⟨h1, h2⟩)
      rw [e1, cond_true, wn i (by omega)]
      have hmax : ∀ v : Int, o.length + [v].length ≤ maxCount := fun v => by simp [maxCount]; omega
      have hmax0 : o.length + List.length ([0] : List Nat) ≤ maxCount := by simp [maxCount]; omega
      by_cases h2 : i < x.2.1.length
      · have e2 : decide ((i : Int) < (x.2.1.length : Int)) = true := by simp; omega
        obtain ⟨v, ev, v1, v2⟩ := low (x.2.1.getD i 0) (m := 2) (by omega) (by omega)
        rw [e2, cond_true, if_pos ⟨by omega, by omega⟩, Int.toNat_natCast, ev, if_pos (hmax v)]
        exact add v v1 (by omega)
      · have e2 : decide ((i : Int) < (x.2.1.length : Int)) = false := by simp; omega
        rw [e2, cond_false, if_pos hmax0]
        exact add 0 (by omega) (by omega)
    · have e1 : decide ((i : Int) < (n : Int)) = false := by simp; omega
      rw [e1, cond_false]
      exact ⟨o, by omega, hb, rfl⟩
theorem tame_start (N : Nat) {C : Type} (k0 : Int → PP → Int → Int → List Int → List Int → List (List Int) → List Int → List Int → List (List Int) → Option C) (n : Nat) (hn0 : 1 ≤ n) (hn : n ≤ 5) (x : PP) (a b : Int) (c d : List Int) (e : List (List Int)) (o : List Int) (r : List (List Int)) :
    ∀ (F i : Nat) (s : List Int), 2 - i < F → i ≤ 2 → s.length = i → (∀ t ∈ s, 0 ≤ t ∧ t < (n : Int)) → ∃ s' : List Int, 1 ≤ s'.length ∧ s'.length ≤ 2 ∧ (∀ t ∈ s', 0 ≤ t ∧ t < (n : Int)) ∧ g18L250f N F k0 (n : Int) (i : Int) x a b c d e o s r = k0 (n : Int) x a b c d e o s' r
  | 0, i, o, h, _, _, _ => by omega
  | F + 1, i, s, h, hi, ho, hb => by
    rw [g18L250f_succ]
    unfold g18L250B
    have add : i < 2 → ∀ v : Int, 0 ≤ v → v < (n : Int) → ∃ s' : List Int, 1 ≤ s'.length ∧ s'.length ≤ 2 ∧ (∀ t ∈ s', 0 ≤ t ∧ t < (n : Int)) ∧ g18L250f N F k0 (n : Int) ((i + 1 : Nat) : Int) x a b c d e o (s ++ [v]) r = k0 (n : Int) x a b c d e o s' r := fun hi2 v h1 h2 =>
        tame_start N k0 n hn0 hn x a b c d e o r F (i + 1) (s ++ [v]) (by omega) (by omega) (by simp [ho]) (fun t ht => by
          rcases List.mem_append.1 ht with ht | ht
          · exact hb t ht
          · obtain rfl := List.mem_singleton.1 ht; exact ⟨h1, h2⟩)
    have hmax : ∀ v : Int, s.length + [v].length ≤ maxCount := fun v => by simp [maxCount]; omega
    have hmax0 : s.length + List.length ([0] : List Nat) ≤ maxCount := by simp [maxCount]; omega
    have hw : IntKind.wrap .u64 (n : Int) = (n : Int) := wu64n (by omega) (by omega)
    have hz : ¬ ((n : Int) = 0) := by omega
    obtain ⟨v, ev, v1, v2⟩ := low (x.2.2.1.getD i 0) (m := (n : Int)) (by omega) (by omega)
    rw [wn i (by omega), hw]
    by_cases h1 : i < 1
    · have e1 : decide ((i : Int) < 1) = true := by simp; omega
      rw [e1, cond_true]
      by_cases h2 : i < x.2.2.1.length
      · have e2 : decide ((i : Int) < (x.2.2.1.length : Int)) = true := by simp; omega
        rw [e2, cond_true, if_pos ⟨by omega, by omega⟩, if_neg hz, Int.toNat_natCast, ev, if_pos (hmax v)]
        exact add (by omega) v v1 v2
      · have e2 : decide ((i : Int) < (x.2.2.1.length : Int)) = false := by simp; omega
        rw [e2, cond_false, if_pos hmax0]
        exact add (by omega) 0 (by omega) (by omega)
    · have e1 : decide ((i : Int) < 1) = false := by simp; omega
      rw [e1, cond_false]
      by_cases h2 : i < x.2.2.1.length
      · have e2 : decide ((i : Int) < (x.2.2.1.length : Int)) = true := by simp; omega
        rw [e2, cond_true]
        by_cases h3 : i < 2
        · have e3 : decide ((i : Int) < 2) = true := by simp; omega
          rw [e3, cond_true, cond_true, if_pos ⟨by omega, by omega⟩, if_neg hz, Int.toNat_natCast, ev, if_pos (hmax v)]
          exact add (by omega) v v1 v2
        · have e3 : decide ((i : Int) < 2) = false := by simp; omega
          rw [e3, cond_false]
          exact ⟨s, by omega, by omega, hb, rfl⟩
      · have e2 : decide ((i : Int) < (x.2.2.1.length : Int)) = false := by simp; omega
        rw [e2, cond_false]
        exact ⟨s, by omega, by omega, hb, rfl⟩
def AddR (n : Nat) (a b : Nat) (R R' : List (List Int)) : Prop := R' = R ∨ ∃ c d : Int, 0 ≤ c ∧ c < (n : Int) ∧ 0 ≤ d ∧ d < (n : Int) ∧ R' = R ++ [[(a : Int), (b : Int), c, d]]
theorem tame_rule (N : Nat) {C : Type} (k0 : Int → Int → Int → PP → Int → Int → List Int → List Int → List (List Int) → List Int → List Int → List (List Int) → Option C) (n : Nat) (hn0 : 1 ≤ n) (hn : n ≤ 5) (p q : Nat) (x : PP) (a b : Int) (c d : List Int) (e : List (List Int)) (o s : List Int) (R : List (List Int)) (hR : R.length ≤ 100) :
    ∀ (F i : Nat), 41 - i < F → i ≤ 40 → ∃ R' : List (List Int), AddR n p q R R' ∧ g18L2073746f N F k0 (n : Int) (p : Int) (q : Int) (i : Int) x a b c d e o s R = k0 (n : Int) (p : Int) (q : Int) x a b c d e o s R'
  | 0, i, h, _ => by omega
  | F + 1, i, h, hi => by
    rw [g18L2073746f_succ]
    unfold g18L2073746B
    have hw : IntKind.wrap .u64 (n : Int) = (n : Int) := wu64n (by omega) (by omega)
    have hz : ¬ ((n : Int) = 0) := by omega
    by_cases h1 : i < x.2.2.2.1.length
    · have e1 : decide ((i : Int) < (x.2.2.2.1.length : Int)) = true := by simp; omega
      rw [e1, cond_true]
      by_cases h2 : i < 40
      · have e2 : decide ((i : Int) < 40) = true := by simp; omega
        have ih := tame_rule N k0 n hn0 hn p q x a b c d e o s R hR F (i + 1) (by omega) (by omega)
        rw [e2, cond_true, if_pos ⟨by omega, by omega⟩, if_pos (by decide), hw, if_neg hz, if_pos (by decide), if_neg hz, wn i (by omega), if_pos (by decide), if_neg hz, if_pos (by decide), if_neg hz]
        cases hc : ieq (imin (IntKind.wrap .i64 (Int.tmod (IntKind.wrap .u64 ((x.2.2.2.1.getD (Int.toNat (i : Int)) (List.replicate 4 0)).getD (Int.toNat 0) 0)) (n : Int))) (IntKind.wrap .i64 (Int.tmod (IntKind.wrap .u64 ((x.2.2.2.1.getD (Int.toNat (i : Int)) (List.replicate 4 0)).getD (Int.toNat 1) 0)) (n : Int)))) (p : Int) with
        | false => exact ih
        | true =>
          cases hd : ieq (imax (IntKind.wrap .i64 (Int.tmod (IntKind.wrap .u64 ((x.2.2.2.1.getD (Int.toNat (i : Int)) (List.replicate 4 0)).getD (Int.toNat 0) 0)) (n : Int))) (IntKind.wrap .i64 (Int.tmod (IntKind.wrap .u64 ((x.2.2.2.1.getD (Int.toNat (i : Int)) (List.replicate 4 0)).getD (Int.toNat 1) 0)) (n : Int)))) (q : Int) with
          | false => exact ih
          | true =>
            obtain ⟨v, ev, v1, v2⟩ := low ((x.2.2.2.1.getD (Int.toNat (i : Int)) (List.replicate 4 0)).getD (Int.toNat 2) 0) (m := (n : Int)) (by omega) (by omega)
            obtain ⟨w, ew, w1, w2⟩ := low ((x.2.2.2.1.getD (Int.toNat (i : Int)) (List.replicate 4 0)).getD (Int.toNat 3) 0) (m := (n : Int)) (by omega) (by omega)
            simp only [Bool.not_true, cond_false]
            rw [ev, ew, if_pos (by simp [maxCount]; omega)]
            exact ⟨_, .inr ⟨v, w, v1, v2, w1, w2, rfl⟩, rfl⟩
      · have e2 : decide ((i : Int) < 40) = false := by simp; omega
        rw [e2, cond_false]
        exact ⟨R, .inl rfl, rfl⟩
    · have e1 : decide ((i : Int) < (x.2.2.2.1.length : Int)) = false := by simp; omega
      rw [e1, cond_false]
      exact ⟨R, .inl rfl, rfl⟩
def cn (n : Nat) : Nat → Nat | 0 => 0 | a + 1 => cn n a + (n - a)
theorem cn_le (n : Nat) : ∀ a, cn n a ≤ n * a
  | 0 => by simp [cn]
  | a + 1 => by have := cn_le n a; simp only [cn, Nat.mul_succ]; omega
structure RInv (n a b : Nat) (R : List (List Int)) : Prop where
  ok : ∀ r ∈ R, RuleOk (n : Int) r ∧ (r.getD 0 0 < (a : Int) ∨ r.getD 0 0 = (a : Int) ∧ r.getD 1 0 < (b : Int))
  sorted : R.Pairwise RLt
  few : R.length ≤ cn n a + (b - a)
theorem RInv.add {n a b : Nat} {R R' : List (List Int)} (h : RInv n a b R) (hab : a ≤ b) (hb : b < n) (ha : AddR n a b R R') : RInv n a (b + 1) R' := by
  rcases ha with rfl | ⟨c, d, c1, c2, d1, d2, rfl⟩
  · refine ⟨fun r hr => ?_, h.sorted, by have := h.few; omega⟩
    obtain ⟨h1, h2⟩ := h.ok r hr
    exact ⟨h1, by omega⟩
  · refine ⟨fun r hr => ?_, ?_, by have := h.few; simp; omega⟩
    · rcases List.mem_append.1 hr with hr | hr
      · obtain ⟨h1, h2⟩ := h.ok r hr
        exact ⟨h1, by omega⟩
      · obtain rfl := List.mem_singleton.1 hr
        refine ⟨⟨rfl, fun t ht => ?_, by simp; omega⟩, by simp; omega⟩
        simp only [List.mem_cons, List.not_mem_nil, or_false] at ht
        rcases ht with rfl | rfl | rfl | rfl <;> constructor <;> omega
    · rw [List.pairwise_append]
      refine ⟨h.sorted, List.pairwise_singleton _ _, fun r hr s hs => ?_⟩
      obtain rfl := List.mem_singleton.1 hs
      exact (h.ok r hr).2
theorem tame_b (N : Nat) (hN : 100 < N) {C : Type} (k0 : Int → Int → PP → Int → Int → List Int → List Int → List (List Int) → List Int → List Int → List (List Int) → Option C) (n : Nat) (hn0 : 1 ≤ n) (hn : n ≤ 5) (p : Nat) (hp : p < n) (x : PP) (a b : Int) (c d : List Int) (e : List (List Int)) (o s : List Int) :
    ∀ (F q : Nat) (R : List (List Int)), n - q < F → p ≤ q → q ≤ n → RInv n p q R → ∃ R' : List (List Int), RInv n p n R' ∧ g18L32402f N F k0 (n : Int) (p : Int) (q : Int) x a b c d e o s R = k0 (n : Int) (p : Int) x a b c d e o s R'
  | 0, q, R, h, _, _, _ => by omega
  | F + 1, q, R, h, hq, hqn, hR => by
    rw [g18L32402f_succ]
    unfold g18L32402B
    by_cases hlt : q < n
    · have e1 : decide ((q : Int) < (n : Int)) = true := by simp; omega
      have hc : R.length ≤ 100 := by
        have h1 := hR.few
        have h2 := cn_le n p
        have h3 : n * p ≤ 5 * 5 := Nat.mul_le_mul hn (by omega)
        omega
      rw [e1, cond_true, g18L2073746_eq]
      obtain ⟨R1, ha, he⟩ := tame_rule N (fun e21 e22 e23 e24 e25 e26 e27 e28 e29 e30 e31 e32 => g18L32402f N F k0 e21 e22 (IntKind.wrap .i64 (e23 + 1)) e24 e25 e26 e27 e28 e29 e30 e31 e32) n hn0 hn p q x a b c d e o s R hc N 0 (by omega) (by omega)
      obtain ⟨R2, hi, he2⟩ := tame_b N hN k0 n hn0 hn p hp x a b c d e o s F (q + 1) R1 (by omega) (by omega) (by omega) (hR.add hq hlt ha)
      refine ⟨R2, hi, ?_⟩
      simp only [Int.natCast_zero] at he
      refine he.trans ?_
      rw [wn q (by omega)]
      exact he2
    · have e1 : decide ((q : Int) < (n : Int)) = false := by simp; omega
      rw [e1, cond_false]
      obtain rfl : q = n := by omega
      exact ⟨R, hR, rfl⟩
theorem RInv.next {n a : Nat} {R : List (List Int)} (h : RInv n a n R) (ha : a < n) : RInv n (a + 1) (a + 1) R := by
  refine ⟨fun r hr => ?_, h.sorted, by have := h.few; simp only [cn]; omega⟩
  obtain ⟨h1, h2⟩ := h.ok r hr
  exact ⟨h1, .inl (by omega)⟩
theorem tame_a (N : Nat) (hN : 100 < N) {C : Type} (k0 : PP → Int → Int → List Int → List Int → List (List Int) → List Int → List Int → List (List Int) → Option C) (n : Nat) (hn0 : 1 ≤ n) (hn : n ≤ 5) (x : PP) (a b : Int) (c d : List Int) (e : List (List Int)) (o s : List Int) :
    ∀ (F p : Nat) (R : List (List Int)), n - p < F → p ≤ n → RInv n p p R → ∃ R' : List (List Int), RInv n n n R' ∧ g18L506f N F k0 (n : Int) (p : Int) x a b c d e o s R = k0 x a b c d e o s R'
  | 0, p, R, h, _, _ => by omega
  | F + 1, p, R, h, hp, hR => by
    rw [g18L506f_succ]
    unfold g18L506B
    by_cases hlt : p < n
    · have e1 : decide ((p : Int) < (n : Int)) = true := by simp; omega
      rw [e1, cond_true, g18L32402_eq]
      obtain ⟨R1, hi, he⟩ := tame_b N hN (fun e33 e34 e35 e36 e37 e38 e39 e40 e41 e42 e43 => g18L506f N F k0 e33 (IntKind.wrap .i64 (e34 + 1)) e35 e36 e37 e38 e39 e40 e41 e42 e43) n hn0 hn p hlt x a b c d e o s N p R (by omega) (by omega) (by omega) hR
      obtain ⟨R2, hi2, he2⟩ := tame_a N hN k0 n hn0 hn x a b c d e o s F (p + 1) R1 (by omega) (by omega) (hi.next hlt)
      refine ⟨R2, hi2, he.trans ?_⟩
      rw [wn p (by omega)]
      exact he2
    · have e1 : decide ((p : Int) < (n : Int)) = false := by simp; omega
      rw [e1, cond_false]
      obtain rfl : p = n := by omega
      exact ⟨R, hR, rfl⟩
theorem tame_eq (N : Nat) (hN : 100 < N) (x : PP) (most : Int) (h1 : 1 ≤ most) (h2 : most ≤ 5) : ∃ y : PP, g18 N x most = some y ∧ PT y ∧ y.1 ≤ most := by
  unfold g18
  rw [wu64n (x := most) (by omega) (by omega), if_neg (by omega)]
  obtain ⟨r, er, r1, r2⟩ := low x.1 (m := most) (by omega) (by omega)
  rw [er, w64 (x := 1 + r) (by omega) (by omega)]
  obtain ⟨n, hn⟩ : ∃ n : Nat, 1 + r = (n : Int) := ⟨(1 + r).toNat, by omega⟩
  rw [hn, g18L122_eq]
  have hn0 : 1 ≤ n := by omega
  have hn5 : n ≤ 5 := by omega
  obtain ⟨o, o1, o2, oe⟩ := tame_out N (fun e1 e2 e3 e4 e5 e6 e7 e8 e9 e10 => g18L250 N (fun e11 e12 e13 e14 e15 e16 e17 e18 e19 e20 => g18L506 N (fun e44 e45 e46 e47 e48 e49 e50 e51 e52 => some ((e46, e50, e51, e52, ()) : PP)) e11 0 e12 e13 e14 e15 e16 e17 e18 e19 e20) e1 0 e2 e3 e4 e5 e6 e7 e8 e9 e10)
    n hn5 x 0 (n : Int) [] [] [] [] [] N 0 [] (by omega) (by omega) rfl (fun t ht => by cases ht)
  simp only [Int.natCast_zero] at oe
  obtain ⟨s, s1, s2, s3, se⟩ := tame_start N (fun e11 e12 e13 e14 e15 e16 e17 e18 e19 e20 => g18L506 N (fun e44 e45 e46 e47 e48 e49 e50 e51 e52 => some ((e46, e50, e51, e52, ()) : PP)) e11 0 e12 e13 e14 e15 e16 e17 e18 e19 e20)
    n hn0 hn5 x 0 (n : Int) [] [] [] o [] N 0 [] (by omega) (by omega) rfl (fun t ht => by cases ht)
  simp only [Int.natCast_zero] at se
  obtain ⟨R, hR, re⟩ := tame_a N hN (fun e44 e45 e46 e47 e48 e49 e50 e51 e52 => some ((e46, e50, e51, e52, ()) : PP)) n hn0 hn5 x 0 (n : Int) [] [] [] o s N 0 [] (by omega) (by omega) ⟨fun r hr => (List.not_mem_nil hr).elim, List.Pairwise.nil, by simp⟩
  simp only [Int.natCast_zero] at re
  refine ⟨((n : Int), o, s, R, ()), ?_, ⟨⟨by simp; omega, by simp; omega⟩, ⟨by simp [o1], o2⟩, ⟨s1, s2, s3⟩, ?_, fun r hr => (hR.ok r hr).1, hR.sorted⟩, by simp; omega⟩
  · rw [oe, g18L250_eq, se, g18L506_eq, re]
  · have := hR.few
    have h15 : cn n n ≤ 15 := by
      have : n = 1 ∨ n = 2 ∨ n = 3 ∨ n = 4 ∨ n = 5 := by omega
      rcases this with rfl | rfl | rfl | rfl | rfl <;> decide
    simp only [Nat.sub_self, Nat.add_zero] at this
    exact Nat.le_trans this h15
end Go.Pv
namespace Go.Pv
theorem sum_nonneg : ∀ l : List Int, (∀ t ∈ l, 0 ≤ t) → 0 ≤ l.sum
  | [], _ => by simp
  | a :: l, h => by
    have h1 := h a (by simp)
    have h2 := sum_nonneg l (fun t ht => h t (by simp [ht]))
    simp only [List.sum_cons]; omega
theorem mem_le_sum : ∀ l : List Int, (∀ t ∈ l, 0 ≤ t) → ∀ t ∈ l, t ≤ l.sum
  | [], _, t, ht => by cases ht
  | a :: l, h, t, ht => by
    have h1 := h a (by simp)
    have h2 := sum_nonneg l (fun t ht => h t (by simp [ht]))
    simp only [List.sum_cons]
    rcases List.mem_cons.1 ht with rfl | ht
    · omega
    · have := mem_le_sum l (fun t ht => h t (by simp [ht])) t ht
      omega
theorem set_sum : ∀ (l : List Int) (i : Nat) (v : Int), i < l.length → (l.set i v).sum = l.sum - l.getD i 0 + v
  | [], i, v, h => by simp at h
  | a :: l, 0, v, h => by simp; omega
  | a :: l, i + 1, v, h => by
    have := set_sum l i v (by simpa using h)
    simp only [List.set_cons_succ, List.sum_cons, List.getD_cons_succ, this]; omega
structure Crowd (l : List Int) (n : Int) : Prop where
  len : (l.length : Int) = n
  pos : ∀ t ∈ l, 0 ≤ t
  sum : 1 ≤ l.sum ∧ l.sum ≤ 9
theorem Crowd.le {l : List Int} {n : Int} (h : Crowd l n) : ∀ t ∈ l, 0 ≤ t ∧ t ≤ 9 := fun t ht => by
  have := mem_le_sum l h.pos t ht
  have := h.pos t ht
  have := h.sum.2
  omega
theorem Crowd.b {l : List Int} {n : Int} (h : Crowd l n) : crowdB l n = true := by
  unfold crowdB
  simp only [Bool.and_eq_true, decide_eq_true_eq]
  refine ⟨h.len, ?_, h.sum⟩
  rw [List.all_eq_true]
  intro t ht
  have := h.le t ht
  simp; omega
theorem crowd_of_b {l : List Int} {n : Int} (h : crowdB l n = true) : Crowd l n := by
  unfold crowdB at h
  simp only [Bool.and_eq_true, decide_eq_true_eq] at h
  obtain ⟨h1, h2, h3⟩ := h
  rw [List.all_eq_true] at h2
  exact ⟨h1, fun t ht => by have := h2 t ht; simp at this; omega, h3⟩
theorem gathered_loop (N : Nat) {C : Type} (k0 : Int → Int → List Int → Option C) (l : List Int) (n : Nat) (hn : n ≤ 5) (most : Int) (hm : 0 ≤ most ∧ most ≤ 9) :
    ∀ (F i : Nat) (left : Int) (c : List Int), n - i < F → i ≤ n → c.length = i → (∀ t ∈ c, 0 ≤ t) → c.sum + left = most → 0 ≤ left → ∃ (left' : Int) (c' : List Int), c'.length = n ∧ (∀ t ∈ c', 0 ≤ t) ∧ c'.sum + left' = most ∧ 0 ≤ left' ∧ g24L122f N F k0 l (n : Int) most left (i : Int) c = k0 most left' c'
  | 0, i, left, c, h, _, _, _, _, _ => by omega
  | F + 1, i, left, c, h, hi, hc, hp, hs, hl => by
    rw [g24L122f_succ]
    unfold g24L122B
    have h0 := sum_nonneg c hp
    by_cases hlt : i < n
    · have e1 : decide ((i : Int) < (n : Int)) = true := by simp; omega
      rw [e1, cond_true, wn i (by omega)]
      have hmax : ∀ v : Int, c.length + [v].length ≤ maxCount := fun v => by simp [maxCount]; omega
      have hmax0 : c.length + List.length ([0] : List Nat) ≤ maxCount := by simp [maxCount]; omega
      have add : ∀ v : Int, 0 ≤ v → v ≤ left → _ := fun v h1 h2 => gathered_loop N k0 l n hn most hm F (i + 1) (left - v) (c ++ [v]) (by omega) (by omega) (by simp [hc]) (fun t ht => by
          rcases List.mem_append.1 ht with ht | ht
          · exact hp t ht
          · obtain rfl := List.mem_singleton.1 ht; exact h1) (by simp; omega) (by omega)
      by_cases h2 : i < l.length
      · have e2 : decide ((i : Int) < (l.length : Int)) = true := by simp; omega
        obtain ⟨v, ev, v1, v2⟩ := low (l.getD i 0) (m := left + 1) (by omega) (by omega)
        rw [e2, cond_true, if_pos ⟨by omega, by omega⟩, w64 (x := left + 1) (by omega) (by omega), wu64n (x := left + 1) (by omega) (by omega), if_neg (by omega), Int.toNat_natCast, ev, if_pos (hmax v), w64 (x := left - v) (by omega) (by omega)]
        exact add v v1 (by omega)
      · have e2 : decide ((i : Int) < (l.length : Int)) = false := by simp; omega
        rw [e2, cond_false, if_pos hmax0, w64 (x := left - 0) (by omega) (by omega)]
        exact add 0 (by omega) (by omega)
    · have e1 : decide ((i : Int) < (n : Int)) = false := by simp; omega
      rw [e1, cond_false]
      exact ⟨left, c, by omega, hp, hs, hl, rfl⟩
theorem gathered_eq (N : Nat) (hN : 100 < N) (l : List Int) (n : Int) (h1 : 1 ≤ n) (h2 : n ≤ 5) (most : Int) (hm : 1 ≤ most) (hm2 : most ≤ 9) : ∃ c, g24 N l n most = some c ∧ Crowd c n ∧ c.sum ≤ most := by
  obtain ⟨m, rfl⟩ : ∃ m : Nat, n = (m : Int) := ⟨n.toNat, by omega⟩
  unfold g24
  rw [g24L122_eq]
  obtain ⟨left, c, c1, c2, c3, c4, c5⟩ := gathered_loop N (fun e1 e2 e3 => bif (ieq e2 e1) then if idx 0 (List.length e3) then if (Int.toNat 0) < List.length e3 then some (List.set e3 (Int.toNat 0) 1) else none else none else some e3) l m (by omega) most ⟨by omega, by omega⟩ N 0 most [] (by omega) (by omega) rfl (fun t ht => by cases ht) (by simp) (by omega)
  simp only [Int.natCast_zero] at c5
  rw [c5]
  have h0 := sum_nonneg c c2
  by_cases he : left = most
  · have e1 : ieq left most = true := by simp [ieq, he]
    have hc : 0 < c.length := by omega
    rw [e1, cond_true, if_pos ⟨by omega, by omega⟩, if_pos (by simpa using hc)]
    have hg := mem_le_sum c c2 _ (getD_mem hc 0)
    have hg2 := c2 _ (getD_mem hc 0)
    have hs := set_sum c 0 1 hc
    refine ⟨_, rfl, ⟨by simp [c1], fun t ht => ?_, ?_⟩, ?_⟩
    · rcases List.mem_or_eq_of_mem_set ht with ht | rfl
      · exact c2 t ht
      · omega
    · simp only [show Int.toNat 0 = 0 from rfl]; rw [hs]; omega
    · simp only [show Int.toNat 0 = 0 from rfl]; rw [hs]; omega
  · have e1 : ieq left most = false := by simp [ieq, he]
    rw [e1, cond_false]
    exact ⟨_, rfl, ⟨by omega, c2, by omega⟩, by omega⟩
end Go.Pv
namespace Go.Pv
noncomputable def goodB (o : Option (PP × Int × Unit)) (q : QQ) (k : List Int) : Bool :=
  match o with
  | some r => ieq r.2.1 0 && (match g48 2000 r.1 with
    | some x => (match g57 2000 x with | some b => b | none => false) && (ieq ((r.1.2.2.1.length : Nat) : Int) 1 && (match g53 2000 x q k with | some b => b | none => false))
    | none => false)
  | none => false
theorem good_ok {o : Option (PP × Int × Unit)} {q : QQ} {k : List Int} (h : goodB o q k = true) : ∃ r x, o = some r ∧ ieq r.2.1 0 = true ∧ g48 2000 r.1 = some x ∧ g57 2000 x = some true ∧ ieq ((r.1.2.2.1.length : Nat) : Int) 1 = true ∧ g53 2000 x q k = some true := by
  unfold goodB at h
  cases ho : o with
  | none => rw [ho] at h; cases h
  | some r =>
    rw [ho] at h
    simp only [Bool.and_eq_true] at h
    obtain ⟨h1, h2⟩ := h
    cases hx : g48 2000 r.1 with
    | none => rw [hx] at h2; cases h2
    | some x =>
      rw [hx] at h2
      simp only [Bool.and_eq_true] at h2
      obtain ⟨h3, h4, h5⟩ := h2
      refine ⟨r, x, rfl, h1, hx, ?_, h4, ?_⟩
      · cases h6 : g57 2000 x with
        | none => rw [h6] at h3; cases h3
        | some b => rw [h6] at h3; exact congrArg some h3
      · cases h6 : g53 2000 x q k with
        | none => rw [h6] at h5; cases h5
        | some b => rw [h6] at h5; exact congrArg some h5
def ks9 : List Int := [1, 2, 3, 4, 5, 6, 7, 8, 9]
def ks8 : List Int := [1, 2, 3, 4, 5, 6, 7, 8]
theorem mem8 {k : Int} (h1 : 1 ≤ k) (h2 : k ≤ 8) : k ∈ ks8 := by simp [ks8]; omega
noncomputable def atB (a : Int) : Bool := ks8.all fun k => goodB (g56 2000 a) ([1], a, 0, ()) [k]
noncomputable def atC (a : Int) : Bool := goodB (g56 2000 a) ([1], a, 0, ()) [9]
noncomputable def leB (m r : Int) : Bool := ks8.all fun k => goodB (g58 2000 m r) ([1], r, m, ()) [k]
noncomputable def leC (m r : Int) : Bool := goodB (g58 2000 m r) ([1], r, m, ()) [9]
noncomputable def majP : PP := (g47 2000).getD (0, [], [], [], ())
theorem maj_eq : g47 2000 = some majP := rfl
theorem maj_own : g48 2000 majP = some majP := by kernel_rfl
theorem maj_check : g57 2000 majP = some true := by kernel_rfl
theorem maj_start : ieq ((List.length majP.2.2.1 : Nat) : Int) 2 = true := by kernel_rfl
def ks10 : List Int := [0, 1, 2, 3, 4, 5, 6, 7, 8, 9]
theorem mem10 {k : Int} (h1 : 0 ≤ k) (h2 : k ≤ 9) : k ∈ ks10 := by simp [ks10]; omega
noncomputable def majB (p : Int) : Bool := ks10.all fun q => (!(decide (1 ≤ p + q) && decide (p + q ≤ 9))) || (match g53 2000 majP ([1, -1], 1, 0, ()) [p, q] with | some b => b | none => false)
end Go.Pv
