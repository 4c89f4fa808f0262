/- Plain texts, merged: QaA, QaB, QaC, QaD, QaM, QaAw, QaMeets. -/
import Derived.Test.YtldhdlohhiphjaaPvL06
/- Seat 06, plain: lists in ranges, sums, copies, the question. -/
set_option linter.unusedVariables false
set_option linter.unusedSimpArgs false
namespace Go.Pv

abbrev PP := Int × List Int × List Int × List (List Int) × Unit
abbrev QQ := List Int × Int × Int × Unit

theorem w64 {x : Int} (h1 : -9223372036854775808 ≤ x) (h2 : x < 9223372036854775808) : IntKind.wrap .i64 x = x := by rw [IntKind.wrap_i64]; omega
theorem wu64 (x : Int) : IntKind.wrap .u64 x = x % 18446744073709551616 := by simp only [IntKind.wrap, IntKind.signed, IntKind.bits]; simp
theorem wu64n {x : Int} (h1 : 0 ≤ x) (h2 : x < 18446744073709551616) : IntKind.wrap .u64 x = x := by rw [wu64]; omega
theorem wn (i : Nat) (h : i < 1000000) : IntKind.wrap .i64 ((i : Int) + 1) = ((i + 1 : Nat) : Int) := by rw [w64 (by omega) (by omega)]; simp
@[simp] theorem ieq_self (x : Int) : ieq x x = true := by simp only [ieq, decide_true]

/-- A number brought below another one. -/
theorem low (x : Int) {m : Int} (hm : 0 < m) (hm2 : m < 1000000) : ∃ r : Int, IntKind.wrap .i64 (Int.tmod (IntKind.wrap .u64 x) m) = r ∧ 0 ≤ r ∧ r < m := by
  refine ⟨(x % 18446744073709551616) % m, ?_, Int.emod_nonneg _ (by omega), Int.emod_lt_of_pos _ hm⟩
  rw [wu64, Int.tmod_eq_emod_of_nonneg (Int.emod_nonneg _ (by decide))]
  have h1 := Int.emod_nonneg (x % 18446744073709551616) (show m ≠ 0 by omega)
  have h2 := Int.emod_lt_of_pos (x % 18446744073709551616) hm
  exact w64 (by omega) (by omega)

theorem getD_mem {α : Type} {l : List α} {i : Nat} (h : i < l.length) (d : α) : l.getD i d ∈ l := by
  rw [List.getD_eq_getElem?_getD, List.getElem?_eq_getElem h]; simp
theorem getD_drop (l : List Int) (i : Nat) (h : i < l.length) : l.drop i = l.getD i 0 :: l.drop (i + 1) := by
  rw [List.drop_eq_getElem_cons h]; simp [h]
theorem take_getD {α : Type} (l : List α) (i : Nat) (d : α) (h : i < l.length) : l.take i ++ [l.getD i d] = l.take (i + 1) := by
  rw [List.take_add_one]; simp [h]

/-! ### Numbers in a range -/
theorem any_loop (N : Nat) {C : Type} (k0 : Int → Option C) (k1 : Option C) (l : List Int) (f : (Int × Unit) → Option Bool) (p : Int → Bool) (hf : ∀ x, f (x, ()) = some (p x)) (hl : l.length < 4611686018427387904) :
    ∀ (F i : Nat), l.length - i < F → i ≤ l.length → ((l.drop i).any p = true ∧ ∃ j : Nat, g90L26f N F k0 k1 l f (l.length : Int) (i : Int) = k0 j) ∨ ((l.drop i).any p = false ∧ g90L26f N F k0 k1 l f (l.length : Int) (i : Int) = k1)
  | 0, i, h, _ => by omega
  | F + 1, i, h, hi => by
    rw [g90L26f_succ]
    unfold g90L26B
    by_cases hlt : i < l.length
    · have e1 : decide ((i : Int) < (l.length : Int)) = true := by simp; omega
      have e2 : idx (i : Int) l.length := ⟨by omega, by omega⟩
      rw [e1, cond_true, if_pos e2, Int.toNat_natCast, hf]
      simp only [Option.bind_some]
      rw [getD_drop l i hlt, List.any_cons]
      cases hp : p (l.getD i 0) with
      | true => exact .inl ⟨by simp, i, rfl⟩
      | false =>
        simp only [cond_false, Bool.false_or]
        have e3 : IntKind.wrap .i64 ((i : Int) + 1) = ((i + 1 : Nat) : Int) := by rw [w64 (by omega) (by omega)]; simp
        rw [e3]
        exact any_loop N k0 k1 l f p hf hl F (i + 1) (by omega) (by omega)
    · have e1 : decide ((i : Int) < (l.length : Int)) = false := by simp; omega
      rw [e1, cond_false, List.drop_eq_nil_of_le (by omega)]
      exact .inr ⟨rfl, rfl⟩

theorem are_eq (N : Nat) (lo hi : Int) (l : List Int) (hN : l.length < N) (hl : l.length < 4611686018427387904) : g60 N lo hi l = some (l.all fun x => decide (lo ≤ x) && decide (x ≤ hi)) := by
  unfold g60 g86 g90
  rw [g90L26_eq]
  have := any_loop N (fun e2 => some e2) (some (-1)) l (fun (x1 : (Int) × (Unit)) => Option.bind (g87 N x1.1 lo hi) fun y2 => some y2) (fun x => decide (x < lo) || decide (hi < x))
    (fun x => by
      simp only [g87]
      cases h : decide (x < lo) <;> simp) hl N 0 (by omega) (by omega)
  simp only [Int.natCast_zero, List.drop_zero] at this
  have hx : (l.all fun x => decide (lo ≤ x) && decide (x ≤ hi)) = !(l.any fun x => decide (x < lo) || decide (hi < x)) := by
    rw [List.not_any_eq_all_not]
    congr 1
    funext x
    by_cases h1 : x < lo <;> by_cases h2 : hi < x <;> simp [h1, h2] <;> omega
  rcases this with ⟨h1, j, h2⟩ | ⟨h1, h2⟩
  · rw [h2, hx, h1]
    simp
  · rw [h2, hx, h1]
    simp

theorem few_eq (N : Nat) (l : List Int) (k : Int) (h0 : 0 ≤ k) (hk : k ≤ 1000) : g17 N l k = some (l.take k.toNat) := by
  unfold g17
  have e : imin (l.length : Int) k = ((min l.length k.toNat : Nat) : Int) := by simp only [imin]; split <;> omega
  rw [e, if_pos ⟨by omega, by omega, by omega⟩]
  have : List.take (min l.length k.toNat) l = l.take k.toNat := by
    rcases Nat.le_total l.length k.toNat with h | h
    · rw [Nat.min_eq_left h, List.take_of_length_le h, List.take_length]
    · rw [Nat.min_eq_right h]
  simp [this, maxCount]
  omega

/-! ### Sums -/
theorem sum88_loop (N : Nat) {C : Type} (k0 : Int → Option C) (l : List Int) (hl : l.length ≤ 100) (hb : ∀ x ∈ l, -1000000 ≤ x ∧ x ≤ 1000000) :
    ∀ (F i : Nat) (s : Int), l.length - i < F → i ≤ l.length → -1000000 * (i : Int) ≤ s → s ≤ 1000000 * (i : Int) → g88L58f N F k0 s l (l.length : Int) (i : Int) = k0 (s + (l.drop i).sum)
  | 0, i, s, h, _, _, _ => by omega
  | F + 1, i, s, h, hi, h1, h2 => by
    rw [g88L58f_succ]
    unfold g88L58B
    by_cases hlt : i < l.length
    · have e1 : decide ((i : Int) < (l.length : Int)) = true := by simp; omega
      have e2 : idx (i : Int) l.length := ⟨by omega, by omega⟩
      obtain ⟨b1, b2⟩ := hb _ (getD_mem hlt 0)
      rw [e1, cond_true, if_pos e2, Int.toNat_natCast, wn i (by omega), w64 (by omega) (by omega)]
      dsimp only
      rw [sum88_loop N k0 l hl hb F (i + 1) (s + l.getD i 0) (by omega) (by omega) (by omega) (by omega), getD_drop l i hlt, List.sum_cons]
      congr 1; omega
    · have e1 : decide ((i : Int) < (l.length : Int)) = false := by simp; omega
      rw [e1, cond_false, List.drop_eq_nil_of_le (by omega)]; simp
theorem sum88 (N : Nat) (l : List Int) (hl : l.length ≤ 100) (hN : 100 < N) (hb : ∀ x ∈ l, -1000000 ≤ x ∧ x ≤ 1000000) : g88 N l = some l.sum := by
  unfold g88
  rw [g88L58_eq]
  have := sum88_loop N (fun e1 => some e1) l hl hb N 0 0 (by omega) (by omega) (by omega) (by omega)
  simp only [Int.natCast_zero, List.drop_zero, Int.zero_add] at this
  exact this
/-! ### Crowds and questions -/
/-- Whether a list is one of kinds, or a crowd. -/
def crowdB (l : List Int) (many : Int) : Bool := decide ((l.length : Int) = many) && ((l.all fun x => decide (0 ≤ x) && decide (x ≤ 9)) && (decide (1 ≤ l.sum) && decide (l.sum ≤ 9)))

theorem isCrowd_eq (N : Nat) (l : List Int) (many : Int) (hl : l.length ≤ 100) (hN : 100 < N) : g62 N l many = some (crowdB l many) := by
  unfold g62 crowdB
  rw [are_eq N 0 9 l (by omega) (by omega)]
  by_cases h1 : (l.length : Int) = many
  · simp only [ieq, h1, decide_true, cond_true, Option.bind_some, Bool.true_and]
    cases h2 : l.all fun x => decide (0 ≤ x) && decide (x ≤ 9) with
    | false => rfl
    | true =>
      rw [List.all_eq_true] at h2
      have hb : ∀ x ∈ l, -1000000 ≤ x ∧ x ≤ 1000000 := fun x hx => by
        have := h2 x hx
        simp only [Bool.and_eq_true, decide_eq_true_eq] at this
        omega
      rw [cond_true, sum88 N l hl hN hb]
      simp only [Option.bind_some]
      rw [are_eq N 1 9 _ (by simp; omega) (by simp)]
      simp
  · simp [ieq, h1]

theorem ints_loop (N : Nat) {C : Type} (k0 : Bool → Option C) (k1 : Option C) (c : List Int) (hc : c.length ≤ 100) :
    ∀ (F i : Nat), c.length - i < F → i ≤ c.length → g27L58f N F k0 k1 c c (i : Int) = k1
  | 0, i, h, _ => by omega
  | F + 1, i, h, hi => by
    rw [g27L58f_succ]
    unfold g27L58B
    by_cases hlt : i < c.length
    · have e1 : decide ((i : Int) < (c.length : Int)) = true := by simp; omega
      have q : idx (i : Int) c.length := ⟨by omega, by omega⟩
      rw [e1, cond_true, if_pos q, if_pos q, ieq_self, Bool.not_true, cond_false, wn i (by omega)]
      exact ints_loop N k0 k1 c hc F (i + 1) (by omega) (by omega)
    · have e1 : decide ((i : Int) < (c.length : Int)) = false := by simp; omega
      rw [e1, cond_false]
theorem ints_self (N : Nat) (hN : 100 < N) (c : List Int) (hc : c.length ≤ 100) : g27 N c c = some true := by
  unfold g27
  rw [ieq_self, Bool.not_true, cond_false, g27L58_eq]
  have := ints_loop N (fun e1 => some e1) (some true) c hc N 0 (by omega) (by omega)
  simpa using this
end Go.Pv

/- Seat 06, plain: protocols as they should be pass the check; copies of them; what is gathered. -/
set_option linter.unusedVariables false
set_option linter.unusedSimpArgs false
namespace Go.Pv

/-- A rule comes before another one. -/
def RLt (r s : List Int) : Prop := r.getD 0 0 < s.getD 0 0 ∨ r.getD 0 0 = s.getD 0 0 ∧ r.getD 1 0 < s.getD 1 0
/-- A rule among so many states. -/
def RuleOk (n : Int) (r : List Int) : Prop := r.length = 4 ∧ (∀ t ∈ r, 0 ≤ t ∧ t < n) ∧ r.getD 0 0 ≤ r.getD 1 0
/-- A protocol as it should be. -/
structure PT (x : PP) : Prop where
  n : 1 ≤ x.1 ∧ x.1 ≤ 5
  out : (x.2.1.length : Int) = x.1 ∧ ∀ o ∈ x.2.1, 0 ≤ o ∧ o ≤ 1
  start : 1 ≤ x.2.2.1.length ∧ x.2.2.1.length ≤ 2 ∧ ∀ s ∈ x.2.2.1, 0 ≤ s ∧ s < x.1
  rules : x.2.2.2.1.length ≤ 15 ∧ (∀ r ∈ x.2.2.2.1, RuleOk x.1 r) ∧ x.2.2.2.1.Pairwise RLt

theorem cmp97 (N : Nat) (a b : Int) : g97 N a b = some (if a < b then -1 else if b < a then 1 else 0) := by
  have h99 : ∀ x : Int, g99 N x = some false := fun x => by simp [g99]
  unfold g97
  rw [h99, h99]
  simp only [Option.bind_some, cond_false]
  by_cases h : a < b
  · simp [h]
  · by_cases h2 : b < a <;> simp [h, h2]

theorem compare_lt (N : Nat) (hN : 5 < N) (a b c d : Int) (h : a < c ∨ a = c ∧ b < d) : g85 N [a, b] [c, d] = some (-1) := by
  unfold g85
  rw [g85L26_eq]
  obtain ⟨M, rfl⟩ : ∃ M, N = M + 3 := ⟨N - 3, by omega⟩
  rw [show M + 3 = (M + 2) + 1 from rfl, g85L26f_succ]
  unfold g85L26B
  have q0 : idx (0 : Int) 2 := by decide
  have q1 : idx (1 : Int) 2 := by decide
  rcases h with h | ⟨rfl, h⟩
  · simp [cmp97, h, idx, ieq]
  · have hab : ¬ (a < a) := by omega
    have e1 : IntKind.wrap .i64 1 = 1 := by decide
    simp [cmp97, idx, ieq, hab, e1]
    rw [show M + 2 = (M + 1) + 1 from rfl, g85L26f_succ]
    unfold g85L26B
    simp [cmp97, idx, ieq, h, e1]

theorem PT.check_loop {x : PP} (h : PT x) (N : Nat) (hN : 20 < N) {C : Type} (k0 : Int → PP → Option C) (k1 : PP → Option C) :
    ∀ (F i : Nat), x.2.2.2.1.length - i < F → i ≤ x.2.2.2.1.length → g59L122f N F k0 k1 x.1 x.2.2.2.1 (x.2.2.2.1.length : Int) (i : Int) x = k1 x
  | 0, i, hF, _ => by omega
  | F + 1, i, hF, hi => by
    rw [g59L122f_succ]
    unfold g59L122B
    obtain ⟨hn1, hn2⟩ := h.n
    obtain ⟨hr1, hr2, hr3⟩ := h.rules
    by_cases hlt : i < x.2.2.2.1.length
    · have e1 : decide ((i : Int) < (x.2.2.2.1.length : Int)) = true := by simp; omega
      have e2 : idx (i : Int) x.2.2.2.1.length := ⟨by omega, by omega⟩
      obtain ⟨r1, r2, r3⟩ := hr2 _ (getD_mem hlt (List.replicate 4 0))
      have ih := h.check_loop N hN k0 k1 F (i + 1) (by omega) (by omega)
      have hprev : 0 < i → RLt (x.2.2.2.1.getD (i - 1) (List.replicate 4 0)) (x.2.2.2.1.getD i (List.replicate 4 0)) := fun hp => by
        have := List.pairwise_iff_getElem.1 hr3 (i - 1) i (by omega) hlt (by omega)
        rw [List.getD_eq_getElem?_getD, List.getD_eq_getElem?_getD, List.getElem?_eq_getElem (show i - 1 < _ by omega), List.getElem?_eq_getElem hlt]
        exact this
      have hprev2 : 0 < i → RuleOk x.1 (x.2.2.2.1.getD (i - 1) (List.replicate 4 0)) := fun hp => hr2 _ (getD_mem (by omega) _)
      rw [e1, cond_true, if_pos e2, if_pos (by decide), Int.toNat_natCast]
      generalize hq : x.2.2.2.1.getD i (List.replicate 4 0) = q at r1 r2 r3 hprev
      match q, r1 with
      | [a, b, c, d], _ =>
        have e5 : g60 N 0 (IntKind.wrap .i64 (x.1 - 1)) [a, b, c, d] = some true := by
          rw [are_eq N _ _ _ (by simp; omega) (by simp), w64 (by omega) (by omega)]
          congr 1
          rw [List.all_eq_true]
          intro t ht
          obtain ⟨a1, a2⟩ := r2 t ht
          simp; omega
        have e6 : decide (b < a) = false := by simp at r3; simp; omega
        rw [if_pos (by decide), if_pos (by decide)]
        simp only [show Int.toNat 4 = 4 from rfl, show Int.toNat 0 = 0 from rfl, show Int.toNat 1 = 1 from rfl, List.take, List.drop, e5, Option.bind_some, Bool.not_true, cond_false, List.getD_cons_zero, List.getD_cons_succ, e6]
        by_cases hp : 0 < i
        · have e7 : decide ((0 : Int) < (i : Int)) = true := by simp; omega
          have e8 : IntKind.wrap .i64 ((i : Int) - 1) = ((i - 1 : Nat) : Int) := by rw [w64 (by omega) (by omega)]; omega
          have e9 : idx ((i - 1 : Nat) : Int) x.2.2.2.1.length := ⟨by omega, by omega⟩
          rw [e7, cond_true, e8, if_pos e9, if_pos (by decide), if_pos (by decide), Int.toNat_natCast]
          have hx := hprev hp
          obtain ⟨p1, p2, p3⟩ := hprev2 hp
          generalize hq2 : x.2.2.2.1.getD (i - 1) (List.replicate 4 0) = q2 at p1 p2 p3 hx
          match q2, p1 with
          | [a', b', c', d'], _ =>
            simp only [RLt, List.getD_cons_zero, List.getD_cons_succ] at hx
            simp only [show Int.toNat 2 = 2 from rfl, List.take, List.drop]
            rw [compare_lt N (by omega) a' b' a b hx]
            simp only [Option.bind_some]
            rw [show decide ((0 : Int) ≤ -1) = false from rfl, cond_false, wn i (by omega)]
            exact ih
        · have e7 : decide ((0 : Int) < (i : Int)) = false := by simp; omega
          rw [e7, cond_false, wn i (by omega)]
          exact ih
    · have e1 : decide ((i : Int) < (x.2.2.2.1.length : Int)) = false := by simp; omega
      rw [e1, cond_false]

theorem PT.check {x : PP} (h : PT x) (N : Nat) (hN : 20 < N) : g59 N x = some 0 := by
  obtain ⟨hn1, hn2⟩ := h.n
  obtain ⟨ho1, ho2⟩ := h.out
  obtain ⟨hs1, hs2, hs3⟩ := h.start
  obtain ⟨hr1, hr2, hr3⟩ := h.rules
  unfold g59
  have e1 : g60 N 1 5 [x.1] = some true := by
    rw [are_eq N _ _ _ (by simp; omega) (by simp)]; simp; omega
  have e2 : ieq ((List.length x.2.1 : Nat) : Int) x.1 = true := by simp only [ieq, decide_eq_true_eq]; exact ho1
  have e3 : g60 N 0 1 x.2.1 = some true := by
    rw [are_eq N _ _ _ (by omega) (by omega)]
    congr 1
    rw [List.all_eq_true]
    intro t ht
    have := ho2 t ht
    simp; omega
  have e4 : g60 N 1 2 [((List.length x.2.2.1 : Nat) : Int)] = some true := by
    rw [are_eq N _ _ _ (by simp; omega) (by simp)]; simp; omega
  have e5 : g60 N 0 (IntKind.wrap .i64 (x.1 - 1)) x.2.2.1 = some true := by
    rw [are_eq N _ _ _ (by omega) (by omega), w64 (by omega) (by omega)]
    congr 1
    rw [List.all_eq_true]
    intro t ht
    have := hs3 t ht
    simp; omega
  have e6 : decide ((15 : Int) < ((List.length x.2.2.2.1 : Nat) : Int)) = false := by simp; omega
  rw [e1, e2, e3, e4, e5, e6]
  simp only [Option.bind_some, Bool.not_true, cond_false]
  rw [g59L122_eq]
  have := h.check_loop N hN (fun e7 e8 => some e7) (fun e9 => some (0 : Int)) N 0 (by omega) (by omega)
  simp only [Int.natCast_zero] at this
  exact this

theorem PT.given {x : PP} (h : PT x) (N : Nat) : g26 N x = some x := by
  unfold g26
  obtain ⟨hn1, hn2⟩ := h.n
  obtain ⟨ho1, ho2⟩ := h.out
  obtain ⟨hs1, hs2, hs3⟩ := h.start
  rw [few_eq N _ 6 (by omega) (by omega), few_eq N _ 3 (by omega) (by omega)]
  simp only [Option.bind_some, show Int.toNat 6 = 6 from rfl, show Int.toNat 3 = 3 from rfl]
  rw [List.take_of_length_le (by omega), List.take_of_length_le (by omega)]
  have := h.rules.1
  simp [maxCount]; omega
end Go.Pv

/- Seat 06, plain: what is made of any data is a protocol; what is gathered is a crowd. -/
set_option linter.unusedVariables false
set_option linter.unusedSimpArgs false
namespace Go.Pv

theorem tame_out (N : Nat) {C : Type} (k0 : Int → PP → Int → Int → List Int → List Int → List (List Int) → List Int → List Int → List (List Int) → Option C) (n : Nat) (hn : n ≤ 5) (x : PP) (a b : Int) (c d : List Int) (e : List (List Int)) (s : List Int) (r : List (List Int)) :
    ∀ (F i : Nat) (o : List Int), n - i < F → i ≤ n → o.length = i → (∀ t ∈ o, 0 ≤ t ∧ t ≤ 1) → ∃ o' : List Int, o'.length = n ∧ (∀ t ∈ o', 0 ≤ t ∧ t ≤ 1) ∧ g18L122f N F k0 (n : Int) (i : Int) x a b c d e o s r = k0 (n : Int) x a b c d e o' s r
  | 0, i, o, h, _, _, _ => by omega
  | F + 1, i, o, h, hi, ho, hb => by
    rw [g18L122f_succ]
    unfold g18L122B
    by_cases hlt : i < n
    · have e1 : decide ((i : Int) < (n : Int)) = true := by simp; omega
      have add : ∀ v : Int, 0 ≤ v → v ≤ 1 → ∃ o' : List Int, o'.length = n ∧ (∀ t ∈ o', 0 ≤ t ∧ t ≤ 1) ∧ g18L122f N F k0 (n : Int) ((i + 1 : Nat) : Int) x a b c d e (o ++ [v]) s r = k0 (n : Int) x a b c d e o' s r := fun v h1 h2 =>
        tame_out N k0 n hn x a b c d e s r F (i + 1) (o ++ [v]) (by omega) (by omega) (by simp [ho]) (fun t ht => by
          rcases List.mem_append.1 ht with ht | ht
          · exact hb t ht
          · obtain rfl := List.mem_singleton.1 ht; exact ⟨h1, h2⟩)
      rw [e1, cond_true, wn i (by omega)]
      have hmax : ∀ v : Int, o.length + [v].length ≤ maxCount := fun v => by simp [maxCount]; omega
      have hmax0 : o.length + List.length ([0] : List Nat) ≤ maxCount := by simp [maxCount]; omega
      by_cases h2 : i < x.2.1.length
      · have e2 : decide ((i : Int) < (x.2.1.length : Int)) = true := by simp; omega
        obtain ⟨v, ev, v1, v2⟩ := low (x.2.1.getD i 0) (m := 2) (by omega) (by omega)
        rw [e2, cond_true, if_pos ⟨by omega, by omega⟩, Int.toNat_natCast, ev, if_pos (hmax v)]
        exact add v v1 (by omega)
      · have e2 : decide ((i : Int) < (x.2.1.length : Int)) = false := by simp; omega
        rw [e2, cond_false, if_pos hmax0]
        exact add 0 (by omega) (by omega)
    · have e1 : decide ((i : Int) < (n : Int)) = false := by simp; omega
      rw [e1, cond_false]
      exact ⟨o, by omega, hb, rfl⟩

theorem tame_start (N : Nat) {C : Type} (k0 : Int → PP → Int → Int → List Int → List Int → List (List Int) → List Int → List Int → List (List Int) → Option C) (n : Nat) (hn0 : 1 ≤ n) (hn : n ≤ 5) (x : PP) (a b : Int) (c d : List Int) (e : List (List Int)) (o : List Int) (r : List (List Int)) :
    ∀ (F i : Nat) (s : List Int), 2 - i < F → i ≤ 2 → s.length = i → (∀ t ∈ s, 0 ≤ t ∧ t < (n : Int)) → ∃ s' : List Int, 1 ≤ s'.length ∧ s'.length ≤ 2 ∧ (∀ t ∈ s', 0 ≤ t ∧ t < (n : Int)) ∧ g18L250f N F k0 (n : Int) (i : Int) x a b c d e o s r = k0 (n : Int) x a b c d e o s' r
  | 0, i, o, h, _, _, _ => by omega
  | F + 1, i, s, h, hi, ho, hb => by
    rw [g18L250f_succ]
    unfold g18L250B
    have add : i < 2 → ∀ v : Int, 0 ≤ v → v < (n : Int) → ∃ s' : List Int, 1 ≤ s'.length ∧ s'.length ≤ 2 ∧ (∀ t ∈ s', 0 ≤ t ∧ t < (n : Int)) ∧ g18L250f N F k0 (n : Int) ((i + 1 : Nat) : Int) x a b c d e o (s ++ [v]) r = k0 (n : Int) x a b c d e o s' r := fun hi2 v h1 h2 =>
        tame_start N k0 n hn0 hn x a b c d e o r F (i + 1) (s ++ [v]) (by omega) (by omega) (by simp [ho]) (fun t ht => by
          rcases List.mem_append.1 ht with ht | ht
          · exact hb t ht
          · obtain rfl := List.mem_singleton.1 ht; exact ⟨h1, h2⟩)
    have hmax : ∀ v : Int, s.length + [v].length ≤ maxCount := fun v => by simp [maxCount]; omega
    have hmax0 : s.length + List.length ([0] : List Nat) ≤ maxCount := by simp [maxCount]; omega
    have hw : IntKind.wrap .u64 (n : Int) = (n : Int) := wu64n (by omega) (by omega)
    have hz : ¬ ((n : Int) = 0) := by omega
    obtain ⟨v, ev, v1, v2⟩ := low (x.2.2.1.getD i 0) (m := (n : Int)) (by omega) (by omega)
    rw [wn i (by omega), hw]
    by_cases h1 : i < 1
    · have e1 : decide ((i : Int) < 1) = true := by simp; omega
      rw [e1, cond_true]
      by_cases h2 : i < x.2.2.1.length
      · have e2 : decide ((i : Int) < (x.2.2.1.length : Int)) = true := by simp; omega
        rw [e2, cond_true, if_pos ⟨by omega, by omega⟩, if_neg hz, Int.toNat_natCast, ev, if_pos (hmax v)]
        exact add (by omega) v v1 v2
      · have e2 : decide ((i : Int) < (x.2.2.1.length : Int)) = false := by simp; omega
        rw [e2, cond_false, if_pos hmax0]
        exact add (by omega) 0 (by omega) (by omega)
    · have e1 : decide ((i : Int) < 1) = false := by simp; omega
      rw [e1, cond_false]
      by_cases h2 : i < x.2.2.1.length
      · have e2 : decide ((i : Int) < (x.2.2.1.length : Int)) = true := by simp; omega
        rw [e2, cond_true]
        by_cases h3 : i < 2
        · have e3 : decide ((i : Int) < 2) = true := by simp; omega
          rw [e3, cond_true, cond_true, if_pos ⟨by omega, by omega⟩, if_neg hz, Int.toNat_natCast, ev, if_pos (hmax v)]
          exact add (by omega) v v1 v2
        · have e3 : decide ((i : Int) < 2) = false := by simp; omega
          rw [e3, cond_false]
          exact ⟨s, by omega, by omega, hb, rfl⟩
      · have e2 : decide ((i : Int) < (x.2.2.1.length : Int)) = false := by simp; omega
        rw [e2, cond_false]
        exact ⟨s, by omega, by omega, hb, rfl⟩

/-- A rule for a, b that may have been added. -/
def AddR (n : Nat) (a b : Nat) (R R' : List (List Int)) : Prop := R' = R ∨ ∃ c d : Int, 0 ≤ c ∧ c < (n : Int) ∧ 0 ≤ d ∧ d < (n : Int) ∧ R' = R ++ [[(a : Int), (b : Int), c, d]]

theorem tame_rule (N : Nat) {C : Type} (k0 : Int → Int → Int → PP → Int → Int → List Int → List Int → List (List Int) → List Int → List Int → List (List Int) → Option C) (n : Nat) (hn0 : 1 ≤ n) (hn : n ≤ 5) (p q : Nat) (x : PP) (a b : Int) (c d : List Int) (e : List (List Int)) (o s : List Int) (R : List (List Int)) (hR : R.length ≤ 100) :
    ∀ (F i : Nat), 41 - i < F → i ≤ 40 → ∃ R' : List (List Int), AddR n p q R R' ∧ g18L2073746f N F k0 (n : Int) (p : Int) (q : Int) (i : Int) x a b c d e o s R = k0 (n : Int) (p : Int) (q : Int) x a b c d e o s R'
  | 0, i, h, _ => by omega
  | F + 1, i, h, hi => by
    rw [g18L2073746f_succ]
    unfold g18L2073746B
    have hw : IntKind.wrap .u64 (n : Int) = (n : Int) := wu64n (by omega) (by omega)
    have hz : ¬ ((n : Int) = 0) := by omega
    by_cases h1 : i < x.2.2.2.1.length
    · have e1 : decide ((i : Int) < (x.2.2.2.1.length : Int)) = true := by simp; omega
      rw [e1, cond_true]
      by_cases h2 : i < 40
      · have e2 : decide ((i : Int) < 40) = true := by simp; omega
        have ih := tame_rule N k0 n hn0 hn p q x a b c d e o s R hR F (i + 1) (by omega) (by omega)
        rw [e2, cond_true, if_pos ⟨by omega, by omega⟩, if_pos (by decide), hw, if_neg hz, if_pos (by decide), if_neg hz, wn i (by omega), if_pos (by decide), if_neg hz, if_pos (by decide), if_neg hz]
        cases hc : ieq (imin (IntKind.wrap .i64 (Int.tmod (IntKind.wrap .u64 ((x.2.2.2.1.getD (Int.toNat (i : Int)) (List.replicate 4 0)).getD (Int.toNat 0) 0)) (n : Int))) (IntKind.wrap .i64 (Int.tmod (IntKind.wrap .u64 ((x.2.2.2.1.getD (Int.toNat (i : Int)) (List.replicate 4 0)).getD (Int.toNat 1) 0)) (n : Int)))) (p : Int) with
        | false => exact ih
        | true =>
          cases hd : ieq (imax (IntKind.wrap .i64 (Int.tmod (IntKind.wrap .u64 ((x.2.2.2.1.getD (Int.toNat (i : Int)) (List.replicate 4 0)).getD (Int.toNat 0) 0)) (n : Int))) (IntKind.wrap .i64 (Int.tmod (IntKind.wrap .u64 ((x.2.2.2.1.getD (Int.toNat (i : Int)) (List.replicate 4 0)).getD (Int.toNat 1) 0)) (n : Int)))) (q : Int) with
          | false => exact ih
          | true =>
            obtain ⟨v, ev, v1, v2⟩ := low ((x.2.2.2.1.getD (Int.toNat (i : Int)) (List.replicate 4 0)).getD (Int.toNat 2) 0) (m := (n : Int)) (by omega) (by omega)
            obtain ⟨w, ew, w1, w2⟩ := low ((x.2.2.2.1.getD (Int.toNat (i : Int)) (List.replicate 4 0)).getD (Int.toNat 3) 0) (m := (n : Int)) (by omega) (by omega)
            simp only [Bool.not_true, cond_false]
            rw [ev, ew, if_pos (by simp [maxCount]; omega)]
            exact ⟨_, .inr ⟨v, w, v1, v2, w1, w2, rfl⟩, rfl⟩
      · have e2 : decide ((i : Int) < 40) = false := by simp; omega
        rw [e2, cond_false]
        exact ⟨R, .inl rfl, rfl⟩
    · have e1 : decide ((i : Int) < (x.2.2.2.1.length : Int)) = false := by simp; omega
      rw [e1, cond_false]
      exact ⟨R, .inl rfl, rfl⟩

def cn (n : Nat) : Nat → Nat | 0 => 0 | a + 1 => cn n a + (n - a)
theorem cn_le (n : Nat) : ∀ a, cn n a ≤ n * a
  | 0 => by simp [cn]
  | a + 1 => by have := cn_le n a; simp only [cn, Nat.mul_succ]; omega
/-- The rules so far, before a, b. -/
structure RInv (n a b : Nat) (R : List (List Int)) : Prop where
  ok : ∀ r ∈ R, RuleOk (n : Int) r ∧ (r.getD 0 0 < (a : Int) ∨ r.getD 0 0 = (a : Int) ∧ r.getD 1 0 < (b : Int))
  sorted : R.Pairwise RLt
  few : R.length ≤ cn n a + (b - a)

theorem RInv.add {n a b : Nat} {R R' : List (List Int)} (h : RInv n a b R) (hab : a ≤ b) (hb : b < n) (ha : AddR n a b R R') : RInv n a (b + 1) R' := by
  rcases ha with rfl | ⟨c, d, c1, c2, d1, d2, rfl⟩
  · refine ⟨fun r hr => ?_, h.sorted, by have := h.few; omega⟩
    obtain ⟨h1, h2⟩ := h.ok r hr
    exact ⟨h1, by omega⟩
  · refine ⟨fun r hr => ?_, ?_, by have := h.few; simp; omega⟩
    · rcases List.mem_append.1 hr with hr | hr
      · obtain ⟨h1, h2⟩ := h.ok r hr
        exact ⟨h1, by omega⟩
      · obtain rfl := List.mem_singleton.1 hr
        refine ⟨⟨rfl, fun t ht => ?_, by simp; omega⟩, by simp; omega⟩
        simp only [List.mem_cons, List.not_mem_nil, or_false] at ht
        rcases ht with rfl | rfl | rfl | rfl <;> constructor <;> omega
    · rw [List.pairwise_append]
      refine ⟨h.sorted, List.pairwise_singleton _ _, fun r hr s hs => ?_⟩
      obtain rfl := List.mem_singleton.1 hs
      exact (h.ok r hr).2

theorem tame_b (N : Nat) (hN : 100 < N) {C : Type} (k0 : Int → Int → PP → Int → Int → List Int → List Int → List (List Int) → List Int → List Int → List (List Int) → Option C) (n : Nat) (hn0 : 1 ≤ n) (hn : n ≤ 5) (p : Nat) (hp : p < n) (x : PP) (a b : Int) (c d : List Int) (e : List (List Int)) (o s : List Int) :
    ∀ (F q : Nat) (R : List (List Int)), n - q < F → p ≤ q → q ≤ n → RInv n p q R → ∃ R' : List (List Int), RInv n p n R' ∧ g18L32402f N F k0 (n : Int) (p : Int) (q : Int) x a b c d e o s R = k0 (n : Int) (p : Int) x a b c d e o s R'
  | 0, q, R, h, _, _, _ => by omega
  | F + 1, q, R, h, hq, hqn, hR => by
    rw [g18L32402f_succ]
    unfold g18L32402B
    by_cases hlt : q < n
    · have e1 : decide ((q : Int) < (n : Int)) = true := by simp; omega
      have hc : R.length ≤ 100 := by
        have h1 := hR.few
        have h2 := cn_le n p
        have h3 : n * p ≤ 5 * 5 := Nat.mul_le_mul hn (by omega)
        omega
      rw [e1, cond_true, g18L2073746_eq]
      obtain ⟨R1, ha, he⟩ := tame_rule N (fun e21 e22 e23 e24 e25 e26 e27 e28 e29 e30 e31 e32 => g18L32402f N F k0 e21 e22 (IntKind.wrap .i64 (e23 + 1)) e24 e25 e26 e27 e28 e29 e30 e31 e32) n hn0 hn p q x a b c d e o s R hc N 0 (by omega) (by omega)
      obtain ⟨R2, hi, he2⟩ := tame_b N hN k0 n hn0 hn p hp x a b c d e o s F (q + 1) R1 (by omega) (by omega) (by omega) (hR.add hq hlt ha)
      refine ⟨R2, hi, ?_⟩
      simp only [Int.natCast_zero] at he
      refine he.trans ?_
      rw [wn q (by omega)]
      exact he2
    · have e1 : decide ((q : Int) < (n : Int)) = false := by simp; omega
      rw [e1, cond_false]
      obtain rfl : q = n := by omega
      exact ⟨R, hR, rfl⟩

theorem RInv.next {n a : Nat} {R : List (List Int)} (h : RInv n a n R) (ha : a < n) : RInv n (a + 1) (a + 1) R := by
  refine ⟨fun r hr => ?_, h.sorted, by have := h.few; simp only [cn]; omega⟩
  obtain ⟨h1, h2⟩ := h.ok r hr
  exact ⟨h1, .inl (by omega)⟩

theorem tame_a (N : Nat) (hN : 100 < N) {C : Type} (k0 : PP → Int → Int → List Int → List Int → List (List Int) → List Int → List Int → List (List Int) → Option C) (n : Nat) (hn0 : 1 ≤ n) (hn : n ≤ 5) (x : PP) (a b : Int) (c d : List Int) (e : List (List Int)) (o s : List Int) :
    ∀ (F p : Nat) (R : List (List Int)), n - p < F → p ≤ n → RInv n p p R → ∃ R' : List (List Int), RInv n n n R' ∧ g18L506f N F k0 (n : Int) (p : Int) x a b c d e o s R = k0 x a b c d e o s R'
  | 0, p, R, h, _, _ => by omega
  | F + 1, p, R, h, hp, hR => by
    rw [g18L506f_succ]
    unfold g18L506B
    by_cases hlt : p < n
    · have e1 : decide ((p : Int) < (n : Int)) = true := by simp; omega
      rw [e1, cond_true, g18L32402_eq]
      obtain ⟨R1, hi, he⟩ := tame_b N hN (fun e33 e34 e35 e36 e37 e38 e39 e40 e41 e42 e43 => g18L506f N F k0 e33 (IntKind.wrap .i64 (e34 + 1)) e35 e36 e37 e38 e39 e40 e41 e42 e43) n hn0 hn p hlt x a b c d e o s N p R (by omega) (by omega) (by omega) hR
      obtain ⟨R2, hi2, he2⟩ := tame_a N hN k0 n hn0 hn x a b c d e o s F (p + 1) R1 (by omega) (by omega) (hi.next hlt)
      refine ⟨R2, hi2, he.trans ?_⟩
      rw [wn p (by omega)]
      exact he2
    · have e1 : decide ((p : Int) < (n : Int)) = false := by simp; omega
      rw [e1, cond_false]
      obtain rfl : p = n := by omega
      exact ⟨R, hR, rfl⟩

theorem tame_eq (N : Nat) (hN : 100 < N) (x : PP) (most : Int) (h1 : 1 ≤ most) (h2 : most ≤ 5) : ∃ y : PP, g18 N x most = some y ∧ PT y ∧ y.1 ≤ most := by
  unfold g18
  rw [wu64n (x := most) (by omega) (by omega), if_neg (by omega)]
  obtain ⟨r, er, r1, r2⟩ := low x.1 (m := most) (by omega) (by omega)
  rw [er, w64 (x := 1 + r) (by omega) (by omega)]
  obtain ⟨n, hn⟩ : ∃ n : Nat, 1 + r = (n : Int) := ⟨(1 + r).toNat, by omega⟩
  rw [hn, g18L122_eq]
  have hn0 : 1 ≤ n := by omega
  have hn5 : n ≤ 5 := by omega
  obtain ⟨o, o1, o2, oe⟩ := tame_out N (fun e1 e2 e3 e4 e5 e6 e7 e8 e9 e10 => g18L250 N (fun e11 e12 e13 e14 e15 e16 e17 e18 e19 e20 => g18L506 N (fun e44 e45 e46 e47 e48 e49 e50 e51 e52 => some ((e46, e50, e51, e52, ()) : PP)) e11 0 e12 e13 e14 e15 e16 e17 e18 e19 e20) e1 0 e2 e3 e4 e5 e6 e7 e8 e9 e10)
    n hn5 x 0 (n : Int) [] [] [] [] [] N 0 [] (by omega) (by omega) rfl (fun t ht => by cases ht)
  simp only [Int.natCast_zero] at oe
  obtain ⟨s, s1, s2, s3, se⟩ := tame_start N (fun e11 e12 e13 e14 e15 e16 e17 e18 e19 e20 => g18L506 N (fun e44 e45 e46 e47 e48 e49 e50 e51 e52 => some ((e46, e50, e51, e52, ()) : PP)) e11 0 e12 e13 e14 e15 e16 e17 e18 e19 e20)
    n hn0 hn5 x 0 (n : Int) [] [] [] o [] N 0 [] (by omega) (by omega) rfl (fun t ht => by cases ht)
  simp only [Int.natCast_zero] at se
  obtain ⟨R, hR, re⟩ := tame_a N hN (fun e44 e45 e46 e47 e48 e49 e50 e51 e52 => some ((e46, e50, e51, e52, ()) : PP)) n hn0 hn5 x 0 (n : Int) [] [] [] o s N 0 [] (by omega) (by omega) ⟨fun r hr => (List.not_mem_nil hr).elim, List.Pairwise.nil, by simp⟩
  simp only [Int.natCast_zero] at re
  refine ⟨((n : Int), o, s, R, ()), ?_, ⟨⟨by simp; omega, by simp; omega⟩, ⟨by simp [o1], o2⟩, ⟨s1, s2, s3⟩, ?_, fun r hr => (hR.ok r hr).1, hR.sorted⟩, by simp; omega⟩
  · rw [oe, g18L250_eq, se, g18L506_eq, re]
  · have := hR.few
    have h15 : cn n n ≤ 15 := by
      have : n = 1 ∨ n = 2 ∨ n = 3 ∨ n = 4 ∨ n = 5 := by omega
      rcases this with rfl | rfl | rfl | rfl | rfl <;> decide
    simp only [Nat.sub_self, Nat.add_zero] at this
    exact Nat.le_trans this h15
end Go.Pv

/- Seat 06, plain: crowds gathered, begun, questions. -/
set_option linter.unusedVariables false
set_option linter.unusedSimpArgs false
namespace Go.Pv

theorem sum_nonneg : ∀ l : List Int, (∀ t ∈ l, 0 ≤ t) → 0 ≤ l.sum
  | [], _ => by simp
  | a :: l, h => by
    have h1 := h a (by simp)
    have h2 := sum_nonneg l (fun t ht => h t (by simp [ht]))
    simp only [List.sum_cons]; omega
theorem mem_le_sum : ∀ l : List Int, (∀ t ∈ l, 0 ≤ t) → ∀ t ∈ l, t ≤ l.sum
  | [], _, t, ht => by cases ht
  | a :: l, h, t, ht => by
    have h1 := h a (by simp)
    have h2 := sum_nonneg l (fun t ht => h t (by simp [ht]))
    simp only [List.sum_cons]
    rcases List.mem_cons.1 ht with rfl | ht
    · omega
    · have := mem_le_sum l (fun t ht => h t (by simp [ht])) t ht
      omega
theorem set_sum : ∀ (l : List Int) (i : Nat) (v : Int), i < l.length → (l.set i v).sum = l.sum - l.getD i 0 + v
  | [], i, v, h => by simp at h
  | a :: l, 0, v, h => by simp; omega
  | a :: l, i + 1, v, h => by
    have := set_sum l i v (by simpa using h)
    simp only [List.set_cons_succ, List.sum_cons, List.getD_cons_succ, this]; omega

/-- A crowd: so many numbers, at least nought, with a sum from 1 to 9. -/
structure Crowd (l : List Int) (n : Int) : Prop where
  len : (l.length : Int) = n
  pos : ∀ t ∈ l, 0 ≤ t
  sum : 1 ≤ l.sum ∧ l.sum ≤ 9
theorem Crowd.le {l : List Int} {n : Int} (h : Crowd l n) : ∀ t ∈ l, 0 ≤ t ∧ t ≤ 9 := fun t ht => by
  have := mem_le_sum l h.pos t ht
  have := h.pos t ht
  have := h.sum.2
  omega
theorem Crowd.b {l : List Int} {n : Int} (h : Crowd l n) : crowdB l n = true := by
  unfold crowdB
  simp only [Bool.and_eq_true, decide_eq_true_eq]
  refine ⟨h.len, ?_, h.sum⟩
  rw [List.all_eq_true]
  intro t ht
  have := h.le t ht
  simp; omega
theorem crowd_of_b {l : List Int} {n : Int} (h : crowdB l n = true) : Crowd l n := by
  unfold crowdB at h
  simp only [Bool.and_eq_true, decide_eq_true_eq] at h
  obtain ⟨h1, h2, h3⟩ := h
  rw [List.all_eq_true] at h2
  exact ⟨h1, fun t ht => by have := h2 t ht; simp at this; omega, h3⟩

theorem gathered_loop (N : Nat) {C : Type} (k0 : Int → Int → List Int → Option C) (l : List Int) (n : Nat) (hn : n ≤ 5) (most : Int) (hm : 0 ≤ most ∧ most ≤ 9) :
    ∀ (F i : Nat) (left : Int) (c : List Int), n - i < F → i ≤ n → c.length = i → (∀ t ∈ c, 0 ≤ t) → c.sum + left = most → 0 ≤ left → ∃ (left' : Int) (c' : List Int), c'.length = n ∧ (∀ t ∈ c', 0 ≤ t) ∧ c'.sum + left' = most ∧ 0 ≤ left' ∧ g24L122f N F k0 l (n : Int) most left (i : Int) c = k0 most left' c'
  | 0, i, left, c, h, _, _, _, _, _ => by omega
  | F + 1, i, left, c, h, hi, hc, hp, hs, hl => by
    rw [g24L122f_succ]
    unfold g24L122B
    have h0 := sum_nonneg c hp
    by_cases hlt : i < n
    · have e1 : decide ((i : Int) < (n : Int)) = true := by simp; omega
      rw [e1, cond_true, wn i (by omega)]
      have hmax : ∀ v : Int, c.length + [v].length ≤ maxCount := fun v => by simp [maxCount]; omega
      have hmax0 : c.length + List.length ([0] : List Nat) ≤ maxCount := by simp [maxCount]; omega
      have add : ∀ v : Int, 0 ≤ v → v ≤ left → _ := fun v h1 h2 => gathered_loop N k0 l n hn most hm F (i + 1) (left - v) (c ++ [v]) (by omega) (by omega) (by simp [hc]) (fun t ht => by
          rcases List.mem_append.1 ht with ht | ht
          · exact hp t ht
          · obtain rfl := List.mem_singleton.1 ht; exact h1) (by simp; omega) (by omega)
      by_cases h2 : i < l.length
      · have e2 : decide ((i : Int) < (l.length : Int)) = true := by simp; omega
        obtain ⟨v, ev, v1, v2⟩ := low (l.getD i 0) (m := left + 1) (by omega) (by omega)
        rw [e2, cond_true, if_pos ⟨by omega, by omega⟩, w64 (x := left + 1) (by omega) (by omega), wu64n (x := left + 1) (by omega) (by omega), if_neg (by omega), Int.toNat_natCast, ev, if_pos (hmax v), w64 (x := left - v) (by omega) (by omega)]
        exact add v v1 (by omega)
      · have e2 : decide ((i : Int) < (l.length : Int)) = false := by simp; omega
        rw [e2, cond_false, if_pos hmax0, w64 (x := left - 0) (by omega) (by omega)]
        exact add 0 (by omega) (by omega)
    · have e1 : decide ((i : Int) < (n : Int)) = false := by simp; omega
      rw [e1, cond_false]
      exact ⟨left, c, by omega, hp, hs, hl, rfl⟩

theorem gathered_eq (N : Nat) (hN : 100 < N) (l : List Int) (n : Int) (h1 : 1 ≤ n) (h2 : n ≤ 5) (most : Int) (hm : 1 ≤ most) (hm2 : most ≤ 9) : ∃ c, g24 N l n most = some c ∧ Crowd c n ∧ c.sum ≤ most := by
  obtain ⟨m, rfl⟩ : ∃ m : Nat, n = (m : Int) := ⟨n.toNat, by omega⟩
  unfold g24
  rw [g24L122_eq]
  obtain ⟨left, c, c1, c2, c3, c4, c5⟩ := gathered_loop N (fun e1 e2 e3 => bif (ieq e2 e1) then if idx 0 (List.length e3) then if (Int.toNat 0) < List.length e3 then some (List.set e3 (Int.toNat 0) 1) else none else none else some e3) l m (by omega) most ⟨by omega, by omega⟩ N 0 most [] (by omega) (by omega) rfl (fun t ht => by cases ht) (by simp) (by omega)
  simp only [Int.natCast_zero] at c5
  rw [c5]
  have h0 := sum_nonneg c c2
  by_cases he : left = most
  · have e1 : ieq left most = true := by simp [ieq, he]
    have hc : 0 < c.length := by omega
    rw [e1, cond_true, if_pos ⟨by omega, by omega⟩, if_pos (by simpa using hc)]
    have hg := mem_le_sum c c2 _ (getD_mem hc 0)
    have hg2 := c2 _ (getD_mem hc 0)
    have hs := set_sum c 0 1 hc
    refine ⟨_, rfl, ⟨by simp [c1], fun t ht => ?_, ?_⟩, ?_⟩
    · rcases List.mem_or_eq_of_mem_set ht with ht | rfl
      · exact c2 t ht
      · omega
    · simp only [show Int.toNat 0 = 0 from rfl]; rw [hs]; omega
    · simp only [show Int.toNat 0 = 0 from rfl]; rw [hs]; omega
  · have e1 : ieq left most = false := by simp [ieq, he]
    rw [e1, cond_false]
    exact ⟨_, rfl, ⟨by omega, c2, by omega⟩, by omega⟩

end Go.Pv

/- Seat 06, plain: rules done: Meet, and the reference's Meet and Do. -/
set_option linter.unusedVariables false
set_option linter.unusedSimpArgs false
namespace Go.Pv

def dec (c : List Int) (i : Nat) : List Int := c.set i (c.getD i 0 - 1)
def inc (c : List Int) (i : Nat) : List Int := c.set i (c.getD i 0 + 1)
theorem dec_len (c : List Int) (i : Nat) : (dec c i).length = c.length := by simp [dec]
theorem inc_len (c : List Int) (i : Nat) : (inc c i).length = c.length := by simp [inc]
theorem getD_set (c : List Int) (i j : Nat) (v : Int) : (c.set i v).getD j 0 = if i = j ∧ i < c.length then v else c.getD j 0 := by
  simp only [List.getD_eq_getElem?_getD, List.getElem?_set]
  by_cases h : i = j
  · subst h
    by_cases h2 : i < c.length
    · simp [h2]
    · simp [h2]
  · simp [h]
def Bd (k : Int) (c : List Int) : Prop := ∀ j, -k ≤ c.getD j 0 ∧ c.getD j 0 ≤ k
theorem Bd.dec {k : Int} {c : List Int} (h : Bd k c) (i : Nat) : Bd (k + 1) (dec c i) := fun j => by
  have h1 := h j
  have h2 := h i
  unfold Go.Pv.dec
  rw [getD_set]
  split <;> omega
theorem Bd.inc {k : Int} {c : List Int} (h : Bd k c) (i : Nat) : Bd (k + 1) (inc c i) := fun j => by
  have h1 := h j
  have h2 := h i
  unfold Go.Pv.inc
  rw [getD_set]
  split <;> omega
theorem wdec {k : Int} {c : List Int} (h : Bd k c) (hk : k ≤ 100) (i : Nat) : c.set i (IntKind.wrap .i64 (c.getD i 0 - 1)) = dec c i := by
  have := h i
  rw [w64 (by omega) (by omega)]; rfl
theorem winc {k : Int} {c : List Int} (h : Bd k c) (hk : k ≤ 100) (i : Nat) : c.set i (IntKind.wrap .i64 (c.getD i 0 + 1)) = inc c i := by
  have := h i
  rw [w64 (by omega) (by omega)]; rfl

/-- Whether a rule can be done, and what it makes of a crowd. -/
def canL (p q : Nat) (c : List Int) : Bool := decide (0 ≤ (dec (dec c p) q).getD p 0) && decide (0 ≤ (dec (dec c p) q).getD q 0)
def stepL (p q s t : Nat) (c : List Int) : List Int := inc (inc (dec (dec c p) q) s) t
def canR (r : List Int) (c : List Int) : Bool := canL (r.getD 0 0).toNat (r.getD 1 0).toNat c
def stepR (r : List Int) (c : List Int) : List Int := stepL (r.getD 0 0).toNat (r.getD 1 0).toNat (r.getD 2 0).toNat (r.getD 3 0).toNat c

theorem rule_nat {n : Int} {r : List Int} (h : RuleOk n r) : ∃ p q s t : Nat, r = [(p : Int), (q : Int), (s : Int), (t : Int)] ∧ (p : Int) < n ∧ (q : Int) < n ∧ (s : Int) < n ∧ (t : Int) < n := by
  obtain ⟨h1, h2, _⟩ := h
  match r, h1 with
  | [a, b, c, d], _ =>
    have ha := h2 a (by simp)
    have hb := h2 b (by simp)
    have hc := h2 c (by simp)
    have hd := h2 d (by simp)
    refine ⟨a.toNat, b.toNat, c.toNat, d.toNat, ?_, by omega, by omega, by omega, by omega⟩
    rw [Int.toNat_of_nonneg ha.1, Int.toNat_of_nonneg hb.1, Int.toNat_of_nonneg hc.1, Int.toNat_of_nonneg hd.1]

theorem ix {p n : Nat} (h : p < n) : idx (p : Int) n := ⟨by omega, by omega⟩

theorem can77 (N : Nat) (p q s t : Nat) (hp : p < 5) (hq : q < 5) (c : List Int) (hc : Bd 50 c) : g77 N [(p : Int), (q : Int), (s : Int), (t : Int)] c = some (canL p q c) := by
  unfold g77 canL
  have h0 : idx 0 4 := by decide
  have h1 : idx 1 4 := by decide
  have w1 := wdec hc (by omega) p
  have w2 := wdec (hc.dec p) (by omega) q
  simp only [show Int.toNat 0 = 0 from rfl, show Int.toNat 1 = 1 from rfl, List.getD_cons_zero, List.getD_cons_succ, Int.toNat_natCast, if_pos h0, if_pos h1, if_pos (ix hp), if_pos (ix hq), w1, w2]
  cases decide (0 ≤ (dec (dec c p) q).getD p 0) <;> rfl
theorem after78 (N : Nat) (p q s t : Nat) (hp : p < 5) (hq : q < 5) (hs : s < 5) (ht : t < 5) (c : List Int) (hc : Bd 50 c) : g78 N [(p : Int), (q : Int), (s : Int), (t : Int)] c = some (stepL p q s t c) := by
  unfold g78 stepL
  have h0 : idx 0 4 := by decide
  have h1 : idx 1 4 := by decide
  have h2 : idx 2 4 := by decide
  have h3 : idx 3 4 := by decide
  have w1 := wdec hc (by omega) p
  have w2 := wdec (hc.dec p) (by omega) q
  have w3 := winc ((hc.dec p).dec q) (by omega) s
  have w4 := winc (((hc.dec p).dec q).inc s) (by omega) t
  simp only [show Int.toNat 0 = 0 from rfl, show Int.toNat 1 = 1 from rfl, show Int.toNat 2 = 2 from rfl, show Int.toNat 3 = 3 from rfl, List.getD_cons_zero, List.getD_cons_succ, Int.toNat_natCast, if_pos h0, if_pos h1, if_pos h2, if_pos h3, if_pos (ix hp), if_pos (ix hq), if_pos (ix hs), if_pos (ix ht), w1, w2, w3, w4]

/-- What one rule does, as the reference has it. -/
def meetL (x : PP) (c : List Int) (r : Int) : List Int × Bool × Unit :=
  if 0 ≤ r ∧ r < (x.2.2.2.1.length : Int) then bif canR (x.2.2.2.1.getD r.toNat (List.replicate 4 0)) c then (stepR (x.2.2.2.1.getD r.toNat (List.replicate 4 0)) c, true, ()) else (c, false, ()) else (c, false, ())

theorem meet42 (N : Nat) (x : PP) (hx : PT x) (c : List Int) (hc : (c.length : Int) = x.1) (hb : Bd 50 c) (r : Int) : g42 N x c r = some (meetL x c r) := by
  unfold g42 meetL
  by_cases h1 : r < 0
  · have e1 : decide (r < 0) = true := by simpa using h1
    rw [e1, cond_true, if_neg (by omega)]
  · have e1 : decide (r < 0) = false := by simpa using h1
    rw [e1, cond_false]
    by_cases h2 : (x.2.2.2.1.length : Int) ≤ r
    · have e2 : decide (((List.length x.2.2.2.1 : Nat) : Int) ≤ r) = true := by simpa using h2
      rw [e2, cond_true, if_neg (by omega)]
    · have e2 : decide (((List.length x.2.2.2.1 : Nat) : Int) ≤ r) = false := by simpa using h2
      have hr : r.toNat < x.2.2.2.1.length := by omega
      obtain ⟨p, q, s, t, hR, hp, hq, hs, ht⟩ := rule_nat (hx.rules.2.1 _ (getD_mem hr (List.replicate 4 0)))
      have hn := hx.n
      have hp : p < c.length := by omega
      have hq : q < c.length := by omega
      have hs : s < c.length := by omega
      have ht : t < c.length := by omega
      rw [e2, cond_false, if_pos ⟨by omega, by omega⟩, if_pos (by simp [maxCount]; omega), if_pos (show 0 ≤ r ∧ r < (x.2.2.2.1.length : Int) from ⟨by omega, by omega⟩), hR]
      have h0 : idx 0 4 := by decide
      have h1 : idx 1 4 := by decide
      have h2 : idx 2 4 := by decide
      have h3 : idx 3 4 := by decide
      have w1 := wdec hb (by omega) p
      have w2 := wdec (hb.dec p) (by omega) q
      have w3 := winc ((hb.dec p).dec q) (by omega) s
      have w4 := winc (((hb.dec p).dec q).inc s) (by omega) t
      simp only [canR, stepR, canL, stepL, show Int.toNat 0 = 0 from rfl, show Int.toNat 1 = 1 from rfl, show Int.toNat 2 = 2 from rfl, show Int.toNat 3 = 3 from rfl, List.getD_cons_zero, List.getD_cons_succ, Int.toNat_natCast, List.nil_append, dec_len, inc_len, if_pos h0, if_pos h1, if_pos h2, if_pos h3, if_pos (ix hp), if_pos (ix hq), if_pos (ix hs), if_pos (ix ht), if_pos hp, if_pos hq, if_pos hs, if_pos ht, w1, w2, w3, w4]
      by_cases k1 : (dec (dec c p) q).getD p 0 < 0
      · have k1' : ¬ (0 ≤ (dec (dec c p) q).getD p 0) := by omega
        simp only [k1, k1', decide_true, decide_false, cond_true, cond_false, Bool.false_and]
      · have k1' : 0 ≤ (dec (dec c p) q).getD p 0 := by omega
        by_cases k2 : (dec (dec c p) q).getD q 0 < 0
        · have k2' : ¬ (0 ≤ (dec (dec c p) q).getD q 0) := by omega
          simp only [k1, k1', k2, k2', decide_true, decide_false, cond_true, cond_false, Bool.false_and, Bool.and_false]
        · have k2' : 0 ≤ (dec (dec c p) q).getD q 0 := by omega
          simp only [k1, k1', k2, k2', decide_true, decide_false, cond_true, cond_false, Bool.and_true, Bool.true_and]

/-! ### Crowds stay crowds -/
theorem getD_pos {c : List Int} (h : ∀ t ∈ c, 0 ≤ t) (j : Nat) : 0 ≤ c.getD j 0 := by
  by_cases hj : j < c.length
  · exact h _ (getD_mem hj 0)
  · rw [List.getD_eq_getElem?_getD, List.getElem?_eq_none (by omega)]; simp
theorem pos_of_getD {c : List Int} (h : ∀ j, 0 ≤ c.getD j 0) : ∀ t ∈ c, 0 ≤ t := fun t ht => by
  obtain ⟨j, hj, rfl⟩ := List.getElem_of_mem ht
  have := h j
  rw [List.getD_eq_getElem?_getD, List.getElem?_eq_getElem hj] at this
  exact this
theorem Crowd.bd {c : List Int} {n : Int} (h : Crowd c n) : Bd 50 c := fun j => by
  by_cases hj : j < c.length
  · have := h.le _ (getD_mem hj 0); omega
  · rw [List.getD_eq_getElem?_getD, List.getElem?_eq_none (by omega)]; simp

theorem Crowd.step {c : List Int} {n : Int} (h : Crowd c n) {p q s t : Nat} (hp : p < c.length) (hq : q < c.length) (hs : s < c.length) (ht : t < c.length) (hcan : canL p q c = true) : Crowd (stepL p q s t c) n := by
  unfold canL at hcan
  simp only [Bool.and_eq_true, decide_eq_true_eq] at hcan
  have s1 : (dec c p).sum = c.sum - 1 := by unfold dec; rw [set_sum _ _ _ hp]; omega
  have s2 : (dec (dec c p) q).sum = c.sum - 2 := by
    have := set_sum (dec c p) q ((dec c p).getD q 0 - 1) (by rw [dec_len]; exact hq)
    show ((dec c p).set q _).sum = _
    omega
  have s3 : (inc (dec (dec c p) q) s).sum = c.sum - 1 := by
    have := set_sum (dec (dec c p) q) s ((dec (dec c p) q).getD s 0 + 1) (by rw [dec_len, dec_len]; exact hs)
    show ((dec (dec c p) q).set s _).sum = _
    omega
  have s4 : (stepL p q s t c).sum = c.sum := by
    have := set_sum (inc (dec (dec c p) q) s) t ((inc (dec (dec c p) q) s).getD t 0 + 1) (by rw [inc_len, dec_len, dec_len]; exact ht)
    show ((inc (dec (dec c p) q) s).set t _).sum = _
    omega
  have p1 : ∀ j, 0 ≤ (dec (dec c p) q).getD j 0 := fun j => by
    by_cases h1 : j = p
    · subst h1; exact hcan.1
    · by_cases h2 : j = q
      · subst h2; exact hcan.2
      · have := getD_pos h.pos j
        unfold dec
        rw [getD_set, if_neg (by omega), getD_set, if_neg (by omega)]
        exact this
  have p2 : ∀ j, 0 ≤ (inc (dec (dec c p) q) s).getD j 0 := fun j => by
    have h1 := p1 j
    have h2 := p1 s
    unfold inc
    rw [getD_set]
    split <;> omega
  have p3 : ∀ j, 0 ≤ (stepL p q s t c).getD j 0 := fun j => by
    have h1 := p2 j
    have h2 := p2 t
    show 0 ≤ ((inc (dec (dec c p) q) s).set t _).getD j 0
    rw [getD_set]
    split <;> omega
  refine ⟨?_, pos_of_getD p3, by rw [s4]; exact h.sum⟩
  rw [← h.len]
  simp only [stepL, inc_len, dec_len]

theorem Crowd.stepR {x : PP} (hx : PT x) {c : List Int} (h : Crowd c x.1) {r : List Int} (hr : RuleOk x.1 r) (hcan : canR r c = true) : Crowd (stepR r c) x.1 := by
  obtain ⟨p, q, s, t, rfl, hp, hq, hs, ht⟩ := rule_nat hr
  have := h.len
  exact h.step (p := p) (q := q) (s := s) (t := t) (by omega) (by omega) (by omega) (by omega) hcan
theorem Crowd.meet {x : PP} (hx : PT x) {c : List Int} (h : Crowd c x.1) (r : Int) : Crowd (meetL x c r).1 x.1 := by
  unfold meetL
  split
  · rename_i hr
    cases hc : canR (x.2.2.2.1.getD r.toNat (List.replicate 4 0)) c with
    | false => exact h
    | true => exact h.stepR hx (hx.rules.2.1 _ (getD_mem (by omega) _)) hc
  · exact h

/-! ### Arrays -/
/-- A crowd as an array. -/
def pad (c : List Int) : List Int := c ++ List.replicate (5 - c.length) 0
theorem getD_pad (c : List Int) (j : Nat) : (pad c).getD j 0 = c.getD j 0 := by
  unfold pad
  simp only [List.getD_eq_getElem?_getD, List.getElem?_append, List.getElem?_replicate]
  split
  · rfl
  · rename_i h
    rw [List.getElem?_eq_none (by omega)]
    split <;> rfl
theorem pad_set (c : List Int) (i : Nat) (v : Int) (h : i < c.length) : (pad c).set i v = pad (c.set i v) := by
  unfold pad
  rw [List.set_append_left _ _ h, List.length_set]
theorem pad_dec (c : List Int) (i : Nat) (h : i < c.length) : dec (pad c) i = pad (dec c i) := by unfold dec; rw [getD_pad, pad_set _ _ _ h]
theorem pad_inc (c : List Int) (i : Nat) (h : i < c.length) : inc (pad c) i = pad (inc c i) := by unfold inc; rw [getD_pad, pad_set _ _ _ h]
theorem pad_bd {k : Int} {c : List Int} (h : Bd k c) : Bd k (pad c) := fun j => by rw [getD_pad]; exact h j
theorem pad_can (p q : Nat) (c : List Int) (hp : p < c.length) (hq : q < c.length) : canL p q (pad c) = canL p q c := by
  unfold canL
  rw [pad_dec c p hp, pad_dec _ q (by rw [dec_len]; exact hq), getD_pad, getD_pad]
theorem pad_step (p q s t : Nat) (c : List Int) (hp : p < c.length) (hq : q < c.length) (hs : s < c.length) (ht : t < c.length) : stepL p q s t (pad c) = pad (stepL p q s t c) := by
  unfold stepL
  rw [pad_dec c p hp, pad_dec _ q (by rw [dec_len]; exact hq), pad_inc _ s (by rw [dec_len, dec_len]; exact hs), pad_inc _ t (by rw [inc_len, dec_len, dec_len]; exact ht)]
theorem pad_take (c : List Int) : (pad c).take c.length = c := by unfold pad; rw [List.take_left']; rfl
theorem of72 (N : Nat) (c : List Int) (h : c.length ≤ 5) : g72 N c = some (pad c) := by
  unfold g72 copyP pad
  rw [List.take_of_length_le h, List.drop_replicate]

theorem can_pad (N : Nat) {x : PP} (hx : PT x) {c : List Int} (hc : Crowd c x.1) {r : List Int} (hr : RuleOk x.1 r) : g77 N r (pad c) = some (canR r c) := by
  obtain ⟨p, q, s, t, rfl, hp, hq, hs, ht⟩ := rule_nat hr
  have := hc.len
  have := hx.n
  rw [can77 N p q s t (by omega) (by omega) _ (pad_bd hc.bd), pad_can p q c (by omega) (by omega)]
  rfl
theorem after_pad (N : Nat) {x : PP} (hx : PT x) {c : List Int} (hc : Crowd c x.1) {r : List Int} (hr : RuleOk x.1 r) : g78 N r (pad c) = some (pad (stepR r c)) := by
  obtain ⟨p, q, s, t, rfl, hp, hq, hs, ht⟩ := rule_nat hr
  have := hc.len
  have := hx.n
  rw [after78 N p q s t (by omega) (by omega) (by omega) (by omega) _ (pad_bd hc.bd), pad_step p q s t c (by omega) (by omega) (by omega) (by omega)]
  rfl
end Go.Pv

/- Seat 06, plain: the law's own calls, by the kernel. -/
namespace Go.Pv
theorem awake_true : g29 2000 = some true := by kernel_rfl
end Go.Pv

/- Seat 06, plain: TallyMeets. -/
set_option linter.unusedVariables false
set_option linter.unusedSimpArgs false
namespace Go.Pv

theorem open_eq (N : Nat) (hN : 100 < N) {x : PP} (hx : PT x) : ∀ {cs : List (List Int)}, cs.length ≤ 10 → (∀ c ∈ cs, Crowd c x.1) → g70 N x cs = some 0 := by
  intro cs hl hcs
  have hn := hx.n
  unfold g70
  rw [hx.check N (by omega)]
  simp only [Option.bind_some, ieq_self, Bool.not_true, cond_false]
  rw [g70L58_eq]
  have : ∀ (F i : Nat), cs.length - i < F → i ≤ cs.length → g70L58f N F (fun e3 e4 => some e3) (fun e5 => some (0 : Int)) cs (cs.length : Int) (i : Int) x = some 0 := by
    intro F
    induction F with
    | zero => intro i h _; omega
    | succ F ih =>
      intro i h hi
      rw [g70L58f_succ]
      unfold g70L58B
      by_cases hlt : i < cs.length
      · have e1 : decide ((i : Int) < (cs.length : Int)) = true := by simp; omega
        have hc := hcs _ (getD_mem hlt [])
        have := hc.len
        rw [e1, cond_true, if_pos (ix hlt), Int.toNat_natCast, isCrowd_eq N _ _ (by omega) hN, hc.b]
        simp only [Option.bind_some, Bool.not_true, cond_false]
        rw [wn i (by omega)]
        exact ih (i + 1) (by omega) (by omega)
      · have e1 : decide ((i : Int) < (cs.length : Int)) = false := by simp; omega
        rw [e1, cond_false]
  have h0 := this N 0 (by omega) (by omega)
  simp only [Int.natCast_zero] at h0
  exact h0

/-- The rules of a way as long as they can be done, and how many. -/
def doL (x : PP) : List Int → List Int → List Int × Nat
  | c, [] => (c, 0)
  | c, r :: w => bif (meetL x c r).2.1 then ((doL x (meetL x c r).1 w).1, (doL x (meetL x c r).1 w).2 + 1) else (c, 0)
theorem doL_crowd {x : PP} (hx : PT x) : ∀ (w c : List Int), Crowd c x.1 → Crowd (doL x c w).1 x.1
  | [], c, h => h
  | r :: w, c, h => by
    unfold doL
    cases (meetL x c r).2.1 with
    | false => exact h
    | true => exact doL_crowd hx w _ (h.meet hx r)

theorem way40_loop (N : Nat) (hN : 100 < N) {C : Type} (k0 : Int → PP → List Int → Option C) {x : PP} (hx : PT x) (w : List Int) (hw : w.length ≤ 1000) :
    ∀ (F i : Nat) (c : List Int), w.length - i < F → i ≤ w.length → Crowd c x.1 → g40L122f N F k0 (i : Int) w (w.length : Int) (i : Int) x (pad c) = k0 ((i + (doL x c (w.drop i)).2 : Nat) : Int) x (pad (doL x c (w.drop i)).1)
  | 0, i, c, h, _, _ => by omega
  | F + 1, i, c, h, hi, hc => by
    rw [g40L122f_succ]
    unfold g40L122B
    have hr15 := hx.rules.1
    by_cases hlt : i < w.length
    · have e1 : decide ((i : Int) < (w.length : Int)) = true := by simp; omega
      rw [e1, cond_true, if_pos (ix hlt), Int.toNat_natCast, getD_drop w i hlt]
      generalize w.getD i 0 = r
      rw [are_eq N _ _ [r] (by simp; omega) (by simp), w64 (x := ((List.length x.2.2.2.1 : Nat) : Int) - 1) (by omega) (by omega)]
      simp only [Option.bind_some]
      by_cases hr : 0 ≤ r ∧ r < (x.2.2.2.1.length : Int)
      · have e2 : (List.all [r] fun t => decide (0 ≤ t) && decide (t ≤ ((List.length x.2.2.2.1 : Nat) : Int) - 1)) = true := by simp; omega
        have hro := hx.rules.2.1 _ (getD_mem (show r.toNat < x.2.2.2.1.length by omega) (List.replicate 4 0))
        rw [e2, Bool.not_true, cond_false, if_pos ⟨hr.1, hr.2⟩, can_pad N hx hc hro]
        simp only [Option.bind_some]
        have hm : meetL x c r = bif canR (x.2.2.2.1.getD r.toNat (List.replicate 4 0)) c then (stepR (x.2.2.2.1.getD r.toNat (List.replicate 4 0)) c, true, ()) else (c, false, ()) := by unfold meetL; rw [if_pos hr]
        unfold doL
        rw [hm]
        cases hcan : canR (x.2.2.2.1.getD r.toNat (List.replicate 4 0)) c with
        | false => simp only [Bool.not_false, cond_true, cond_false, Nat.add_zero]
        | true =>
          simp only [Bool.not_true, cond_false, cond_true]
          rw [if_pos ⟨hr.1, hr.2⟩, after_pad N hx hc hro]
          simp only [Option.bind_some]
          rw [wn i (by omega), way40_loop N hN k0 hx w hw F (i + 1) _ (by omega) (by omega) (hc.stepR hx hro hcan)]
          congr 2
          omega
      · have e2 : (List.all [r] fun t => decide (0 ≤ t) && decide (t ≤ ((List.length x.2.2.2.1 : Nat) : Int) - 1)) = false := by
          cases h : (List.all [r] fun t => decide (0 ≤ t) && decide (t ≤ ((List.length x.2.2.2.1 : Nat) : Int) - 1)) with
          | false => rfl
          | true => simp at h; omega
        rw [e2, Bool.not_false, cond_true]
        have hm : meetL x c r = (c, false, ()) := by unfold meetL; rw [if_neg hr]
        unfold doL
        rw [hm]
        rfl
    · have e1 : decide ((i : Int) < (w.length : Int)) = false := by simp; omega
      rw [e1, cond_false, List.drop_eq_nil_of_le (by omega)]
      rfl

theorem meet40_eq (N : Nat) (hN : 1001 < N) {x : PP} (hx : PT x) (c w : List Int) (hc : Crowd c x.1) (hw : w.length ≤ 1000) : g40 N x c w = some ((doL x c w).1, ((doL x c w).2 : Int), 0, ()) := by
  have hn := hx.n
  have hl := hc.len
  unfold g40
  rw [open_eq N (by omega) hx (by simp) (fun d hd => by obtain rfl := List.mem_singleton.1 hd; exact hc)]
  simp only [Option.bind_some, ieq_self, Bool.not_true, cond_false]
  rw [of72 N c (by omega)]
  simp only [Option.bind_some]
  rw [g40L122_eq]
  have := way40_loop N (by omega) (fun e6 e7 e8 => if 0 ≤ (0 : Int) ∧ (0 : Int) ≤ e7.1 ∧ (e7.1 : Int) ≤ 5 then Option.bind (g65 N (List.drop (Int.toNat 0) (List.take (Int.toNat e7.1) e8))) fun r9 => some (r9, e6, (0 : Int), ()) else none) hx w hw N 0 c (by omega) (by omega) hc
  simp only [Int.natCast_zero, List.drop_zero, Nat.zero_add] at this
  refine this.trans ?_
  have hd := doL_crowd hx w c hc
  have hdl := hd.len
  rw [if_pos ⟨by omega, by omega, by omega⟩, show Int.toNat x.1 = (doL x c w).1.length by omega, pad_take]
  unfold g65
  rw [if_pos (by simp; omega), if_pos (by simp [maxCount]; omega)]
  rfl

theorem do41_loop (N : Nat) {x : PP} (hx : PT x) (w : List Int) (hw : w.length ≤ 1000) :
    ∀ (F i : Nat) (c : List Int), w.length - i < F → i ≤ w.length → Crowd c x.1 → g41L26f N F (fun e2 e3 e4 e5 e6 => some (e4, e5, ())) (fun e7 e8 e9 => some (e7, ((List.length e8 : Nat) : Int), ())) c w (i : Int) x = some ((doL x c (w.drop i)).1, ((i + (doL x c (w.drop i)).2 : Nat) : Int), ())
  | 0, i, c, h, _, _ => by omega
  | F + 1, i, c, h, hi, hc => by
    rw [g41L26f_succ]
    unfold g41L26B
    by_cases hlt : i < w.length
    · have e1 : decide ((i : Int) < (w.length : Int)) = true := by simp; omega
      rw [e1, cond_true, if_pos (ix hlt), Int.toNat_natCast, getD_drop w i hlt, meet42 N x hx c hc.len hc.bd]
      generalize w.getD i 0 = r
      simp only [Option.bind_some]
      unfold doL
      have hm := hc.meet hx r
      cases hb : (meetL x c r).2.1 with
      | false => simp only [Bool.not_false, cond_true, cond_false, Nat.add_zero]
      | true =>
        simp only [Bool.not_true, cond_false, cond_true]
        rw [wn i (by omega)]
        refine (do41_loop N hx w hw F (i + 1) _ (by omega) (by omega) hm).trans ?_
        congr 3
        omega
    · have e1 : decide ((i : Int) < (w.length : Int)) = false := by simp; omega
      rw [e1, cond_false, List.drop_eq_nil_of_le (by omega)]
      have : i = w.length := by omega
      rw [this]
      rfl
theorem do41_eq (N : Nat) (hN : 1001 < N) {x : PP} (hx : PT x) (c w : List Int) (hc : Crowd c x.1) (hw : w.length ≤ 1000) : g41 N x c w = some ((doL x c w).1, ((doL x c w).2 : Int), ()) := by
  unfold g41
  rw [g41L26_eq]
  have := do41_loop N hx w hw N 0 c (by omega) (by omega) hc
  simp only [Int.natCast_zero, List.drop_zero, Nat.zero_add] at this
  exact this

theorem pick_loop (N : Nat) {C : Type} (k0 : List Int → List Int → Int → List Int → Int → PP → List Int → Option C) {x : PP} (hx : PT x) (w c0 : List Int) (i0 : Int) (i : Nat) (hi : i < w.length) (ways : List Int) (hways : ways.length ≤ 1000) :
    ∀ (F k : Nat) (c : List Int), x.2.2.2.1.length - k < F → k ≤ x.2.2.2.1.length → Crowd c x.1 → ∃ (c' ways' : List Int), Crowd c' x.1 ∧ ways'.length ≤ ways.length + 1 ∧ g7L65617554f N F k0 c0 w i0 c (i : Int) (k : Int) x ways = k0 c0 w i0 c' (i : Int) x ways'
  | 0, k, c, h, _, _ => by omega
  | F + 1, k, c, h, hk, hc => by
    rw [g7L65617554f_succ]
    unfold g7L65617554B
    have hr15 := hx.rules.1
    by_cases hlt : k < x.2.2.2.1.length
    · have e1 : decide ((k : Int) < (x.2.2.2.1.length : Int)) = true := by simp; omega
      have hw2 : IntKind.wrap .u64 ((List.length x.2.2.2.1 : Nat) : Int) = ((List.length x.2.2.2.1 : Nat) : Int) := wu64n (by omega) (by omega)
      rw [e1, cond_true, if_pos (ix hi), hw2, if_neg (by omega), if_neg (by omega)]
      generalize Int.tmod _ ((List.length x.2.2.2.1 : Nat) : Int) = r
      rw [meet42 N x hx c hc.len hc.bd]
      have hm := hc.meet hx r
      simp only [Option.bind_some]
      cases hb : (meetL x c r).2.1 with
      | false =>
        simp only [cond_false]
        rw [wn k (by omega)]
        exact pick_loop N k0 hx w c0 i0 i hi ways hways F (k + 1) c (by omega) (by omega) hc
      | true =>
        simp only [cond_true]
        rw [if_pos (by simp [maxCount]; omega)]
        exact ⟨_, _, hm, by simp, rfl⟩
    · have e1 : decide ((k : Int) < (x.2.2.2.1.length : Int)) = false := by simp; omega
      rw [e1, cond_false]
      exact ⟨c, ways, hc, by omega, rfl⟩

theorem ways_loop (N : Nat) (hN : 100 < N) {C : Type} (k0 : List Int → Int → PP → List Int → Option C) {x : PP} (hx : PT x) (w c0 : List Int) (hw : w.length ≤ 100) (i0 : Int) :
    ∀ (F i : Nat) (c ways : List Int), w.length - i < F → i ≤ w.length → ways.length ≤ i → Crowd c x.1 → ∃ (ways' : List Int), ways'.length ≤ w.length ∧ g7L1025274f N F k0 c0 w i0 c (i : Int) x ways = k0 c0 i0 x ways'
  | 0, i, c, ways, h, _, _, _ => by omega
  | F + 1, i, c, ways, h, hi, hl, hc => by
    rw [g7L1025274f_succ]
    unfold g7L1025274B
    by_cases hlt : i < w.length
    · have e1 : decide ((i : Int) < (w.length : Int)) = true := by simp; omega
      have hr15 := hx.rules.1
      rw [e1, cond_true, g7L65617554_eq]
      obtain ⟨c', ways1, hc', hl', he⟩ := pick_loop N (fun e9 e10 e11 e12 e13 e14 e15 => g7L1025274f N F k0 e9 e10 e11 e12 (IntKind.wrap .i64 (e13 + 1)) e14 e15) hx w c0 i0 i hlt ways (by omega) N 0 c (by omega) (by omega) hc
      simp only [Int.natCast_zero] at he
      obtain ⟨ways2, hl2, he2⟩ := ways_loop N hN k0 hx w c0 hw i0 F (i + 1) c' ways1 (by omega) (by omega) (by omega) hc'
      refine ⟨ways2, hl2, he.trans ?_⟩
      rw [wn i (by omega)]
      exact he2
    · have e1 : decide ((i : Int) < (w.length : Int)) = false := by simp; omega
      rw [e1, cond_false]
      exact ⟨ways, by omega, rfl⟩

theorem meets_round (N : Nat) (hN : 1001 < N) {C : Type} (rec : List Int → List Int → Int → PP → Option C) (k0 : Bool → PP → Option C) (k1 : PP → Option C) {x : PP} (hx : PT x) (c w : List Int) (hc : Crowd c x.1) (hw : w.length ≤ 100) (i : Int) (hi : i < 2) :
    ∃ w' : List Int, w'.length ≤ 100 ∧ g7L250B N rec k0 k1 c w i x = rec c w' (IntKind.wrap .i64 (i + 1)) x := by
  unfold g7L250B
  have ei : decide (i < 2) = true := by simpa using hi
  have hd := doL_crowd hx w c hc
  have hdl := hd.len
  have hn := hx.n
  obtain ⟨w', hl, he⟩ := ways_loop N (by omega) (fun e16 e17 e18 e19 => rec e16 e19 (IntKind.wrap .i64 (e17 + 1)) e18) hx w c hw i N 0 c [] (by omega) (by omega) (by simp) hc
  simp only [Int.natCast_zero] at he
  refine ⟨w', by omega, ?_⟩
  rw [ei, cond_true, hx.given N]
  simp only [Option.bind_some]
  rw [meet40_eq N hN hx c w hc (by omega), do41_eq N hN hx c w hc (by omega)]
  simp only [Option.bind_some, ieq_self, Bool.not_true, cond_false]
  rw [ints_self N (by omega) _ (by omega)]
  simp only [Option.bind_some, ieq_self, Bool.not_true, cond_false]
  rw [g7L1025274_eq]
  exact he

theorem tallyMeets_plain (p : PP) (l way : List Int) : g7 2000 p l way = some true := by
  unfold g7
  obtain ⟨x, ex, hx, _⟩ := tame_eq 2000 (by omega) p 5 (by omega) (by omega)
  have hn := hx.n
  obtain ⟨c, ec, hc, _⟩ := gathered_eq 2000 (by omega) l x.1 (by omega) (by omega) 9 (by omega) (by omega)
  rw [ex]
  simp only [Option.bind_some]
  rw [ec, few_eq 2000 way 60 (by omega) (by omega)]
  simp only [Option.bind_some]
  rw [g7L250_eq, show (2000 : Nat) = 1997 + 1 + 1 + 1 from rfl, g7L250f_succ]
  obtain ⟨w1, hw1, e1⟩ := meets_round (1997 + 1 + 1 + 1) (by omega) (fun a b c d => g7L250f (1997 + 1 + 1 + 1) (1997 + 1 + 1) (fun e20 e21 => some e20) (fun e22 => Option.bind (g29 (1997 + 1 + 1 + 1)) fun r23 => some r23) a b c d) (fun e20 e21 => some e20) (fun e22 => Option.bind (g29 (1997 + 1 + 1 + 1)) fun r23 => some r23) hx c (way.take (Int.toNat 60)) hc (by simp; omega) 0 (by omega)
  refine e1.trans ?_
  rw [g7L250f_succ]
  obtain ⟨w2, hw2, e2⟩ := meets_round (1997 + 1 + 1 + 1) (by omega) (fun a b c d => g7L250f (1997 + 1 + 1 + 1) (1997 + 1) (fun e20 e21 => some e20) (fun e22 => Option.bind (g29 (1997 + 1 + 1 + 1)) fun r23 => some r23) a b c d) (fun e20 e21 => some e20) (fun e22 => Option.bind (g29 (1997 + 1 + 1 + 1)) fun r23 => some r23) hx c w1 hc hw1 (IntKind.wrap .i64 (0 + 1)) (by decide)
  refine e2.trans ?_
  rw [g7L250f_succ]
  unfold g7L250B
  have e3 : decide (IntKind.wrap .i64 (IntKind.wrap .i64 (0 + 1) + 1) < 2) = false := by decide
  rw [e3, cond_false]
  show (Option.bind (g29 2000) fun r23 => some r23) = some true
  rw [awake_true]; rfl
end Go.Pv

