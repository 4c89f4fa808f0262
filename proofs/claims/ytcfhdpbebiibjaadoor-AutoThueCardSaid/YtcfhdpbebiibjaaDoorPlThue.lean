/- Seat 05: AutoThue, plain: the sequence of Thue and Morse has no overlap, and its numbers are the parities of the ones. -/
import Derived.Test.YtcfhdpbebiibjaaDoorPlAt0
import Derived.Test.YtcfhdpbebiibjaaDoorPvAB
set_option linter.unusedVariables false
set_option linter.unusedSimpArgs false
namespace Go.Pv

/-! ### The sequence -/
def pop (n : Nat) : Nat := if h : n = 0 then 0 else n % 2 + pop (n / 2)
termination_by n
decreasing_by omega
def tm (n : Nat) : Nat := pop n % 2
theorem pop_eq (n : Nat) (h : n ≠ 0) : pop n = n % 2 + pop (n / 2) := by rw [pop, dif_neg h]
theorem pop_zero : pop 0 = 0 := by rw [pop]; simp
theorem tm_even (k : Nat) : tm (2 * k) = tm k := by
  unfold tm
  by_cases h : k = 0
  · subst h; rfl
  · rw [pop_eq (2 * k) (by omega), show 2 * k / 2 = k by omega]; omega
theorem tm_odd (k : Nat) : tm (2 * k + 1) + tm k = 1 := by
  unfold tm
  rw [pop_eq (2 * k + 1) (by omega), show (2 * k + 1) / 2 = k by omega]; omega
theorem tm_le (k : Nat) : tm k ≤ 1 := by unfold tm; omega
theorem tm_pair (k : Nat) : tm (2 * k) ≠ tm (2 * k + 1) := by
  have h1 := tm_even k; have h2 := tm_odd k; omega
/-- No three alike in a row. -/
theorem tm_three (n : Nat) (h1 : tm n = tm (n + 1)) (h2 : tm (n + 1) = tm (n + 2)) : False := by
  rcases Nat.mod_two_eq_zero_or_one n with h | h
  · have := tm_pair (n / 2)
    rw [show 2 * (n / 2) = n by omega] at this
    exact this h1
  · have := tm_pair ((n + 1) / 2)
    rw [show 2 * ((n + 1) / 2) = n + 1 by omega] at this
    exact this h2

/-- No overlap: no block that comes twice in a row is followed by its first letter. -/
theorem tm_free : ∀ (p : Nat), 1 ≤ p → ∀ n : Nat, (∀ j, j ≤ p → tm (n + j) = tm (n + p + j)) → False := by
  intro p
  induction p using Nat.strongRecOn with
  | _ p ih =>
  intro hp n h
  rcases Nat.mod_two_eq_zero_or_one p with hp2 | hp2
  · -- an even period: half of it in half of the sequence
    obtain ⟨q, rfl⟩ : ∃ q, p = 2 * q := ⟨p / 2, by omega⟩
    rcases Nat.mod_two_eq_zero_or_one n with hn | hn
    · obtain ⟨m, rfl⟩ : ∃ m, n = 2 * m := ⟨n / 2, by omega⟩
      refine ih q (by omega) (by omega) m fun j hj => ?_
      have := h (2 * j) (by omega)
      rw [show 2 * m + 2 * j = 2 * (m + j) by omega, show 2 * m + 2 * q + 2 * j = 2 * (m + q + j) by omega, tm_even, tm_even] at this
      exact this
    · obtain ⟨m, rfl⟩ : ∃ m, n = 2 * m + 1 := ⟨n / 2, by omega⟩
      refine ih q (by omega) (by omega) m fun j hj => ?_
      have := h (2 * j) (by omega)
      rw [show 2 * m + 1 + 2 * j = 2 * (m + j) + 1 by omega, show 2 * m + 1 + 2 * q + 2 * j = 2 * (m + q + j) + 1 by omega] at this
      have a := tm_odd (m + j); have b := tm_odd (m + q + j)
      omega
  · by_cases h1 : p = 1
    · subst h1
      exact tm_three n (by have := h 0 (by omega); simpa using this) (by have := h 1 (by omega); simpa using this)
    · -- an odd period from three on: all neighbours differ
      have alt : ∀ i, n ≤ i → i < n + p → tm i ≠ tm (i + 1) := by
        intro i hi hi2
        have e1 := h (i - n) (by omega)
        have e2 := h (i - n + 1) (by omega)
        rw [show n + (i - n) = i by omega, show n + p + (i - n) = i + p by omega] at e1
        rw [show n + (i - n + 1) = i + 1 by omega, show n + p + (i - n + 1) = i + p + 1 by omega] at e2
        rcases Nat.mod_two_eq_zero_or_one i with hi3 | hi3
        · have := tm_pair (i / 2)
          rw [show 2 * (i / 2) = i by omega] at this
          exact this
        · have := tm_pair ((i + p) / 2)
          rw [show 2 * ((i + p) / 2) = i + p by omega] at this
          rw [e1, e2]; exact this
      have alt2 : ∀ i, n ≤ i → i < n + 2 * p → tm i ≠ tm (i + 1) := by
        intro i hi hi2
        by_cases hlt : i < n + p
        · exact alt i hi hlt
        · have e1 := h (i - n - p) (by omega)
          have e2 := h (i - n - p + 1) (by omega)
          rw [show n + (i - n - p) = i - p by omega, show n + p + (i - n - p) = i by omega] at e1
          rw [show n + (i - n - p + 1) = i - p + 1 by omega, show n + p + (i - n - p + 1) = i + 1 by omega] at e2
          rw [← e1, ← e2]
          exact alt (i - p) (by omega) (by omega)
      -- so numbers at odd places pair up
      have pr : ∀ k, n ≤ 2 * k + 1 → 2 * k + 1 < n + 2 * p → tm k = tm (k + 1) := by
        intro k hk hk2
        have := alt2 (2 * k + 1) hk hk2
        have a := tm_odd k
        have b := tm_even (k + 1)
        rw [show 2 * (k + 1) = 2 * k + 1 + 1 by omega] at b
        have c := tm_le (k + 1)
        have d := tm_le k
        omega
      obtain ⟨k, hk, hk2⟩ : ∃ k, n ≤ 2 * k + 1 ∧ 2 * k + 3 < n + 2 * p := ⟨n / 2, by omega, by omega⟩
      exact tm_three k (pr k hk (by omega)) (pr (k + 1) (by omega) (by omega))

/-! ### The machine's numbers -/
abbrev thue : MM := (2, [0, 1], [[0, 1], [1, 0]], ())
theorem thue_tame : Tame thue := by
  refine ⟨by simp [thue], by simp [thue], by simp [thue], by simp [thue], by simp [thue], ?_⟩
  intro s hs
  simp only [thue, List.length_cons, List.length_nil] at hs
  have : s = 0 ∨ s = 1 := by omega
  rcases this with rfl | rfl <;> rfl

theorem thue_at : ∀ (F n s : Nat), n < 2 ^ F → F ≤ 60 → s < 2 → atP thue.2.2.1 2 (F + 1) (n : Int) (s : Int) = some (((s + pop n) % 2 : Nat) : Int)
  | 0, n, s, h, _, hs => by
    have : n = 0 := by simp at h; omega
    subst this
    simp only [atP]
    rw [if_neg (by simp), pop_zero, Nat.add_zero, Nat.mod_eq_of_lt hs]
  | F + 1, n, s, h, hF, hs => by
    rw [atP]
    by_cases hn : n = 0
    · subst hn
      rw [if_neg (by simp), pop_zero, Nat.add_zero, Nat.mod_eq_of_lt hs]
    · rw [if_pos (by omega)]
      have em : Int.tmod (n : Int) 2 = ((n % 2 : Nat) : Int) := by rw [Int.tmod_eq_emod_of_nonneg (by omega)]; omega
      have ed : IntKind.wrap .i64 (Int.tdiv (n : Int) 2) = ((n / 2 : Nat) : Int) := by
        have hp : 2 ^ (F + 1) ≤ 2 ^ 60 := Nat.pow_le_pow_right (by omega) hF
        have : (2 : Nat) ^ 60 = 1152921504606846976 := by decide
        rw [Int.tdiv_eq_ediv_of_nonneg (by omega), w64 (by omega) (by omega)]; omega
      have e1 : atStep thue.2.2.1 2 (n : Int) (s : Int) = some (((s + n) % 2 : Nat) : Int) := by
        unfold atStep
        rw [if_neg (by omega), em]
        have : s = 0 ∨ s = 1 := by omega
        have hm : n % 2 = 0 ∨ n % 2 = 1 := by omega
        rcases this with rfl | rfl <;> rcases hm with hm | hm <;> rw [hm] <;> simp [thue, idx] <;> omega
      rw [e1, ed]
      simp only
      rw [thue_at F (n / 2) ((s + n) % 2) (by rw [Nat.pow_succ] at h; omega) (by omega) (by omega), pop_eq n hn]
      congr 2
      omega

theorem thue_V1 (N : Nat) (hN : 100 ≤ N) (n : Nat) (h : n < 2 ^ 60) : V1 N thue (n : Int) = (tm n : Int) := by
  have e1 := thue_at 60 n 0 h (by omega) (by omega)
  have e4 := atP_more thue.2.2.1 2 61 (N - 61) (n : Int) 0 _ e1
  rw [show 61 + (N - 61) = N by omega] at e4
  unfold V1 g70
  rw [show thue.1 = 2 from rfl]
  simp only [Int.natCast_zero] at e4
  rw [e4, Option.bind_some, Nat.zero_add]
  have hp : pop n % 2 = 0 ∨ pop n % 2 = 1 := by omega
  unfold tm
  rcases hp with hp | hp <;> rw [hp] <;> rfl

theorem thue_eq (N : Nat) (hN : 100 ≤ N) (n : Nat) (h : n < 2 ^ 60) : g35 N thue (n : Int) = some ((tm n : Int), 0, ()) := by
  have : (2 : Nat) ^ 60 = 1152921504606846976 := by decide
  rw [at_eq thue_tame N hN (n : Int) (by omega) (by omega), thue_V1 N hN n h]

/-! ### The law's loops -/
theorem same_loop (N : Nat) (hN : 100 ≤ N) {C : Type} (k0 : Int → Bool → Bool → Int → Bool → MM → Option C) (k1 : Int → Bool → Int → Bool → MM → Option C) (n p : Nat) (hn : n < 1000000000001) (hp : 1 ≤ p ∧ p ≤ 60) (u : Bool) (v : Int) :
    ∀ (F j : Nat), p + 1 - j < F → j ≤ p + 1 → (∀ i, i < j → tm (n + i) = tm (n + p + i)) → g9L1018f N (F + 1) k0 k1 (n : Int) (p : Int) u v true (j : Int) thue = k1 (n : Int) u v false thue
  | 0, j, hF, _, _ => by omega
  | F + 1, j, hF, hj, hall => by
    have h60 : (2 : Nat) ^ 60 = 1152921504606846976 := by decide
    rw [g9L1018f_succ]
    unfold g9L1018B
    by_cases hle : j ≤ p
    · rw [decide_eq_true (show (j : Int) ≤ (p : Int) by omega), cond_true, cond_true, w64 (x := (n : Int) + j) (by omega) (by omega), w64 (x := (p : Int) + j) (by omega) (by omega), w64 (x := (n : Int) + ((p : Int) + j)) (by omega) (by omega)]
      rw [show ((n : Int) + j) = ((n + j : Nat) : Int) by omega, show ((n : Int) + ((p : Int) + j)) = ((n + p + j : Nat) : Int) by omega, thue_eq N hN _ (by omega), thue_eq N hN _ (by omega)]
      simp only [Option.bind_some, ieq_self, Bool.not_true, cond_false]
      rw [wn j (by omega)]
      by_cases he : tm (n + j) = tm (n + p + j)
      · rw [he, ieq_self]
        exact same_loop N hN k0 k1 n p hn hp u v F (j + 1) (by omega) (by omega) (fun i hi => by
          by_cases hij : i = j
          · subst hij; exact he
          · exact hall i (by omega))
      · have : ieq (tm (n + j) : Int) (tm (n + p + j) : Int) = false := by simp [ieq]; omega
        rw [this, g9L1018f_succ]
        unfold g9L1018B
        cases decide (((j + 1 : Nat) : Int) ≤ (p : Int)) <;> rfl
    · exact absurd (fun i hi => hall i (by omega)) (fun h => tm_free p hp.1 n h)

theorem ones_loop (N : Nat) {C : Type} (k0 : Int → Bool → Int → Bool → Int → MM → Option C) (a : Int) (b : Bool) (c : Int) (d : Bool) (x : MM) :
    ∀ (G F m o : Nat), F < G → m < 2 ^ F → F ≤ 60 → o ≤ 1000 - F → g9L4090f N G k0 a b c d (o : Int) (m : Int) x = k0 a b c d ((o + pop m : Nat) : Int) x
  | 0, F, m, o, hG, _, _, _ => by omega
  | G + 1, F, m, o, hG, h, hF, ho => by
    rw [g9L4090f_succ]
    unfold g9L4090B
    by_cases hm : m = 0
    · subst hm
      rw [decide_eq_false (show ¬ (0 : Int) < ((0 : Nat) : Int) by simp), cond_false, pop_zero, Nat.add_zero]
    · rw [decide_eq_true (show (0 : Int) < (m : Int) by omega), cond_true]
      cases F with
      | zero => simp at h; omega
      | succ F =>
        have em : Int.tmod (m : Int) 2 = ((m % 2 : Nat) : Int) := by rw [Int.tmod_eq_emod_of_nonneg (by omega)]; omega
        have ed : IntKind.wrap .i64 (Int.tdiv (m : Int) 2) = ((m / 2 : Nat) : Int) := by
          have hp : 2 ^ (F + 1) ≤ 2 ^ 60 := Nat.pow_le_pow_right (by omega) hF
          have : (2 : Nat) ^ 60 = 1152921504606846976 := by decide
          rw [Int.tdiv_eq_ediv_of_nonneg (by omega), w64 (by omega) (by omega)]; omega
        rw [em, ed, w64 (x := (o : Int) + ((m % 2 : Nat) : Int)) (by omega) (by omega), show (o : Int) + ((m % 2 : Nat) : Int) = ((o + m % 2 : Nat) : Int) by omega]
        refine (ones_loop N k0 a b c d x G F (m / 2) (o + m % 2) (by omega) (by rw [Nat.pow_succ] at h; omega) (by omega) (by omega)).trans ?_
        rw [pop_eq m hm, Nat.add_assoc]

theorem comes_morse : g42 2000 thue = some (0, 0, false, 0, ()) := by kernel_rfl
theorem thue_awake : g24 2000 = some true := by kernel_rfl

theorem rem_u64 (a m : Int) (hm : 0 < m) (hm2 : m ≤ 1000000000000) : ∃ n : Nat, IntKind.wrap .i64 (Int.tmod (IntKind.wrap .u64 a) m) = (n : Int) ∧ (n : Int) < m := by
  rw [wu64]
  have h1 := Int.emod_nonneg a (show (18446744073709551616 : Int) ≠ 0 by omega)
  rw [Int.tmod_eq_emod_of_nonneg h1]
  have h2 := Int.emod_nonneg (a % 18446744073709551616) (show m ≠ 0 by omega)
  have h3 := Int.emod_lt_of_pos (a % 18446744073709551616) hm
  rw [w64 (by omega) (by omega)]
  exact ⟨(a % 18446744073709551616 % m).toNat, by omega, by omega⟩

theorem thue_plain (a b : Int) : g9 2000 a b = some true := by
  obtain ⟨n, en, hn⟩ := rem_u64 a 1000000000000 (by omega) (by omega)
  obtain ⟨q, eq, hq⟩ := rem_u64 b 60 (by omega) (by omega)
  have h60 : (2 : Nat) ^ 60 = 1152921504606846976 := by decide
  have h42 : (2 : Nat) ^ 42 = 4398046511104 := by decide
  unfold g9
  rw [show g31 2000 = some thue from rfl, Option.bind_some, comes_morse, Option.bind_some, en, eq, w64 (x := 1 + (q : Int)) (by omega) (by omega), g9L1018_eq]
  have s1 := fun k0 k1 => same_loop 2000 (by omega) (C := Bool) k0 k1 n (1 + q) (by omega) (by omega) false 0 1999 0 (by omega) (by omega) (fun i hi => by omega)
  rw [show ((1 + q : Nat) : Int) = 1 + (q : Int) by omega] at s1
  refine (s1 _ _).trans ?_
  rw [g9L4090_eq]
  have s2 := fun k0 => ones_loop 2000 (C := Bool) k0 (n : Int) false 0 false thue 2000 42 n 0 (by omega) (by omega) (by omega) (by omega)
  simp only [Int.natCast_zero] at s2
  refine (s2 _).trans ?_
  rw [thue_eq 2000 (by omega) n (by omega), Option.bind_some, ieq_self, cond_true, Bool.not_false, cond_true, cond_true]
  simp only [ieq_self, cond_true]
  rw [Nat.zero_add]
  have : Int.tmod (pop n : Int) 2 = (tm n : Int) := by rw [Int.tmod_eq_emod_of_nonneg (by omega)]; unfold tm; omega
  rw [this, ieq_self, cond_true, thue_awake]; rfl

theorem autoThue_bnd (a : ProdT (List.map AS.d [.int .i64, .int .i64])) (h : BndL [.int .i64, .int .i64] a) : g9 2000 a.1 a.2.1 = some true := thue_plain a.1 a.2.1

end Go.Pv
