/- Seat 05, plain: AutoAts. -/
import Derived.Test.YtcfhdpbebiibjaaDoorPlB
set_option linter.unusedVariables false
set_option linter.unusedSimpArgs false
namespace Go.Pv

@[simp] theorem ieq_self (x : Int) : ieq x x = true := by simp only [ieq, decide_true]
/-- Number j of a machine's sequence. -/
def V1 (N : Nat) (x : MM) (j : Int) : Int := (g70 N x 0 j).getD 0
theorem V1_eq {x : MM} (h : Tame x) (N : Nat) (hN : 100 ≤ N) (n : Int) (h0 : 0 ≤ n) (h1 : n < 9223372036854775808) : g70 N x 0 n = some (V1 N x n) := by
  obtain ⟨v, e, _⟩ := at_some h N hN n h0 h1
  simp [V1, e]

theorem first_loop {x : MM} (h : Tame x) (N : Nat) (hN : 100 ≤ N) {C : Type} (k0 : MM → List Int → Option C) (m : Nat) (hm : m ≤ 1000) :
    ∀ (F i : Nat), m - i < F → i ≤ m → g30L250f N F k0 (m : Int) (i : Int) x ((List.range i).map fun j : Nat => V1 N x (j : Int)) = k0 x ((List.range m).map fun j : Nat => V1 N x (j : Int))
  | 0, i, hF, _ => by omega
  | F + 1, i, hF, hi => by
    rw [g30L250f_succ]
    unfold g30L250B
    by_cases hlt : i < m
    · have e1 : decide ((i : Int) < (m : Int)) = true := by simp; omega
      rw [e1, cond_true, V1_eq h N hN (i : Int) (by omega) (by omega)]
      simp only [Option.bind_some]
      rw [if_pos (by simp [maxCount]; omega), wn i (by omega)]
      have : ((List.range i).map fun j : Nat => V1 N x (j : Int)) ++ [V1 N x (i : Int)] = (List.range (i + 1)).map fun j : Nat => V1 N x (j : Int) := by
        rw [List.range_succ]; simp
      rw [this]
      exact first_loop h N hN k0 m hm F (i + 1) (by omega) (by omega)
    · have e1 : decide ((i : Int) < (m : Int)) = false := by simp; omega
      have : i = m := by omega
      rw [e1, cond_false, this]

theorem first_bad {x : MM} (h : Tame x) (N : Nat) (hN : 100 ≤ N) (m : Int) (hm : m < 0 ∨ 1000 < m) : g30 N x m = some ([], 1, ()) := by
  unfold g30
  rw [h.check N (by omega)]
  have e : g57 N 0 1000 [m] = some false := by
    rw [are_eq N _ _ _ (by simp; omega) (by simp)]; simp; omega
  simp [e]
theorem first_eq {x : MM} (h : Tame x) (N : Nat) (hN : 1001 < N) (m : Nat) (hm : m ≤ 1000) : g30 N x (m : Int) = some ((List.range m).map (fun j : Nat => V1 N x (j : Int)), 0, ()) := by
  unfold g30
  rw [h.check N (by omega)]
  have e : g57 N 0 1000 [(m : Int)] = some true := by
    rw [are_eq N _ _ _ (by simp; omega) (by simp)]; simp; omega
  rw [e]
  have := first_loop h N (by omega) (fun e4 e5 => some (e5, (0 : Int), ())) m hm N 0 (by omega) (by omega)
  simp only [Int.natCast_zero, List.range_zero, List.map_nil] at this
  simp [g30L250_eq, this]

theorem at_bad {x : MM} (h : Tame x) (N : Nat) (hN : 100 ≤ N) (n : Int) (hn : n < 0) : g35 N x n = some (0, 1, ()) := by
  unfold g35
  rw [h.check N (by omega)]
  simp [hn]
theorem at_eq {x : MM} (h : Tame x) (N : Nat) (hN : 100 ≤ N) (n : Int) (h0 : 0 ≤ n) (h1 : n < 9223372036854775808) : g35 N x n = some (V1 N x n, 0, ()) := by
  unfold g35
  rw [h.check N (by omega)]
  have : ¬ n < 0 := by omega
  simp [this, V1_eq h N hN n h0 h1]

theorem cmp_loop {x : MM} (h : Tame x) (N : Nat) (hN : 100 ≤ N) {C : Type} (k0 : Int → Bool → Int → Int → MM → MM → Option C) (k1 : Int → Int → Int → MM → MM → Option C) (m : Nat) (hm : m ≤ 1000) (p q : Int) (y : MM) :
    ∀ (F i : Nat), m - i < F → i ≤ m → g6L2050526f N F k0 k1 (m : Int) p q ((List.range m).map fun j : Nat => V1 N x (j : Int)) (i : Int) x y = k1 (m : Int) p q x y
  | 0, i, hF, _ => by omega
  | F + 1, i, hF, hi => by
    rw [g6L2050526f_succ]
    unfold g6L2050526B
    by_cases hlt : i < m
    · have e1 : decide ((i : Int) < (m : Int)) = true := by simp; omega
      have e2 : idx (i : Int) ((List.range m).map fun j : Nat => V1 N x (j : Int)).length := ⟨by omega, by simp; omega⟩
      rw [e1, cond_true, if_pos e2, ref_at, V1_eq h N hN (i : Int) (by omega) (by omega)]
      have e3 : ((List.range m).map fun j : Nat => V1 N x (j : Int)).getD (Int.toNat (i : Int)) 0 = V1 N x (i : Int) := by
        simp [List.getD_eq_getElem?_getD, hlt]
      simp only [Option.bind_some, e3, ieq, decide_true, Bool.not_true, cond_false]
      rw [wn i (by omega)]
      exact cmp_loop h N hN k0 k1 m hm p q y F (i + 1) (by omega) (by omega)
    · have e1 : decide ((i : Int) < (m : Int)) = false := by simp; omega
      rw [e1, cond_false]

/-- One round of the law: nothing is wrong. -/
theorem ats_round {x : MM} (h : Tame x) (N : Nat) (hN : 1001 < N) {C : Type} (rec : Int → Int → Int → MM → MM → Option C) (k0 : Bool → MM → MM → Option C) (k1 : MM → MM → Option C) (m n i : Int) (hi : i < 2) (hn : -9223372036854775808 ≤ n ∧ n < 9223372036854775808) :
    g6L250B N rec k0 k1 m n i x x = rec (IntKind.wrap .i64 (Int.tmod (IntKind.wrap .u64 m) 200)) (IntKind.wrap .i64 (Int.fdiv (IntKind.wrap .u64 n) (2 ^ 2))) (IntKind.wrap .i64 (i + 1)) x x := by
  have e1 : decide (i < 2) = true := by simpa using hi
  have list : m < 0 ∨ 1000 < m ∨ ∃ k : Nat, k ≤ 1000 ∧ m = (k : Int) := by
    by_cases h1 : m < 0
    · exact .inl h1
    · by_cases h2 : 1000 < m
      · exact .inr (.inl h2)
      · exact .inr (.inr ⟨m.toNat, by omega, by omega⟩)
  have atv : (n < 0 ∧ g35 N x n = some (0, 1, ())) ∨ (¬ n < 0 ∧ g35 N x n = some (V1 N x n, 0, ()) ∧ g36 N x 0 n = some (V1 N x n)) := by
    by_cases h1 : n < 0
    · exact .inl ⟨h1, at_bad h N (by omega) n h1⟩
    · exact .inr ⟨h1, at_eq h N (by omega) n (by omega) hn.2, by rw [ref_at]; exact V1_eq h N (by omega) n (by omega) hn.2⟩
  unfold g6L250B
  rw [e1, cond_true]
  rcases atv with ⟨hn1, ea⟩ | ⟨hn1, ea, eb⟩
  · have hn2 : ¬ 0 ≤ n := by omega
    rw [ea]
    rcases list with hm | hm | ⟨k, hk, rfl⟩
    · rw [first_bad h N (by omega) m (.inl hm)]
      simp [hn1, hn2, hm]
    · have hm2 : ¬ m < 0 := by omega
      rw [first_bad h N (by omega) m (.inr hm)]
      simp [hn1, hn2, hm, hm2]
    · rw [first_eq h N hN k hk]
      have hm1 : ¬ ((k : Int) < 0) := by omega
      have hm2 : ¬ ((1000 : Int) < (k : Int)) := by omega
      have cl := fun {C : Type} (k0 : Int → Bool → Int → Int → MM → MM → Option C) (k1 : Int → Int → Int → MM → MM → Option C) => cmp_loop h N (by omega) k0 k1 k hk n i x N 0 (by omega) (by omega)
      simp only [Int.natCast_zero] at cl
      simp [hn1, hn2, hm1, hm2, g6L2050526_eq, cl]
  · have hn2 : 0 ≤ n := by omega
    rw [ea]
    rcases list with hm | hm | ⟨k, hk, rfl⟩
    · rw [first_bad h N (by omega) m (.inl hm)]
      simp [hn1, hn2, hm, eb]
    · have hm2 : ¬ m < 0 := by omega
      rw [first_bad h N (by omega) m (.inr hm)]
      simp [hn1, hn2, hm, hm2, eb]
    · rw [first_eq h N hN k hk]
      have hm1 : ¬ ((k : Int) < 0) := by omega
      have hm2 : ¬ ((1000 : Int) < (k : Int)) := by omega
      have cl := fun {C : Type} (k0 : Int → Bool → Int → Int → MM → MM → Option C) (k1 : Int → Int → Int → MM → MM → Option C) => cmp_loop h N (by omega) k0 k1 k hk n i x N 0 (by omega) (by omega)
      simp only [Int.natCast_zero] at cl
      simp [hn1, hn2, hm1, hm2, eb, g6L2050526_eq, cl]

theorem awake_true : g24 2000 = some true := by kernel_rfl

theorem ats_plain (a : MM) (b : Int × Int × Unit) (m : Int) (hb : -9223372036854775808 ≤ b.2.1 ∧ b.2.1 < 9223372036854775808) : g6 2000 a b m = some true := by
  unfold g6
  obtain ⟨k, e1, h1, h2⟩ := base_eq 2000 b.1
  obtain ⟨x, e2, hx, _, _⟩ := tame_eq 2000 (by omega) a k 12 ⟨h1, h2⟩ (by omega)
  rw [e1]
  simp only [Option.bind_some]
  rw [e2]
  simp only [Option.bind_some]
  rw [hx.given 2000 (by omega)]
  simp only [Option.bind_some]
  rw [g6L250_eq, show (2000 : Nat) = 1997 + 1 + 1 + 1 from rfl]
  rw [g6L250f_succ, ats_round hx _ (by omega) _ _ _ _ _ _ (by omega) hb]
  obtain ⟨r1, er1, _, _⟩ := low (x := m) (m := 200) (by omega) (by omega)
  have en := wi64_r (Int.fdiv (IntKind.wrap .u64 b.2.1) (2 ^ 2))
  rw [g6L250f_succ, ats_round hx _ (by omega) _ _ _ _ _ _ (by decide) en]
  rw [g6L250f_succ]
  unfold g6L250B
  have e3 : decide (IntKind.wrap .i64 (IntKind.wrap .i64 (0 + 1) + 1) < 2) = false := by decide
  rw [e3, cond_false]
  show (Option.bind (g24 2000) fun r58 => some r58) = some true
  rw [awake_true]; rfl

end Go.Pv
