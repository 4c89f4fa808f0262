/- Plain: numbers of a sequence: First and At. -/
import Derived.Test.YtcfhdpbebiibjaaDoorPlB
import Derived.Test.YtcfhdpbebiibjaaDoorPlD
set_option linter.unusedVariables false
set_option linter.unusedSimpArgs false
namespace Go.Pv

/-- Number j of a machine's sequence. -/
def V1 (N : Nat) (x : MM) (j : Int) : Int := (g70 N x 0 j).getD 0
theorem V1_eq {x : MM} (h : Tame x) (N : Nat) (hN : 100 ≤ N) (n : Int) (h0 : 0 ≤ n) (h1 : n < 9223372036854775808) : g70 N x 0 n = some (V1 N x n) := by
  obtain ⟨v, e, _⟩ := at_some h N hN n h0 h1
  simp [V1, e]

theorem first_loop {x : MM} (h : Tame x) (N : Nat) (hN : 100 ≤ N) {C : Type} (k0 : MM → List Int → Option C) (m : Nat) (hm : m ≤ 1000) :
    ∀ (F i : Nat), m - i < F → i ≤ m → g30L250f N F k0 (m : Int) (i : Int) x ((List.range i).map fun j : Nat => V1 N x (j : Int)) = k0 x ((List.range m).map fun j : Nat => V1 N x (j : Int))
  | 0, i, hF, _ => by omega
  | F + 1, i, hF, hi => by
    rw [g30L250f_succ]
    unfold g30L250B
    by_cases hlt : i < m
    · have e1 : decide ((i : Int) < (m : Int)) = true := by simp; omega
      rw [e1, cond_true, V1_eq h N hN (i : Int) (by omega) (by omega)]
      simp only [Option.bind_some]
      rw [if_pos (by simp [maxCount]; omega), wn i (by omega)]
      have : ((List.range i).map fun j : Nat => V1 N x (j : Int)) ++ [V1 N x (i : Int)] = (List.range (i + 1)).map fun j : Nat => V1 N x (j : Int) := by
        rw [List.range_succ]; simp
      rw [this]
      exact first_loop h N hN k0 m hm F (i + 1) (by omega) (by omega)
    · have e1 : decide ((i : Int) < (m : Int)) = false := by simp; omega
      have : i = m := by omega
      rw [e1, cond_false, this]

theorem first_bad {x : MM} (h : Tame x) (N : Nat) (hN : 100 ≤ N) (m : Int) (hm : m < 0 ∨ 1000 < m) : g30 N x m = some ([], 1, ()) := by
  unfold g30
  rw [h.check N (by omega)]
  have e : g57 N 0 1000 [m] = some false := by
    rw [are_eq N _ _ _ (by simp; omega) (by simp)]; simp; omega
  simp [e]
theorem first_eq {x : MM} (h : Tame x) (N : Nat) (hN : 1001 < N) (m : Nat) (hm : m ≤ 1000) : g30 N x (m : Int) = some ((List.range m).map (fun j : Nat => V1 N x (j : Int)), 0, ()) := by
  unfold g30
  rw [h.check N (by omega)]
  have e : g57 N 0 1000 [(m : Int)] = some true := by
    rw [are_eq N _ _ _ (by simp; omega) (by simp)]; simp; omega
  rw [e]
  have := first_loop h N (by omega) (fun e4 e5 => some (e5, (0 : Int), ())) m hm N 0 (by omega) (by omega)
  simp only [Int.natCast_zero, List.range_zero, List.map_nil] at this
  simp [g30L250_eq, this]

theorem at_bad {x : MM} (h : Tame x) (N : Nat) (hN : 100 ≤ N) (n : Int) (hn : n < 0) : g35 N x n = some (0, 1, ()) := by
  unfold g35
  rw [h.check N (by omega)]
  simp [hn]
theorem at_eq {x : MM} (h : Tame x) (N : Nat) (hN : 100 ≤ N) (n : Int) (h0 : 0 ≤ n) (h1 : n < 9223372036854775808) : g35 N x n = some (V1 N x n, 0, ()) := by
  unfold g35
  rw [h.check N (by omega)]
  have : ¬ n < 0 := by omega
  simp [this, V1_eq h N hN n h0 h1]


end Go.Pv
