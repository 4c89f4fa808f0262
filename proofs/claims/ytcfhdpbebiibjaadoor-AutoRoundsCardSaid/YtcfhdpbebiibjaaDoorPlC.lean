/- Seat 05, plain: the check of any data, by the program and by the reference; AutoChecks. -/
import Derived.Test.YtcfhdpbebiibjaaDoorPlB
set_option linter.unusedVariables false
set_option linter.unusedSimpArgs false
namespace Go.Pv

/-! ### Data that are cut -/
theorem few_take (N : Nat) (l : List Int) (k : Nat) (hk : k ≤ 1000) : g17 N l (k : Int) = some (l.take k) := by
  obtain ⟨m, e, h1, h2, h3⟩ : ∃ m : Nat, imin (l.length : Int) (k : Int) = (m : Int) ∧ m ≤ l.length ∧ m ≤ k ∧ l.take m = l.take k := by
    by_cases h : k < l.length
    · exact ⟨k, by simp only [imin]; rw [if_pos (by omega)], by omega, by omega, rfl⟩
    · exact ⟨l.length, by simp only [imin]; rw [if_neg (by omega)], by omega, by omega, by rw [List.take_of_length_le (by omega), List.take_of_length_le (by omega)]⟩
  unfold g17
  rw [e, if_pos ⟨by omega, by omega, by omega⟩]
  simp only [Int.toNat_natCast, h3, show Int.toNat 0 = 0 from rfl, List.drop_zero, List.nil_append, List.length_nil, Nat.zero_add]
  rw [if_pos (by simp [maxCount]; omega)]

def cutM (a : MM) : MM := (a.1, a.2.1.take 13, (a.2.2.1.take 13).map (List.take 26), ())

theorem own_loop (N : Nat) {C : Type} (k0 : MM → Int → Int → List Int → List Int → List (List Int) → List (List Int) → Option C) (x : MM) (a b : Int) (c d : List Int) (e : List (List Int)) :
    ∀ (F i : Nat), 13 - i < F → i ≤ 13 → i ≤ x.2.2.1.length → g33L58f N F k0 (i : Int) x a b c d e ((x.2.2.1.take i).map (List.take 26)) = k0 x a b c d e ((x.2.2.1.take 13).map (List.take 26))
  | 0, i, h, _, _ => by omega
  | F + 1, i, h, hi, hi2 => by
    rw [g33L58f_succ]
    unfold g33L58B
    by_cases hlt : i < x.2.2.1.length
    · have e1 : decide ((i : Int) < (x.2.2.1.length : Int)) = true := by simp; omega
      rw [e1, cond_true]
      by_cases h12 : i ≤ 12
      · have e2 : decide ((i : Int) ≤ 12) = true := by simp; omega
        have e3 : idx (i : Int) x.2.2.1.length := ⟨by omega, by omega⟩
        rw [e2, cond_true, if_pos e3, Int.toNat_natCast, show (26 : Int) = ((26 : Nat) : Int) from rfl, few_take N _ 26 (by omega)]
        simp only [Option.bind_some]
        rw [if_pos (by simp [maxCount]; omega), wn i (by omega)]
        have : (x.2.2.1.take i).map (List.take 26) ++ [(x.2.2.1.getD i []).take 26] = (x.2.2.1.take (i + 1)).map (List.take 26) := by
          have e : x.2.2.1.getD i [] = x.2.2.1[i] := by rw [List.getD_eq_getElem?_getD, List.getElem?_eq_getElem hlt]; rfl
          have e' : x.2.2.1.take (i + 1) = x.2.2.1.take i ++ [x.2.2.1[i]] := by rw [List.take_add_one, List.getElem?_eq_getElem hlt]; rfl
          rw [e', List.map_append, e]; rfl
        rw [this]
        exact own_loop N k0 x a b c d e F (i + 1) (by omega) (by omega) (by omega)
      · have e2 : decide ((i : Int) ≤ 12) = false := by simp; omega
        have : i = 13 := by omega
        rw [e2, cond_false, this]
    · have e1 : decide ((i : Int) < (x.2.2.1.length : Int)) = false := by simp; omega
      rw [e1, cond_false]
      have : i = x.2.2.1.length := by omega
      rw [this, List.take_of_length_le (by omega), List.take_of_length_le (by omega)]

theorem own_eq (N : Nat) (hN : 20 < N) (a : MM) : g33 N a = some (cutM a) := by
  unfold g33
  rw [show (13 : Int) = ((13 : Nat) : Int) from rfl, few_take N _ 13 (by omega)]
  simp only [Option.bind_some]
  rw [g33L58_eq]
  have := own_loop N (fun e3 e4 e5 e6 e7 e8 e9 => some (e5, e6, e9, ())) a 0 a.1 (a.2.1.take 13) [] [] N 0 (by omega) (by omega) (by omega)
  simp only [Int.natCast_zero, List.take_zero, List.map_nil] at this
  rw [this]; rfl
theorem cut_outs (a : MM) : (cutM a).2.1.length ≤ 13 := by simp [cutM]; omega
theorem cut_next (a : MM) : (cutM a).2.2.1.length ≤ 13 := by simp [cutM]; omega
theorem cut_rows (a : MM) : ∀ r ∈ (cutM a).2.2.1, r.length ≤ 26 := by
  intro r hr
  simp only [cutM, List.mem_map] at hr
  obtain ⟨s, _, rfl⟩ := hr
  simp; omega

/-! ### The check -/
structure GoodRow (x : MM) (s : Nat) : Prop where
  len : ((x.2.2.1.getD s []).length : Int) = x.1
  rng : ∀ t ∈ x.2.2.1.getD s [], 0 ≤ t ∧ t < (x.2.1.length : Int)
  zero : x.2.1.getD ((x.2.2.1.getD s []).getD 0 0).toNat 0 = x.2.1.getD s 0
theorem tame_of {x : MM} (h1 : 2 ≤ x.1 ∧ x.1 ≤ 5) (h2 : 1 ≤ x.2.1.length ∧ x.2.1.length ≤ 12) (h3 : x.2.2.1.length = x.2.1.length) (h4 : ∀ o ∈ x.2.1, 0 ≤ o ∧ o ≤ 9) (h5 : ∀ s, s < x.2.1.length → GoodRow x s) : Tame x := by
  refine ⟨h1, h2, h4, h3, fun r hr => ?_, fun s hs => (h5 s hs).zero⟩
  obtain ⟨i, hi, rfl⟩ := List.getElem_of_mem hr
  have := h5 i (by omega)
  have e : x.2.2.1.getD i [] = x.2.2.1[i] := by simp [List.getD_eq_getElem?_getD, hi]
  rw [← e]
  exact ⟨this.len, this.rng⟩
theorem Tame.good {x : MM} (h : Tame x) {s : Nat} (hs : s < x.2.1.length) : GoodRow x s := by
  have hm : x.2.2.1.getD s [] ∈ x.2.2.1 := getD_mem (by rw [h.next]; exact hs) []
  exact ⟨(h.row _ hm).1, (h.row _ hm).2, h.zero s hs⟩

theorem check_rows {x : MM} (N : Nat) (hN : 30 < N) (h1 : 2 ≤ x.1 ∧ x.1 ≤ 5) (h2 : 1 ≤ x.2.1.length ∧ x.2.1.length ≤ 12) (h3 : x.2.2.1.length = x.2.1.length) {C : Type} (k0 : Int → MM → Option C) (k1 : MM → Option C) :
    ∀ (F i : Nat), x.2.1.length - i < F → i ≤ x.2.1.length →
      ((∀ j, i ≤ j → j < x.2.1.length → GoodRow x j) ∧ g56L122f N F k0 k1 (x.2.1.length : Int) x.2.2.1 (x.2.1.length : Int) (i : Int) x = k1 x) ∨
      ((∃ j, j < x.2.1.length ∧ ¬ GoodRow x j) ∧ g56L122f N F k0 k1 (x.2.1.length : Int) x.2.2.1 (x.2.1.length : Int) (i : Int) x = k0 50 x)
  | 0, i, hF, _ => by omega
  | F + 1, i, hF, hi => by
    rw [g56L122f_succ]
    unfold g56L122B
    by_cases hlt : i < x.2.1.length
    · have e1 : decide ((i : Int) < (x.2.1.length : Int)) = true := by simp; omega
      have e2 : idx (i : Int) x.2.2.1.length := ⟨by omega, by rw [h3]; omega⟩
      have e3 : idx (i : Int) x.2.1.length := ⟨by omega, by omega⟩
      rw [e1, cond_true, if_pos e2, Int.toNat_natCast]
      by_cases hlen : ((x.2.2.1.getD i []).length : Int) = x.1
      · have e4 : ieq (((x.2.2.1.getD i []).length : Nat) : Int) x.1 = true := by simp only [ieq, decide_eq_true_eq]; exact hlen
        rw [e4, Bool.not_true, cond_false, are_eq N _ _ _ (by omega) (by omega), w64 (by omega) (by omega)]
        simp only [Option.bind_some]
        by_cases hr : ∀ t ∈ x.2.2.1.getD i [], 0 ≤ t ∧ t < (x.2.1.length : Int)
        · have e5 : ((x.2.2.1.getD i []).all fun t => decide (0 ≤ t) && decide (t ≤ (x.2.1.length : Int) - 1)) = true := by
            rw [List.all_eq_true]; intro t ht; have := hr t ht; simp; omega
          have hpos : 0 < (x.2.2.1.getD i []).length := by omega
          have h0 := hr _ (getD_mem hpos 0)
          rw [e5, Bool.not_true, cond_false, if_pos ⟨by omega, by omega⟩]
          simp only [show Int.toNat 0 = 0 from rfl]
          rw [if_pos h0, if_pos e3]
          by_cases hz : x.2.1.getD ((x.2.2.1.getD i []).getD 0 0).toNat 0 = x.2.1.getD i 0
          · have e6 : ieq (x.2.1.getD ((x.2.2.1.getD i []).getD 0 0).toNat 0) (x.2.1.getD i 0) = true := by simp only [ieq, decide_eq_true_eq]; exact hz
            rw [e6, Bool.not_true, cond_false, wn i (by omega)]
            rcases check_rows N hN h1 h2 h3 k0 k1 F (i + 1) (by omega) (by omega) with ⟨q1, q2⟩ | ⟨q1, q2⟩
            · refine .inl ⟨fun j hj hj2 => ?_, q2⟩
              by_cases hji : j = i
              · subst hji; exact ⟨hlen, hr, hz⟩
              · exact q1 j (by omega) hj2
            · exact .inr ⟨q1, q2⟩
          · have e6 : ieq (x.2.1.getD ((x.2.2.1.getD i []).getD 0 0).toNat 0) (x.2.1.getD i 0) = false := by simp only [ieq, decide_eq_false_iff_not]; exact hz
            rw [e6, Bool.not_false, cond_true]
            exact .inr ⟨⟨i, hlt, fun h => hz h.zero⟩, rfl⟩
        · have e5 : ((x.2.2.1.getD i []).all fun t => decide (0 ≤ t) && decide (t ≤ (x.2.1.length : Int) - 1)) = false := by
            rw [Bool.eq_false_iff]
            intro h
            rw [List.all_eq_true] at h
            exact hr fun t ht => by have := h t ht; simp at this; omega
          rw [e5, Bool.not_false, cond_true]
          exact .inr ⟨⟨i, hlt, fun h => hr h.rng⟩, rfl⟩
      · have e4 : ieq (((x.2.2.1.getD i []).length : Nat) : Int) x.1 = false := by simp only [ieq, decide_eq_false_iff_not]; exact hlen
        rw [e4, Bool.not_false, cond_true]
        exact .inr ⟨⟨i, hlt, fun h => hlen h.len⟩, rfl⟩
    · have e1 : decide ((i : Int) < (x.2.1.length : Int)) = false := by simp; omega
      rw [e1, cond_false]
      exact .inl ⟨fun j h1 h2 => by omega, rfl⟩

theorem check_not {x : MM} (N : Nat) (hN : 30 < N) (hl1 : x.2.1.length ≤ 13) (h : ¬ Tame x) : g56 N x = some 50 := by
  unfold g56
  have a1 := are_eq N 2 5 [x.1] (by simp; omega) (by simp)
  have a2 := are_eq N 1 12 [((List.length x.2.1 : Nat) : Int)] (by simp; omega) (by simp)
  have a4 := are_eq N 0 9 x.2.1 (by omega) (by omega)
  by_cases h1 : 2 ≤ x.1 ∧ x.1 ≤ 5
  · rw [a1]
    simp only [List.all_cons, List.all_nil, h1.1, h1.2, decide_true, Bool.and_true, Option.bind_some, Bool.not_true, cond_false]
    by_cases h2 : 1 ≤ x.2.1.length ∧ x.2.1.length ≤ 12
    · have h2a : (1 : Int) ≤ ((List.length x.2.1 : Nat) : Int) := by omega
      have h2b : ((List.length x.2.1 : Nat) : Int) ≤ 12 := by omega
      rw [a2]
      simp only [List.all_cons, List.all_nil, h2a, h2b, decide_true, Bool.and_true, Option.bind_some, Bool.not_true, cond_false]
      by_cases h3 : x.2.2.1.length = x.2.1.length
      · have e3 : ieq ((List.length x.2.2.1 : Nat) : Int) ((List.length x.2.1 : Nat) : Int) = true := by simp [h3]
        rw [e3, Bool.not_true, cond_false, a4]
        simp only [Option.bind_some]
        by_cases h4 : ∀ o ∈ x.2.1, 0 ≤ o ∧ o ≤ 9
        · have e4 : (x.2.1.all fun t => decide (0 ≤ t) && decide (t ≤ 9)) = true := by
            rw [List.all_eq_true]; intro t ht; have := h4 t ht; simp; omega
          rw [e4, Bool.not_true, cond_false, g56L122_eq, h3]
          rcases check_rows N hN h1 h2 h3 (fun e5 e6 => some e5) (fun e7 => some 0) N 0 (by omega) (by omega) with ⟨q1, q2⟩ | ⟨q1, q2⟩
          · exact absurd (tame_of h1 h2 h3 h4 fun s hs => q1 s (by omega) hs) h
          · simpa using q2
        · have e4 : (x.2.1.all fun t => decide (0 ≤ t) && decide (t ≤ 9)) = false := by
            rw [Bool.eq_false_iff]
            intro hh
            rw [List.all_eq_true] at hh
            exact h4 fun t ht => by have := hh t ht; simp at this; omega
          rw [e4, Bool.not_false, cond_true]
      · have e3 : ieq ((List.length x.2.2.1 : Nat) : Int) ((List.length x.2.1 : Nat) : Int) = false := by simp only [ieq, decide_eq_false_iff_not]; omega
        rw [e3, Bool.not_false, cond_true]
    · have : ([((List.length x.2.1 : Nat) : Int)].all fun t => decide ((1 : Int) ≤ t) && decide (t ≤ 12)) = false := by
        rw [Bool.eq_false_iff]; intro hh; simp at hh; omega
      rw [a2, this]; simp
  · have : ([x.1].all fun t => decide ((2 : Int) ≤ t) && decide (t ≤ 5)) = false := by
      rw [Bool.eq_false_iff]; intro hh; simp at hh; omega
    rw [a1, this]; simp

end Go.Pv
