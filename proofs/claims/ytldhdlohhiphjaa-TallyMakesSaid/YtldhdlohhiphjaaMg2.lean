/- Plain texts, merged: QaMk8, QaAw, QaMakes. -/
import Derived.Test.YtldhdlohhiphjaaQaMk1
import Derived.Test.YtldhdlohhiphjaaQaMk2
import Derived.Test.YtldhdlohhiphjaaQaMk3
import Derived.Test.YtldhdlohhiphjaaQaMk4
import Derived.Test.YtldhdlohhiphjaaQaMk5
import Derived.Test.YtldhdlohhiphjaaQaMk6
import Derived.Test.YtldhdlohhiphjaaPvL06
/- Seat 06, plain: the protocols that the program makes, asked of some kinds. -/
set_option linter.unusedVariables false
set_option linter.unusedSimpArgs false
namespace Go.Pv
theorem at_good {a k : Int} (h1 : 1 ≤ a) (h2 : a ≤ 4) (h3 : 1 ≤ k) (h4 : k ≤ 9) : goodB (g56 2000 a) ([1], a, 0, ()) [k] = true := by
  have h : atB a = true ∧ atC a = true := by
    have : a = 1 ∨ a = 2 ∨ a = 3 ∨ a = 4 := by omega
    rcases this with rfl | rfl | rfl | rfl
    · exact ⟨at1, at1c⟩
    · exact ⟨at2, at2c⟩
    · exact ⟨at3, at3c⟩
    · exact ⟨at4, at4c⟩
  by_cases hk : k ≤ 8
  · exact List.all_eq_true.1 h.1 k (mem8 h3 hk)
  · have : k = 9 := by omega
    subst this
    exact h.2
theorem le_good {m r k : Int} (h1 : 1 ≤ m) (h2 : m ≤ 3) (hr : 0 ≤ r) (hr2 : r < m) (h3 : 1 ≤ k) (h4 : k ≤ 9) : goodB (g58 2000 m r) ([1], r, m, ()) [k] = true := by
  have h : leB m r = true ∧ leC m r = true := by
    have : (m = 1 ∧ r = 0) ∨ (m = 2 ∧ r = 0) ∨ (m = 2 ∧ r = 1) ∨ (m = 3 ∧ r = 0) ∨ (m = 3 ∧ r = 1) ∨ (m = 3 ∧ r = 2) := by omega
    rcases this with ⟨rfl, rfl⟩ | ⟨rfl, rfl⟩ | ⟨rfl, rfl⟩ | ⟨rfl, rfl⟩ | ⟨rfl, rfl⟩ | ⟨rfl, rfl⟩
    · exact ⟨le10, le10c⟩
    · exact ⟨le20, le20c⟩
    · exact ⟨le21, le21c⟩
    · exact ⟨le30, le30c⟩
    · exact ⟨le31, le31c⟩
    · exact ⟨le32, le32c⟩
  by_cases hk : k ≤ 8
  · exact List.all_eq_true.1 h.1 k (mem8 h3 hk)
  · have : k = 9 := by omega
    subst this
    exact h.2
theorem maj_good {c : List Int} (hc : Crowd c 2) : g53 2000 majP ([1, -1], 1, 0, ()) c = some true := by
  have hl := hc.len
  match c, hl with
  | [p, q], _ =>
    have hp := hc.le p (by simp)
    have hq := hc.le q (by simp)
    have hs := hc.sum
    simp only [List.sum_cons, List.sum_nil] at hs
    have h : majB p = true := by
      have : p = 0 ∨ p = 1 ∨ p = 2 ∨ p = 3 ∨ p = 4 ∨ p = 5 ∨ p = 6 ∨ p = 7 ∨ p = 8 ∨ p = 9 := by omega
      rcases this with rfl | rfl | rfl | rfl | rfl | rfl | rfl | rfl | rfl | rfl
      · exact maj0
      · exact maj1
      · exact maj2
      · exact maj3
      · exact maj4
      · exact maj5
      · exact maj6
      · exact maj7
      · exact maj8
      · exact maj9
    have h2 := List.all_eq_true.1 h q (mem10 hq.1 hq.2)
    have e1 : decide (1 ≤ p + q) = true := by simp; omega
    have e2 : decide (p + q ≤ 9) = true := by simp; omega
    simp only [e1, e2, Bool.and_self, Bool.not_true, Bool.false_or] at h2
    cases h6 : g53 2000 majP ([1, -1], 1, 0, ()) [p, q] with
    | none => rw [h6] at h2; cases h2
    | some b => rw [h6] at h2; exact congrArg some h2
end Go.Pv
namespace Go.Pv
theorem awake_true : g29 2000 = some true := by kernel_rfl
end Go.Pv
namespace Go.Pv
theorem at_bad (a : Int) (h : a < 1 ∨ 4 < a) : g56 2000 a = some ((0, [], [], [], ()), 1, ()) := by
  unfold g56
  have e : g60 2000 1 4 [a] = some false := by
    rw [are_eq 2000 _ _ _ (by simp) (by simp)]
    congr 1
    cases hh : (List.all [a] fun t => decide (1 ≤ t) && decide (t ≤ 4)) with
    | false => rfl
    | true => simp at hh; omega
  rw [e]; rfl
theorem le_bad (m r : Int) (h : m < 1 ∨ 3 < m ∨ r < 0 ∨ m ≤ r) : g58 2000 m r = some ((0, [], [], [], ()), 1, ()) := by
  unfold g58
  rw [are_eq 2000 _ _ [m] (by simp) (by simp)]
  simp only [Option.bind_some]
  by_cases hm : 1 ≤ m ∧ m ≤ 3
  · have e1 : (List.all [m] fun t => decide (1 ≤ t) && decide (t ≤ 3)) = true := by simp; omega
    rw [e1, Bool.not_true, cond_false, are_eq 2000 _ _ [r] (by simp) (by simp), w64 (by omega) (by omega)]
    have e2 : (List.all [r] fun t => decide (0 ≤ t) && decide (t ≤ m - 1)) = false := by
      cases hh : (List.all [r] fun t => decide (0 ≤ t) && decide (t ≤ m - 1)) with
      | false => rfl
      | true => simp at hh; omega
    rw [e2]; rfl
  · have e1 : (List.all [m] fun t => decide (1 ≤ t) && decide (t ≤ 3)) = false := by
      cases hh : (List.all [m] fun t => decide (1 ≤ t) && decide (t ≤ 3)) with
      | false => rfl
      | true => simp at hh; omega
    rw [e1]; rfl
theorem emptyZ : ieq (IntKind.wrap .i64 ((IntKind.wrap .i64 (((List.length ([] : List Int) : Nat) : Int) + ((List.length ([] : List Int) : Nat) : Int))) + ((List.length ([] : List (List Int)) : Nat) : Int))) 0 = true := by kernel_rfl
theorem makes_round {C : Type} (rec : Int → Int → List Int → Int → List Int → Option C) (k0 : Bool → List Int → Option C) (k1 : List Int → Option C) (a m k : Int) (hk1 : 1 ≤ k) (hk2 : k ≤ 9) (i : Int) (hi : i < 2) (v : List Int) :
    g14L58B 2000 rec k0 k1 a m [k] i v = rec (IntKind.wrap .i64 (1 + (IntKind.wrap .i64 (Int.tmod (IntKind.wrap .u64 a) 4)))) (IntKind.wrap .i64 (1 + (IntKind.wrap .i64 (Int.tmod (IntKind.wrap .u64 m) 3)))) [k] (IntKind.wrap .i64 (i + 1)) (List.set v (Int.toNat 0) (IntKind.wrap .i64 (Int.tmod (IntKind.wrap .u64 (List.getD v (Int.toNat 0) 0)) (IntKind.wrap .u64 (IntKind.wrap .i64 (1 + (IntKind.wrap .i64 (Int.tmod (IntKind.wrap .u64 m) 3)))))))) := by
  have ei : decide (i < 2) = true := by simpa using hi
  have h03 : idx 0 3 := by decide
  have hz : ¬ (IntKind.wrap .u64 (IntKind.wrap .i64 (1 + (IntKind.wrap .i64 (Int.tmod (IntKind.wrap .u64 m) 3)))) = 0) := by
    obtain ⟨r, er, r1, r2⟩ := low m (m := 3) (by omega) (by omega)
    rw [er, w64 (by omega) (by omega), wu64n (by omega) (by omega)]
    omega
  unfold g14L58B
  rw [ei, cond_true]
  generalize hr : List.getD v (Int.toNat 0) 0 = r
  have M : (g58 2000 m r = some ((0, [], [], [], ()), 1, ()) ∧ decide (m < 1) = true) ∨
      (g58 2000 m r = some ((0, [], [], [], ()), 1, ()) ∧ decide (m < 1) = false ∧ decide (3 < m) = true) ∨
      (g58 2000 m r = some ((0, [], [], [], ()), 1, ()) ∧ decide (m < 1) = false ∧ decide (3 < m) = false ∧ decide (r < 0) = true) ∨
      (g58 2000 m r = some ((0, [], [], [], ()), 1, ()) ∧ decide (m < 1) = false ∧ decide (3 < m) = false ∧ decide (r < 0) = false ∧ decide (m ≤ r) = true) ∨
      (decide (m < 1) = false ∧ decide (3 < m) = false ∧ decide (r < 0) = false ∧ decide (m ≤ r) = false ∧ goodB (g58 2000 m r) ([1], r, m, ()) [k] = true) := by
    by_cases h1 : m < 1
    · exact .inl ⟨le_bad m r (.inl h1), by simpa using h1⟩
    · by_cases h2 : 3 < m
      · exact .inr (.inl ⟨le_bad m r (.inr (.inl h2)), by simpa using h1, by simpa using h2⟩)
      · by_cases h3 : r < 0
        · exact .inr (.inr (.inl ⟨le_bad m r (.inr (.inr (.inl h3))), by simpa using h1, by simpa using h2, by simpa using h3⟩))
        · by_cases h4 : m ≤ r
          · exact .inr (.inr (.inr (.inl ⟨le_bad m r (.inr (.inr (.inr h4))), by simpa using h1, by simpa using h2, by simpa using h3, by simpa using h4⟩)))
          · exact .inr (.inr (.inr (.inr ⟨by simpa using h1, by simpa using h2, by simpa using h3, by simpa using h4, le_good (by omega) (by omega) (by omega) (by omega) hk1 hk2⟩)))
  have A : (g56 2000 a = some ((0, [], [], [], ()), 1, ()) ∧ decide (a < 1) = true) ∨
      (g56 2000 a = some ((0, [], [], [], ()), 1, ()) ∧ decide (a < 1) = false ∧ decide (4 < a) = true) ∨
      (decide (a < 1) = false ∧ decide (4 < a) = false ∧ goodB (g56 2000 a) ([1], a, 0, ()) [k] = true) := by
    by_cases h1 : a < 1
    · exact .inl ⟨at_bad a (.inl h1), by simpa using h1⟩
    · by_cases h2 : 4 < a
      · exact .inr (.inl ⟨at_bad a (.inr h2), by simpa using h1, by simpa using h2⟩)
      · exact .inr (.inr ⟨by simpa using h1, by simpa using h2, at_good (by omega) (by omega) hk1 hk2⟩)
  rcases A with ⟨a1, a2⟩ | ⟨a1, a2, a3⟩ | ⟨a2, a3, a4⟩
  · rcases M with ⟨m1, m2⟩ | ⟨m1, m2, m3⟩ | ⟨m1, m2, m3, m4⟩ | ⟨m1, m2, m3, m4, m5⟩ | ⟨m2, m3, m4, m5, m6⟩
    · simp only [a1, a2, m1, m2, Option.bind_some, cond_true, cond_false, Bool.not_true, Bool.not_false, if_pos h03, if_neg hz, ieq_self, emptyZ]
    · simp only [a1, a2, m1, m2, m3, Option.bind_some, cond_true, cond_false, Bool.not_true, Bool.not_false, if_pos h03, if_neg hz, ieq_self, emptyZ]
    · simp only [a1, a2, m1, m2, m3, m4, Option.bind_some, cond_true, cond_false, Bool.not_true, Bool.not_false, if_pos h03, if_neg hz, ieq_self, emptyZ]
    · simp only [a1, a2, m1, m2, m3, m4, m5, Option.bind_some, cond_true, cond_false, Bool.not_true, Bool.not_false, if_pos h03, if_neg hz, ieq_self, emptyZ]
    · obtain ⟨S, y, c1, c2, c3, c4, c5, c6⟩ := good_ok m6
      simp only [a1, a2, m2, m3, m4, m5, c1, c2, c3, c4, c5, c6, Option.bind_some, cond_true, cond_false, Bool.not_true, Bool.not_false, if_pos h03, if_neg hz, ieq_self, emptyZ]
  · rcases M with ⟨m1, m2⟩ | ⟨m1, m2, m3⟩ | ⟨m1, m2, m3, m4⟩ | ⟨m1, m2, m3, m4, m5⟩ | ⟨m2, m3, m4, m5, m6⟩
    · simp only [a1, a2, a3, m1, m2, Option.bind_some, cond_true, cond_false, Bool.not_true, Bool.not_false, if_pos h03, if_neg hz, ieq_self, emptyZ]
    · simp only [a1, a2, a3, m1, m2, m3, Option.bind_some, cond_true, cond_false, Bool.not_true, Bool.not_false, if_pos h03, if_neg hz, ieq_self, emptyZ]
    · simp only [a1, a2, a3, m1, m2, m3, m4, Option.bind_some, cond_true, cond_false, Bool.not_true, Bool.not_false, if_pos h03, if_neg hz, ieq_self, emptyZ]
    · simp only [a1, a2, a3, m1, m2, m3, m4, m5, Option.bind_some, cond_true, cond_false, Bool.not_true, Bool.not_false, if_pos h03, if_neg hz, ieq_self, emptyZ]
    · obtain ⟨S, y, c1, c2, c3, c4, c5, c6⟩ := good_ok m6
      simp only [a1, a2, a3, m2, m3, m4, m5, c1, c2, c3, c4, c5, c6, Option.bind_some, cond_true, cond_false, Bool.not_true, Bool.not_false, if_pos h03, if_neg hz, ieq_self, emptyZ]
  · obtain ⟨R, x, b1, b2, b3, b4, b5, b6⟩ := good_ok a4
    rcases M with ⟨m1, m2⟩ | ⟨m1, m2, m3⟩ | ⟨m1, m2, m3, m4⟩ | ⟨m1, m2, m3, m4, m5⟩ | ⟨m2, m3, m4, m5, m6⟩
    · simp only [a2, a3, b1, b2, b3, b4, b5, b6, m1, m2, Option.bind_some, cond_true, cond_false, Bool.not_true, Bool.not_false, if_pos h03, if_neg hz, ieq_self, emptyZ]
    · simp only [a2, a3, b1, b2, b3, b4, b5, b6, m1, m2, m3, Option.bind_some, cond_true, cond_false, Bool.not_true, Bool.not_false, if_pos h03, if_neg hz, ieq_self, emptyZ]
    · simp only [a2, a3, b1, b2, b3, b4, b5, b6, m1, m2, m3, m4, Option.bind_some, cond_true, cond_false, Bool.not_true, Bool.not_false, if_pos h03, if_neg hz, ieq_self, emptyZ]
    · simp only [a2, a3, b1, b2, b3, b4, b5, b6, m1, m2, m3, m4, m5, Option.bind_some, cond_true, cond_false, Bool.not_true, Bool.not_false, if_pos h03, if_neg hz, ieq_self, emptyZ]
    · obtain ⟨S, y, c1, c2, c3, c4, c5, c6⟩ := good_ok m6
      simp only [a2, a3, b1, b2, b3, b4, b5, b6, m2, m3, m4, m5, c1, c2, c3, c4, c5, c6, Option.bind_some, cond_true, cond_false, Bool.not_true, Bool.not_false, if_pos h03, if_neg hz, ieq_self, emptyZ]
theorem tallyMakes_plain (many m : Int) (of : List Int) : g14 2000 many m of = some true := by
  unfold g14
  have h13 : idx 1 3 := by decide
  have h23 : idx 2 3 := by decide
  obtain ⟨r, er, r1, r2⟩ := low (of.getD (Int.toNat 1) 0) (m := 9) (by omega) (by omega)
  rw [if_pos h13, er, w64 (x := 1 + r) (by omega) (by omega), g14L58_eq]
  have fin : ∀ e19 : List Int, (if idx 1 3 then if idx 2 3 then Option.bind (g24 2000 [(List.getD e19 (Int.toNat 1) 0), (List.getD e19 (Int.toNat 2) 0)] 2 9) fun r20 => Option.bind (g47 2000) fun r21 => Option.bind (g48 2000 r21) fun r22 => Option.bind (g57 2000 r22) fun r23 => bif r23 then bif (ieq ((List.length r21.2.2.1 : Nat) : Int) 2) then Option.bind (g53 2000 r22 ([1, (-1)], 1, 0, ()) r20) fun r24 => bif r24 then Option.bind (g29 2000) fun r25 => some r25 else some false else some false else some false else none else none) = some true := by
    intro e19
    obtain ⟨c, ec, hc, _⟩ := gathered_eq 2000 (by omega) [(List.getD e19 (Int.toNat 1) 0), (List.getD e19 (Int.toNat 2) 0)] 2 (by omega) (by omega) 9 (by omega) (by omega)
    rw [if_pos h13, if_pos h23, ec, maj_eq]
    simp only [Option.bind_some]
    rw [maj_own]
    simp only [Option.bind_some]
    rw [maj_check]
    simp only [Option.bind_some, maj_start, cond_true]
    rw [maj_good hc, awake_true]
    rfl
  have H : ∀ F : Nat, g14L58f 2000 (F + 3) (fun e17 e18 => some e17) (fun e19 => if idx 1 3 then if idx 2 3 then Option.bind (g24 2000 [(List.getD e19 (Int.toNat 1) 0), (List.getD e19 (Int.toNat 2) 0)] 2 9) fun r20 => Option.bind (g47 2000) fun r21 => Option.bind (g48 2000 r21) fun r22 => Option.bind (g57 2000 r22) fun r23 => bif r23 then bif (ieq ((List.length r21.2.2.1 : Nat) : Int) 2) then Option.bind (g53 2000 r22 ([1, (-1)], 1, 0, ()) r20) fun r24 => bif r24 then Option.bind (g29 2000) fun r25 => some r25 else some false else some false else some false else none else none) many m [1 + r] 0 of = some true := by
    intro F
    rw [show F + 3 = (F + 2) + 1 from rfl, g14L58f_succ, makes_round _ _ _ many m (1 + r) (by omega) (by omega) 0 (by omega) of]
    rw [show F + 2 = (F + 1) + 1 from rfl, g14L58f_succ, makes_round _ _ _ _ _ (1 + r) (by omega) (by omega) (IntKind.wrap .i64 (0 + 1)) (by decide) _]
    rw [g14L58f_succ]
    unfold g14L58B
    have e3 : decide (IntKind.wrap .i64 (IntKind.wrap .i64 (0 + 1) + 1) < 2) = false := by decide
    rw [e3, cond_false]
    exact fin _
  exact H 1997
end Go.Pv
