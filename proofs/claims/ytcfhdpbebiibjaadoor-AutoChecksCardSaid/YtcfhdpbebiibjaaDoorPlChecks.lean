/- Seat 05, plain: AutoChecks. -/
import Derived.Test.YtcfhdpbebiibjaaDoorPlC
import Derived.Test.YtcfhdpbebiibjaaDoorPvAB
set_option linter.unusedVariables false
set_option linter.unusedSimpArgs false
namespace Go.Pv

theorem ref_row {x : MM} (N : Nat) (h1 : 2 ≤ x.1 ∧ x.1 ≤ 5) (s : Nat) (hs : s < x.2.2.1.length) (hlen : ((x.2.2.1.getD s []).length : Int) = x.1) (n : Int) {C : Type} (k0 : Bool → Int → Int → MM → Option C) (k1 : Int → Int → MM → Option C) :
    ∀ (F r : Nat), 6 - r < F → (r : Int) ≤ x.1 →
      ((∀ j : Nat, r ≤ j → (j : Int) < x.1 → 0 ≤ (x.2.2.1.getD s []).getD j 0 ∧ (x.2.2.1.getD s []).getD j 0 < n) ∧ g54L31306f N F k0 k1 n (s : Int) (r : Int) x = k1 n (s : Int) x) ∨
      ((∃ j : Nat, (j : Int) < x.1 ∧ ¬ (0 ≤ (x.2.2.1.getD s []).getD j 0 ∧ (x.2.2.1.getD s []).getD j 0 < n)) ∧ g54L31306f N F k0 k1 n (s : Int) (r : Int) x = k0 false n (s : Int) x)
  | 0, r, hF, _ => by omega
  | F + 1, r, hF, hr => by
    rw [g54L31306f_succ]
    unfold g54L31306B
    by_cases hlt : (r : Int) < x.1
    · have e1 : decide ((r : Int) < x.1) = true := by simpa using hlt
      have e2 : idx (s : Int) x.2.2.1.length := ⟨by omega, by omega⟩
      have e3 : idx (r : Int) (x.2.2.1.getD s []).length := ⟨by omega, by omega⟩
      rw [e1, cond_true, if_pos e2, Int.toNat_natCast, if_pos e3, Int.toNat_natCast]
      by_cases ha : (x.2.2.1.getD s []).getD r 0 < 0
      · have e4 : decide ((x.2.2.1.getD s []).getD r 0 < 0) = true := by simpa using ha
        rw [e4, cond_true]
        exact .inr ⟨⟨r, hlt, fun h => by omega⟩, rfl⟩
      · have e4 : decide ((x.2.2.1.getD s []).getD r 0 < 0) = false := by simpa using ha
        rw [e4, cond_false, if_pos e2, if_pos e3]
        by_cases hb : n ≤ (x.2.2.1.getD s []).getD r 0
        · have e5 : decide (n ≤ (x.2.2.1.getD s []).getD r 0) = true := by simpa using hb
          rw [e5, cond_true]
          exact .inr ⟨⟨r, hlt, fun h => by omega⟩, rfl⟩
        · have e5 : decide (n ≤ (x.2.2.1.getD s []).getD r 0) = false := by simpa using hb
          rw [e5, cond_false, wn r (by omega)]
          rcases ref_row N h1 s hs hlen n k0 k1 F (r + 1) (by omega) (by omega) with ⟨q1, q2⟩ | ⟨q1, q2⟩
          · refine .inl ⟨fun j hj hj2 => ?_, q2⟩
            by_cases hjr : j = r
            · subst hjr; omega
            · exact q1 j (by omega) hj2
          · exact .inr ⟨q1, q2⟩
    · have e1 : decide ((r : Int) < x.1) = false := by simpa using hlt
      rw [e1, cond_false]
      exact .inl ⟨fun j h1 h2 => by omega, rfl⟩

structure GoodAll (x : MM) (s : Nat) : Prop where
  out : 0 ≤ x.2.1.getD s 0 ∧ x.2.1.getD s 0 ≤ 9
  good : GoodRow x s

theorem ref_rows {x : MM} (N : Nat) (hN : 30 < N) (h1 : 2 ≤ x.1 ∧ x.1 ≤ 5) (h2 : 1 ≤ x.2.1.length ∧ x.2.1.length ≤ 12) (h3 : x.2.2.1.length = x.2.1.length) {C : Type} (k0 : Bool → MM → Option C) (k1 : MM → Option C) :
    ∀ (F i : Nat), x.2.1.length - i < F → i ≤ x.2.1.length →
      ((∀ j, i ≤ j → j < x.2.1.length → GoodAll x j) ∧ g54L122f N F k0 k1 (x.2.1.length : Int) (i : Int) x = k1 x) ∨
      ((∃ j, j < x.2.1.length ∧ ¬ GoodAll x j) ∧ g54L122f N F k0 k1 (x.2.1.length : Int) (i : Int) x = k0 false x)
  | 0, i, hF, _ => by omega
  | F + 1, i, hF, hi => by
    rw [g54L122f_succ]
    unfold g54L122B
    by_cases hlt : i < x.2.1.length
    · have e1 : decide ((i : Int) < (x.2.1.length : Int)) = true := by simp; omega
      have e2 : idx (i : Int) x.2.2.1.length := ⟨by omega, by rw [h3]; omega⟩
      have e3 : idx (i : Int) x.2.1.length := ⟨by omega, by omega⟩
      rw [e1, cond_true, if_pos e3, Int.toNat_natCast]
      by_cases ha : x.2.1.getD i 0 < 0
      · have e4 : decide (x.2.1.getD i 0 < 0) = true := by simpa using ha
        rw [e4, cond_true]
        exact .inr ⟨⟨i, hlt, fun h => by have := h.out; omega⟩, rfl⟩
      · have e4 : decide (x.2.1.getD i 0 < 0) = false := by simpa using ha
        rw [e4, cond_false, if_pos e3]
        by_cases hb : 9 < x.2.1.getD i 0
        · have e5 : decide (9 < x.2.1.getD i 0) = true := by simpa using hb
          rw [e5, cond_true]
          exact .inr ⟨⟨i, hlt, fun h => by have := h.out; omega⟩, rfl⟩
        · have e5 : decide (9 < x.2.1.getD i 0) = false := by simpa using hb
          rw [e5, cond_false, if_pos e2]
          by_cases hlen : ((x.2.2.1.getD i []).length : Int) = x.1
          · have e6 : ieq (((x.2.2.1.getD i []).length : Nat) : Int) x.1 = true := by simp only [ieq, decide_eq_true_eq]; exact hlen
            rw [e6, Bool.not_true, cond_false, g54L31306_eq]
            rcases ref_row N h1 i (by omega) hlen (x.2.1.length : Int) (fun e1 e2 e3 e4 => (k0 e1 e4)) (fun e5 e6 e7 => if idx e6 (List.length e7.2.2.1) then if idx 0 (List.length (List.getD e7.2.2.1 (Int.toNat e6) ([] : List (Int)))) then if idx (List.getD (List.getD e7.2.2.1 (Int.toNat e6) ([] : List (Int))) (Int.toNat 0) 0) (List.length e7.2.1) then if idx e6 (List.length e7.2.1) then bif (!ieq (List.getD e7.2.1 (Int.toNat (List.getD (List.getD e7.2.2.1 (Int.toNat e6) ([] : List (Int))) (Int.toNat 0) 0)) 0) (List.getD e7.2.1 (Int.toNat e6) 0)) then (k0 false e7) else (g54L122f N F k0 k1 e5 (IntKind.wrap .i64 (e6 + 1)) e7) else none else none else none else none) N 0 (by omega) (by omega) with ⟨q1, q2⟩ | ⟨q1, q2⟩
            · simp only [Int.natCast_zero] at q2
              rw [q2]
              have hpos : 0 < (x.2.2.1.getD i []).length := by omega
              have h0 := q1 0 (by omega) (by omega)
              rw [if_pos e2, Int.toNat_natCast, if_pos ⟨by omega, by omega⟩]
              simp only [show Int.toNat 0 = 0 from rfl]
              rw [if_pos h0, if_pos e3]
              have hrng : ∀ t ∈ x.2.2.1.getD i [], 0 ≤ t ∧ t < (x.2.1.length : Int) := by
                intro t ht
                obtain ⟨j, hj, rfl⟩ := List.getElem_of_mem ht
                have := q1 j (by omega) (by omega)
                have e : (x.2.2.1.getD i []).getD j 0 = (x.2.2.1.getD i [])[j] := by rw [List.getD_eq_getElem?_getD, List.getElem?_eq_getElem hj]; rfl
                rw [e] at this; exact this
              by_cases hz : x.2.1.getD ((x.2.2.1.getD i []).getD 0 0).toNat 0 = x.2.1.getD i 0
              · have e7 : ieq (x.2.1.getD ((x.2.2.1.getD i []).getD 0 0).toNat 0) (x.2.1.getD i 0) = true := by simp only [ieq, decide_eq_true_eq]; exact hz
                rw [e7, Bool.not_true, cond_false, wn i (by omega)]
                rcases ref_rows N hN h1 h2 h3 k0 k1 F (i + 1) (by omega) (by omega) with ⟨p1, p2⟩ | ⟨p1, p2⟩
                · refine .inl ⟨fun j hj hj2 => ?_, p2⟩
                  by_cases hji : j = i
                  · subst hji; exact ⟨by omega, hlen, hrng, hz⟩
                  · exact p1 j (by omega) hj2
                · exact .inr ⟨p1, p2⟩
              · have e7 : ieq (x.2.1.getD ((x.2.2.1.getD i []).getD 0 0).toNat 0) (x.2.1.getD i 0) = false := by simp only [ieq, decide_eq_false_iff_not]; exact hz
                rw [e7, Bool.not_false, cond_true]
                exact .inr ⟨⟨i, hlt, fun h => hz h.good.zero⟩, rfl⟩
            · simp only [Int.natCast_zero] at q2
              rw [q2]
              obtain ⟨j, hj1, hj2⟩ := q1
              exact .inr ⟨⟨i, hlt, fun h => hj2 (h.good.rng _ (getD_mem (by omega) 0))⟩, rfl⟩
          · have e6 : ieq (((x.2.2.1.getD i []).length : Nat) : Int) x.1 = false := by simp only [ieq, decide_eq_false_iff_not]; exact hlen
            rw [e6, Bool.not_false, cond_true]
            exact .inr ⟨⟨i, hlt, fun h => hlen h.good.len⟩, rfl⟩
    · have e1 : decide ((i : Int) < (x.2.1.length : Int)) = false := by simp; omega
      rw [e1, cond_false]
      exact .inl ⟨fun j h1 h2 => by omega, rfl⟩

theorem Tame.ref {x : MM} (h : Tame x) (N : Nat) (hN : 30 < N) : g54 N x = some true := by
  obtain ⟨b1, b2⟩ := h.base
  obtain ⟨m1, m2⟩ := h.many
  unfold g54
  rw [show decide ((x.1 : Int) < 2) = false by simp; omega, cond_false, show decide ((5 : Int) < x.1) = false by simp; omega, cond_false,
    show decide ((((List.length x.2.1 : Nat) : Int) : Int) < 1) = false by simp; omega, cond_false, show decide ((12 : Int) < ((List.length x.2.1 : Nat) : Int)) = false by simp; omega, cond_false,
    show ieq ((List.length x.2.2.1 : Nat) : Int) ((List.length x.2.1 : Nat) : Int) = true by simp [h.next], Bool.not_true, cond_false, g54L122_eq]
  rcases ref_rows N hN h.base h.many h.next (fun e8 e9 => some e8) (fun e10 => some true) N 0 (by omega) (by omega) with ⟨q1, q2⟩ | ⟨⟨j, hj, hb⟩, q2⟩
  · simpa using q2
  · exact absurd ⟨h.out _ (getD_mem hj 0), h.good hj⟩ hb

theorem ref_not {x : MM} (N : Nat) (hN : 30 < N) (h : ¬ Tame x) : g54 N x = some false := by
  unfold g54
  by_cases c1 : x.1 < 2
  · simp [c1]
  by_cases c2 : 5 < x.1
  · simp [c1, c2]
  by_cases c3 : ((List.length x.2.1 : Nat) : Int) < 1
  · simp only [c1, c2, c3, decide_true, decide_false, cond_true, cond_false]
  by_cases c4 : (12 : Int) < ((List.length x.2.1 : Nat) : Int)
  · simp only [c1, c2, c3, c4, decide_true, decide_false, cond_true, cond_false]
  by_cases c5 : x.2.2.1.length = x.2.1.length
  · have e3 : ieq ((List.length x.2.2.1 : Nat) : Int) ((List.length x.2.1 : Nat) : Int) = true := by simp [c5]
    simp only [c1, c2, c3, c4, decide_true, decide_false, cond_true, cond_false, e3, Bool.not_true]
    rw [g54L122_eq]
    have h1 : 2 ≤ x.1 ∧ x.1 ≤ 5 := by omega
    have h2 : 1 ≤ x.2.1.length ∧ x.2.1.length ≤ 12 := by omega
    rcases ref_rows N hN h1 h2 c5 (fun e8 e9 => some e8) (fun e10 => some true) N 0 (by omega) (by omega) with ⟨q1, q2⟩ | ⟨_, q2⟩
    · refine absurd (tame_of h1 h2 c5 (fun o ho => ?_) fun s hs => (q1 s (by omega) hs).good) h
      obtain ⟨j, hj, rfl⟩ := List.getElem_of_mem ho
      have := (q1 j (by omega) hj).out
      have e : x.2.1.getD j 0 = x.2.1[j] := by rw [List.getD_eq_getElem?_getD, List.getElem?_eq_getElem hj]; rfl
      rw [e] at this; exact this
    · simpa using q2
  · have e3 : ieq ((List.length x.2.2.1 : Nat) : Int) ((List.length x.2.1 : Nat) : Int) = false := by simp only [ieq, decide_eq_false_iff_not]; omega
    simp only [c1, c2, c3, c4, decide_true, decide_false, cond_true, cond_false, e3, Bool.not_false]

/-! ### The law -/
theorem open_bad1 (N : Nat) (y z : MM) (hy : g56 (N + 3) y = some 50) : g78 (N + 3) [y, z] = some 50 := by
  unfold g78
  rw [g78L26_eq, g78L26f_succ]
  unfold g78L26B
  have i0 : idx 0 2 := by decide
  have n1 : ieq 50 0 = false := by decide
  simp [hy, i0, n1]
theorem open_bad2 (N : Nat) (y z : MM) (hy : g56 (N + 3) y = some 50) (hz : g56 (N + 3) z = some 0) : g78 (N + 3) [z, y] = some 50 := by
  unfold g78
  rw [g78L26_eq, g78L26f_succ]
  unfold g78L26B
  have e1 : IntKind.wrap .i64 ((0 : Int) + 1) = 1 := by decide
  have e2 : IntKind.wrap .i64 (1 : Int) = 1 := by decide
  have i0 : idx 0 2 := by decide
  have i1 : idx 1 2 := by decide
  have n1 : ieq 50 0 = false := by decide
  have n2 : ieq 0 0 = true := by decide
  simp [hz, e1, e2, i0, i1, n2]
  rw [g78L26f_succ]
  unfold g78L26B
  simp [hy, i1, n1]
  exact i0

abbrev morse : MM := (2, [0, 1], [[0, 1], [1, 0]], ())
theorem morse_check : g56 2000 morse = some 0 := by kernel_rfl
theorem awake_2000 : g24 2000 = some true := by kernel_rfl

theorem checks_plain (a : MM) : g16 2000 a = some true := by
  unfold g16
  rw [own_eq 2000 (by omega) a]
  simp only [Option.bind_some]
  rw [given_eq 2000 (cutM a) (by omega) (cut_outs a) (cut_next a) (cut_rows a)]
  simp only [Option.bind_some]
  by_cases h : Tame (cutM a)
  · rw [h.ref 2000 (by omega)]
    simp only [Option.bind_some]
    rw [h.check 2000 (by omega)]
    simp [awake_2000, ieq]
  · have hc := check_not 2000 (by omega) (cut_outs a) h
    rw [ref_not 2000 (by omega) h]
    simp only [Option.bind_some]
    generalize cutM a = y at hc
    have e31 : g31 2000 = some morse := by kernel_rfl
    have ne : ieq 50 0 = false := by decide
    have ee : ieq 50 50 = true := by decide
    have e35 : g35 2000 y (-1) = some (0, 50, ()) := by unfold g35; simp only [hc, Option.bind_some, ne, Bool.not_false, cond_true]
    have e30 : g30 2000 y (-1) = some ([], 50, ()) := by unfold g30; simp only [hc, Option.bind_some, ne, Bool.not_false, cond_true]
    have e29 : g29 2000 y = some ((0, [], [], ()), 50, ()) := by unfold g29; simp only [hc, Option.bind_some, ne, Bool.not_false, cond_true]
    have o1 : g78 2000 [y, morse] = some 50 := open_bad1 1997 y morse hc
    have o2 : g78 2000 [morse, y] = some 50 := open_bad2 1997 y morse hc morse_check
    have e47 : g47 2000 morse y = some (0, false, 50, ()) := by unfold g47; simp only [o2, Option.bind_some, ne, Bool.not_false, cond_true]
    have e47' : g47 2000 y morse = some (0, false, 50, ()) := by unfold g47; simp only [o1, Option.bind_some, ne, Bool.not_false, cond_true]
    have e37 : g37 2000 y (-1) = some ((0, [], [], ()), 50, ()) := by unfold g37; simp only [hc, Option.bind_some, ne, Bool.not_false, cond_true]
    have e38 : g38 2000 y 0 0 = some ((0, [], [], ()), 50, ()) := by unfold g38; simp only [hc, Option.bind_some, ne, Bool.not_false, cond_true]
    have e50 : g50 2000 y [] = some ((0, [], [], ()), 50, ()) := by unfold g50; simp only [hc, Option.bind_some, ne, Bool.not_false, cond_true]
    have e51 : g51 2000 morse y [] = some ((0, [], [], ()), 50, ()) := by unfold g51; simp only [o2, Option.bind_some, ne, Bool.not_false, cond_true]
    have e44 : g44 2000 y = some ((0, [], [], ()), 50, ()) := by unfold g44; simp only [hc, Option.bind_some, ne, Bool.not_false, cond_true]
    have e40 : g40 2000 y (-1) 0 = some (false, 50, ()) := by unfold g40; simp only [hc, Option.bind_some, ne, Bool.not_false, cond_true]
    have e42 : g42 2000 y = some (0, 0, false, 50, ()) := by unfold g42; simp only [hc, Option.bind_some, ne, Bool.not_false, cond_true]
    have e46 : g46 2000 y = some (0, 50, ()) := by unfold g46; simp only [hc, Option.bind_some, ne, Bool.not_false, cond_true]
    have e26 : g26 2000 y (-1) = some (0, false, 50, ()) := by unfold g26; simp only [hc, Option.bind_some, ne, Bool.not_false, cond_true]
    have e19 : g19 2000 (0, [], [], ()) = some true := by kernel_rfl
    simp only [hc, Option.bind_some, ne, beqB, e31, e35, e30, e29, e47, e47', e37, e38, e50, e51, e44, e40, e42, e46, e26, ee, e19, cond_true, cond_false, Bool.not_true, Bool.not_false, beq_self_eq_true]
    rw [awake_2000]
    rfl

theorem autoChecks_bnd (a : ProdT (List.map AS.d [MT])) (h : BndL [MT] a) : g16 2000 a.1 = some true := checks_plain a.1

end Go.Pv
