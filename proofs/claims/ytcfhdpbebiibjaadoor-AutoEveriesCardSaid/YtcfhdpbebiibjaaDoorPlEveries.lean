/- Seat 05: AutoEveries, plain. -/
import Derived.Test.YtcfhdpbebiibjaaDoorPlEv
import Derived.Test.YtcfhdpbebiibjaaDoorPvAB
set_option linter.unusedVariables false
set_option linter.unusedSimpArgs false
namespace Go.Pv

theorem one_eq (N : Nat) (hN : 1 < N) (lo hi p : Int) : g57 N lo hi [p] = some (decide (lo ≤ p) && decide (p ≤ hi)) := by
  rw [are_eq N lo hi [p] (by simpa using hN) (by simp)]; simp

/-- The checked form of what is built is right. -/
theorem made_right {x : MM} (hx : Tame x) (h6 : x.2.1.length ≤ 12) {k c : Int} (hk : 0 ≤ k ∧ k ≤ 101) (hc : 0 ≤ c ∧ c ≤ 100) (N : Nat) (hN : 1300 < N) :
    ∃ H r q S, g73 N x k c = some H ∧ g60 N H = some (r, q, ()) ∧ g39 N x k c = some S ∧ g20 N r q S = some true := by
  have hb := hx.base
  have hm := hx.many
  have hl : (x.2.1.length : Int) * (100 + 1) ≤ 12 * 101 := by omega
  obtain ⟨H, l, e1, e2, hd, hl, hw, hb1, hlen⟩ := every_one hx (k := k) (C := 100) (c := c) (by omega) (by omega) hc N (by omega) (by omega)
  have : x.2.1.length * (100 + 1 : Int).toNat ≤ 1212 := by rw [show (100 + 1 : Int).toNat = 101 from rfl]; omega
  obtain ⟨r, q, q1, q2, _⟩ := right_eq hw hw rfl (by omega) (fun w _ => rfl) N (by omega) (by omega) (by omega) (by omega) (by omega)
  exact ⟨H, r, q, H, e1, q1, e2, q2⟩

theorem later_ok {x : MM} (hx : Tame x) (p : Int) (hp : 0 ≤ p ∧ p ≤ 100) (N : Nat) (hN : 1300 < N) : ∃ r q S, g37 N x p = some (r, q, ()) ∧ g39 N x 1 p = some S ∧ g20 N r q S = some true := by
  obtain ⟨H, r, q, S, e1, e2, e3, e4⟩ := made_right hx hx.many.2 (k := 1) (c := p) (by omega) hp N hN
  refine ⟨r, q, S, ?_, e3, e4⟩
  unfold g37
  rw [hx.check N (by omega), Option.bind_some, not_ieq_self, cond_false, one_eq N (by omega), Option.bind_some]
  have : (decide ((0 : Int) ≤ p) && decide (p ≤ 100)) = true := by simp; omega
  rw [this, Bool.not_true, cond_false, e1, Option.bind_some, e2]; rfl
theorem later_bad {x : MM} (hx : Tame x) (p : Int) (hp : p < 0 ∨ 100 < p) (N : Nat) (hN : 1300 < N) : g37 N x p = some (nil0, 1, ()) := by
  unfold g37
  rw [hx.check N (by omega), Option.bind_some, not_ieq_self, cond_false, one_eq N (by omega), Option.bind_some]
  have : (decide ((0 : Int) ≤ p) && decide (p ≤ 100)) = false := by simp; omega
  rw [this, Bool.not_false, cond_true]
theorem every_ok {x : MM} (hx : Tame x) (k p : Int) (hk : 1 ≤ k ∧ k ≤ 30) (hp : 0 ≤ p ∧ p ≤ 100) (N : Nat) (hN : 1300 < N) : ∃ r q S, g38 N x k p = some (r, q, ()) ∧ g39 N x k p = some S ∧ g20 N r q S = some true := by
  obtain ⟨H, r, q, S, e1, e2, e3, e4⟩ := made_right hx hx.many.2 (k := k) (c := p) (by omega) hp N hN
  refine ⟨r, q, S, ?_, e3, e4⟩
  unfold g38
  rw [hx.check N (by omega), Option.bind_some, not_ieq_self, cond_false, one_eq N (by omega), Option.bind_some]
  have h1 : (decide ((1 : Int) ≤ k) && decide (k ≤ 30)) = true := by simp; omega
  have h2 : (decide ((0 : Int) ≤ p) && decide (p ≤ 100)) = true := by simp; omega
  rw [h1, Bool.not_true, cond_false, one_eq N (by omega), Option.bind_some, h2, Bool.not_true, cond_false, e1, Option.bind_some, e2]; rfl
theorem every_bad {x : MM} (hx : Tame x) (k p : Int) (hk : k < 1 ∨ 30 < k ∨ p < 0 ∨ 100 < p) (N : Nat) (hN : 1300 < N) : g38 N x k p = some (nil0, 1, ()) := by
  unfold g38
  rw [hx.check N (by omega), Option.bind_some, not_ieq_self, cond_false, one_eq N (by omega), Option.bind_some]
  by_cases h1 : (decide ((1 : Int) ≤ k) && decide (k ≤ 30)) = true
  · have h2 : (decide ((0 : Int) ≤ p) && decide (p ≤ 100)) = false := by simp at h1 ⊢; omega
    rw [h1, Bool.not_true, cond_false, one_eq N (by omega), Option.bind_some, h2, Bool.not_false, cond_true]
  · rw [Bool.not_eq_true] at h1
    rw [h1, Bool.not_false, cond_true]

theorem everies_round {x : MM} (hx : Tame x) (N : Nat) (hN : 1300 < N) {C : Type} (rec : Int → List Int → MM → MM → Option C) (k0 : Bool → List Int → MM → MM → Option C) (k1 : List Int → MM → MM → Option C) (i : Int) (p : List Int) (hi : i < 2) :
    ∃ p', g7L122B N rec k0 k1 i p x x = rec (IntKind.wrap .i64 (i + 1)) p' x x := by
  refine ⟨List.set (List.set (List.set (List.replicate 3 0) 0 (IntKind.wrap .i64 (Int.tmod (IntKind.wrap .u64 (List.getD p (Int.toNat 0) 0)) 8))) 1 (IntKind.wrap .i64 (1 + (IntKind.wrap .i64 (Int.tmod (IntKind.wrap .u64 (List.getD p (Int.toNat 1) 0)) 5))))) 2 (IntKind.wrap .i64 (Int.tmod (IntKind.wrap .u64 (List.getD p (Int.toNat 2) 0)) 8)), ?_⟩
  · unfold g7L122B
    have e0 : decide (i < 2) = true := by simpa using hi
    have i0 : idx 0 3 := ⟨by omega, by omega⟩
    have i1 : idx 1 3 := ⟨by omega, by omega⟩
    have i2 : idx 2 3 := ⟨by omega, by omega⟩
    rw [e0, cond_true]
    simp only [if_pos i0, if_pos i1, if_pos i2]
    have A : (decide (p.getD (Int.toNat 0) 0 < 0) = true ∧ g37 N x (p.getD (Int.toNat 0) 0) = some (nil0, 1, ())) ∨ (decide (p.getD (Int.toNat 0) 0 < 0) = false ∧ decide (100 < p.getD (Int.toNat 0) 0) = true ∧ g37 N x (p.getD (Int.toNat 0) 0) = some (nil0, 1, ())) ∨
        (decide (p.getD (Int.toNat 0) 0 < 0) = false ∧ decide (100 < p.getD (Int.toNat 0) 0) = false ∧ ∃ r q S, g37 N x (p.getD (Int.toNat 0) 0) = some (r, q, ()) ∧ g39 N x 1 (p.getD (Int.toNat 0) 0) = some S ∧ g20 N r q S = some true) := by
      generalize p.getD (Int.toNat 0) 0 = a
      by_cases h1 : a < 0
      · exact .inl ⟨decide_eq_true h1, later_bad hx a (.inl h1) N hN⟩
      · by_cases h2 : 100 < a
        · exact .inr (.inl ⟨decide_eq_false h1, decide_eq_true h2, later_bad hx a (.inr h2) N hN⟩)
        · exact .inr (.inr ⟨decide_eq_false h1, decide_eq_false h2, later_ok hx a (by omega) N hN⟩)
    have B : (decide (p.getD (Int.toNat 1) 0 < 1) = true ∧ g38 N x (p.getD (Int.toNat 1) 0) (p.getD (Int.toNat 2) 0) = some (nil0, 1, ())) ∨
        (decide (p.getD (Int.toNat 1) 0 < 1) = false ∧ decide (30 < p.getD (Int.toNat 1) 0) = true ∧ g38 N x (p.getD (Int.toNat 1) 0) (p.getD (Int.toNat 2) 0) = some (nil0, 1, ())) ∨
        (decide (p.getD (Int.toNat 1) 0 < 1) = false ∧ decide (30 < p.getD (Int.toNat 1) 0) = false ∧ decide (p.getD (Int.toNat 2) 0 < 0) = true ∧ g38 N x (p.getD (Int.toNat 1) 0) (p.getD (Int.toNat 2) 0) = some (nil0, 1, ())) ∨
        (decide (p.getD (Int.toNat 1) 0 < 1) = false ∧ decide (30 < p.getD (Int.toNat 1) 0) = false ∧ decide (p.getD (Int.toNat 2) 0 < 0) = false ∧ decide (100 < p.getD (Int.toNat 2) 0) = true ∧ g38 N x (p.getD (Int.toNat 1) 0) (p.getD (Int.toNat 2) 0) = some (nil0, 1, ())) ∨
        (decide (p.getD (Int.toNat 1) 0 < 1) = false ∧ decide (30 < p.getD (Int.toNat 1) 0) = false ∧ decide (p.getD (Int.toNat 2) 0 < 0) = false ∧ decide (100 < p.getD (Int.toNat 2) 0) = false ∧
          ∃ r q S, g38 N x (p.getD (Int.toNat 1) 0) (p.getD (Int.toNat 2) 0) = some (r, q, ()) ∧ g39 N x (p.getD (Int.toNat 1) 0) (p.getD (Int.toNat 2) 0) = some S ∧ g20 N r q S = some true) := by
      generalize p.getD (Int.toNat 1) 0 = a
      generalize p.getD (Int.toNat 2) 0 = b
      by_cases h1 : a < 1
      · exact .inl ⟨decide_eq_true h1, every_bad hx a b (.inl h1) N hN⟩
      · by_cases h2 : 30 < a
        · exact .inr (.inl ⟨decide_eq_false h1, decide_eq_true h2, every_bad hx a b (.inr (.inl h2)) N hN⟩)
        · by_cases h3 : b < 0
          · exact .inr (.inr (.inl ⟨decide_eq_false h1, decide_eq_false h2, decide_eq_true h3, every_bad hx a b (.inr (.inr (.inl h3))) N hN⟩))
          · by_cases h4 : 100 < b
            · exact .inr (.inr (.inr (.inl ⟨decide_eq_false h1, decide_eq_false h2, decide_eq_false h3, decide_eq_true h4, every_bad hx a b (.inr (.inr (.inr h4))) N hN⟩)))
            · exact .inr (.inr (.inr (.inr ⟨decide_eq_false h1, decide_eq_false h2, decide_eq_false h3, decide_eq_false h4, every_ok hx a b (by omega) (by omega) N hN⟩)))
    rcases A with ⟨a1, a2⟩ | ⟨a1, a2, a3⟩ | ⟨a1, a2, r, q, S, a3, a4, a5⟩
    · rcases B with ⟨b1, b2⟩ | ⟨b1, b2, b3⟩ | ⟨b1, b2, b3, b4⟩ | ⟨b1, b2, b3, b4, b5⟩ | ⟨b1, b2, b3, b4, r', q', S', b5, b6, b7⟩
      · simp only [a1, a2, b1, b2, Option.bind_some, cond_true, cond_false, not_ieq_self, none_nil, Bool.not_true]
      · simp only [a1, a2, b1, b2, b3, Option.bind_some, cond_true, cond_false, not_ieq_self, none_nil, Bool.not_true]
      · simp only [a1, a2, b1, b2, b3, b4, Option.bind_some, cond_true, cond_false, not_ieq_self, none_nil, Bool.not_true]
      · simp only [a1, a2, b1, b2, b3, b4, b5, Option.bind_some, cond_true, cond_false, not_ieq_self, none_nil, Bool.not_true]
      · simp only [a1, a2, b1, b2, b3, b4, b5, b6, b7, Option.bind_some, cond_true, cond_false, not_ieq_self, none_nil, Bool.not_true]
    · rcases B with ⟨b1, b2⟩ | ⟨b1, b2, b3⟩ | ⟨b1, b2, b3, b4⟩ | ⟨b1, b2, b3, b4, b5⟩ | ⟨b1, b2, b3, b4, r', q', S', b5, b6, b7⟩
      · simp only [a1, a2, a3, b1, b2, Option.bind_some, cond_true, cond_false, not_ieq_self, none_nil, Bool.not_true]
      · simp only [a1, a2, a3, b1, b2, b3, Option.bind_some, cond_true, cond_false, not_ieq_self, none_nil, Bool.not_true]
      · simp only [a1, a2, a3, b1, b2, b3, b4, Option.bind_some, cond_true, cond_false, not_ieq_self, none_nil, Bool.not_true]
      · simp only [a1, a2, a3, b1, b2, b3, b4, b5, Option.bind_some, cond_true, cond_false, not_ieq_self, none_nil, Bool.not_true]
      · simp only [a1, a2, a3, b1, b2, b3, b4, b5, b6, b7, Option.bind_some, cond_true, cond_false, not_ieq_self, none_nil, Bool.not_true]
    · rcases B with ⟨b1, b2⟩ | ⟨b1, b2, b3⟩ | ⟨b1, b2, b3, b4⟩ | ⟨b1, b2, b3, b4, b5⟩ | ⟨b1, b2, b3, b4, r', q', S', b5, b6, b7⟩
      · simp only [a1, a2, a3, a4, a5, b1, b2, Option.bind_some, cond_true, cond_false, not_ieq_self, none_nil, Bool.not_true]
      · simp only [a1, a2, a3, a4, a5, b1, b2, b3, Option.bind_some, cond_true, cond_false, not_ieq_self, none_nil, Bool.not_true]
      · simp only [a1, a2, a3, a4, a5, b1, b2, b3, b4, Option.bind_some, cond_true, cond_false, not_ieq_self, none_nil, Bool.not_true]
      · simp only [a1, a2, a3, a4, a5, b1, b2, b3, b4, b5, Option.bind_some, cond_true, cond_false, not_ieq_self, none_nil, Bool.not_true]
      · simp only [a1, a2, a3, a4, a5, b1, b2, b3, b4, b5, b6, b7, Option.bind_some, cond_true, cond_false, not_ieq_self, none_nil, Bool.not_true]

theorem everies_awake : g24 2000 = some true := by kernel_rfl
theorem everies_plain (a : MM) (k : Int) (p : List Int) : g7 2000 a k p = some true := by
  obtain ⟨b, e1, hb1, hb2⟩ := base_eq 2000 k
  obtain ⟨x, e2, hx, hxb, hxn⟩ := tame_eq 2000 (by omega) a b 6 ⟨hb1, hb2⟩ ⟨by omega, by omega⟩
  unfold g7
  rw [e1, Option.bind_some, e2, Option.bind_some, hx.given 2000 (by omega), Option.bind_some, g7L122_eq]
  rw [show (2000 : Nat) = 1997 + 1 + 1 + 1 from rfl, g7L122f_succ]
  obtain ⟨p1, q1⟩ := everies_round hx 2000 (by omega) (fun vt9 vo5 vo7 vo8 => g7L122f 2000 (1997 + 1 + 1) (fun e28 e29 e30 e31 => some e28) (fun e32 e33 e34 => Option.bind (g24 2000) fun r35 => some r35) vt9 vo5 vo7 vo8) (fun e28 e29 e30 e31 => some e28) (fun e32 e33 e34 => Option.bind (g24 2000) fun r35 => some r35) 0 p (by omega)
  rw [q1]
  rw [w64 (by omega) (by omega), g7L122f_succ]
  obtain ⟨p2, q2⟩ := everies_round hx 2000 (by omega) (fun vt9 vo5 vo7 vo8 => g7L122f 2000 (1997 + 1) (fun e28 e29 e30 e31 => some e28) (fun e32 e33 e34 => Option.bind (g24 2000) fun r35 => some r35) vt9 vo5 vo7 vo8) (fun e28 e29 e30 e31 => some e28) (fun e32 e33 e34 => Option.bind (g24 2000) fun r35 => some r35) (0 + 1) p1 (by omega)
  rw [q2]
  rw [w64 (by omega) (by omega), g7L122f_succ]
  unfold g7L122B
  rw [show decide ((0 + 1 + 1 : Int) < 2) = false by simp, cond_false, everies_awake]; rfl

theorem autoEveries_bnd (a : ProdT (List.map AS.d [MT, .int .i64, .arr 3 (.int .i64)])) (h : BndL [MT, .int .i64, .arr 3 (.int .i64)] a) : g7 2000 a.1 a.2.1 a.2.2.1 = some true := everies_plain a.1 a.2.1 a.2.2.1

end Go.Pv
