/- Seat 05, plain: what the functions compute: lists in ranges, copies, machines that are tame, the check, the numbers of a sequence. -/
import Derived.Test.YtcfhdpbebiibjaaDoorPvL05
set_option linter.unusedVariables false
set_option linter.unusedSimpArgs false
namespace Go.Pv

abbrev MM := Int × List Int × List (List Int) × Unit

theorem w64 {x : Int} (h1 : -9223372036854775808 ≤ x) (h2 : x < 9223372036854775808) : IntKind.wrap .i64 x = x := by rw [IntKind.wrap_i64]; omega
theorem wu64 (x : Int) : IntKind.wrap .u64 x = x % 18446744073709551616 := by rw [IntKind.wrap_u64]
theorem wi64_r (x : Int) : -9223372036854775808 ≤ IntKind.wrap .i64 x ∧ IntKind.wrap .i64 x < 9223372036854775808 := by rw [IntKind.wrap_i64]; omega

/-- A number brought below another one. -/
theorem low {x m : Int} (hm : 0 < m) (hm2 : m < 1000000) : ∃ r : Int, IntKind.wrap .i64 (Int.tmod (IntKind.wrap .u64 x) m) = r ∧ 0 ≤ r ∧ r < m := by
  refine ⟨(x % 18446744073709551616) % m, ?_, Int.emod_nonneg _ (by omega), Int.emod_lt_of_pos _ hm⟩
  rw [wu64, Int.tmod_eq_emod_of_nonneg (Int.emod_nonneg _ (by decide))]
  have h1 := Int.emod_nonneg (x % 18446744073709551616) (show m ≠ 0 by omega)
  have h2 := Int.emod_lt_of_pos (x % 18446744073709551616) hm
  exact w64 (by omega) (by omega)

theorem getD_mem {α : Type} {l : List α} {i : Nat} (h : i < l.length) (d : α) : l.getD i d ∈ l := by
  rw [List.getD_eq_getElem?_getD, List.getElem?_eq_getElem h]; simp
theorem getD_drop (l : List Int) (i : Nat) (h : i < l.length) : l.drop i = l.getD i 0 :: l.drop (i + 1) := by
  rw [List.drop_eq_getElem_cons h]; simp [h]

/-! ### Numbers in a range -/
theorem any_loop (N : Nat) {C : Type} (k0 : Int → Option C) (k1 : Option C) (l : List Int) (f : (Int × Unit) → Option Bool) (p : Int → Bool) (hf : ∀ x, f (x, ()) = some (p x)) (hl : l.length < 4611686018427387904) :
    ∀ (F i : Nat), l.length - i < F → i ≤ l.length → ((l.drop i).any p = true ∧ ∃ j : Nat, g100L26f N F k0 k1 l f (l.length : Int) (i : Int) = k0 j) ∨ ((l.drop i).any p = false ∧ g100L26f N F k0 k1 l f (l.length : Int) (i : Int) = k1)
  | 0, i, h, _ => by omega
  | F + 1, i, h, hi => by
    rw [g100L26f_succ]
    unfold g100L26B
    by_cases hlt : i < l.length
    · have e1 : decide ((i : Int) < (l.length : Int)) = true := by simp; omega
      have e2 : idx (i : Int) l.length := ⟨by omega, by omega⟩
      rw [e1, cond_true, if_pos e2, Int.toNat_natCast, hf]
      simp only [Option.bind_some]
      rw [getD_drop l i hlt, List.any_cons]
      cases hp : p (l.getD i 0) with
      | true => exact .inl ⟨by simp, i, rfl⟩
      | false =>
        simp only [cond_false, Bool.false_or]
        have e3 : IntKind.wrap .i64 ((i : Int) + 1) = ((i + 1 : Nat) : Int) := by rw [w64 (by omega) (by omega)]; simp
        rw [e3]
        exact any_loop N k0 k1 l f p hf hl F (i + 1) (by omega) (by omega)
    · have e1 : decide ((i : Int) < (l.length : Int)) = false := by simp; omega
      rw [e1, cond_false, List.drop_eq_nil_of_le (by omega)]
      exact .inr ⟨rfl, rfl⟩

theorem are_eq (N : Nat) (lo hi : Int) (l : List Int) (hN : l.length < N) (hl : l.length < 4611686018427387904) : g57 N lo hi l = some (l.all fun x => decide (lo ≤ x) && decide (x ≤ hi)) := by
  unfold g57 g89 g100
  rw [g100L26_eq]
  have := any_loop N (fun e2 => some e2) (some (-1)) l (fun (x1 : (Int) × (Unit)) => Option.bind (g90 N x1.1 lo hi) fun y2 => some y2) (fun x => decide (x < lo) || decide (hi < x))
    (fun x => by
      simp only [g90]
      cases h : decide (x < lo) <;> simp) hl N 0 (by omega) (by omega)
  simp only [Int.natCast_zero, List.drop_zero] at this
  have hx : (l.all fun x => decide (lo ≤ x) && decide (x ≤ hi)) = !(l.any fun x => decide (x < lo) || decide (hi < x)) := by
    rw [List.not_any_eq_all_not]
    congr 1
    funext x
    by_cases h1 : x < lo <;> by_cases h2 : hi < x <;> simp [h1, h2] <;> omega
  rcases this with ⟨h1, j, h2⟩ | ⟨h1, h2⟩
  · rw [h2, hx, h1]
    simp
  · rw [h2, hx, h1]
    simp

/-! ### Copies -/
theorem few_eq (N : Nat) (l : List Int) (k : Int) (h : (l.length : Int) ≤ k) (h2 : l.length ≤ 1000) : g17 N l k = some l := by
  have e : imin (l.length : Int) k = l.length := by simp only [imin]; split <;> omega
  unfold g17
  rw [e, if_pos ⟨by omega, by omega, by omega⟩]
  simp [maxCount]
  omega

theorem copy_loop (N : Nat) {C : Type} (k0 : MM → Int → Int → List Int → List Int → List (List Int) → List (List Int) → Option C) (x : MM) (a b : Int) (c d : List Int) (e : List (List Int)) (hn : x.2.2.1.length ≤ 13) (hr : ∀ r ∈ x.2.2.1, r.length ≤ 26) :
    ∀ (F i : Nat), x.2.2.1.length - i < F → i ≤ x.2.2.1.length → g27L58f N F k0 (i : Int) x a b c d e (x.2.2.1.take i) = k0 x a b c d e x.2.2.1
  | 0, i, h, _ => by omega
  | F + 1, i, h, hi => by
    rw [g27L58f_succ]
    unfold g27L58B
    by_cases hlt : i < x.2.2.1.length
    · have e1 : decide ((i : Int) < (x.2.2.1.length : Int)) = true := by simp; omega
      have e2 : decide ((i : Int) ≤ 12) = true := by simp; omega
      have e3 : idx (i : Int) x.2.2.1.length := ⟨by omega, by omega⟩
      have e4 : IntKind.wrap .i64 ((i : Int) + 1) = ((i + 1 : Nat) : Int) := by rw [w64 (by omega) (by omega)]; simp
      have hm : x.2.2.1.getD i [] ∈ x.2.2.1 := by simp [hlt]
      have := hr _ hm
      rw [e1, e2, cond_true, cond_true, if_pos e3, Int.toNat_natCast, few_eq N _ 26 (by omega) (by omega)]
      simp only [Option.bind_some]
      rw [if_pos (by simp [maxCount]; omega), e4]
      have : x.2.2.1.take i ++ [x.2.2.1.getD i []] = x.2.2.1.take (i + 1) := by
        rw [List.take_add_one]; simp [hlt]
      rw [this]
      exact copy_loop N k0 x a b c d e hn hr F (i + 1) (by omega) (by omega)
    · have e1 : decide ((i : Int) < (x.2.2.1.length : Int)) = false := by simp; omega
      rw [e1, cond_false, List.take_of_length_le (by omega)]

theorem given_eq (N : Nat) (x : MM) (hN : 13 < N) (ho : x.2.1.length ≤ 13) (hn : x.2.2.1.length ≤ 13) (hr : ∀ r ∈ x.2.2.1, r.length ≤ 26) : g27 N x = some x := by
  unfold g27
  rw [few_eq N _ 13 (by omega) (by omega)]
  simp only [Option.bind_some]
  rw [g27L58_eq]
  have := copy_loop N (fun e3 e4 e5 e6 e7 e8 e9 => some (e5, e6, e9, ())) x 0 x.1 x.2.1 [] [] hn hr N 0 (by omega) (by omega)
  simp only [Int.natCast_zero, List.take_zero] at this
  rw [this]

/-! ### Numbers of a sequence -/
/-- A machine as it should be. -/
structure Tame (x : MM) : Prop where
  base : 2 ≤ x.1 ∧ x.1 ≤ 5
  many : 1 ≤ x.2.1.length ∧ x.2.1.length ≤ 12
  out : ∀ o ∈ x.2.1, 0 ≤ o ∧ o ≤ 9
  next : x.2.2.1.length = x.2.1.length
  row : ∀ r ∈ x.2.2.1, (r.length : Int) = x.1 ∧ ∀ t ∈ r, 0 ≤ t ∧ t < (x.2.1.length : Int)
  zero : ∀ s, s < x.2.1.length → x.2.1.getD ((x.2.2.1.getD s []).getD 0 0).toNat 0 = x.2.1.getD s 0

theorem Tame.rowAt {x : MM} (h : Tame x) {s : Nat} (hs : s < x.2.1.length) : ((x.2.2.1.getD s []).length : Int) = x.1 ∧ ∀ j : Nat, (j : Int) < x.1 → 0 ≤ (x.2.2.1.getD s []).getD j 0 ∧ (x.2.2.1.getD s []).getD j 0 < (x.2.1.length : Int) := by
  have hm : x.2.2.1.getD s [] ∈ x.2.2.1 := by simp [h.next, hs]
  obtain ⟨h1, h2⟩ := h.row _ hm
  refine ⟨h1, fun j hj => h2 _ ?_⟩
  have : j < (x.2.2.1.getD s []).length := by omega
  exact getD_mem this 0

theorem at_total {x : MM} (h : Tame x) : ∀ (F : Nat) (n s : Int), 0 ≤ s → s < (x.2.1.length : Int) → n < 2 ^ F → 0 ≤ n → F ≤ 63 → ∃ sf, atP x.2.2.1 x.1 (F + 1) n s = some sf ∧ 0 ≤ sf ∧ sf < (x.2.1.length : Int)
  | 0, n, s, h1, h2, h3, h4, _ => by
    refine ⟨s, ?_, h1, h2⟩
    simp only [atP]
    rw [if_neg (by simp at h3; omega)]
  | F + 1, n, s, h1, h2, h3, h4, hF => by
    rw [atP]
    by_cases hn : 0 < n
    · rw [if_pos hn]
      obtain ⟨hb1, hb2⟩ := h.base
      have hs : s.toNat < x.2.1.length := by omega
      obtain ⟨r1, r2⟩ := h.rowAt hs
      have hmod : Int.tmod n x.1 = n % x.1 := Int.tmod_eq_emod_of_nonneg h4
      have m1 := Int.emod_nonneg n (show x.1 ≠ 0 by omega)
      have m2 := Int.emod_lt_of_pos n (show 0 < x.1 by omega)
      have e1 : atStep x.2.2.1 x.1 n s = some ((x.2.2.1.getD s.toNat []).getD (n % x.1).toNat 0) := by
        unfold atStep
        rw [if_neg (by omega), if_pos ⟨h1, by rw [h.next]; exact h2⟩, hmod, if_pos ⟨m1, by omega⟩]
      rw [e1]
      simp only
      obtain ⟨t1, t2⟩ := r2 (n % x.1).toNat (by omega)
      have hdiv : Int.tdiv n x.1 = n / x.1 := Int.tdiv_eq_ediv_of_nonneg h4
      have d1 : 0 ≤ n / x.1 := Int.ediv_nonneg h4 (by omega)
      have d2 : n / x.1 ≤ n / 2 := by
        have q1 := Int.mul_ediv_add_emod n x.1
        have q2 : 2 * (n / x.1) ≤ x.1 * (n / x.1) := Int.mul_le_mul_of_nonneg_right hb1 d1
        omega
      have hp : (2 : Int) ^ (F + 1) = 2 * 2 ^ F := by rw [Int.pow_succ]; omega
      have d3 : n / 2 < 2 ^ F := by omega
      have hp2 : (2 : Int) ^ F ≤ 4611686018427387904 := by
        have h1 : (2 : Nat) ^ F ≤ 2 ^ 62 := Nat.pow_le_pow_right (by omega) (by omega)
        have h2 : ((2 ^ F : Nat) : Int) ≤ ((2 ^ 62 : Nat) : Int) := Int.ofNat_le.2 h1
        simpa using h2
      have hw : IntKind.wrap .i64 (Int.tdiv n x.1) = n / x.1 := by
        rw [hdiv]
        exact w64 (by omega) (by omega)
      rw [hw]
      exact at_total h F _ _ t1 t2 (by omega) d1 (by omega)
    · exact ⟨s, by rw [if_neg hn], h1, h2⟩

theorem atP_more (nx : List (List Int)) (b : Int) : ∀ (F k : Nat) (n s sf : Int), atP nx b F n s = some sf → atP nx b (F + k) n s = some sf
  | 0, k, n, s, sf, h => by simp [atP] at h
  | F + 1, k, n, s, sf, h => by
    rw [show F + 1 + k = (F + k) + 1 by omega]
    simp only [atP] at h ⊢
    by_cases hn : 0 < n
    · rw [if_pos hn] at h ⊢
      cases hs : atStep nx b n s with
      | none => rw [hs] at h; simp at h
      | some s' => rw [hs] at h; exact atP_more nx b F k _ _ _ h
    · rw [if_neg hn] at h ⊢; exact h

/-- The number n of a tame machine's sequence. -/
theorem at_some {x : MM} (h : Tame x) (N : Nat) (hN : 100 ≤ N) (n : Int) (h0 : 0 ≤ n) (h1 : n < 9223372036854775808) : ∃ v, g70 N x 0 n = some v ∧ 0 ≤ v ∧ v ≤ 9 := by
  have h63 : n < (2 : Int) ^ 63 := by
    have h2 : (2 : Int) ^ 63 = 9223372036854775808 := by decide
    rw [h2]; exact h1
  obtain ⟨sf, e1, e2, e3⟩ := at_total h 63 n 0 (by omega) (by have := h.many.1; omega) h63 h0 (by omega)
  have e4 := atP_more x.2.2.1 x.1 64 (N - 64) n 0 sf e1
  rw [show 64 + (N - 64) = N by omega] at e4
  have hs : sf.toNat < x.2.1.length := by omega
  have hm : x.2.1.getD sf.toNat 0 ∈ x.2.1 := getD_mem hs 0
  refine ⟨x.2.1.getD sf.toNat 0, ?_, h.out _ hm⟩
  unfold g70
  rw [e4]
  simp only [Option.bind_some]
  rw [if_pos ⟨e2, e3⟩]

@[simp] theorem ieq_self (x : Int) : ieq x x = true := by simp only [ieq, decide_true]

end Go.Pv
