/- Seat 05: AutoLaters, plain. -/
import Derived.Test.YtcfhdpbebiibjaaDoorMg2
import Derived.Test.YtcfhdpbebiibjaaDoorPvAB
set_option linter.unusedVariables false
set_option linter.unusedSimpArgs false
namespace Go.Pv

theorem late_loop {x E : MM} (hx : Tame x) (hE : Tame E) (N : Nat) (hN : 1300 < N) {n k : Nat} (hn : n < 6) (hk : 1 ≤ k ∧ k ≤ 4) (hs : ∀ m, sq E 0 m = sq x 0 (k * m + n)) {C : Type} (k0 : Bool → MM → MM → Option C) (k1 : MM → MM → Option C) :
    ∀ (F t : Nat), 30 - t < F → t ≤ 30 → g13L131066f N F k0 k1 (n : Int) (k : Int) 0 (t : Int) x E = k1 x E
  | 0, t, hF, _ => by omega
  | F + 1, t, hF, ht => by
    rw [g13L131066f_succ]
    unfold g13L131066B
    by_cases hlt : t < 30
    · have hkt : k * t ≤ 4 * 30 := Nat.mul_le_mul (by omega) (by omega)
      have e2 : (k : Int) * (t : Int) = ((k * t : Nat) : Int) := by simp
      rw [decide_eq_true (show (t : Int) < 30 by omega), cond_true, ieq_self, cond_true, g35_sq hE N (by omega) t (by omega), Option.bind_some, e2, w64 (x := ((k * t : Nat) : Int)) (by omega) (by omega), w64 (by omega) (by omega), show ((k * t : Nat) : Int) + (n : Int) = ((k * t + n : Nat) : Int) by omega,
        g35_sq hx N (by omega) (k * t + n) (by omega), Option.bind_some]
      simp only [not_ieq_self, cond_false]
      rw [hs t, not_ieq_self, cond_false, wn t (by omega)]
      exact late_loop hx hE N hN hn hk hs k0 k1 F (t + 1) (by omega) (by omega)
    · rw [decide_eq_false (show ¬ (t : Int) < 30 by omega), cond_false]

theorem code_ok {c : Int} (h : c = 0 ∨ c = 8) : (!beqB (ieq c 0) (!ieq c 8)) = false := by rcases h with rfl | rfl <;> rfl

theorem late_end {x E : MM} (hx : Tame x) (N : Nat) (hN : 1300 < N) (hw : g24 N = some true) {n k : Nat} (hn : n < 6) (hk : 1 ≤ k ∧ k ≤ 4) {c4 c14 : Int} (h4 : c4 = 0 ∨ c4 = 8) (hE : EvR x k n E c14) :
    (bif (!beqB (ieq c4 0) (!ieq c4 8)) then some false else bif (!beqB (ieq c14 0) (!ieq c14 8)) then some false else g13L131066 N (fun e22 e23 e24 => some e22) (fun e25 e26 => Option.bind (g24 N) fun r27 => some r27) (n : Int) (k : Int) c14 0 x E) = some true := by
  have h14 : c14 = 0 ∨ c14 = 8 := by
    rcases hE with ⟨h, _⟩ | ⟨h, _⟩
    · exact .inl h
    · exact .inr h
  rw [code_ok h4, cond_false, code_ok h14, cond_false, g13L131066_eq]
  rcases hE with ⟨rfl, ht, hf, hb, hs⟩ | ⟨rfl, rfl⟩
  · have := late_loop hx ht N hN hn hk hs (fun e22 e23 e24 => some e22) (fun e25 e26 => Option.bind (g24 N) fun r27 => some r27) N 0 (by omega) (by omega)
    simp only [Int.natCast_zero] at this
    rw [this, hw]; rfl
  · obtain ⟨M, rfl⟩ : ∃ M, N = M + 1 := ⟨N - 1, by omega⟩
    rw [g13L131066f_succ]
    unfold g13L131066B
    rw [decide_eq_true (show (0 : Int) < 30 by omega), cond_true, show ieq (8 : Int) 0 = false from rfl, cond_false, hw]; rfl

theorem late_tail {x : MM} (hx : Tame x) (N : Nat) (hN : 1300 < N) (hw : g24 N = some true) {n k l : Nat} (hn : n < 6) (hk : 1 ≤ k ∧ k ≤ 4) (hl : 1 ≤ l ∧ l ≤ 4) {c4 : Int} (h4 : c4 = 0 ∨ c4 = 8) :
    (Option.bind (g38 N x (k : Int) (n : Int)) fun r46 => Option.bind (g38 N r46.1 (l : Int) 0) fun r47 => Option.bind (g38 N x (IntKind.wrap .i64 ((k : Int) * (l : Int))) (n : Int)) fun r48 => bif (ieq r46.2.1 0) then bif (ieq r47.2.1 0) then bif (ieq r48.2.1 0) then Option.bind (g33 N r47.1) fun r49 => Option.bind (g33 N r48.1) fun r50 => Option.bind (g32 N r49 r50) fun r51 => bif (!r51) then some false else bif (!beqB (ieq c4 0) (!ieq c4 8)) then some false else bif (!beqB (ieq r46.2.1 0) (!ieq r46.2.1 8)) then some false else g13L131066 N (fun e52 e53 e54 => some e52) (fun e55 e56 => Option.bind (g24 N) fun r57 => some r57) (n : Int) (k : Int) r46.2.1 0 x r46.1 else bif (!beqB (ieq c4 0) (!ieq c4 8)) then some false else bif (!beqB (ieq r46.2.1 0) (!ieq r46.2.1 8)) then some false else g13L131066 N (fun e58 e59 e60 => some e58) (fun e61 e62 => Option.bind (g24 N) fun r63 => some r63) (n : Int) (k : Int) r46.2.1 0 x r46.1 else bif (!beqB (ieq c4 0) (!ieq c4 8)) then some false else bif (!beqB (ieq r46.2.1 0) (!ieq r46.2.1 8)) then some false else g13L131066 N (fun e64 e65 e66 => some e64) (fun e67 e68 => Option.bind (g24 N) fun r69 => some r69) (n : Int) (k : Int) r46.2.1 0 x r46.1 else bif (!beqB (ieq c4 0) (!ieq c4 8)) then some false else bif (!beqB (ieq r46.2.1 0) (!ieq r46.2.1 8)) then some false else g13L131066 N (fun e70 e71 e72 => some e70) (fun e73 e74 => Option.bind (g24 N) fun r75 => some r75) (n : Int) (k : Int) r46.2.1 0 x r46.1) = some true := by
  have hkl : k * l ≤ 4 * 4 := Nat.mul_le_mul (by omega) (by omega)
  have hkl1 : 1 * 1 ≤ k * l := Nat.mul_le_mul (by omega) (by omega)
  have ekl : (k : Int) * (l : Int) = ((k * l : Nat) : Int) := by simp
  obtain ⟨E, c14, e14, h14⟩ := every_form hx (k := k) (c := n) (by omega) (by omega) N hN
  obtain ⟨G, c16, e16, h16⟩ := every_form hx (k := k * l) (c := n) (by omega) (by omega) N hN
  rw [e14, Option.bind_some, ekl, w64 (x := ((k * l : Nat) : Int)) (by omega) (by omega), e16]
  dsimp only
  have hend := late_end hx N hN hw hn hk h4 h14
  rcases h14 with ⟨rfl, t14, f14, b14, s14⟩ | ⟨rfl, rfl⟩
  · obtain ⟨H, c15, e15, h15⟩ := every_form t14 (k := l) (c := 0) (by omega) (by omega) N hN
    simp only [Int.natCast_zero] at e15
    rw [e15, Option.bind_some, Option.bind_some]
    dsimp only
    rw [ieq_self, cond_true]
    rcases h15 with ⟨rfl, t15, f15, b15, s15⟩ | ⟨rfl, rfl⟩
    · rw [ieq_self, cond_true]
      rcases h16 with ⟨rfl, t16, f16, b16, s16⟩ | ⟨rfl, rfl⟩
      · rw [ieq_self, cond_true]
        have : H = G := results_one t15 f15 t16 f16 (by rw [b16, b15, b14]) (fun m => by rw [s15, s14, s16, Nat.add_zero, Nat.mul_assoc])
        subst this
        obtain ⟨r1, r2⟩ := results_eq t15 f15 N hN
        rw [r1, Option.bind_some, Option.bind_some, r2, Option.bind_some, Bool.not_true, cond_false]
        simpa only [ieq_self] using hend
      · rw [show ieq (8 : Int) 0 = false from rfl, cond_false]
        simpa only [ieq_self] using hend
    · rw [show ieq (8 : Int) 0 = false from rfl, cond_false]
      simpa only [ieq_self] using hend
  · rw [nil_every N hN, Option.bind_some, Option.bind_some, show ieq (8 : Int) 0 = false from rfl, cond_false]
    exact hend

theorem laters_awake : g24 2000 = some true := by kernel_rfl
theorem laters_plain (a : MM) (kb : Int) (p : List Int) : g13 2000 a kb p = some true := by
  obtain ⟨b, e1, hb1, hb2⟩ := base_eq 2000 kb
  obtain ⟨x, e2, hx, hxb, hxn⟩ := tame_eq 2000 (by omega) a b 3 ⟨hb1, hb2⟩ ⟨by omega, by omega⟩
  have hb := hx.base
  obtain ⟨n', en, hn0, hn1⟩ := low (x := p.getD (Int.toNat 0) 0) (m := 6) (by omega) (by omega)
  obtain ⟨k', ek, hk0, hk1⟩ := low (x := p.getD (Int.toNat 1) 0) (m := 4) (by omega) (by omega)
  obtain ⟨l', el, hl0, hl1⟩ := low (x := p.getD (Int.toNat 2) 0) (m := 4) (by omega) (by omega)
  obtain ⟨n, rfl⟩ : ∃ n : Nat, n' = (n : Int) := ⟨n'.toNat, by omega⟩
  obtain ⟨k, hk⟩ : ∃ k : Nat, IntKind.wrap .i64 (1 + k') = (k : Int) ∧ 1 ≤ k ∧ k ≤ 4 := ⟨(1 + k').toNat, by rw [w64 (by omega) (by omega)]; omega, by omega, by omega⟩
  obtain ⟨l, hl⟩ : ∃ l : Nat, IntKind.wrap .i64 (1 + l') = (l : Int) ∧ 1 ≤ l ∧ l ≤ 4 := ⟨(1 + l').toNat, by rw [w64 (by omega) (by omega)]; omega, by omega, by omega⟩
  unfold g13
  rw [e1, Option.bind_some, e2, Option.bind_some, hx.given 2000 (by omega), Option.bind_some, if_pos (⟨by omega, by omega⟩ : idx 0 3), if_pos (⟨by omega, by omega⟩ : idx 1 3), if_pos (⟨by omega, by omega⟩ : idx 2 3)]
  rw [en, ek, el, hk.1, hl.1, wn n (by omega)]
  obtain ⟨L1, c4, e4, _, h4⟩ := later_form hx (c := 1) (by omega) 2000 (by omega)
  obtain ⟨L6, c6, e6, e7, h6⟩ := later_form hx (c := n + 1) (by omega) 2000 (by omega)
  have hc4 : c4 = 0 ∨ c4 = 8 := by
    rcases h4 with ⟨h, _⟩ | ⟨h, _⟩
    · exact .inl h
    · exact .inr h
  have tail := late_tail hx 2000 (by omega) laters_awake (n := n) (k := k) (l := l) (by omega) hk.2 hl.2 hc4
  rw [show (1 : Int) = ((1 : Nat) : Int) from rfl, e4, Option.bind_some, e6]
  rw [show ((1 : Nat) : Int) = 1 from rfl, e7]
  dsimp only
  rcases h4 with ⟨rfl, t4, f4, b4, s4⟩ | ⟨rfl, rfl⟩
  · obtain ⟨L5, c5, e5, _, h5⟩ := later_form t4 (c := n) (by omega) 2000 (by omega)
    rw [e5, Option.bind_some, Option.bind_some, Option.bind_some]
    dsimp only
    rw [ieq_self, cond_true]
    rcases h5 with ⟨rfl, t5, f5, b5, s5⟩ | ⟨rfl, rfl⟩
    · rw [ieq_self, cond_true]
      rcases h6 with ⟨rfl, t6, f6, b6, s6⟩ | ⟨rfl, rfl⟩
      · rw [ieq_self, cond_true]
        have : L5 = L6 := results_one t5 f5 t6 f6 (by rw [b6, b5, b4]) (fun m => by rw [s5, s4, s6]; congr 1; omega)
        subst this
        obtain ⟨r1, r2⟩ := results_eq t5 f5 2000 (by omega)
        rw [Bool.not_true, cond_false, r1, Option.bind_some, Option.bind_some, r2, Option.bind_some, Bool.not_true, cond_false, Option.bind_some, Option.bind_some, r2, Option.bind_some, Bool.not_true, cond_false]
        simpa only [ieq_self] using tail
      · rw [show ieq (8 : Int) 0 = false from rfl, cond_false]
        simpa only [ieq_self] using tail
    · rw [show ieq (8 : Int) 0 = false from rfl, cond_false]
      simpa only [ieq_self] using tail
  · rw [nil_later 2000 (by omega), Option.bind_some, Option.bind_some, Option.bind_some, show ieq (8 : Int) 0 = false from rfl, cond_false]
    exact tail

theorem autoLaters_bnd (a : ProdT (List.map AS.d [MT, .int .i64, .arr 3 (.int .i64)])) (h : BndL [MT, .int .i64, .arr 3 (.int .i64)] a) : g13 2000 a.1 a.2.1 a.2.2.1 = some true := laters_plain a.1 a.2.1 a.2.2.1

end Go.Pv
