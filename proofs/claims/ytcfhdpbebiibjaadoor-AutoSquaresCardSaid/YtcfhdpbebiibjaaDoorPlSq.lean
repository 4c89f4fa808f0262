/- Seat 05: AutoSquares, plain. -/
import Derived.Test.YtcfhdpbebiibjaaDoorPlZ
import Derived.Test.YtcfhdpbebiibjaaDoorPvAB
set_option linter.unusedVariables false
set_option linter.unusedSimpArgs false
namespace Go.Pv

def sqStep (x : MM) (s r : Nat) : Nat := dM x (dM x s (r % 2)) (r / 2)
theorem sq_at {x : MM} (h : WM x) (h2 : x.1 = 2) {s r : Nat} (hs : s < x.2.1.length) (hr : r < 4) :
    idx (s : Int) x.2.2.1.length ∧ idx ((r % 2 : Nat) : Int) (x.2.2.1.getD s []).length ∧ (x.2.2.1.getD s []).getD (r % 2) 0 = (dM x s (r % 2) : Int) ∧ idx (dM x s (r % 2) : Int) x.2.2.1.length ∧
      idx ((r / 2 : Nat) : Int) (x.2.2.1.getD (dM x s (r % 2)) []).length ∧ (x.2.2.1.getD (dM x s (r % 2)) []).getD (r / 2) 0 = (sqStep x s r : Int) ∧ sqStep x s r < x.2.1.length := by
  have hn := h.next
  obtain ⟨a1, a2⟩ := h.at hs (r := r % 2) (by omega)
  obtain ⟨b1, b2⟩ := h.at a2 (r := r / 2) (by omega)
  have c1 := h.row s hs
  have c2 := h.row _ a2
  exact ⟨⟨by omega, by omega⟩, ⟨by omega, by omega⟩, a1, ⟨by omega, by omega⟩, ⟨by omega, by omega⟩, b1, b2⟩

theorem tmod_nat (r m : Nat) : Int.tmod (r : Int) (m : Int) = ((r % m : Nat) : Int) := by rw [Int.tmod_eq_emod_of_nonneg (by omega)]; rfl
theorem tdiv_nat (r m : Nat) : Int.tdiv (r : Int) (m : Int) = ((r / m : Nat) : Int) := by rw [Int.tdiv_eq_ediv_of_nonneg (by omega)]; rfl

theorem sq_prog {x : MM} (h : WM x) (h2 : x.1 = 2) (N : Nat) {s r : Nat} (hs : s < x.2.1.length) (hr : r < 4) : g77 N (s : Int) (r : Int) x = some (sqStep x s r : Int) := by
  obtain ⟨a1, a2, a3, a4, a5, a6, a7⟩ := sq_at h h2 hs hr
  unfold g77
  rw [h2, show (2 : Int) = ((2 : Nat) : Int) from rfl, tmod_nat, tdiv_nat, w64 (by omega) (by omega)]
  simp only [Int.toNat_natCast]
  rw [if_pos a1, if_neg (by omega), if_pos a2, a3]
  simp only [Int.toNat_natCast]
  rw [if_pos a4, if_neg (by omega), if_pos a5, a6]

theorem sq_row {x : MM} (h : WM x) (h2 : x.1 = 2) (N : Nat) {C : Type} (k0 : Int → Int → MM → Int → Int → List Int → List Int → List Int → List (List Int) → List (List Int) → Option C) {s : Nat} (hs : s < x.2.1.length) (u v : Int) (w1 w3 : List Int) (w4 w5 : List (List Int)) :
    ∀ (F r : Nat), 4 - r < F → r ≤ 4 → g45L31306f N F k0 2 (s : Int) (r : Int) x u v w1 ((List.range r).map fun r => (sqStep x s r : Int)) w3 w4 w5 = k0 2 (s : Int) x u v w1 ((List.range 4).map fun r => (sqStep x s r : Int)) w3 w4 w5
  | 0, r, hF, _ => by omega
  | F + 1, r, hF, hr => by
    rw [g45L31306f_succ]
    unfold g45L31306B
    rw [show IntKind.wrap .i64 (2 * 2 : Int) = 4 by rw [w64 (by omega) (by omega)]; rfl]
    by_cases hlt : r < 4
    · obtain ⟨a1, a2, a3, a4, a5, a6, a7⟩ := sq_at h h2 hs hlt
      have e1 : decide ((r : Int) < 4) = true := by rw [decide_eq_true_iff]; omega
      rw [e1, cond_true, show (2 : Int) = ((2 : Nat) : Int) from rfl, tmod_nat, tdiv_nat, w64 (x := ((r / 2 : Nat) : Int)) (by omega) (by omega)]
      simp only [Int.toNat_natCast]
      rw [if_pos a1, if_neg (by omega), if_pos a2, a3]
      simp only [Int.toNat_natCast]
      rw [if_pos a4, if_neg (by omega), if_pos a5, a6, if_pos (by simp only [List.length_map, List.length_range, List.length_cons, List.length_nil, maxCount]; omega), wn r (by omega), ← take_range_map (fun r => (sqStep x s r : Int))]
      exact sq_row h h2 N k0 hs u v w1 w3 w4 w5 F (r + 1) (by omega) (by omega)
    · have e1 : decide ((r : Int) < 4) = false := by rw [decide_eq_false_iff_not]; omega
      have : r = 4 := by omega
      rw [e1, cond_false, this]

theorem sq_rows {x : MM} (h : WM x) (h2 : x.1 = 2) (hn : x.2.1.length ≤ 60000) (N : Nat) (hN : 1001 < N) {C : Type} (k0 : MM → Int → Int → List Int → List Int → List (List Int) → List (List Int) → Option C) (u v : Int) (w1 w3 : List Int) (w4 : List (List Int)) :
    ∀ (F s : Nat), x.2.1.length - s < F → s ≤ x.2.1.length → g45L122f N F k0 2 (s : Int) x u v w1 w3 w4 ((List.range s).map fun s => (List.range 4).map fun r => (sqStep x s r : Int)) =
      k0 x u v w1 w3 w4 ((List.range x.2.1.length).map fun s => (List.range 4).map fun r => (sqStep x s r : Int))
  | 0, s, hF, _ => by omega
  | F + 1, s, hF, hs => by
    rw [g45L122f_succ]
    unfold g45L122B
    by_cases hlt : s < x.2.1.length
    · have e1 : decide ((s : Int) < (x.2.1.length : Int)) = true := by rw [decide_eq_true_iff]; omega
      rw [e1, cond_true, g45L31306_eq]
      have el := fun k => sq_row (C := C) h h2 N k hlt u v w1 w3 w4 ((List.range s).map fun s => (List.range 4).map fun r => (sqStep x s r : Int)) N 0 (by omega) (by omega)
      simp only [Int.natCast_zero, List.range_zero, List.map_nil] at el
      rw [el, if_pos (by simp only [List.length_map, List.length_range, List.length_cons, List.length_nil, maxCount]; omega), wn s (by omega), ← take_range_map (fun s => (List.range 4).map fun r => (sqStep x s r : Int))]
      exact sq_rows h h2 hn N hN k0 u v w1 w3 w4 F (s + 1) (by omega) (by omega)
    · have e1 : decide ((s : Int) < (x.2.1.length : Int)) = false := by rw [decide_eq_false_iff_not]; omega
      have : s = x.2.1.length := by omega
      rw [e1, cond_false, this]

def sqM (x : MM) : MM := tabM 4 x.2.1.length (oM x) (sqStep x)
theorem sq_ref {x : MM} (h : WM x) (h2 : x.1 = 2) (hn : x.2.1.length ≤ 60000) (N : Nat) (hN : 1001 < N) (hN2 : x.2.1.length < N) : g45 N x = some (sqM x) := by
  unfold g45
  rw [h2, show IntKind.wrap .i64 (2 * 2 : Int) = 4 by rw [w64 (by omega) (by omega)]; rfl, g45L122_eq]
  have := sq_rows h h2 hn N hN (fun e11 e12 e13 e14 e15 e16 e17 => some (e13, e14, e17, ())) 0 4 x.2.1 [] [] N 0 (by omega) (by omega)
  simp only [Int.natCast_zero, List.range_zero, List.map_nil] at this
  rw [this]
  unfold sqM tabM
  rw [outs_range]; rfl

theorem sq_wm {x : MM} (h : WM x) (h2 : x.1 = 2) : WM (sqM x) := tab_wm (by omega) h.many (fun s hs => h.oAt hs) fun s r hs hr => (sq_at h h2 hs hr).2.2.2.2.2.2

theorem sq_built {x : MM} (h : WM x) (h2 : x.1 = 2) (hn : x.2.1.length ≤ 60000) (N : Nat) (hN : 1001 < N) (hN2 : x.2.1.length < N) :
    ∃ H, g75 N 4 0 (fun (x2 : Int × Unit) => Option.bind (g76 N x2.1 x) fun y3 => some y3) (fun (x4 : Int × Int × Unit) => Option.bind (g77 N x4.1 x4.2.1 x) fun y5 => some y5) = some H ∧ WM H ∧ H.1 = 4 ∧ Same H (sqM x) 0 0 ∧ H.2.1.length ≤ x.2.1.length := by
  have hm := h.many
  obtain ⟨H, l, e, hd, hl⟩ := built_eq N (b := 4) (by omega) hN 0 (fun (x2 : Int × Unit) => Option.bind (g76 N x2.1 x) fun y3 => some y3) (fun (x4 : Int × Int × Unit) => Option.bind (g77 N x4.1 x4.2.1 x) fun y5 => some y5)
    (fun s => oM x s.toNat) (fun s r => (sqStep x s.toNat r : Int)) (fun s => 0 ≤ s ∧ s < (x.2.1.length : Int))
    (fun s hs r hr => by have := (sq_at h h2 (s := s.toNat) (by omega) hr).2.2.2.2.2.2; omega) x.2.1.length (fun s hs => hs) hn hN2
    (fun s hs => by
      show Option.bind (g76 N s x) (fun y3 => some y3) = _
      unfold g76
      rw [if_pos (⟨by omega, by omega⟩ : idx s x.2.1.length)]; rfl)
    (fun s hs r hr => by
      show Option.bind (g77 N s (r : Int) x) (fun y3 => some y3) = _
      obtain ⟨k, rfl⟩ : ∃ k : Nat, s = (k : Int) := ⟨s.toNat, by omega⟩
      rw [sq_prog h h2 N (by omega) hr]; rfl) ⟨by omega, by omega⟩
  have hw := hd.wm (by omega) fun t ht => h.oAt (by have := hl t ht; omega)
  have hlen : l.length ≤ x.2.1.length := pigeon _ l (by have := hd.nodup; rw [map_idK] at this; exact this) hl
  refine ⟨H, e, hw, hd.base, ?_, by rw [hd.out, List.length_map]; exact hlen⟩
  refine hd.same Int.toNat fun t ht => ?_
  have := hl t ht
  exact ⟨by unfold sqM; rw [tab_o (by omega)], fun r hr => by unfold sqM; rw [tab_d (by omega) hr]; rfl⟩

theorem sq_awake : g24 2000 = some true := by kernel_rfl
theorem squares_plain (a : MM) (k : Int) : g10 2000 a k = some true := by
  obtain ⟨b, e1, hb1, hb2⟩ := base_eq 2000 k
  obtain ⟨x, e2, hx, hxb, hxn⟩ := tame_eq 2000 (by omega) a b 12 ⟨hb1, hb2⟩ ⟨by omega, by omega⟩
  have hm := hx.many
  unfold g10
  rw [e1, Option.bind_some, e2, Option.bind_some, hx.given 2000 (by omega)]
  simp only [Option.bind_some]
  unfold g44
  rw [hx.check 2000 (by omega)]
  simp only [Option.bind_some, not_ieq_self, cond_false]
  by_cases h2 : x.1 = 2
  · rw [h2]
    simp only [not_ieq_self, cond_false]
    rw [show IntKind.wrap .i64 (2 * 2 : Int) = 4 by rw [w64 (by omega) (by omega)]; rfl]
    obtain ⟨H, f1, f2, f3, f4, f5⟩ := sq_built hx.wm h2 (by omega) 2000 (by omega) (by omega)
    rw [f1]
    simp only [Option.bind_some]
    have hl : (sqM x).2.1.length = x.2.1.length := tab_len _ _ _ _
    obtain ⟨r, c, q1, q2, _⟩ := right_eq f2 (sq_wm hx.wm h2) (by rw [f3]; rfl) (by show (4 : Int) ≤ 26; omega) f4 2000 (by omega) (by omega) (by omega) (by omega) (by omega)
    rw [q1]
    simp only [Option.bind_some]
    rw [sq_ref hx.wm h2 (by omega) 2000 (by omega) (by omega)]
    simp only [Option.bind_some]
    rw [q2]
    simp only [Option.bind_some, cond_true]
    rw [sq_awake]; rfl
  · have e : (!ieq x.1 2) = true := by simp [ieq, h2]
    rw [e]
    simp only [cond_true, Option.bind_some, ieq_self]
    rw [none_nil]
    simp only [Option.bind_some, cond_true]
    rw [sq_awake]; rfl

theorem autoSquares_bnd (a : ProdT (List.map AS.d [MT, .int .i64])) (h : BndL [MT, .int .i64] a) : g10 2000 a.1 a.2.1 = some true := squares_plain a.1 a.2.1

end Go.Pv
