/- Seat 05: AutoRounds, plain. -/
import Derived.Test.YtcfhdpbebiibjaaDoorPlRo
import Derived.Test.YtcfhdpbebiibjaaDoorPvAB
set_option linter.unusedVariables false
set_option linter.unusedSimpArgs false
namespace Go.Pv

theorem red_zero (hd rd : List Int) : redN hd rd 0 = 0 := by
  unfold redN
  split
  · rfl
  · rename_i h
    have : (hd.length : Int) = 0 := by omega
    rw [this]; simp

theorem round_one {b : Int} {hd rd : List Int} (h : RoOk b hd rd) (N : Nat) (hN : 1700 < N) : ∃ H, g61 N b (roA hd rd) (fun (x14 : PP × Unit) => Option.bind (g62 N x14.1 (fun (x11 : Int × Unit) => Option.bind (g58 N x11.1 hd rd) fun y12 => some y12)) fun y15 => some y15)
        (fun (x16 : PP × Int × Unit) => Option.bind (g63 N x16.1 x16.2.1 (fun (x7 : PP × Unit) => Option.bind (g59 N x7.1 hd rd) fun y8 => some y8) b) fun y17 => some y17) = some H ∧ g21 N b hd rd = some H ∧ WM H ∧ H.1 = b ∧ H.2.1.length ≤ 1600 := by
  obtain ⟨H, l, e, hl, hw, hb, hlen, hbf⟩ := round_built h N hN
  refine ⟨H, e, ?_, hw, hb, hlen⟩
  have := ref_round_loop N h hN (fun e21 e22 e23 e24 e25 e26 e27 e28 => some (e22, e27, e28, ())) 0 b [] [] N 0 [roA hd rd] [] [] l _ _ hbf (by intro t ht; simp only [List.mem_cons, List.not_mem_nil, or_false] at ht; subst ht; exact roA_ok h) (by simp) (by simp) rfl rfl
  have e1 : [roA hd rd].map arrP = [[redN hd rd 1, 0]] := by simp [arrP, roA, red_zero]
  rw [e1] at this
  unfold g21
  rw [red_ref h N (by omega), Option.bind_some, set_pair, if_pos (⟨by omega, by simp⟩ : idx 0 _), if_pos (by simp), g21L506_eq]
  refine Eq.trans this ?_
  obtain ⟨h1, h2, h3, ⟨⟩⟩ := H
  simp only at hb
  rw [hb]

theorem all_iff (l : List Int) : (l.all fun x => decide ((0 : Int) ≤ x) && decide (x ≤ 9)) = true ↔ ∀ v ∈ l, 0 ≤ v ∧ v ≤ 9 := by
  rw [List.all_eq_true]
  constructor
  · intro h v hv; have := h v hv; simpa using this
  · intro h v hv; have := h v hv; simpa using this

theorem one_eq' (N : Nat) (hN : 1 < N) (lo hi p : Int) : g57 N lo hi [p] = some (decide (lo ≤ p) && decide (p ≤ hi)) := by
  rw [are_eq N lo hi [p] (by simpa using hN) (by simp)]; simp

theorem round_ok {b : Int} {hd rd : List Int} (h : RoOk b hd rd) (N : Nat) (hN : 1700 < N) : ∃ r q S, g18 N b hd rd = some (r, q, ()) ∧ g21 N b hd rd = some S ∧ g20 N r q S = some true := by
  obtain ⟨H, e1, e2, hw, hb, hlen⟩ := round_one h N hN
  have h1 := h.base; have h2 := h.lh; have h3 := h.lr
  obtain ⟨r, q, q1, q2, _⟩ := right_eq hw hw rfl (by omega) (fun w _ => rfl) N (by omega) (by omega) (by omega) (by omega) (by omega)
  refine ⟨r, q, H, ?_, e2, q2⟩
  unfold g18
  rw [one_eq' N (by omega), Option.bind_some, show (decide ((2 : Int) ≤ b) && decide (b ≤ 5)) = true by simp; omega, Bool.not_true, cond_false, decide_eq_false (show ¬ (20 : Int) < (hd.length : Int) by omega), cond_false,
    one_eq' N (by omega), Option.bind_some, show (decide ((1 : Int) ≤ (rd.length : Int)) && decide ((rd.length : Int) ≤ 20)) = true by simp; omega, Bool.not_true, cond_false, are_eq N 0 9 hd (by omega) (by omega), Option.bind_some, (all_iff hd).2 h.dh, Bool.not_true, cond_false,
    are_eq N 0 9 rd (by omega) (by omega), Option.bind_some, (all_iff rd).2 h.dr, Bool.not_true, cond_false]
  simp only
  rw [red_prog h N (by omega) (by omega)]
  simp only [Option.bind_some]
  rw [e1]
  simp only [Option.bind_some]
  rw [q1]; rfl

theorem round_bad {b : Int} {hd rd : List Int} (h1 : hd.length ≤ 21) (h2 : rd.length ≤ 21) (h : ¬ RoOk b hd rd) (N : Nat) (hN : 1700 < N) : g18 N b hd rd = some (nil0, 1, ()) := by
  unfold g18
  rw [one_eq' N (by omega), Option.bind_some]
  by_cases a1 : 2 ≤ b ∧ b ≤ 5
  · rw [show (decide ((2 : Int) ≤ b) && decide (b ≤ 5)) = true by simp; omega, Bool.not_true, cond_false]
    by_cases a2 : (20 : Int) < (hd.length : Int)
    · rw [decide_eq_true a2, cond_true]
    · rw [decide_eq_false a2, cond_false, one_eq' N (by omega), Option.bind_some]
      by_cases a3 : 1 ≤ rd.length ∧ rd.length ≤ 20
      · rw [show (decide ((1 : Int) ≤ (rd.length : Int)) && decide ((rd.length : Int) ≤ 20)) = true by simp; omega, Bool.not_true, cond_false, are_eq N 0 9 hd (by omega) (by omega), Option.bind_some]
        by_cases a4 : ∀ v ∈ hd, 0 ≤ v ∧ v ≤ 9
        · rw [(all_iff hd).2 a4, Bool.not_true, cond_false, are_eq N 0 9 rd (by omega) (by omega), Option.bind_some]
          by_cases a5 : ∀ v ∈ rd, 0 ≤ v ∧ v ≤ 9
          · exact absurd ⟨a1, by omega, a3, a4, a5⟩ h
          · rw [Bool.eq_false_iff.2 (fun e => a5 ((all_iff rd).1 e)), Bool.not_false, cond_true]
        · rw [Bool.eq_false_iff.2 (fun e => a4 ((all_iff hd).1 e)), Bool.not_false, cond_true]
      · rw [show (decide ((1 : Int) ≤ (rd.length : Int)) && decide ((rd.length : Int) ≤ 20)) = false by simp; omega, Bool.not_false, cond_true]
  · rw [show (decide ((2 : Int) ≤ b) && decide (b ≤ 5)) = false by simp; omega, Bool.not_false, cond_true]

/-! ### The law's own look at the digits -/
def badD (l : List Int) : Bool := l.any fun v => decide (v < 0) || decide (9 < v)
theorem badD_iff (l : List Int) : badD l = false ↔ ∀ v ∈ l, 0 ≤ v ∧ v ≤ 9 := by
  unfold badD
  rw [List.any_eq_false]
  constructor
  · intro h v hv; have := h v hv; simp at this; omega
  · intro h v hv; have := h v hv; simp; omega

theorem bad_hd (N : Nat) {C : Type} (k0 : List Int → List Int → Int → Int → Int → Bool → MM → Option C) (hd rd : List Int) (b i c : Int) (x : MM) (hl : hd.length ≤ 1000) :
    ∀ (F j : Nat) (bad : Bool), hd.length - j < F → j ≤ hd.length → g3L62618f N F k0 hd rd b i c bad (j : Int) x = k0 hd rd b i c (bad || badD (hd.drop j)) x
  | 0, j, bad, hF, _ => by omega
  | F + 1, j, bad, hF, hj => by
    rw [g3L62618f_succ]
    unfold g3L62618B
    by_cases hlt : j < hd.length
    · have e1 : decide ((j : Int) < (hd.length : Int)) = true := by rw [decide_eq_true_iff]; omega
      have e2 : idx (j : Int) hd.length := ⟨by omega, by omega⟩
      have ed : badD (hd.drop j) = ((decide (hd.getD j 0 < 0) || decide (9 < hd.getD j 0)) || badD (hd.drop (j + 1))) := by
        rw [dropD hd hlt (d := 0)]; rfl
      rw [e1, cond_true, wn j (by omega), ed]
      cases bad with
      | true =>
        rw [cond_true]; refine (bad_hd N k0 hd rd b i c x hl F (j + 1) true (by omega) (by omega)).trans ?_; simp
      | false =>
        rw [cond_false, if_pos e2, Int.toNat_natCast]
        by_cases hn : hd.getD j 0 < 0
        · rw [decide_eq_true hn, cond_true]; refine (bad_hd N k0 hd rd b i c x hl F (j + 1) true (by omega) (by omega)).trans ?_; simp
        · rw [decide_eq_false hn, cond_false, if_pos e2]; refine (bad_hd N k0 hd rd b i c x hl F (j + 1) _ (by omega) (by omega)).trans ?_; simp
    · have e1 : decide ((j : Int) < (hd.length : Int)) = false := by rw [decide_eq_false_iff_not]; omega
      rw [e1, cond_false, List.drop_of_length_le (by omega)]
      simp [badD]
theorem bad_rd (N : Nat) {C : Type} (k0 : List Int → List Int → Int → Int → Int → Bool → MM → Option C) (hd rd : List Int) (b i c : Int) (x : MM) (hl : rd.length ≤ 1000) :
    ∀ (F j : Nat) (bad : Bool), rd.length - j < F → j ≤ rd.length → g3L125242f N F k0 hd rd b i c bad (j : Int) x = k0 hd rd b i c (bad || badD (rd.drop j)) x
  | 0, j, bad, hF, _ => by omega
  | F + 1, j, bad, hF, hj => by
    rw [g3L125242f_succ]
    unfold g3L125242B
    by_cases hlt : j < rd.length
    · have e1 : decide ((j : Int) < (rd.length : Int)) = true := by rw [decide_eq_true_iff]; omega
      have e2 : idx (j : Int) rd.length := ⟨by omega, by omega⟩
      have ed : badD (rd.drop j) = ((decide (rd.getD j 0 < 0) || decide (9 < rd.getD j 0)) || badD (rd.drop (j + 1))) := by
        rw [dropD rd hlt (d := 0)]; rfl
      rw [e1, cond_true, wn j (by omega), ed]
      cases bad with
      | true =>
        rw [cond_true]; refine (bad_rd N k0 hd rd b i c x hl F (j + 1) true (by omega) (by omega)).trans ?_; simp
      | false =>
        rw [cond_false, if_pos e2, Int.toNat_natCast]
        by_cases hn : rd.getD j 0 < 0
        · rw [decide_eq_true hn, cond_true]; refine (bad_rd N k0 hd rd b i c x hl F (j + 1) true (by omega) (by omega)).trans ?_; simp
        · rw [decide_eq_false hn, cond_false, if_pos e2]; refine (bad_rd N k0 hd rd b i c x hl F (j + 1) _ (by omega) (by omega)).trans ?_; simp
    · have e1 : decide ((j : Int) < (rd.length : Int)) = false := by rw [decide_eq_false_iff_not]; omega
      rw [e1, cond_false, List.drop_of_length_le (by omega)]
      simp [badD]

theorem less_loop (N : Nat) {C : Type} (k0 : List Int → Option C) (l : List Int) (m : Int) (hl : l.length ≤ 1000) :
    ∀ (F i : Nat) (o : List Int), l.length - i < F → i ≤ l.length → o.length = i → ∃ r, g23L58f N F k0 l m (i : Int) o = k0 r ∧ r.length ≤ l.length
  | 0, i, o, hF, _, _ => by omega
  | F + 1, i, o, hF, hi, ho => by
    rw [g23L58f_succ]
    unfold g23L58B
    by_cases hlt : i < l.length
    · have e1 : decide ((i : Int) < (l.length : Int)) = true := by rw [decide_eq_true_iff]; omega
      have e2 : idx (i : Int) l.length := ⟨by omega, by omega⟩
      rw [e1, cond_true]
      cases decide ((i : Int) < m) with
      | false => exact ⟨o, rfl, by omega⟩
      | true =>
        rw [cond_true, if_pos e2, if_pos (by simp only [List.length_cons, List.length_nil, maxCount]; omega), wn i (by omega)]
        exact less_loop N k0 l m hl F (i + 1) _ (by omega) (by omega) (by simp [ho])
    · have e1 : decide ((i : Int) < (l.length : Int)) = false := by rw [decide_eq_false_iff_not]; omega
      rw [e1, cond_false]
      exact ⟨o, rfl, by omega⟩
theorem less_eq (N : Nat) (l : List Int) (m : Int) (hl : l.length ≤ 1000) (hN : 1000 < N) : ∃ r, g23 N l m = some r ∧ r.length ≤ l.length := by
  unfold g23
  rw [g23L58_eq]
  have := less_loop N (fun e1 => some e1) l m hl N 0 [] (by omega) (by omega) rfl
  simpa using this

theorem rounds_tail (N : Nat) (hN : 1700 < N) {C : Type} (rec : List Int → List Int → Int → Int → Option C) (k0 : Bool → Option C) (hd rd : List Int) (b i : Int) (h1 : hd.length ≤ 21) (h2 : rd.length ≤ 21) (bad : Bool)
    (hb : bad = false ↔ (2 ≤ b ∧ b ≤ 5) ∧ hd.length ≤ 20 ∧ 1 ≤ rd.length ∧ rd.length ≤ 20) (r3 : MM × Int × Unit) (e3 : g18 N b hd rd = some r3) :
    ∃ hd' rd' b', hd'.length ≤ 21 ∧ rd'.length ≤ 21 ∧ g3L62618 N (fun e4 e5 e6 e7 e8 e9 e10 => g3L125242 N (fun e11 e12 e13 e14 e15 e16 e17 => bif e16 then bif (!ieq e15 1) then (k0 false) else Option.bind (g19 N e17) fun r18 => bif (!r18) then (k0 false) else Option.bind (g22 N e13) fun r19 => Option.bind (g23 N e11 3) fun r20 => Option.bind (g23 N e12 4) fun r21 => bif (ieq ((List.length r21 : Nat) : Int) 0) then (rec r20 [7] r19 (IntKind.wrap .i64 (e14 + 1))) else (rec r20 r21 r19 (IntKind.wrap .i64 (e14 + 1))) else Option.bind (g21 N e13 e11 e12) fun r22 => Option.bind (g20 N e17 e15 r22) fun r23 => bif (!r23) then (k0 false) else Option.bind (g22 N e13) fun r24 => Option.bind (g23 N e11 3) fun r25 => Option.bind (g23 N e12 4) fun r26 => bif (ieq ((List.length r26 : Nat) : Int) 0) then (rec r25 [7] r24 (IntKind.wrap .i64 (e14 + 1))) else (rec r25 r26 r24 (IntKind.wrap .i64 (e14 + 1)))) e4 e5 e6 e7 e8 e9 0 e10) hd rd b i r3.2.1 bad 0 r3.1 = rec hd' rd' b' (IntKind.wrap .i64 (i + 1)) := by
  have next : ∃ hd' rd' b', hd'.length ≤ 21 ∧ rd'.length ≤ 21 ∧ (Option.bind (g22 N b) fun r19 => Option.bind (g23 N hd 3) fun r20 => Option.bind (g23 N rd 4) fun r21 => bif (ieq ((List.length r21 : Nat) : Int) 0) then (rec r20 [7] r19 (IntKind.wrap .i64 (i + 1))) else (rec r20 r21 r19 (IntKind.wrap .i64 (i + 1)))) = rec hd' rd' b' (IntKind.wrap .i64 (i + 1)) := by
    obtain ⟨b', f1, _⟩ := base_eq N b
    obtain ⟨hd', f2, f3⟩ := less_eq N hd 3 (by omega) (by omega)
    obtain ⟨rd', f4, f5⟩ := less_eq N rd 4 (by omega) (by omega)
    rw [f1, Option.bind_some, f2, Option.bind_some, f4, Option.bind_some]
    cases ieq ((List.length rd' : Nat) : Int) 0 with
    | true => exact ⟨hd', [7], b', by omega, by simp, rfl⟩
    | false => exact ⟨hd', rd', b', by omega, by omega, rfl⟩
  rw [g3L62618_eq]
  have s1 := fun k => bad_hd (C := C) N k hd rd b i r3.2.1 r3.1 (by omega) N 0 bad (by omega) (by omega)
  simp only [Int.natCast_zero, List.drop_zero] at s1
  rw [s1, g3L125242_eq]
  have s2 := fun k q => bad_rd (C := C) N k hd rd b i r3.2.1 r3.1 (by omega) N 0 q (by omega) (by omega)
  simp only [Int.natCast_zero, List.drop_zero] at s2
  rw [s2]
  by_cases ok : RoOk b hd rd
  · have : (bad || badD hd || badD rd) = false := by
      rw [hb.2 ⟨ok.base, ok.lh, ok.lr⟩, (badD_iff hd).2 ok.dh, (badD_iff rd).2 ok.dr]; rfl
    rw [this, cond_false]
    obtain ⟨r, q, S, q1, q2, q3⟩ := round_ok ok N hN
    rw [q1] at e3
    cases e3
    rw [q2, Option.bind_some, q3, Option.bind_some, Bool.not_true, cond_false]
    exact next
  · have : (bad || badD hd || badD rd) = true := by
      cases h : (bad || badD hd || badD rd) with
      | true => rfl
      | false =>
        simp only [Bool.or_eq_false_iff] at h
        obtain ⟨⟨a1, a2⟩, a3⟩ := h
        obtain ⟨c1, c2, c3⟩ := hb.1 a1
        exact absurd ⟨c1, c2, c3, (badD_iff hd).1 a2, (badD_iff rd).1 a3⟩ ok
    rw [this, cond_true]
    rw [round_bad h1 h2 ok N hN] at e3
    cases e3
    rw [not_ieq_self, cond_false, none_nil, Option.bind_some, Bool.not_true, cond_false]
    exact next

theorem rounds_round (N : Nat) (hN : 1700 < N) {C : Type} (rec : List Int → List Int → Int → Int → Option C) (k0 : Bool → Option C) (k1 : Option C) (hd rd : List Int) (b i : Int) (h1 : hd.length ≤ 21) (h2 : rd.length ≤ 21) (hi : i < 2) :
    ∃ hd' rd' b', hd'.length ≤ 21 ∧ rd'.length ≤ 21 ∧ g3L122B N rec k0 k1 hd rd b i = rec hd' rd' b' (IntKind.wrap .i64 (i + 1)) := by
  unfold g3L122B
  rw [decide_eq_true hi, cond_true]
  have ⟨r3, e3⟩ : ∃ r3, g18 N b hd rd = some r3 := by
    by_cases ok : RoOk b hd rd
    · obtain ⟨r, q, S, q1, _⟩ := round_ok ok N hN
      exact ⟨_, q1⟩
    · exact ⟨_, round_bad h1 h2 ok N hN⟩
  rw [e3, Option.bind_some]
  by_cases a1 : b < 2
  · rw [decide_eq_true a1, cond_true]
    exact rounds_tail N hN rec k0 hd rd b i h1 h2 true ⟨fun h => by simp at h, fun h => by omega⟩ r3 e3
  · rw [decide_eq_false a1, cond_false]
    by_cases a2 : 5 < b
    · rw [decide_eq_true a2, cond_true]
      exact rounds_tail N hN rec k0 hd rd b i h1 h2 true ⟨fun h => by simp at h, fun h => by omega⟩ r3 e3
    · rw [decide_eq_false a2, cond_false]
      by_cases a3 : (20 : Int) < (hd.length : Int)
      · rw [decide_eq_true a3, cond_true]
        exact rounds_tail N hN rec k0 hd rd b i h1 h2 true ⟨fun h => by simp at h, fun h => by omega⟩ r3 e3
      · rw [decide_eq_false a3, cond_false]
        by_cases a4 : (rd.length : Int) < 1
        · rw [decide_eq_true a4, cond_true]
          exact rounds_tail N hN rec k0 hd rd b i h1 h2 true ⟨fun h => by simp at h, fun h => by omega⟩ r3 e3
        · rw [decide_eq_false a4, cond_false]
          exact rounds_tail N hN rec k0 hd rd b i h1 h2 (decide ((20 : Int) < (rd.length : Int))) ⟨fun h => by rw [decide_eq_false_iff_not] at h; omega, fun h => by rw [decide_eq_false_iff_not]; omega⟩ r3 e3

theorem rounds_awake : g24 2000 = some true := by kernel_rfl
theorem rounds_plain (a : Int × List Int × List Int × Unit) : g3 2000 a = some true := by
  unfold g3
  rw [show (21 : Int) = ((21 : Nat) : Int) from rfl, few_take 2000 _ 21 (by omega), Option.bind_some, few_take 2000 _ 21 (by omega), Option.bind_some, g3L122_eq]
  rw [show (2000 : Nat) = 1997 + 1 + 1 + 1 from rfl, g3L122f_succ]
  obtain ⟨hd, rd, b, h1, h2, q1⟩ := rounds_round 2000 (by omega) (fun e1 e2 e3 e4 => g3L122f 2000 (1997 + 1 + 1) (fun e119 => some e119) (Option.bind (g24 2000) fun r120 => some r120) e1 e2 e3 e4) (fun e119 => some e119) (Option.bind (g24 2000) fun r120 => some r120) (a.2.1.take 21) (a.2.2.1.take 21) a.1 0 (by simp; omega) (by simp; omega) (by omega)
  rw [q1, w64 (by omega) (by omega), g3L122f_succ]
  obtain ⟨hd', rd', b', h1', h2', q2⟩ := rounds_round 2000 (by omega) (fun e1 e2 e3 e4 => g3L122f 2000 (1997 + 1) (fun e119 => some e119) (Option.bind (g24 2000) fun r120 => some r120) e1 e2 e3 e4) (fun e119 => some e119) (Option.bind (g24 2000) fun r120 => some r120) hd rd b (0 + 1) h1 h2 (by omega)
  rw [q2, w64 (by omega) (by omega), g3L122f_succ]
  unfold g3L122B
  rw [show decide ((0 + 1 + 1 : Int) < 2) = false by simp, cond_false, rounds_awake]; rfl

theorem autoRounds_bnd (a : ProdT (List.map AS.d [.pair (.int .i64) (.pair (.lst (.int .i64)) (.pair (.lst (.int .i64)) .unit))])) (h : BndL [.pair (.int .i64) (.pair (.lst (.int .i64)) (.pair (.lst (.int .i64)) .unit))] a) : g3 2000 a.1 = some true := rounds_plain a.1

end Go.Pv
