/- Seat 05, plain: tame machines pass the check; what is made of any data is tame. -/
import Derived.Test.YtcfhdpbebiibjaaDoorPlA
set_option linter.unusedVariables false
set_option linter.unusedSimpArgs false
namespace Go.Pv

theorem wn (i : Nat) (h : i < 1000000) : IntKind.wrap .i64 ((i : Int) + 1) = ((i + 1 : Nat) : Int) := by rw [w64 (by omega) (by omega)]; simp

theorem Tame.check_loop {x : MM} (h : Tame x) (N : Nat) (hN : 20 < N) {C : Type} (k0 : Int → MM → Option C) (k1 : MM → Option C) :
    ∀ (F i : Nat), x.2.1.length - i < F → i ≤ x.2.1.length → g56L122f N F k0 k1 (x.2.1.length : Int) x.2.2.1 (x.2.1.length : Int) (i : Int) x = k1 x
  | 0, i, hF, _ => by omega
  | F + 1, i, hF, hi => by
    rw [g56L122f_succ]
    unfold g56L122B
    obtain ⟨hm1, hm2⟩ := h.many
    by_cases hlt : i < x.2.1.length
    · obtain ⟨hb1, hb2⟩ := h.base
      obtain ⟨r1, r2⟩ := h.rowAt hlt
      have hrl : (x.2.2.1.getD i []).length ≤ 5 := by omega
      have e1 : decide ((i : Int) < (x.2.1.length : Int)) = true := by simp; omega
      have e2 : idx (i : Int) x.2.2.1.length := ⟨by omega, by rw [h.next]; omega⟩
      have e3 : idx (i : Int) x.2.1.length := ⟨by omega, by omega⟩
      have e4 : ieq (((x.2.2.1.getD i []).length : Nat) : Int) x.1 = true := by simp only [ieq, decide_eq_true_eq]; exact r1
      obtain ⟨t1, t2⟩ := r2 0 (by omega)
      have e5 : g57 N 0 (IntKind.wrap .i64 ((x.2.1.length : Int) - 1)) (x.2.2.1.getD i []) = some true := by
        rw [are_eq N _ _ _ (by omega) (by omega), w64 (by omega) (by omega)]
        congr 1
        rw [List.all_eq_true]
        intro t ht
        have hm : x.2.2.1.getD i [] ∈ x.2.2.1 := getD_mem (by rw [h.next]; exact hlt) []
        obtain ⟨a1, a2⟩ := (h.row _ hm).2 t ht
        simp; omega
      have e6 : ieq (x.2.1.getD ((x.2.2.1.getD i []).getD 0 0).toNat 0) (x.2.1.getD i 0) = true := by simp only [ieq, decide_eq_true_eq]; exact h.zero i hlt
      rw [e1, cond_true, if_pos e2, Int.toNat_natCast, e4, Bool.not_true, cond_false, e5]
      simp only [Option.bind_some, Bool.not_true, cond_false]
      rw [if_pos ⟨by omega, by omega⟩]
      simp only [show Int.toNat 0 = 0 from rfl]
      rw [if_pos ⟨t1, t2⟩, if_pos e3, e6, Bool.not_true, cond_false, wn i (by omega)]
      exact h.check_loop N hN k0 k1 F (i + 1) (by omega) (by omega)
    · have e1 : decide ((i : Int) < (x.2.1.length : Int)) = false := by simp; omega
      rw [e1, cond_false]

theorem Tame.check {x : MM} (h : Tame x) (N : Nat) (hN : 20 < N) : g56 N x = some 0 := by
  obtain ⟨hm1, hm2⟩ := h.many
  obtain ⟨hb1, hb2⟩ := h.base
  unfold g56
  have e1 : g57 N 2 5 [x.1] = some true := by
    rw [are_eq N _ _ _ (by simp; omega) (by simp)]; simp; omega
  have e2 : g57 N 1 12 [((List.length x.2.1 : Nat) : Int)] = some true := by
    rw [are_eq N _ _ _ (by simp; omega) (by simp)]; simp; omega
  have e3 : ieq ((List.length x.2.2.1 : Nat) : Int) ((List.length x.2.1 : Nat) : Int) = true := by simp [h.next]
  have e4 : g57 N 0 9 x.2.1 = some true := by
    rw [are_eq N _ _ _ (by omega) (by omega)]
    congr 1
    rw [List.all_eq_true]
    intro t ht
    obtain ⟨a1, a2⟩ := h.out t ht
    simp; omega
  rw [e1]; simp only [Option.bind_some, Bool.not_true, cond_false]
  rw [e2]; simp only [Option.bind_some, Bool.not_true, cond_false]
  rw [e3]; simp only [Bool.not_true, cond_false]
  rw [e4]; simp only [Option.bind_some, Bool.not_true, cond_false]
  rw [g56L122_eq, h.next]
  exact h.check_loop N hN _ _ N 0 (by omega) (by omega)

theorem Tame.given {x : MM} (h : Tame x) (N : Nat) (hN : 20 < N) : g27 N x = some x := by
  obtain ⟨hm1, hm2⟩ := h.many
  refine given_eq N x (by omega) (by omega) (by rw [h.next]; omega) fun r hr => ?_
  have := (h.row r hr).1
  have := h.base.2
  omega

theorem base_eq (N : Nat) (k : Int) : ∃ r, g22 N k = some r ∧ 2 ≤ r ∧ r ≤ 5 := by
  obtain ⟨r, e, h1, h2⟩ := low (x := k) (m := 4) (by omega) (by omega)
  refine ⟨2 + r, ?_, by omega, by omega⟩
  unfold g22
  rw [e, w64 (by omega) (by omega)]

/-! ### Machines of any data -/
theorem outs_loop (N : Nat) {C : Type} (k0 : Int → Int → MM → Int → Int → List Int → List (List Int) → List Int → List (List Int) → Option C) (b : Int) (n : Nat) (hn : n ≤ 12) (a : MM) (p q : Int) (l1 : List Int) (l2 l3 : List (List Int)) :
    ∀ (F i : Nat) (outs : List Int), n - i < F → i ≤ n → outs.length = i → (∀ o ∈ outs, 0 ≤ o ∧ o ≤ 9) →
      ∃ outs' : List Int, outs'.length = n ∧ (∀ o ∈ outs', 0 ≤ o ∧ o ≤ 9) ∧ g25L122f N F k0 b (n : Int) (i : Int) a p q l1 l2 outs l3 = k0 b (n : Int) a p q l1 l2 outs' l3
  | 0, i, outs, hF, _, _, _ => by omega
  | F + 1, i, outs, hF, hi, hl, ho => by
    rw [g25L122f_succ]
    unfold g25L122B
    by_cases hlt : i < n
    · have e1 : decide ((i : Int) < (n : Int)) = true := by simp; omega
      rw [e1, cond_true, wn i (by omega)]
      by_cases hla : i < a.2.1.length
      · have e2 : decide ((i : Int) < ((List.length a.2.1 : Nat) : Int)) = true := by simp; omega
        have e3 : idx (i : Int) a.2.1.length := ⟨by omega, by omega⟩
        obtain ⟨r, e4, r1, r2⟩ := low (x := a.2.1.getD i 0) (m := 10) (by omega) (by omega)
        rw [e2, cond_true, if_pos e3, Int.toNat_natCast, e4, if_pos (by simp [maxCount]; omega)]
        exact outs_loop N k0 b n hn a p q l1 l2 l3 F (i + 1) _ (by omega) (by omega) (by simp [hl]) (fun o h => by
          rcases List.mem_append.1 h with h | h
          · exact ho o h
          · simp at h; omega)
      · have e2 : decide ((i : Int) < ((List.length a.2.1 : Nat) : Int)) = false := by simp; omega
        rw [e2, cond_false, if_pos (by simp [maxCount]; omega)]
        exact outs_loop N k0 b n hn a p q l1 l2 l3 F (i + 1) _ (by omega) (by omega) (by simp [hl]) (fun o h => by
          rcases List.mem_append.1 h with h | h
          · exact ho o h
          · simp at h; omega)
    · have e1 : decide ((i : Int) < (n : Int)) = false := by simp; omega
      rw [e1, cond_false]
      exact ⟨outs, by omega, ho, rfl⟩

/-- What a row's way is. -/
structure RowP (b : Int) (n : Nat) (outs : List Int) (s : Nat) (row : List Int) : Prop where
  rng : ∀ t ∈ row, 0 ≤ t ∧ t < (n : Int)
  zero : row ≠ [] → outs.getD (row.getD 0 0).toNat 0 = outs.getD s 0

theorem RowP.push {b : Int} {n : Nat} {outs : List Int} {s : Nat} {row : List Int} (h : RowP b n outs s row) {t : Int} (h1 : 0 ≤ t) (h2 : t < (n : Int)) (h3 : row = [] → outs.getD t.toNat 0 = outs.getD s 0) : RowP b n outs s (row ++ [t]) := by
  refine ⟨fun u hu => ?_, fun _ => ?_⟩
  · rcases List.mem_append.1 hu with hu | hu
    · exact h.rng u hu
    · simp at hu; omega
  · cases row with
    | nil => simpa using h3 rfl
    | cons a r => simpa using h.zero (by simp)

theorem row_loop (N : Nat) {C : Type} (k0 : Int → Int → Int → MM → Int → Int → List Int → List Int → List (List Int) → List Int → List (List Int) → Option C) (b : Nat) (hb : b ≤ 5) (n : Nat) (hn0 : 0 < n) (hn : n ≤ 12) (s : Nat) (hs : s < n) (a : MM) (p q : Int)
    (l1 : List Int) (l2 : List (List Int)) (outs : List Int) (l3 : List (List Int)) (ho : outs.length = n) :
    ∀ (F r : Nat) (row : List Int), b - r < F → r ≤ b → row.length = r → RowP b n outs s row →
      ∃ row' : List Int, row'.length = b ∧ RowP b n outs s row' ∧ g25L64074f N F k0 (b : Int) (n : Int) (s : Int) (r : Int) a p q row l1 l2 outs l3 = k0 (b : Int) (n : Int) (s : Int) a p q row' l1 l2 outs l3
  | 0, r, row, hF, _, _, _ => by omega
  | F + 1, r, row, hF, hr, hl, hrow => by
    rw [g25L64074f_succ]
    unfold g25L64074B
    have ih := row_loop N k0 b hb n hn0 hn s hs a p q l1 l2 outs l3 ho F (r + 1)
    by_cases hlt : r < b
    · have e1 : decide ((r : Int) < (b : Int)) = true := by simp; omega
      have eu : IntKind.wrap .u64 (n : Int) = (n : Int) := by rw [wu64]; omega
      have enz : ¬ ((n : Int) = 0) := by omega
      have es : idx (s : Int) outs.length := ⟨by omega, by omega⟩
      have es2 : s < outs.length := by omega
      rw [e1, cond_true, wn r (by omega), eu]
      have rec_s : ∃ row' : List Int, row'.length = b ∧ RowP b n outs s row' ∧ g25L64074f N F k0 (b : Int) (n : Int) (s : Int) ((r + 1 : Nat) : Int) a p q (row ++ [(s : Int)]) l1 l2 outs l3 = k0 (b : Int) (n : Int) (s : Int) a p q row' l1 l2 outs l3 :=
        ih _ (by omega) (by omega) (by simp [hl]) (hrow.push (by omega) (by omega) (fun _ => by simp))
      have room : ∀ t : Int, row.length + [t].length ≤ maxCount := fun t => by simp [maxCount]; omega
      by_cases h1 : s < a.2.2.1.length
      · have e2 : decide ((s : Int) < ((List.length a.2.2.1 : Nat) : Int)) = true := by simp; omega
        have e3 : idx (s : Int) a.2.2.1.length := ⟨by omega, by omega⟩
        rw [e2, cond_true, if_pos e3, Int.toNat_natCast]
        by_cases h2 : r < (a.2.2.1.getD s []).length
        · have e4 : decide ((r : Int) < ((List.length (a.2.2.1.getD s []) : Nat) : Int)) = true := by simp at h2 ⊢; omega
          have e5 : idx (r : Int) (a.2.2.1.getD s []).length := ⟨by omega, by omega⟩
          obtain ⟨t, et, t1, t2⟩ := low (x := (a.2.2.1.getD s []).getD r 0) (m := (n : Int)) (by omega) (by omega)
          rw [e4, cond_true, if_pos e3, if_pos e5, if_neg enz, Int.toNat_natCast, et]
          by_cases h3 : r = 0
          · have e6 : ieq (r : Int) 0 = true := by simp [h3]
            have e7 : idx t outs.length := ⟨t1, by omega⟩
            have e8 : t.toNat < outs.length := by omega
            rw [e6, cond_true, if_pos e7, if_pos e8, if_pos es, if_pos es2]
            by_cases h4 : outs.getD t.toNat 0 = outs.getD s 0
            · have e9 : ieq (outs.getD t.toNat 0) (outs.getD s 0) = true := by simp only [ieq, decide_eq_true_eq]; exact h4
              rw [e9, Bool.not_true, cond_false, if_pos (room t)]
              exact ih _ (by omega) (by omega) (by simp [hl]) (hrow.push t1 t2 (fun _ => h4))
            · have e9 : ieq (outs.getD t.toNat 0) (outs.getD s 0) = false := by simp only [ieq, decide_eq_false_iff_not]; exact h4
              rw [e9, Bool.not_false, cond_true, if_pos (room _)]
              exact rec_s
          · have e6 : ieq (r : Int) 0 = false := by simp only [ieq, decide_eq_false_iff_not]; omega
            rw [e6, cond_false, if_pos (room t)]
            refine ih _ (by omega) (by omega) (by simp [hl]) (hrow.push t1 t2 (fun h => ?_))
            subst h; simp at hl; omega
        · have e4 : decide ((r : Int) < ((List.length (a.2.2.1.getD s []) : Nat) : Int)) = false := by simp at h2 ⊢; omega
          rw [e4, cond_false]
          by_cases h3 : r = 0
          · have e6 : ieq (r : Int) 0 = true := by simp [h3]
            have e9 : ieq (outs.getD s 0) (outs.getD s 0) = true := by simp
            rw [e6, cond_true, if_pos es, if_pos es2, if_pos es, if_pos es2, e9, Bool.not_true, cond_false, if_pos (room _)]
            exact rec_s
          · have e6 : ieq (r : Int) 0 = false := by simp only [ieq, decide_eq_false_iff_not]; omega
            rw [e6, cond_false, if_pos (room _)]
            exact rec_s
      · have e2 : decide ((s : Int) < ((List.length a.2.2.1 : Nat) : Int)) = false := by simp; omega
        rw [e2, cond_false]
        by_cases h3 : r = 0
        · have e6 : ieq (r : Int) 0 = true := by simp [h3]
          have e9 : ieq (outs.getD s 0) (outs.getD s 0) = true := by simp
          rw [e6, cond_true, Int.toNat_natCast, if_pos es, if_pos es2, if_pos es, if_pos es2, e9, Bool.not_true, cond_false, if_pos (room _)]
          exact rec_s
        · have e6 : ieq (r : Int) 0 = false := by simp only [ieq, decide_eq_false_iff_not]; omega
          rw [e6, cond_false, if_pos (room _)]
          exact rec_s
    · have e1 : decide ((r : Int) < (b : Int)) = false := by simp; omega
      rw [e1, cond_false]
      exact ⟨row, by omega, hrow, rfl⟩

theorem rows_loop (N : Nat) (hN : 20 < N) {C : Type} (k0 : MM → Int → Int → List Int → List (List Int) → List Int → List (List Int) → Option C) (b : Nat) (hb : b ≤ 5) (n : Nat) (hn0 : 0 < n) (hn : n ≤ 12) (a : MM) (p q : Int) (l1 : List Int) (l2 : List (List Int)) (outs : List Int) (ho : outs.length = n) :
    ∀ (F s : Nat) (rows : List (List Int)), n - s < F → s ≤ n → rows.length = s → (∀ i, i < s → (rows.getD i []).length = b ∧ RowP b n outs i (rows.getD i [])) →
      ∃ rows' : List (List Int), rows'.length = n ∧ (∀ i, i < n → (rows'.getD i []).length = b ∧ RowP b n outs i (rows'.getD i [])) ∧ g25L250f N F k0 (b : Int) (n : Int) (s : Int) a p q l1 l2 outs rows = k0 a p q l1 l2 outs rows'
  | 0, s, rows, hF, _, _, _ => by omega
  | F + 1, s, rows, hF, hs, hl, hr => by
    rw [g25L250f_succ]
    unfold g25L250B
    by_cases hlt : s < n
    · have e1 : decide ((s : Int) < (n : Int)) = true := by simp; omega
      rw [e1, cond_true, g25L64074_eq]
      obtain ⟨row, h1, h2, h3⟩ := row_loop N (fun e10 e11 e12 e13 e14 e15 e16 e17 e18 e19 e20 => if List.length e20 + List.length [e16] ≤ maxCount then (g25L250f N F k0 e10 e11 (IntKind.wrap .i64 (e12 + 1)) e13 e14 e15 e17 e18 e19 (e20 ++ [e16])) else none) b hb n hn0 hn s hlt a p q l1 l2 outs rows ho N 0 [] (by omega) (by omega) rfl ⟨by simp, by simp⟩
      simp only [Int.natCast_zero] at h3
      rw [h3, if_pos (by simp [maxCount]; omega), wn s (by omega)]
      refine rows_loop N hN k0 b hb n hn0 hn a p q l1 l2 outs ho F (s + 1) _ (by omega) (by omega) (by simp [hl]) fun i hi => ?_
      by_cases hi2 : i < s
      · have : (rows ++ [row]).getD i [] = rows.getD i [] := by simp [List.getD_eq_getElem?_getD, List.getElem?_append_left (show i < rows.length by omega)]
        rw [this]; exact hr i hi2
      · have hi3 : i = s := by omega
        subst hi3
        have : (rows ++ [row]).getD i [] = row := by simp [List.getD_eq_getElem?_getD, ← hl]
        rw [this]; exact ⟨h1, h2⟩
    · have e1 : decide ((s : Int) < (n : Int)) = false := by simp; omega
      rw [e1, cond_false]
      have : s = n := by omega
      subst this
      exact ⟨rows, hl, hr, rfl⟩

theorem tame_eq (N : Nat) (hN : 20 < N) (a : MM) (b most : Int) (hb : 2 ≤ b ∧ b ≤ 5) (hm : 1 ≤ most ∧ most ≤ 12) : ∃ x, g25 N a b most = some x ∧ Tame x ∧ x.1 = b ∧ (x.2.1.length : Int) ≤ most := by
  obtain ⟨n, hn, h1, h2⟩ : ∃ n : Nat, imax 1 (imin ((List.length a.2.1 : Nat) : Int) most) = (n : Int) ∧ 1 ≤ n ∧ (n : Int) ≤ most := by
    simp only [imax, imin]
    refine ⟨(if (if most < (a.2.1.length : Int) then most else (a.2.1.length : Int)) > 1 then (if most < (a.2.1.length : Int) then most else (a.2.1.length : Int)) else 1).toNat, ?_, ?_, ?_⟩ <;> (repeat' split) <;> omega
  obtain ⟨b', rfl⟩ : ∃ b' : Nat, b = (b' : Int) := ⟨b.toNat, by omega⟩
  unfold g25
  rw [hn, g25L122_eq]
  obtain ⟨outs, o1, o2, o3⟩ := outs_loop N (fun e1 e2 e3 e4 e5 e6 e7 e8 e9 => g25L250 N (fun e21 e22 e23 e24 e25 e26 e27 => some (e23, e26, e27, ())) e1 e2 0 e3 e4 e5 e6 e7 e8 e9) (b' : Int) n (by omega) a 0 (b' : Int) [] [] [] N 0 [] (by omega) (by omega) rfl (by simp)
  simp only [Int.natCast_zero] at o3
  rw [o3, g25L250_eq]
  obtain ⟨rows, r1, r2, r3⟩ := rows_loop N hN (fun e21 e22 e23 e24 e25 e26 e27 => some (e23, e26, e27, ())) b' (by omega) n (by omega) (by omega) a 0 (b' : Int) [] [] outs o1 N 0 [] (by omega) (by omega) rfl (fun i hi => by omega)
  simp only [Int.natCast_zero] at r3
  rw [r3]
  refine ⟨_, rfl, ⟨hb, ⟨by simp only; omega, by simp only; omega⟩, o2, by simp only; omega, fun r hr => ?_, fun s hs => ?_⟩, rfl, by simp only; omega⟩
  · obtain ⟨i, hi, rfl⟩ := List.getElem_of_mem hr
    have := r2 i (by simp only at hi; omega)
    have e : rows.getD i [] = rows[i] := by simp [List.getD_eq_getElem?_getD, hi]
    rw [e] at this
    simp only
    exact ⟨by omega, fun t ht => by have := this.2.rng t ht; omega⟩
  · have hs : s < n := by simp only at hs; omega
    obtain ⟨q1, q2⟩ := r2 s hs
    exact q2.zero (by intro h; rw [h] at q1; simp at q1; omega)

end Go.Pv
