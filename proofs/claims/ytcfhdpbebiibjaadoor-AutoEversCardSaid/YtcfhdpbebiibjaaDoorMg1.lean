/- Plain texts, merged: PlA, PlB, PlM, PlP, PlS, PlT, PlU, PlV, PlW, PlC, PlX, PlY, PlDi, PlMo, PlD, PlAt0, PlSeq, PlDk, PlEr, PlErp, PlErr. -/
import Derived.Test.YtcfhdpbebiibjaaDoorPvL05
import Derived.Test.YtcfhdpbebiibjaaDoorPlF
set_option linter.unusedSectionVars false
/- Seat 05, plain: what the functions compute: lists in ranges, copies, machines that are tame, the check, the numbers of a sequence. -/
set_option linter.unusedVariables false
set_option linter.unusedSimpArgs false
namespace Go.Pv
abbrev MM := Int × List Int × List (List Int) × Unit
theorem w64 {x : Int} (h1 : -9223372036854775808 ≤ x) (h2 : x < 9223372036854775808) : IntKind.wrap .i64 x = x := by rw [IntKind.wrap_i64]; omega
theorem wu64 (x : Int) : IntKind.wrap .u64 x = x % 18446744073709551616 := by rw [IntKind.wrap_u64]
theorem low {x m : Int} (hm : 0 < m) (hm2 : m < 1000000) : ∃ r : Int, IntKind.wrap .i64 (Int.tmod (IntKind.wrap .u64 x) m) = r ∧ 0 ≤ r ∧ r < m := by
 refine ⟨(x % 18446744073709551616) % m, ?_, Int.emod_nonneg _ (by omega), Int.emod_lt_of_pos _ hm⟩
 rw [wu64, Int.tmod_eq_emod_of_nonneg (Int.emod_nonneg _ (by decide))]
 have h1 := Int.emod_nonneg (x % 18446744073709551616) (show m ≠ 0 by omega)
 have h2 := Int.emod_lt_of_pos (x % 18446744073709551616) hm
 exact w64 (by omega) (by omega)
theorem getD_mem {α : Type} {l : List α} {i : Nat} (h : i < l.length) (d : α) : l.getD i d ∈ l := by
 rw [List.getD_eq_getElem?_getD, List.getElem?_eq_getElem h]; simp
theorem getD_drop (l : List Int) (i : Nat) (h : i < l.length) : l.drop i = l.getD i 0 :: l.drop (i + 1) := by
 rw [List.drop_eq_getElem_cons h]; simp [h]
theorem any_loop (N : Nat) {C : Type} (k0 : Int → Option C) (k1 : Option C) (l : List Int) (f : (Int × Unit) → Option Bool) (p : Int → Bool) (hf : ∀ x, f (x, ()) = some (p x)) (hl : l.length < 4611686018427387904) :
   ∀ (F i : Nat), l.length - i < F → i ≤ l.length → ((l.drop i).any p = true ∧ ∃ j : Nat, g100L26f N F k0 k1 l f (l.length : Int) (i : Int) = k0 j) ∨ ((l.drop i).any p = false ∧ g100L26f N F k0 k1 l f (l.length : Int) (i : Int) = k1)
 | 0, i, h, _ => by omega
 | F + 1, i, h, hi => by
   rw [g100L26f_succ]
   unfold g100L26B
   by_cases hlt : i < l.length
   · have e1 : decide ((i : Int) < (l.length : Int)) = true := by simp; omega
     have e2 : idx (i : Int) l.length := ⟨by omega, by omega⟩
     rw [e1, cond_true, if_pos e2, Int.toNat_natCast, hf]
     simp only [Option.bind_some]
     rw [getD_drop l i hlt, List.any_cons]
     cases hp : p (l.getD i 0) with
     | true => exact .inl ⟨by simp, i, rfl⟩
     | false =>
       simp only [cond_false, Bool.false_or]
       have e3 : IntKind.wrap .i64 ((i : Int) + 1) = ((i + 1 : Nat) : Int) := by rw [w64 (by omega) (by omega)]; simp
       rw [e3]
       exact any_loop N k0 k1 l f p hf hl F (i + 1) (by omega) (by omega)
   · have e1 : decide ((i : Int) < (l.length : Int)) = false := by simp; omega
     rw [e1, cond_false, List.drop_eq_nil_of_le (by omega)]
     exact .inr ⟨rfl, rfl⟩
theorem are_eq (N : Nat) (lo hi : Int) (l : List Int) (hN : l.length < N) (hl : l.length < 4611686018427387904) : g57 N lo hi l = some (l.all fun x => decide (lo ≤ x) && decide (x ≤ hi)) := by
 unfold g57 g89 g100
 rw [g100L26_eq]
 have := any_loop N (fun e2 => some e2) (some (-1)) l (fun (x1 : (Int) × (Unit)) => Option.bind (g90 N x1.1 lo hi) fun y2 => some y2) (fun x => decide (x < lo) || decide (hi < x))
   (fun x => by
     simp only [g90]
     cases h : decide (x < lo) <;> simp) hl N 0 (by omega) (by omega)
 simp only [Int.natCast_zero, List.drop_zero] at this
 have hx : (l.all fun x => decide (lo ≤ x) && decide (x ≤ hi)) = !(l.any fun x => decide (x < lo) || decide (hi < x)) := by
   rw [List.not_any_eq_all_not]
   congr 1
   funext x
   by_cases h1 : x < lo <;> by_cases h2 : hi < x <;> simp [h1, h2] <;> omega
 rcases this with ⟨h1, j, h2⟩ | ⟨h1, h2⟩
 · rw [h2, hx, h1]
   simp
 · rw [h2, hx, h1]
   simp
theorem few_eq (N : Nat) (l : List Int) (k : Int) (h : (l.length : Int) ≤ k) (h2 : l.length ≤ 1000) : g17 N l k = some l := by
 have e : imin (l.length : Int) k = l.length := by simp only [imin]; split <;> omega
 unfold g17
 rw [e, if_pos ⟨by omega, by omega, by omega⟩]
 simp [maxCount]
 omega
theorem copy_loop (N : Nat) {C : Type} (k0 : MM → Int → Int → List Int → List Int → List (List Int) → List (List Int) → Option C) (x : MM) (a b : Int) (c d : List Int) (e : List (List Int)) (hn : x.2.2.1.length ≤ 13) (hr : ∀ r ∈ x.2.2.1, r.length ≤ 26) :
   ∀ (F i : Nat), x.2.2.1.length - i < F → i ≤ x.2.2.1.length → g27L58f N F k0 (i : Int) x a b c d e (x.2.2.1.take i) = k0 x a b c d e x.2.2.1
 | 0, i, h, _ => by omega
 | F + 1, i, h, hi => by
   rw [g27L58f_succ]
   unfold g27L58B
   by_cases hlt : i < x.2.2.1.length
   · have e1 : decide ((i : Int) < (x.2.2.1.length : Int)) = true := by simp; omega
     have e2 : decide ((i : Int) ≤ 12) = true := by simp; omega
     have e3 : idx (i : Int) x.2.2.1.length := ⟨by omega, by omega⟩
     have e4 : IntKind.wrap .i64 ((i : Int) + 1) = ((i + 1 : Nat) : Int) := by rw [w64 (by omega) (by omega)]; simp
     have hm : x.2.2.1.getD i [] ∈ x.2.2.1 := by simp [hlt]
     have := hr _ hm
     rw [e1, e2, cond_true, cond_true, if_pos e3, Int.toNat_natCast, few_eq N _ 26 (by omega) (by omega)]
     simp only [Option.bind_some]
     rw [if_pos (by simp [maxCount]; omega), e4]
     have : x.2.2.1.take i ++ [x.2.2.1.getD i []] = x.2.2.1.take (i + 1) := by
       rw [List.take_add_one]; simp [hlt]
     rw [this]
     exact copy_loop N k0 x a b c d e hn hr F (i + 1) (by omega) (by omega)
   · have e1 : decide ((i : Int) < (x.2.2.1.length : Int)) = false := by simp; omega
     rw [e1, cond_false, List.take_of_length_le (by omega)]
theorem given_eq (N : Nat) (x : MM) (hN : 13 < N) (ho : x.2.1.length ≤ 13) (hn : x.2.2.1.length ≤ 13) (hr : ∀ r ∈ x.2.2.1, r.length ≤ 26) : g27 N x = some x := by
 unfold g27
 rw [few_eq N _ 13 (by omega) (by omega)]
 simp only [Option.bind_some]
 rw [g27L58_eq]
 have := copy_loop N (fun e3 e4 e5 e6 e7 e8 e9 => some (e5, e6, e9, ())) x 0 x.1 x.2.1 [] [] hn hr N 0 (by omega) (by omega)
 simp only [Int.natCast_zero, List.take_zero] at this
 rw [this]
structure Tame (x : MM) : Prop where
 base : 2 ≤ x.1 ∧ x.1 ≤ 5
 many : 1 ≤ x.2.1.length ∧ x.2.1.length ≤ 12
 out : ∀ o ∈ x.2.1, 0 ≤ o ∧ o ≤ 9
 next : x.2.2.1.length = x.2.1.length
 row : ∀ r ∈ x.2.2.1, (r.length : Int) = x.1 ∧ ∀ t ∈ r, 0 ≤ t ∧ t < (x.2.1.length : Int)
 zero : ∀ s, s < x.2.1.length → x.2.1.getD ((x.2.2.1.getD s []).getD 0 0).toNat 0 = x.2.1.getD s 0
theorem Tame.rowAt {x : MM} (h : Tame x) {s : Nat} (hs : s < x.2.1.length) : ((x.2.2.1.getD s []).length : Int) = x.1 ∧ ∀ j : Nat, (j : Int) < x.1 → 0 ≤ (x.2.2.1.getD s []).getD j 0 ∧ (x.2.2.1.getD s []).getD j 0 < (x.2.1.length : Int) := by
 have hm : x.2.2.1.getD s [] ∈ x.2.2.1 := by simp [h.next, hs]
 obtain ⟨h1, h2⟩ := h.row _ hm
 refine ⟨h1, fun j hj => h2 _ ?_⟩
 have : j < (x.2.2.1.getD s []).length := by omega
 exact getD_mem this 0
@[simp] theorem ieq_self (x : Int) : ieq x x = true := by simp only [ieq, decide_true]
end Go.Pv
namespace Go.Pv
theorem wn (i : Nat) (h : i < 1000000) : IntKind.wrap .i64 ((i : Int) + 1) = ((i + 1 : Nat) : Int) := by rw [w64 (by omega) (by omega)]; simp
theorem Tame.check_loop {x : MM} (h : Tame x) (N : Nat) (hN : 20 < N) {C : Type} (k0 : Int → MM → Option C) (k1 : MM → Option C) :
   ∀ (F i : Nat), x.2.1.length - i < F → i ≤ x.2.1.length → g56L122f N F k0 k1 (x.2.1.length : Int) x.2.2.1 (x.2.1.length : Int) (i : Int) x = k1 x
 | 0, i, hF, _ => by omega
 | F + 1, i, hF, hi => by
   rw [g56L122f_succ]
   unfold g56L122B
   obtain ⟨hm1, hm2⟩ := h.many
   by_cases hlt : i < x.2.1.length
   · obtain ⟨hb1, hb2⟩ := h.base
     obtain ⟨r1, r2⟩ := h.rowAt hlt
     have hrl : (x.2.2.1.getD i []).length ≤ 5 := by omega
     have e1 : decide ((i : Int) < (x.2.1.length : Int)) = true := by simp; omega
     have e2 : idx (i : Int) x.2.2.1.length := ⟨by omega, by rw [h.next]; omega⟩
     have e3 : idx (i : Int) x.2.1.length := ⟨by omega, by omega⟩
     have e4 : ieq (((x.2.2.1.getD i []).length : Nat) : Int) x.1 = true := by simp only [ieq, decide_eq_true_eq]; exact r1
     obtain ⟨t1, t2⟩ := r2 0 (by omega)
     have e5 : g57 N 0 (IntKind.wrap .i64 ((x.2.1.length : Int) - 1)) (x.2.2.1.getD i []) = some true := by
       rw [are_eq N _ _ _ (by omega) (by omega), w64 (by omega) (by omega)]
       congr 1
       rw [List.all_eq_true]
       intro t ht
       have hm : x.2.2.1.getD i [] ∈ x.2.2.1 := getD_mem (by rw [h.next]; exact hlt) []
       obtain ⟨a1, a2⟩ := (h.row _ hm).2 t ht
       simp; omega
     have e6 : ieq (x.2.1.getD ((x.2.2.1.getD i []).getD 0 0).toNat 0) (x.2.1.getD i 0) = true := by simp only [ieq, decide_eq_true_eq]; exact h.zero i hlt
     rw [e1, cond_true, if_pos e2, Int.toNat_natCast, e4, Bool.not_true, cond_false, e5]
     simp only [Option.bind_some, Bool.not_true, cond_false]
     rw [if_pos ⟨by omega, by omega⟩]
     simp only [show Int.toNat 0 = 0 from rfl]
     rw [if_pos ⟨t1, t2⟩, if_pos e3, e6, Bool.not_true, cond_false, wn i (by omega)]
     exact h.check_loop N hN k0 k1 F (i + 1) (by omega) (by omega)
   · have e1 : decide ((i : Int) < (x.2.1.length : Int)) = false := by simp; omega
     rw [e1, cond_false]
theorem Tame.check {x : MM} (h : Tame x) (N : Nat) (hN : 20 < N) : g56 N x = some 0 := by
 obtain ⟨hm1, hm2⟩ := h.many
 obtain ⟨hb1, hb2⟩ := h.base
 unfold g56
 have e1 : g57 N 2 5 [x.1] = some true := by
   rw [are_eq N _ _ _ (by simp; omega) (by simp)]; simp; omega
 have e2 : g57 N 1 12 [((List.length x.2.1 : Nat) : Int)] = some true := by
   rw [are_eq N _ _ _ (by simp; omega) (by simp)]; simp; omega
 have e3 : ieq ((List.length x.2.2.1 : Nat) : Int) ((List.length x.2.1 : Nat) : Int) = true := by simp [h.next]
 have e4 : g57 N 0 9 x.2.1 = some true := by
   rw [are_eq N _ _ _ (by omega) (by omega)]
   congr 1
   rw [List.all_eq_true]
   intro t ht
   obtain ⟨a1, a2⟩ := h.out t ht
   simp; omega
 rw [e1]; simp only [Option.bind_some, Bool.not_true, cond_false]
 rw [e2]; simp only [Option.bind_some, Bool.not_true, cond_false]
 rw [e3]; simp only [Bool.not_true, cond_false]
 rw [e4]; simp only [Option.bind_some, Bool.not_true, cond_false]
 rw [g56L122_eq, h.next]
 exact h.check_loop N hN _ _ N 0 (by omega) (by omega)
theorem Tame.given {x : MM} (h : Tame x) (N : Nat) (hN : 20 < N) : g27 N x = some x := by
 obtain ⟨hm1, hm2⟩ := h.many
 refine given_eq N x (by omega) (by omega) (by rw [h.next]; omega) fun r hr => ?_
 have := (h.row r hr).1
 have := h.base.2
 omega
theorem base_eq (N : Nat) (k : Int) : ∃ r, g22 N k = some r ∧ 2 ≤ r ∧ r ≤ 5 := by
 obtain ⟨r, e, h1, h2⟩ := low (x := k) (m := 4) (by omega) (by omega)
 refine ⟨2 + r, ?_, by omega, by omega⟩
 unfold g22
 rw [e, w64 (by omega) (by omega)]
theorem outs_loop (N : Nat) {C : Type} (k0 : Int → Int → MM → Int → Int → List Int → List (List Int) → List Int → List (List Int) → Option C) (b : Int) (n : Nat) (hn : n ≤ 12) (a : MM) (p q : Int) (l1 : List Int) (l2 l3 : List (List Int)) :
   ∀ (F i : Nat) (outs : List Int), n - i < F → i ≤ n → outs.length = i → (∀ o ∈ outs, 0 ≤ o ∧ o ≤ 9) →
     ∃ outs' : List Int, outs'.length = n ∧ (∀ o ∈ outs', 0 ≤ o ∧ o ≤ 9) ∧ g25L122f N F k0 b (n : Int) (i : Int) a p q l1 l2 outs l3 = k0 b (n : Int) a p q l1 l2 outs' l3
 | 0, i, outs, hF, _, _, _ => by omega
 | F + 1, i, outs, hF, hi, hl, ho => by
   rw [g25L122f_succ]
   unfold g25L122B
   by_cases hlt : i < n
   · have e1 : decide ((i : Int) < (n : Int)) = true := by simp; omega
     rw [e1, cond_true, wn i (by omega)]
     by_cases hla : i < a.2.1.length
     · have e2 : decide ((i : Int) < ((List.length a.2.1 : Nat) : Int)) = true := by simp; omega
       have e3 : idx (i : Int) a.2.1.length := ⟨by omega, by omega⟩
       obtain ⟨r, e4, r1, r2⟩ := low (x := a.2.1.getD i 0) (m := 10) (by omega) (by omega)
       rw [e2, cond_true, if_pos e3, Int.toNat_natCast, e4, if_pos (by simp [maxCount]; omega)]
       exact outs_loop N k0 b n hn a p q l1 l2 l3 F (i + 1) _ (by omega) (by omega) (by simp [hl]) (fun o h => by
         rcases List.mem_append.1 h with h | h
         · exact ho o h
         · simp at h; omega)
     · have e2 : decide ((i : Int) < ((List.length a.2.1 : Nat) : Int)) = false := by simp; omega
       rw [e2, cond_false, if_pos (by simp [maxCount]; omega)]
       exact outs_loop N k0 b n hn a p q l1 l2 l3 F (i + 1) _ (by omega) (by omega) (by simp [hl]) (fun o h => by
         rcases List.mem_append.1 h with h | h
         · exact ho o h
         · simp at h; omega)
   · have e1 : decide ((i : Int) < (n : Int)) = false := by simp; omega
     rw [e1, cond_false]
     exact ⟨outs, by omega, ho, rfl⟩
structure RowP (b : Int) (n : Nat) (outs : List Int) (s : Nat) (row : List Int) : Prop where
 rng : ∀ t ∈ row, 0 ≤ t ∧ t < (n : Int)
 zero : row ≠ [] → outs.getD (row.getD 0 0).toNat 0 = outs.getD s 0
theorem RowP.push {b : Int} {n : Nat} {outs : List Int} {s : Nat} {row : List Int} (h : RowP b n outs s row) {t : Int} (h1 : 0 ≤ t) (h2 : t < (n : Int)) (h3 : row = [] → outs.getD t.toNat 0 = outs.getD s 0) : RowP b n outs s (row ++ [t]) := by
 refine ⟨fun u hu => ?_, fun _ => ?_⟩
 · rcases List.mem_append.1 hu with hu | hu
   · exact h.rng u hu
   · simp at hu; omega
 · cases row with
   | nil => simpa using h3 rfl
   | cons a r => simpa using h.zero (by simp)
theorem row_loop (N : Nat) {C : Type} (k0 : Int → Int → Int → MM → Int → Int → List Int → List Int → List (List Int) → List Int → List (List Int) → Option C) (b : Nat) (hb : b ≤ 5) (n : Nat) (hn0 : 0 < n) (hn : n ≤ 12) (s : Nat) (hs : s < n) (a : MM) (p q : Int)
   (l1 : List Int) (l2 : List (List Int)) (outs : List Int) (l3 : List (List Int)) (ho : outs.length = n) :
   ∀ (F r : Nat) (row : List Int), b - r < F → r ≤ b → row.length = r → RowP b n outs s row →
     ∃ row' : List Int, row'.length = b ∧ RowP b n outs s row' ∧ g25L64074f N F k0 (b : Int) (n : Int) (s : Int) (r : Int) a p q row l1 l2 outs l3 = k0 (b : Int) (n : Int) (s : Int) a p q row' l1 l2 outs l3
 | 0, r, row, hF, _, _, _ => by omega
 | F + 1, r, row, hF, hr, hl, hrow => by
   rw [g25L64074f_succ]
   unfold g25L64074B
   have ih := row_loop N k0 b hb n hn0 hn s hs a p q l1 l2 outs l3 ho F (r + 1)
   by_cases hlt : r < b
   · have e1 : decide ((r : Int) < (b : Int)) = true := by simp; omega
     have eu : IntKind.wrap .u64 (n : Int) = (n : Int) := by rw [wu64]; omega
     have enz : ¬ ((n : Int) = 0) := by omega
     have es : idx (s : Int) outs.length := ⟨by omega, by omega⟩
     have es2 : s < outs.length := by omega
     rw [e1, cond_true, wn r (by omega), eu]
     have rec_s : ∃ row' : List Int, row'.length = b ∧ RowP b n outs s row' ∧ g25L64074f N F k0 (b : Int) (n : Int) (s : Int) ((r + 1 : Nat) : Int) a p q (row ++ [(s : Int)]) l1 l2 outs l3 = k0 (b : Int) (n : Int) (s : Int) a p q row' l1 l2 outs l3 :=
       ih _ (by omega) (by omega) (by simp [hl]) (hrow.push (by omega) (by omega) (fun _ => by simp))
     have room : ∀ t : Int, row.length + [t].length ≤ maxCount := fun t => by simp [maxCount]; omega
     by_cases h1 : s < a.2.2.1.length
     · have e2 : decide ((s : Int) < ((List.length a.2.2.1 : Nat) : Int)) = true := by simp; omega
       have e3 : idx (s : Int) a.2.2.1.length := ⟨by omega, by omega⟩
       rw [e2, cond_true, if_pos e3, Int.toNat_natCast]
       by_cases h2 : r < (a.2.2.1.getD s []).length
       · have e4 : decide ((r : Int) < ((List.length (a.2.2.1.getD s []) : Nat) : Int)) = true := by simp at h2 ⊢; omega
         have e5 : idx (r : Int) (a.2.2.1.getD s []).length := ⟨by omega, by omega⟩
         obtain ⟨t, et, t1, t2⟩ := low (x := (a.2.2.1.getD s []).getD r 0) (m := (n : Int)) (by omega) (by omega)
         rw [e4, cond_true, if_pos e3, if_pos e5, if_neg enz, Int.toNat_natCast, et]
         by_cases h3 : r = 0
         · have e6 : ieq (r : Int) 0 = true := by simp [h3]
           have e7 : idx t outs.length := ⟨t1, by omega⟩
           have e8 : t.toNat < outs.length := by omega
           rw [e6, cond_true, if_pos e7, if_pos e8, if_pos es, if_pos es2]
           by_cases h4 : outs.getD t.toNat 0 = outs.getD s 0
           · have e9 : ieq (outs.getD t.toNat 0) (outs.getD s 0) = true := by simp only [ieq, decide_eq_true_eq]; exact h4
             rw [e9, Bool.not_true, cond_false, if_pos (room t)]
             exact ih _ (by omega) (by omega) (by simp [hl]) (hrow.push t1 t2 (fun _ => h4))
           · have e9 : ieq (outs.getD t.toNat 0) (outs.getD s 0) = false := by simp only [ieq, decide_eq_false_iff_not]; exact h4
             rw [e9, Bool.not_false, cond_true, if_pos (room _)]
             exact rec_s
         · have e6 : ieq (r : Int) 0 = false := by simp only [ieq, decide_eq_false_iff_not]; omega
           rw [e6, cond_false, if_pos (room t)]
           refine ih _ (by omega) (by omega) (by simp [hl]) (hrow.push t1 t2 (fun h => ?_))
           subst h; simp at hl; omega
       · have e4 : decide ((r : Int) < ((List.length (a.2.2.1.getD s []) : Nat) : Int)) = false := by simp at h2 ⊢; omega
         rw [e4, cond_false]
         by_cases h3 : r = 0
         · have e6 : ieq (r : Int) 0 = true := by simp [h3]
           have e9 : ieq (outs.getD s 0) (outs.getD s 0) = true := by simp
           rw [e6, cond_true, if_pos es, if_pos es2, if_pos es, if_pos es2, e9, Bool.not_true, cond_false, if_pos (room _)]
           exact rec_s
         · have e6 : ieq (r : Int) 0 = false := by simp only [ieq, decide_eq_false_iff_not]; omega
           rw [e6, cond_false, if_pos (room _)]
           exact rec_s
     · have e2 : decide ((s : Int) < ((List.length a.2.2.1 : Nat) : Int)) = false := by simp; omega
       rw [e2, cond_false]
       by_cases h3 : r = 0
       · have e6 : ieq (r : Int) 0 = true := by simp [h3]
         have e9 : ieq (outs.getD s 0) (outs.getD s 0) = true := by simp
         rw [e6, cond_true, Int.toNat_natCast, if_pos es, if_pos es2, if_pos es, if_pos es2, e9, Bool.not_true, cond_false, if_pos (room _)]
         exact rec_s
       · have e6 : ieq (r : Int) 0 = false := by simp only [ieq, decide_eq_false_iff_not]; omega
         rw [e6, cond_false, if_pos (room _)]
         exact rec_s
   · have e1 : decide ((r : Int) < (b : Int)) = false := by simp; omega
     rw [e1, cond_false]
     exact ⟨row, by omega, hrow, rfl⟩
theorem rows_loop (N : Nat) (hN : 20 < N) {C : Type} (k0 : MM → Int → Int → List Int → List (List Int) → List Int → List (List Int) → Option C) (b : Nat) (hb : b ≤ 5) (n : Nat) (hn0 : 0 < n) (hn : n ≤ 12) (a : MM) (p q : Int) (l1 : List Int) (l2 : List (List Int)) (outs : List Int) (ho : outs.length = n) :
   ∀ (F s : Nat) (rows : List (List Int)), n - s < F → s ≤ n → rows.length = s → (∀ i, i < s → (rows.getD i []).length = b ∧ RowP b n outs i (rows.getD i [])) →
     ∃ rows' : List (List Int), rows'.length = n ∧ (∀ i, i < n → (rows'.getD i []).length = b ∧ RowP b n outs i (rows'.getD i [])) ∧ g25L250f N F k0 (b : Int) (n : Int) (s : Int) a p q l1 l2 outs rows = k0 a p q l1 l2 outs rows'
 | 0, s, rows, hF, _, _, _ => by omega
 | F + 1, s, rows, hF, hs, hl, hr => by
   rw [g25L250f_succ]
   unfold g25L250B
   by_cases hlt : s < n
   · have e1 : decide ((s : Int) < (n : Int)) = true := by simp; omega
     rw [e1, cond_true, g25L64074_eq]
     obtain ⟨row, h1, h2, h3⟩ := row_loop N (fun e10 e11 e12 e13 e14 e15 e16 e17 e18 e19 e20 => if List.length e20 + List.length [e16] ≤ maxCount then (g25L250f N F k0 e10 e11 (IntKind.wrap .i64 (e12 + 1)) e13 e14 e15 e17 e18 e19 (e20 ++ [e16])) else none) b hb n hn0 hn s hlt a p q l1 l2 outs rows ho N 0 [] (by omega) (by omega) rfl ⟨by simp, by simp⟩
     simp only [Int.natCast_zero] at h3
     rw [h3, if_pos (by simp [maxCount]; omega), wn s (by omega)]
     refine rows_loop N hN k0 b hb n hn0 hn a p q l1 l2 outs ho F (s + 1) _ (by omega) (by omega) (by simp [hl]) fun i hi => ?_
     by_cases hi2 : i < s
     · have : (rows ++ [row]).getD i [] = rows.getD i [] := by simp [List.getD_eq_getElem?_getD, List.getElem?_append_left (show i < rows.length by omega)]
       rw [this]; exact hr i hi2
     · have hi3 : i = s := by omega
       subst hi3
       have : (rows ++ [row]).getD i [] = row := by simp [List.getD_eq_getElem?_getD, ← hl]
       rw [this]; exact ⟨h1, h2⟩
   · have e1 : decide ((s : Int) < (n : Int)) = false := by simp; omega
     rw [e1, cond_false]
     have : s = n := by omega
     subst this
     exact ⟨rows, hl, hr, rfl⟩
theorem tame_eq (N : Nat) (hN : 20 < N) (a : MM) (b most : Int) (hb : 2 ≤ b ∧ b ≤ 5) (hm : 1 ≤ most ∧ most ≤ 12) : ∃ x, g25 N a b most = some x ∧ Tame x ∧ x.1 = b ∧ (x.2.1.length : Int) ≤ most := by
 obtain ⟨n, hn, h1, h2⟩ : ∃ n : Nat, imax 1 (imin ((List.length a.2.1 : Nat) : Int) most) = (n : Int) ∧ 1 ≤ n ∧ (n : Int) ≤ most := by
   simp only [imax, imin]
   refine ⟨(if (if most < (a.2.1.length : Int) then most else (a.2.1.length : Int)) > 1 then (if most < (a.2.1.length : Int) then most else (a.2.1.length : Int)) else 1).toNat, ?_, ?_, ?_⟩ <;> (repeat' split) <;> omega
 obtain ⟨b', rfl⟩ : ∃ b' : Nat, b = (b' : Int) := ⟨b.toNat, by omega⟩
 unfold g25
 rw [hn, g25L122_eq]
 obtain ⟨outs, o1, o2, o3⟩ := outs_loop N (fun e1 e2 e3 e4 e5 e6 e7 e8 e9 => g25L250 N (fun e21 e22 e23 e24 e25 e26 e27 => some (e23, e26, e27, ())) e1 e2 0 e3 e4 e5 e6 e7 e8 e9) (b' : Int) n (by omega) a 0 (b' : Int) [] [] [] N 0 [] (by omega) (by omega) rfl (by simp)
 simp only [Int.natCast_zero] at o3
 rw [o3, g25L250_eq]
 obtain ⟨rows, r1, r2, r3⟩ := rows_loop N hN (fun e21 e22 e23 e24 e25 e26 e27 => some (e23, e26, e27, ())) b' (by omega) n (by omega) (by omega) a 0 (b' : Int) [] [] outs o1 N 0 [] (by omega) (by omega) rfl (fun i hi => by omega)
 simp only [Int.natCast_zero] at r3
 rw [r3]
 refine ⟨_, rfl, ⟨hb, ⟨by simp only; omega, by simp only; omega⟩, o2, by simp only; omega, fun r hr => ?_, fun s hs => ?_⟩, rfl, by simp only; omega⟩
 · obtain ⟨i, hi, rfl⟩ := List.getElem_of_mem hr
   have := r2 i (by simp only at hi; omega)
   have e : rows.getD i [] = rows[i] := by simp [List.getD_eq_getElem?_getD, hi]
   rw [e] at this
   simp only
   exact ⟨by omega, fun t ht => by have := this.2.rng t ht; omega⟩
 · have hs : s < n := by simp only at hs; omega
   obtain ⟨q1, q2⟩ := r2 s hs
   exact q2.zero (by intro h; rw [h] at q1; simp at q1; omega)
end Go.Pv
namespace Go.Pv
def oM (x : MM) (s : Nat) : Int := x.2.1.getD s 0
def dM (x : MM) (s r : Nat) : Nat := ((x.2.2.1.getD s []).getD r 0).toNat
def beh (x : MM) : Nat → List Nat → Int
 | s, [] => oM x s
 | s, r :: w => beh x (dM x s r) w
def Same (x y : MM) (s t : Nat) : Prop := ∀ w : List Nat, (∀ r ∈ w, (r : Int) < x.1) → beh x s w = beh y t w
structure WM (x : MM) : Prop where
 base : 1 ≤ x.1 ∧ x.1 ≤ 1000
 many : 1 ≤ x.2.1.length
 out : ∀ o ∈ x.2.1, 0 ≤ o ∧ o ≤ 9
 next : x.2.2.1.length = x.2.1.length
 row : ∀ s, s < x.2.1.length → ((x.2.2.1.getD s []).length : Int) = x.1
 rng : ∀ s, s < x.2.1.length → ∀ t ∈ x.2.2.1.getD s [], 0 ≤ t ∧ t < (x.2.1.length : Int)
theorem WM.at {x : MM} (h : WM x) {s r : Nat} (hs : s < x.2.1.length) (hr : (r : Int) < x.1) : (x.2.2.1.getD s []).getD r 0 = (dM x s r : Int) ∧ dM x s r < x.2.1.length := by
 have hl : r < (x.2.2.1.getD s []).length := by have := h.row s hs; omega
 have := h.rng s hs _ (getD_mem hl 0)
 unfold dM
 omega
theorem Tame.wm {x : MM} (h : Tame x) : WM x :=
 ⟨⟨by have := h.base; omega, by have := h.base; omega⟩, h.many.1, h.out, h.next, fun s hs => (h.rowAt hs).1, fun s hs => (h.row _ (getD_mem (by rw [h.next]; exact hs) [])).2⟩
theorem Same.step {x y : MM} {s t : Nat} (h : Same x y s t) {r : Nat} (hr : (r : Int) < x.1) : Same x y (dM x s r) (dM y t r) := fun w hw => h (r :: w) (by
 intro q hq
 rcases List.mem_cons.1 hq with rfl | hq
 · exact hr
 · exact hw q hq)
theorem Same.out {x y : MM} {s t : Nat} (h : Same x y s t) : oM x s = oM y t := h [] (by simp)
theorem Same.trans {x y z : MM} {s t u : Nat} (h : Same x y s t) (hb : y.1 = x.1) (k : Same y z t u) : Same x z s u := fun w hw => (h w hw).trans (k w (by rw [hb]; exact hw))
theorem Same.symm {x y : MM} {s t : Nat} (h : Same x y s t) (hb : y.1 = x.1) : Same y x t s := fun w hw => (h w (by rw [← hb]; exact hw)).symm
def scanRow : List Int → Nat → Option Nat
 | [], c => some c
 | t :: r, c => if t.toNat < c then scanRow r c else if t.toNat = c then scanRow r (c + 1) else none
def scanRows : List (List Int) → Nat → Nat → Bool
 | [], s, c => decide (s = c)
 | row :: rs, s, c => if s < c then (match scanRow row c with | some c' => scanRows rs (s + 1) c' | none => false) else false
structure Form (x : MM) : Prop extends WM x where
 red : ∀ s t, s < x.2.1.length → t < x.2.1.length → Same x x s t → s = t
 order : scanRows x.2.2.1 0 1 = true
section
variable {F G : MM} (hb : G.1 = F.1) (RF : ∀ s t, s < F.2.1.length → t < F.2.1.length → Same F F s t → s = t) (RG : ∀ s t, s < G.2.1.length → t < G.2.1.length → Same G G s t → s = t)
include hb RF RG
theorem row_same : ∀ (rF rG : List Int) (c cF cG : Nat), rF.length = rG.length → (∀ i, i < c → i < F.2.1.length ∧ i < G.2.1.length ∧ Same F G i i) →
   (∀ j, j < rF.length → 0 ≤ rF.getD j 0 ∧ rF.getD j 0 < (F.2.1.length : Int) ∧ 0 ≤ rG.getD j 0 ∧ rG.getD j 0 < (G.2.1.length : Int) ∧ Same F G (rF.getD j 0).toNat (rG.getD j 0).toNat) →
   scanRow rF c = some cF → scanRow rG c = some cG → rF = rG ∧ cF = cG ∧ (∀ i, i < cF → i < F.2.1.length ∧ i < G.2.1.length ∧ Same F G i i)
 | [], [], c, cF, cG, _, hc, _, h1, h2 => by
   simp only [scanRow, Option.some.injEq] at h1 h2
   subst h1 h2
   exact ⟨rfl, rfl, hc⟩
 | [], _ :: _, _, _, _, hl, _, _, _, _ => by simp at hl
 | _ :: _, [], _, _, _, hl, _, _, _, _ => by simp at hl
 | t :: rF, u :: rG, c, cF, cG, hl, hc, hj, h1, h2 => by
   have h0 := hj 0 (by simp)
   simp only [List.getD_cons_zero] at h0
   obtain ⟨t1, t2, u1, u2, hs⟩ := h0
   have hj' : ∀ j, j < rF.length → 0 ≤ rF.getD j 0 ∧ rF.getD j 0 < (F.2.1.length : Int) ∧ 0 ≤ rG.getD j 0 ∧ rG.getD j 0 < (G.2.1.length : Int) ∧ Same F G (rF.getD j 0).toNat (rG.getD j 0).toNat := fun j h => by
     have := hj (j + 1) (by simp; omega)
     simpa using this
   have hl' : rF.length = rG.length := by simpa using hl
   simp only [scanRow] at h1 h2
   by_cases ht : t.toNat < c
   · rw [if_pos ht] at h1
     obtain ⟨_, g2, g3⟩ := hc _ ht
     have : t.toNat = u.toNat := RG _ _ g2 (by omega) ((g3.symm hb).trans hb.symm hs)
     rw [if_pos (by omega)] at h2
     obtain ⟨q1, q2, q3⟩ := row_same rF rG c cF cG hl' hc hj' h1 h2
     exact ⟨by rw [q1, show t = u by omega], q2, q3⟩
   · rw [if_neg ht] at h1
     by_cases htc : t.toNat = c
     · rw [if_pos htc] at h1
       have hu : ¬ u.toNat < c := by
         intro hu
         obtain ⟨g1, g2, g3⟩ := hc _ hu
         have : u.toNat = t.toNat := RF _ _ g1 (by omega) (g3.trans hb (hs.symm hb))
         omega
       rw [if_neg hu] at h2
       by_cases huc : u.toNat = c
       · rw [if_pos huc] at h2
         have hc' : ∀ i, i < c + 1 → i < F.2.1.length ∧ i < G.2.1.length ∧ Same F G i i := fun i hi => by
           by_cases hic : i < c
           · exact hc i hic
           · have : i = c := by omega
             subst this
             refine ⟨by omega, by omega, ?_⟩
             rw [htc, huc] at hs; exact hs
         obtain ⟨q1, q2, q3⟩ := row_same rF rG (c + 1) cF cG hl' hc' hj' h1 h2
         exact ⟨by rw [q1, show t = u by omega], q2, q3⟩
       · rw [if_neg huc] at h2; simp at h2
     · rw [if_neg htc] at h1; simp at h1
theorem rows_same (wF : WM F) (wG : WM G) : ∀ (rF rG : List (List Int)) (s c : Nat), F.2.2.1.drop s = rF → G.2.2.1.drop s = rG → (∀ i, i < c → i < F.2.1.length ∧ i < G.2.1.length ∧ Same F G i i) →
   scanRows rF s c = true → scanRows rG s c = true → rF = rG ∧ ∀ i, i < s + rF.length → Same F G i i
 | [], [], s, c, _, _, hc, h1, h2 => by
   simp only [scanRows, decide_eq_true_eq] at h1
   refine ⟨rfl, fun i hi => (hc i ?_).2.2⟩
   simp at hi; omega
 | [], _ :: _, s, c, _, _, hc, h1, h2 => by
   simp only [scanRows, decide_eq_true_eq] at h1 h2
   rw [if_neg (by omega)] at h2
   simp at h2
 | _ :: _, [], s, c, _, _, hc, h1, h2 => by
   simp only [scanRows, decide_eq_true_eq] at h1 h2
   rw [if_neg (by omega)] at h1
   simp at h1
 | a :: rF, b :: rG, s, c, hF, hG, hc, h1, h2 => by
   simp only [scanRows] at h1 h2
   by_cases hs : s < c
   · rw [if_pos hs] at h1 h2
     cases hA : scanRow a c with
     | none => rw [hA] at h1; simp at h1
     | some cF =>
       cases hB : scanRow b c with
       | none => rw [hB] at h2; simp at h2
       | some cG =>
         rw [hA] at h1; rw [hB] at h2
         simp only at h1 h2
         obtain ⟨g1, g2, g3⟩ := hc s hs
         have ea : F.2.2.1.getD s [] = a := by
           have : (F.2.2.1.drop s)[0]? = some a := by rw [hF]; rfl
           rw [List.getElem?_drop] at this
           rw [List.getD_eq_getElem?_getD]; simp at this; simp [this]
         have eb : G.2.2.1.getD s [] = b := by
           have : (G.2.2.1.drop s)[0]? = some b := by rw [hG]; rfl
           rw [List.getElem?_drop] at this
           rw [List.getD_eq_getElem?_getD]; simp at this; simp [this]
         have la := wF.row s g1
         have lb := wG.row s g2
         rw [ea] at la
         rw [eb] at lb
         obtain ⟨q1, q2, q3⟩ := row_same hb RF RG a b c cF cG (by omega) hc (fun j hj => by
           have hjF : (j : Int) < F.1 := by omega
           obtain ⟨a1, a2⟩ := wF.at g1 hjF
           obtain ⟨b1, b2⟩ := wG.at g2 (show (j : Int) < G.1 by omega)
           rw [ea] at a1
           rw [eb] at b1
           rw [a1, b1]
           refine ⟨by omega, by omega, by omega, by omega, ?_⟩
           simpa using g3.step hjF) hA hB
         subst q2
         obtain ⟨p1, p2⟩ := rows_same wF wG rF rG (s + 1) cF (by
           have : F.2.2.1.drop (s + 1) = (F.2.2.1.drop s).drop 1 := by rw [List.drop_drop]
           rw [this, hF]; rfl) (by
           have : G.2.2.1.drop (s + 1) = (G.2.2.1.drop s).drop 1 := by rw [List.drop_drop]
           rw [this, hG]; rfl) q3 h1 h2
         exact ⟨by rw [q1, p1], fun i hi => p2 i (by simp at hi; omega)⟩
   · rw [if_neg hs] at h1; simp at h1
end
theorem Form.uniq {F G : MM} (hF : Form F) (hG : Form G) (hb : G.1 = F.1) (h : Same F G 0 0) : F = G := by
 have hc : ∀ i, i < 1 → i < F.2.1.length ∧ i < G.2.1.length ∧ Same F G i i := fun i hi => by
   have : i = 0 := by omega
   subst this
   exact ⟨hF.many, hG.many, h⟩
 obtain ⟨h1, h2⟩ := rows_same hb hF.red hG.red hF.toWM hG.toWM F.2.2.1 G.2.2.1 0 1 (by simp) (by simp) hc hF.order hG.order
 have hn : F.2.1.length = G.2.1.length := by rw [← hF.next, ← hG.next, h1]
 have ho : F.2.1 = G.2.1 := by
   apply List.ext_getElem hn
   intro i hi hi'
   have := (h2 i (by rw [hF.next]; omega)).out
   unfold oM at this
   simpa [List.getD_eq_getElem?_getD, hi, hi'] using this
 obtain ⟨b1, o1, n1, u1⟩ := F
 obtain ⟨b2, o2, n2, u2⟩ := G
 simp only at hb h1 ho
 rw [hb, ho, h1]
structure Made (x F : MM) (c : Nat → Int) (l : List Nat) : Prop where
 base : F.1 = x.1
 some1 : 1 ≤ l.length
 lt : ∀ i, i < l.length → l.getD i 0 < x.2.1.length
 apart : ∀ i j, i < l.length → j < l.length → c (l.getD i 0) = c (l.getD j 0) → i = j
 first : c (l.getD 0 0) = c 0
 out : F.2.1 = l.map (oM x)
 next : F.2.2.1.length = l.length
 rowl : ∀ i, i < l.length → ((F.2.2.1.getD i []).length : Int) = x.1
 way : ∀ (i r : Nat), i < l.length → (r : Int) < x.1 → ∃ j : Nat, (F.2.2.1.getD i []).getD r 0 = (j : Int) ∧ j < l.length ∧ c (l.getD j 0) = c (dM x (l.getD i 0) r)
 order : scanRows F.2.2.1 0 1 = true
end Go.Pv
namespace Go.Pv
section
variable {K : Type} [DecidableEq K]
variable {eq : K → K → Bool} (he : ∀ a b, eq a b = true ↔ a = b)
include he
end
def around (x : MM) (cl : List Int) (s : Nat) : List Int := cl.getD s 0 :: (x.2.2.1.getD s []).map fun t => cl.getD t.toNat 0
theorem around_iff {x : MM} (hx : WM x) (cl : List Int) {s t : Nat} (hs : s < x.2.1.length) (ht : t < x.2.1.length) :
   around x cl s = around x cl t ↔ cl.getD s 0 = cl.getD t 0 ∧ ∀ r : Nat, (r : Int) < x.1 → cl.getD (dM x s r) 0 = cl.getD (dM x t r) 0 := by
 have ls := hx.row s hs
 have lt := hx.row t ht
 unfold around
 rw [List.cons.injEq]
 have gd : ∀ (l : List Int) (r : Nat) (h : r < l.length), l.getD r 0 = l[r] := fun l r h => by rw [List.getD_eq_getElem?_getD, List.getElem?_eq_getElem h]; rfl
 constructor
 · rintro ⟨h1, h2⟩
   refine ⟨h1, fun r hr => ?_⟩
   have rs : r < (x.2.2.1.getD s []).length := by omega
   have rt : r < (x.2.2.1.getD t []).length := by omega
   have := congrArg (fun l => l[r]?) h2
   rw [List.getElem?_map, List.getElem?_map, List.getElem?_eq_getElem rs, List.getElem?_eq_getElem rt, Option.map_some, Option.map_some, Option.some.injEq] at this
   unfold dM
   rw [gd _ _ rs, gd _ _ rt]; exact this
 · rintro ⟨h1, h2⟩
   refine ⟨h1, ?_⟩
   apply List.ext_getElem (by rw [List.length_map, List.length_map]; omega)
   intro r hr hr'
   have rs : r < (x.2.2.1.getD s []).length := by rw [List.length_map] at hr; exact hr
   have rt : r < (x.2.2.1.getD t []).length := by rw [List.length_map] at hr'; exact hr'
   have := h2 r (by omega)
   unfold dM at this
   rw [gd _ _ rs, gd _ _ rt] at this
   rw [List.getElem_map, List.getElem_map]; exact this
structure Numb (n : Nat) (key : Nat → List UInt8) (D : List (List UInt8)) (cl : List Int) : Prop where
 len : cl.length = n
 d : D = numD ((List.range n).map key) []
 val : ∀ s, s < n → cl.getD s 0 = (posOf (key s) D : Int)
theorem Numb.mem {n : Nat} {key : Nat → List UInt8} {D : List (List UInt8)} {cl : List Int} (h : Numb n key D cl) {s : Nat} (hs : s < n) : key s ∈ D := by
 rw [h.d]
 exact numD_mem _ _ _ (.inr (List.mem_map.2 ⟨s, List.mem_range.2 hs, rfl⟩))
theorem Numb.iff {n : Nat} {key : Nat → List UInt8} {D : List (List UInt8)} {cl : List Int} (h : Numb n key D cl) {s t : Nat} (hs : s < n) (ht : t < n) : cl.getD s 0 = cl.getD t 0 ↔ key s = key t := by
 rw [h.val s hs, h.val t ht]
 constructor
 · intro e; exact posOf_inj (h.mem hs) (h.mem ht) (by omega)
 · intro e; rw [e]
theorem Numb.rng {n : Nat} {key : Nat → List UInt8} {D : List (List UInt8)} {cl : List Int} (h : Numb n key D cl) {s : Nat} (hs : s < n) : 0 ≤ cl.getD s 0 ∧ cl.getD s 0 < (D.length : Int) := by
 rw [h.val s hs]
 have := posOf_lt (h.mem hs)
 omega
theorem Numb.more {n : Nat} {k1 k2 : Nat → List UInt8} {D E : List (List UInt8)} {c1 c2 : List Int} (h : Numb n k1 D c1) (g : Numb n k2 E c2) (hf : ∀ s t, s < n → t < n → k2 s = k2 t → k1 s = k1 t) : D.length ≤ E.length := by
 have := num_mono ((List.range n).map fun s => (k1 s, k2 s)) [] [] [] ⟨by simp, by simp, by simp⟩ (by
   intro p hp q hq he
   simp only [List.nil_append, List.mem_map, List.mem_range] at hp hq
   obtain ⟨s, hs, rfl⟩ := hp
   obtain ⟨t, ht, rfl⟩ := hq
   exact hf s t hs ht he)
 simp only [List.map_map, List.length_nil, Nat.add_zero] at this
 rw [h.d, g.d]; exact this
theorem Numb.same {n : Nat} {k1 k2 : Nat → List UInt8} {D E : List (List UInt8)} {c1 c2 : List Int} (h : Numb n k1 D c1) (g : Numb n k2 E c2) (hf : ∀ s t, s < n → t < n → k2 s = k2 t → k1 s = k1 t) (hl : D.length = E.length) :
   ∀ s, s < n → c1.getD s 0 = c2.getD s 0 := by
 intro s hs
 have := num_same ((List.range n).map fun s => (k1 s, k2 s)) [] [] [] ⟨by simp, by simp, by simp⟩ (by
   intro p hp q hq he
   simp only [List.nil_append, List.mem_map, List.mem_range] at hp hq
   obtain ⟨s, hs, rfl⟩ := hp
   obtain ⟨t, ht, rfl⟩ := hq
   exact hf s t hs ht he) rfl (by simp) (by
     simp only [List.map_map]
     have e1 := h.d; have e2 := g.d
     have : (numD ((List.range n).map k1) []).length = (numD ((List.range n).map k2) []).length := by rw [← e1, ← e2]; exact hl
     exact this) (k1 s, k2 s) (by simp; exact ⟨s, hs, rfl, rfl⟩)
 simp only [List.map_map] at this
 rw [h.val s hs, g.val s hs, h.d, g.d]
 exact congrArg Int.ofNat this
structure Part (x : MM) (cl : List Int) : Prop where
 keeps : ∀ s t, s < x.2.1.length → t < x.2.1.length → Same x x s t → cl.getD s 0 = cl.getD t 0
 outs : ∀ s t, s < x.2.1.length → t < x.2.1.length → cl.getD s 0 = cl.getD t 0 → oM x s = oM x t
theorem Part.done {x : MM} (hx : WM x) {cl : List Int} (h : Part x cl) (hs : ∀ s t, s < x.2.1.length → t < x.2.1.length → cl.getD s 0 = cl.getD t 0 → ∀ r : Nat, (r : Int) < x.1 → cl.getD (dM x s r) 0 = cl.getD (dM x t r) 0) :
   ∀ s t, s < x.2.1.length → t < x.2.1.length → (cl.getD s 0 = cl.getD t 0 ↔ Same x x s t) := by
 have key : ∀ (w : List Nat) (s t : Nat), s < x.2.1.length → t < x.2.1.length → (∀ r ∈ w, (r : Int) < x.1) → cl.getD s 0 = cl.getD t 0 → beh x s w = beh x t w := by
   intro w
   induction w with
   | nil => intro s t h1 h2 _ he; exact h.outs s t h1 h2 he
   | cons r w ih =>
     intro s t h1 h2 hw he
     have hr := hw r (by simp)
     exact ih _ _ (hx.at h1 hr).2 (hx.at h2 hr).2 (fun q hq => hw q (by simp [hq])) (hs s t h1 h2 he r hr)
 exact fun s t h1 h2 => ⟨fun he w hw => key w s t h1 h2 hw he, fun hsame => h.keeps s t h1 h2 hsame⟩
end Go.Pv
namespace Go.Pv
theorem getD_of {α : Type} {l : List α} {i : Nat} (h : i < l.length) (d : α) : l.getD i d = l[i] := by rw [List.getD_eq_getElem?_getD, List.getElem?_eq_getElem h]; rfl
theorem getD_set {l : List Int} {i : Nat} (v : Int) (h : i < l.length) (j : Nat) : (l.set i v).getD j 0 = if i = j then v else l.getD j 0 := by
 rw [List.getD_eq_getElem?_getD, List.getD_eq_getElem?_getD, List.getElem?_set]
 split
 · rename_i e; subst e; simp [h]
 · rfl
structure Cls (x : MM) (cl : List Int) : Prop where
 len : cl.length = x.2.1.length
 rng : ∀ s, s < x.2.1.length → 0 ≤ cl.getD s 0 ∧ cl.getD s 0 < (x.2.1.length : Int)
 iff : ∀ s t, s < x.2.1.length → t < x.2.1.length → (cl.getD s 0 = cl.getD t 0 ↔ Same x x s t)
theorem Part.next {x : MM} (hx : WM x) {cl cl' : List Int} (h : Part x cl) {key : Nat → List UInt8} {D : List (List UInt8)} (g : Numb x.2.1.length key D cl')
   (hk : ∀ s t, s < x.2.1.length → t < x.2.1.length → (key s = key t ↔ around x cl s = around x cl t)) : Part x cl' := by
 refine ⟨fun s t hs ht hq => ?_, fun s t hs ht he => ?_⟩
 · rw [g.iff hs ht, hk s t hs ht, around_iff hx cl hs ht]
   exact ⟨h.keeps s t hs ht hq, fun r hr => h.keeps _ _ (hx.at hs hr).2 (hx.at ht hr).2 (hq.step hr)⟩
 · rw [g.iff hs ht, hk s t hs ht, around_iff hx cl hs ht] at he
   exact h.outs s t hs ht he.1
end Go.Pv
namespace Go.Pv
theorem numD_last {K : Type} [DecidableEq K] : ∀ (l D : List K), (∃ k, k ∈ l ∧ posOf k (numD l D) + 1 = (numD l D).length) ∨ (numD l D).length = D.length
 | [], D => .inr rfl
 | k :: r, D => by
   unfold numD
   by_cases hk : k ∈ D
   · rw [if_pos hk]
     rcases numD_last r D with ⟨q, h1, h2⟩ | h
     · exact .inl ⟨q, by simp [h1], h2⟩
     · exact .inr h
   · rw [if_neg hk]
     rcases numD_last r (D ++ [k]) with ⟨q, h1, h2⟩ | h
     · exact .inl ⟨q, by simp [h1], h2⟩
     · refine .inl ⟨k, by simp, ?_⟩
       rw [numD_pos r (D ++ [k]) k (by simp), posOf_new hk, h]; simp
theorem Numb.top {n : Nat} {key : Nat → List UInt8} {D : List (List UInt8)} {cl : List Int} (h : Numb n key D cl) (hn : 0 < n) : ∃ s, s < n ∧ cl.getD s 0 + 1 = (D.length : Int) := by
 rcases numD_last ((List.range n).map key) ([] : List (List UInt8)) with ⟨k, h1, h2⟩ | h1
 · obtain ⟨s, hs, rfl⟩ := List.mem_map.1 h1
   rw [List.mem_range] at hs
   refine ⟨s, hs, ?_⟩
   rw [h.val s hs, h.d]; omega
 · have := List.length_pos_of_mem (h.mem hn)
   rw [h.d, h1] at this
   simp at this
end Go.Pv
namespace Go.Pv
section
variable {α κ : Type} [DecidableEq κ]
theorem getD_append_left {l e : List α} {i : Nat} (h : i < l.length) {d : α} : (l ++ e).getD i d = l.getD i d := by
 rw [List.getD_eq_getElem?_getD, List.getD_eq_getElem?_getD, List.getElem?_append_left h]
structure Disc (d : α) (b : Nat) (key : α → κ) (out : α → Int) (step : α → Nat → α) (a : α) (F : MM) (l : List α) : Prop where
 base : F.1 = (b : Int)
 some1 : 1 ≤ l.length
 first : l.getD 0 d = a
 nodup : (l.map key).Nodup
 out : F.2.1 = l.map out
 next : F.2.2.1.length = l.length
 rowl : ∀ i, i < l.length → (F.2.2.1.getD i []).length = b
 way : ∀ (i r : Nat), i < l.length → r < b → ∃ j : Nat, (F.2.2.1.getD i []).getD r 0 = (j : Int) ∧ j < l.length ∧ key (l.getD j d) = key (step (l.getD i d) r)
 order : scanRows F.2.2.1 0 1 = true
end
end Go.Pv
namespace Go.Pv
abbrev idK {α : Type} : α → α := fun v => v
end Go.Pv
namespace Go.Pv
end Go.Pv
namespace Go.Pv
structure GoodRow (x : MM) (s : Nat) : Prop where
 len : ((x.2.2.1.getD s []).length : Int) = x.1
 rng : ∀ t ∈ x.2.2.1.getD s [], 0 ≤ t ∧ t < (x.2.1.length : Int)
 zero : x.2.1.getD ((x.2.2.1.getD s []).getD 0 0).toNat 0 = x.2.1.getD s 0
end Go.Pv
namespace Go.Pv
theorem not_ieq_self (n : Int) : (!ieq n n) = false := by simp [ieq]
theorem eq_row (N : Nat) {x : MM} (s : Nat) (hs : s < x.2.2.1.length) (hl : (x.2.2.1.getD s []).length ≤ 1000) {C : Type} (k0 : Bool → Int → MM → MM → Option C) (k1 : Int → MM → MM → Option C) :
   ∀ (F j : Nat), (x.2.2.1.getD s []).length - j < F → j ≤ (x.2.2.1.getD s []).length → g32L7462f N F k0 k1 (s : Int) (j : Int) x x = k1 (s : Int) x x
 | 0, j, hF, _ => by omega
 | F + 1, j, hF, hj => by
   rw [g32L7462f_succ]
   unfold g32L7462B
   have e0 : idx (s : Int) x.2.2.1.length := ⟨by omega, by omega⟩
   rw [if_pos e0, Int.toNat_natCast]
   by_cases hlt : j < (x.2.2.1.getD s []).length
   · have e1 : decide ((j : Int) < ((x.2.2.1.getD s []).length : Int)) = true := by simp only [decide_eq_true_iff]; omega
     have e2 : idx (j : Int) (x.2.2.1.getD s []).length := ⟨by omega, by omega⟩
     rw [e1, cond_true, if_pos e0, if_pos e2, if_pos e0, if_pos e2, not_ieq_self, cond_false, wn j (by omega)]
     exact eq_row N s hs hl k0 k1 F (j + 1) (by omega) (by omega)
   · have e1 : decide ((j : Int) < ((x.2.2.1.getD s []).length : Int)) = false := by simp only [decide_eq_false_iff_not]; omega
     rw [e1, cond_false]
theorem eq_rows (N : Nat) (hN : 1001 < N) {x : MM} (hn : x.2.1.length = x.2.2.1.length) (hn2 : x.2.2.1.length ≤ 60000) (hl : ∀ s, s < x.2.2.1.length → (x.2.2.1.getD s []).length ≤ 1000) {C : Type} (k0 : Bool → MM → MM → Option C) (k1 : MM → MM → Option C) :
   ∀ (F s : Nat), x.2.2.1.length - s < F → s ≤ x.2.2.1.length → g32L58f N F k0 k1 (s : Int) x x = k1 x x
 | 0, s, hF, _ => by omega
 | F + 1, s, hF, hs => by
   rw [g32L58f_succ]
   unfold g32L58B
   by_cases hlt : s < x.2.2.1.length
   · have e1 : decide ((s : Int) < (x.2.1.length : Int)) = true := by simp only [decide_eq_true_iff]; omega
     have e2 : idx (s : Int) x.2.2.1.length := ⟨by omega, by omega⟩
     have e3 : idx (s : Int) x.2.1.length := ⟨by omega, by omega⟩
     rw [e1, cond_true]
     simp only [if_pos e2, if_pos e3, not_ieq_self, cond_false]
     rw [g32L7462_eq]
     have el := fun a b => eq_row (C := C) N s hlt (hl s hlt) a b N 0 (by have := hl s hlt; omega) (by omega)
     simp only [Int.natCast_zero] at el
     rw [el, wn s (by omega)]
     exact eq_rows N hN hn hn2 hl k0 k1 F (s + 1) (by omega) (by omega)
   · have e1 : decide ((s : Int) < (x.2.1.length : Int)) = false := by simp only [decide_eq_false_iff_not]; omega
     rw [e1, cond_false]
theorem WM.same {x : MM} (h : WM x) (N : Nat) (hN : 1001 < N) (hn : x.2.1.length ≤ 60000) (hn2 : x.2.1.length < N) : g32 N x x = some true := by
 unfold g32
 simp only [not_ieq_self, cond_false]
 rw [g32L58_eq]
 have hnx := h.next
 have hb := h.base
 have := eq_rows N hN hnx.symm (by omega) (fun s hs => by have := h.row s (by omega); omega) (fun e8 e9 e10 => some e8) (fun e11 e12 => some true) N 0 (by omega) (by omega)
 simp only [Int.natCast_zero] at this
 exact this
end Go.Pv
namespace Go.Pv
theorem Disc.wm {α κ : Type} {d : α} {b : Nat} {key : α → κ} {out : α → Int} {step : α → Nat → α} {a : α} {F : MM} {l : List α} (h : Disc d b key out step a F l) (hb : 1 ≤ b ∧ b ≤ 1000) (ho : ∀ t ∈ l, 0 ≤ out t ∧ out t ≤ 9) : WM F := by
 have hl : F.2.1.length = l.length := by rw [h.out, List.length_map]
 refine ⟨by rw [h.base]; omega, by rw [hl]; exact h.some1, fun o hm => ?_, by rw [h.next, hl], fun s hs => ?_, fun s hs t ht => ?_⟩
 · rw [h.out] at hm
   obtain ⟨t, ht, rfl⟩ := List.mem_map.1 hm
   exact ho t ht
 · rw [hl] at hs
   rw [h.base, h.rowl s hs]
 · rw [hl] at hs ⊢
   obtain ⟨r, hr, rfl⟩ := List.getElem_of_mem ht
   have hrl := h.rowl s hs
   obtain ⟨j, h1, h2, _⟩ := h.way s r hs (by omega)
   rw [getD_of hr] at h1
   rw [h1]; omega
theorem Disc.same {α : Type} {d : α} {b : Nat} {out : α → Int} {step : α → Nat → α} {a : α} {F : MM} {l : List α} (h : Disc d b idK out step a F l) {S : MM} (rep : α → Nat)
   (hl : ∀ t ∈ l, out t = oM S (rep t) ∧ ∀ r, r < b → rep (step t r) = dM S (rep t) r) : Same F S 0 (rep a) := by
 have key : ∀ (w : List Nat) (i : Nat), i < l.length → (∀ r ∈ w, r < b) → beh F i w = beh S (rep (l.getD i d)) w := by
   intro w
   induction w with
   | nil =>
     intro i hi _
     show oM F i = oM S _
     rw [← (hl _ (getD_mem hi d)).1]
     unfold oM
     rw [h.out, getD_of (by simpa using hi), getD_of hi]; simp
   | cons r w ih =>
     intro i hi hw
     have hr : r < b := hw r (by simp)
     obtain ⟨j, h1, h2, h3⟩ := h.way i r hi hr
     have hd : dM F i r = j := by unfold dM; rw [h1]; simp
     show beh F (dM F i r) w = beh S (dM S (rep (l.getD i d)) r) w
     rw [hd, ih j h2 (fun q hq => hw q (by simp [hq]))]
     have h3 : l.getD j d = step (l.getD i d) r := h3
     rw [h3, (hl _ (getD_mem hi d)).2 r hr]
 intro w hw
 rw [h.base] at hw
 rw [key w 0 h.some1 (fun r hr => by have := hw r hr; omega), h.first]
abbrev PP := Int × Int × Unit
theorem pp_eq (a b : PP) : Ty.beq (.pair (.int .i64) (.pair (.int .i64) .unit)) a b = true ↔ a = b := by
 obtain ⟨a1, a2, ⟨⟩⟩ := a
 obtain ⟨b1, b2, ⟨⟩⟩ := b
 simp [Ty.beq]
end Go.Pv
namespace Go.Pv
abbrev ppB : PP → PP → Bool := Ty.beq (.pair (.int .i64) (.pair (.int .i64) .unit))
section
variable {V : Type}
theorem find_old (k : PP) (e : List (PP × V)) : ∀ mp : List (PP × V), k ∈ mp.map (·.1) → mapFind ppB k (mp ++ e) = mapFind ppB k mp
 | [], h => by simp at h
 | (q, u) :: mp, h => by
   simp only [List.cons_append, mapFind]
   by_cases hk : k = q
   · subst hk; rw [if_pos ((pp_eq k k).2 rfl), if_pos ((pp_eq k k).2 rfl)]
   · rw [if_neg (fun e => hk ((pp_eq k q).1 e)), if_neg (fun e => hk ((pp_eq k q).1 e))]
     exact find_old k e mp (by simpa [hk] using h)
theorem find_new (k : PP) (v : V) : ∀ mp : List (PP × V), k ∉ mp.map (·.1) → mapFind ppB k (mp ++ [(k, v)]) = some v
 | [], _ => by simp only [List.nil_append, mapFind]; rw [if_pos ((pp_eq k k).2 rfl)]
 | (q, u) :: mp, h => by
   simp only [List.map_cons, List.mem_cons, not_or] at h
   simp only [List.cons_append, mapFind]
   rw [if_neg (fun e => h.1 ((pp_eq k q).1 e))]
   exact find_new k v mp h.2
end
abbrev dP : PP := (0, 0, ())
def nxP (x y : MM) (p : PP) (r : Nat) : PP := ((dM x p.1.toNat r : Int), (dM y p.2.1.toNat r : Int), ())
structure InP (x y : MM) (p : PP) : Prop where
 s : 0 ≤ p.1 ∧ p.1 < (x.2.1.length : Int)
 t : 0 ≤ p.2.1 ∧ p.2.1 < (y.2.1.length : Int)
theorem in_next {x y : MM} (hx : WM x) (hy : WM y) (hb : y.1 = x.1) {p : PP} (h : InP x y p) {r : Nat} (hr : (r : Int) < x.1) : InP x y (nxP x y p r) := by
 have h1 := hx.at (s := p.1.toNat) (by have := h.s; omega) hr
 have h2 := hy.at (s := p.2.1.toNat) (by have := h.t; omega) (by rw [hb]; exact hr)
 exact ⟨⟨by unfold nxP; simp only; omega, by unfold nxP; simp only; omega⟩, ⟨by unfold nxP; simp only; omega, by unfold nxP; simp only; omega⟩⟩
structure DJ (x y : MM) (mp : List (PP × (PP × Int × Unit))) (D : List PP) (h : Nat) : Prop where
 keys : mp.map (·.1) = D
 nd : D.Nodup
 zero : 1 ≤ D.length ∧ D.getD 0 dP = dP
 rng : ∀ p ∈ D, InP x y p
 par : ∀ i, 0 < i → i < D.length → ∃ j r, j < i ∧ mapFind ppB (D.getD i dP) mp = some (D.getD j dP, r, ())
 sem : Same x y 0 0 → ∀ p ∈ D, Same x y p.1.toNat p.2.1.toNat
 done : ∀ i, i < h → i < D.length → oM x (D.getD i dP).1.toNat = oM y (D.getD i dP).2.1.toNat ∧ ∀ r : Nat, (r : Int) < x.1 → nxP x y (D.getD i dP) r ∈ D
theorem DJ.push {x y : MM} (hx : WM x) (hy : WM y) (hb : y.1 = x.1) {mp : List (PP × (PP × Int × Unit))} {D : List PP} {h : Nat} (J : DJ x y mp D h) (hh : h < D.length) {r : Nat} (hr : (r : Int) < x.1) (hm : nxP x y (D.getD h dP) r ∉ D) :
   DJ x y (mp ++ [(nxP x y (D.getD h dP) r, (D.getD h dP, (r : Int), ()))]) (D ++ [nxP x y (D.getD h dP) r]) h := by
 have gl : ∀ i, i < D.length → (D ++ [nxP x y (D.getD h dP) r]).getD i dP = D.getD i dP := fun i hi => getD_append_left hi
 have hin := J.rng _ (getD_mem hh dP)
 refine ⟨by rw [List.map_append, J.keys]; rfl, ?_, ⟨by simp, by rw [gl 0 (by have := J.zero; omega)]; exact J.zero.2⟩, fun p hp => ?_, fun i h0 hi => ?_, fun hs p hp => ?_, fun i hi hi2 => ?_⟩
 · rw [List.nodup_append]
   refine ⟨J.nd, by simp, fun a ha b hb e => ?_⟩
   simp only [List.mem_cons, List.not_mem_nil, or_false] at hb
   exact hm (hb ▸ e ▸ ha)
 · rcases List.mem_append.1 hp with hp | hp
   · exact J.rng p hp
   · simp only [List.mem_cons, List.not_mem_nil, or_false] at hp
     subst hp; exact in_next hx hy hb hin hr
 · by_cases hl : i < D.length
   · obtain ⟨j, q, h1, h2⟩ := J.par i h0 hl
     refine ⟨j, q, h1, ?_⟩
     rw [gl i hl, gl j (by omega), find_old _ _ _ (by rw [J.keys]; exact getD_mem hl dP), h2]
   · have : i = D.length := by simp at hi; omega
     subst this
     refine ⟨h, (r : Int), hh, ?_⟩
     rw [gl h hh]
     have : (D ++ [nxP x y (D.getD h dP) r]).getD D.length dP = nxP x y (D.getD h dP) r := by
       rw [List.getD_eq_getElem?_getD, List.getElem?_append_right (by omega)]; simp
     rw [this, find_new _ _ _ (by rw [J.keys]; exact hm)]
 · rcases List.mem_append.1 hp with hp | hp
   · exact J.sem hs p hp
   · simp only [List.mem_cons, List.not_mem_nil, or_false] at hp
     subst hp
     have := (J.sem hs _ (getD_mem hh dP)).step hr
     unfold nxP
     simp only [Int.toNat_natCast]
     exact this
 · have hl : i < D.length := by omega
   rw [gl i hl]
   obtain ⟨h1, h2⟩ := J.done i hi hl
   exact ⟨h1, fun q hq => List.mem_append_left _ (h2 q hq)⟩
end Go.Pv
namespace Go.Pv
def Eqk (b : Nat → List Nat → Int) (ok : Nat → Prop) (k i j : Nat) : Prop := ∀ w : List Nat, (∀ r ∈ w, ok r) → w.length ≤ k → b i w = b j w
section
variable {b : Nat → List Nat → Int} {ok : Nat → Prop}
theorem Eqk.symm {k i j : Nat} (h : Eqk b ok k i j) : Eqk b ok k j i := fun w h1 h2 => (h w h1 h2).symm
theorem Eqk.trans {k i j l : Nat} (h : Eqk b ok k i j) (g : Eqk b ok k j l) : Eqk b ok k i l := fun w h1 h2 => (h w h1 h2).trans (g w h1 h2)
end
def go (x : MM) : Nat → List Nat → Nat
 | s, [] => s
 | s, r :: w => go x (dM x s r) w
theorem go_snoc (x : MM) : ∀ (w : List Nat) (s r : Nat), go x s (w ++ [r]) = dM x (go x s w) r
 | [], _, _ => rfl
 | q :: w, s, r => go_snoc x w (dM x s q) r
theorem beh_go (x : MM) : ∀ (w : List Nat) (s : Nat), beh x s w = oM x (go x s w)
 | [], _ => rfl
 | r :: w, s => beh_go x w (dM x s r)
theorem go_lt {x : MM} (hx : WM x) : ∀ (w : List Nat) (s : Nat), s < x.2.1.length → (∀ r ∈ w, (r : Int) < x.1) → go x s w < x.2.1.length
 | [], s, hs, _ => hs
 | r :: w, s, hs, hw => go_lt hx w _ (hx.at hs (hw r (by simp))).2 (fun q hq => hw q (by simp [hq]))
end Go.Pv
namespace Go.Pv
end Go.Pv
namespace Go.Pv
end Go.Pv
namespace Go.Pv
def sq (x : MM) (s n : Nat) : Int := if h : n = 0 ∨ x.1.toNat < 2 then oM x s else sq x (dM x s (n % x.1.toNat)) (n / x.1.toNat)
termination_by n
decreasing_by exact Nat.div_lt_self (by omega) (by omega)
theorem sq_zero (x : MM) (s : Nat) : sq x s 0 = oM x s := by rw [sq]; simp
theorem sq_pos {x : MM} (hb : 2 ≤ x.1) (s : Nat) {n : Nat} (h : n ≠ 0) : sq x s n = sq x (dM x s (n % x.1.toNat)) (n / x.1.toNat) := by rw [sq, dif_neg (by omega)]
def Zed (x : MM) : Prop := ∀ s, s < x.2.1.length → oM x (dM x s 0) = oM x s
theorem Tame.zed {x : MM} (h : Tame x) : Zed x := fun s hs => h.zero s hs
theorem sq_step {x : MM} (hb : 2 ≤ x.1) (hz : Zed x) {s : Nat} (hs : s < x.2.1.length) (n : Nat) : sq x s n = sq x (dM x s (n % x.1.toNat)) (n / x.1.toNat) := by
 by_cases h : n = 0
 · subst h
   rw [Nat.zero_mod, Nat.zero_div, sq_zero, sq_zero, hz s hs]
 · exact sq_pos hb s h
def val (b : Nat) : List Nat → Nat
 | [] => 0
 | r :: w => r + b * val b w
theorem beh_sq {x : MM} (hx : WM x) (hb : 2 ≤ x.1) (hz : Zed x) : ∀ (w : List Nat) (s : Nat), s < x.2.1.length → (∀ r ∈ w, (r : Int) < x.1) → beh x s w = sq x s (val x.1.toNat w)
 | [], s, hs, _ => by rw [val, sq_zero]; rfl
 | r :: w, s, hs, hw => by
   have hr : (r : Int) < x.1 := hw r (by simp)
   rw [val, sq_step hb hz hs, Nat.add_mul_mod_self_left, Nat.add_mul_div_left _ _ (by omega), Nat.mod_eq_of_lt (by omega), Nat.div_eq_of_lt (by omega), Nat.zero_add]
   exact beh_sq hx hb hz w _ (hx.at hs hr).2 (fun q hq => hw q (by simp [hq]))
theorem Zed.of {F x : MM} (hF : WM F) (hx : WM x) (e : F.1 = x.1) (hz : Zed x) (h : ∀ i, i < F.2.1.length → ∃ t, t < x.2.1.length ∧ Same F x i t) : Zed F := fun i hi => by
 obtain ⟨t, ht, hs⟩ := h i hi
 have hb := hF.base
 have h1 := hs.out
 have h2 := (hs.step (r := 0) (by omega)).out
 rw [h1, h2, hz t ht]
end Go.Pv
namespace Go.Pv
def runP (x y : MM) (w : List Nat) : PP := ((go x 0 w : Int), (go y 0 w : Int), ())
abbrev okW (x : MM) (w : List Nat) : Prop := ∀ r ∈ w, (r : Int) < x.1
theorem runP_snoc (x y : MM) (w : List Nat) (r : Nat) : nxP x y (runP x y w) r = runP x y (w ++ [r]) := by
 unfold nxP runP
 simp only [Int.toNat_natCast, go_snoc]
theorem okW_snoc {x : MM} {w : List Nat} {r : Nat} : okW x (w ++ [r]) ↔ okW x w ∧ (r : Int) < x.1 := by
 constructor
 · intro h
   exact ⟨fun q hq => h q (List.mem_append_left _ hq), h r (by simp)⟩
 · intro h q hq
   rcases List.mem_append.1 hq with hq | hq
   · exact h.1 q hq
   · simp only [List.mem_cons, List.not_mem_nil, or_false] at hq
     subst hq; exact h.2
theorem okW_nil (x : MM) : okW x [] := fun r hr => by cases hr
theorem runP_in {x y : MM} (hx : WM x) (hy : WM y) (hb : y.1 = x.1) {w : List Nat} (hw : okW x w) : InP x y (runP x y w) := by
 have h1 := go_lt hx w 0 hx.many hw
 have h2 := go_lt hy w 0 hy.many (by rw [hb]; exact hw)
 exact ⟨⟨by unfold runP; simp only; omega, by unfold runP; simp only; omega⟩, ⟨by unfold runP; simp only; omega, by unfold runP; simp only; omega⟩⟩
structure DK (x y : MM) (mp : List (PP × (PP × Int × Unit))) (D : List PP) (W : List (List Nat)) (h : Nat) : Prop where
 keys : mp.map (·.1) = D
 nd : D.Nodup
 len : W.length = D.length
 zero : 1 ≤ D.length ∧ D.getD 0 dP = dP ∧ W.getD 0 [] = []
 run : ∀ i, i < D.length → okW x (W.getD i []) ∧ D.getD i dP = runP x y (W.getD i [])
 par : ∀ i, 0 < i → i < D.length → ∃ j r : Nat, j < i ∧ mapFind ppB (D.getD i dP) mp = some (D.getD j dP, (r : Int), ()) ∧ W.getD i [] = W.getD j [] ++ [r]
 mono : ∀ i j, i ≤ j → j < D.length → (W.getD i []).length ≤ (W.getD j []).length
 top : h < D.length → ∀ j, j < D.length → (W.getD j []).length ≤ (W.getD h []).length + 1
 done : ∀ i, i < h → i < D.length → oM x (D.getD i dP).1.toNat = oM y (D.getD i dP).2.1.toNat ∧ ∀ r : Nat, (r : Int) < x.1 → ∃ j, j < D.length ∧ D.getD j dP = nxP x y (D.getD i dP) r ∧ (W.getD j []).length ≤ (W.getD i []).length + 1
theorem getD_last {α : Type} (l : List α) (a d : α) : (l ++ [a]).getD l.length d = a := by
 rw [List.getD_eq_getElem?_getD, List.getElem?_append_right (by omega)]; simp
theorem DK.rng {x y : MM} (hx : WM x) (hy : WM y) (hb : y.1 = x.1) {mp : List (PP × (PP × Int × Unit))} {D : List PP} {W : List (List Nat)} {h : Nat} (J : DK x y mp D W h) {i : Nat} (hi : i < D.length) : InP x y (D.getD i dP) := by
 rw [(J.run i hi).2]; exact runP_in hx hy hb (J.run i hi).1
theorem DK.push {x y : MM} {mp : List (PP × (PP × Int × Unit))} {D : List PP} {W : List (List Nat)} {h : Nat} (J : DK x y mp D W h) (hh : h < D.length) {r : Nat} (hr : (r : Int) < x.1) (hm : nxP x y (D.getD h dP) r ∉ D) :
   DK x y (mp ++ [(nxP x y (D.getD h dP) r, (D.getD h dP, (r : Int), ()))]) (D ++ [nxP x y (D.getD h dP) r]) (W ++ [W.getD h [] ++ [r]]) h := by
 have hlen := J.len
 have gl : ∀ i, i < D.length → (D ++ [nxP x y (D.getD h dP) r]).getD i dP = D.getD i dP := fun i hi => getD_append_left hi
 have gw : ∀ i, i < D.length → (W ++ [W.getD h [] ++ [r]]).getD i [] = W.getD i [] := fun i hi => getD_append_left (by omega)
 have gln : (D ++ [nxP x y (D.getD h dP) r]).getD D.length dP = nxP x y (D.getD h dP) r := getD_last _ _ _
 have gwn : (W ++ [W.getD h [] ++ [r]]).getD D.length [] = W.getD h [] ++ [r] := by rw [← hlen]; exact getD_last _ _ _
 have hz := J.zero
 have split : ∀ i, i < (D ++ [nxP x y (D.getD h dP) r]).length → i < D.length ∨ i = D.length := fun i hi => by simp at hi; omega
 refine ⟨by rw [List.map_append, J.keys]; rfl, ?_, by simp [hlen], ⟨by simp, by rw [gl 0 (by omega)]; exact hz.2.1, by rw [gw 0 (by omega)]; exact hz.2.2⟩, fun i hi => ?_, fun i h0 hi => ?_, fun i j hij hj => ?_, fun _ j hj => ?_, fun i hi hi2 => ?_⟩
 · rw [List.nodup_append]
   refine ⟨J.nd, by simp, fun a ha b hb e => ?_⟩
   simp only [List.mem_cons, List.not_mem_nil, or_false] at hb
   exact hm (hb ▸ e ▸ ha)
 · rcases split i hi with hi | rfl
   · rw [gl i hi, gw i hi]; exact J.run i hi
   · rw [gln, gwn]
     have := J.run h hh
     refine ⟨okW_snoc.2 ⟨this.1, hr⟩, ?_⟩
     rw [← runP_snoc, ← this.2]
 · rcases split i hi with hl | rfl
   · obtain ⟨j, q, h1, h2, h3⟩ := J.par i h0 hl
     refine ⟨j, q, h1, ?_, ?_⟩
     · rw [gl i hl, gl j (by omega), find_old _ _ _ (by rw [J.keys]; exact getD_mem hl dP), h2]
     · rw [gw i hl, gw j (by omega), h3]
   · refine ⟨h, r, hh, ?_, ?_⟩
     · rw [gl h hh, gln, find_new _ _ _ (by rw [J.keys]; exact hm)]
     · rw [gw h hh, gwn]
 · rcases split j hj with hl | rfl
   · rw [gw j hl, gw i (by omega)]; exact J.mono i j hij hl
   · rw [gwn]
     by_cases hl : i < D.length
     · rw [gw i hl]
       have := J.top hh i hl
       simpa using this
     · have : i = D.length := by omega
       subst this
       rw [gwn]; omega
 · rw [gw h hh]
   rcases split j hj with hl | rfl
   · rw [gw j hl]; exact J.top hh j hl
   · rw [gwn]; simp
 · have hl : i < D.length := by omega
   rw [gl i hl, gw i hl]
   obtain ⟨h1, h2⟩ := J.done i hi hl
   refine ⟨h1, fun q hq => ?_⟩
   obtain ⟨j, j1, j2, j3⟩ := h2 q hq
   exact ⟨j, by simp; omega, by rw [gl j j1]; exact j2, by rw [gw j j1]; exact j3⟩
theorem val_lt {b : Nat} (hb : 1 ≤ b) : ∀ w : List Nat, (∀ r ∈ w, r < b) → val b w < b ^ w.length
 | [], _ => by simp [val]
 | r :: w, h => by
   have h1 := h r (by simp)
   have h2 := val_lt hb w (fun q hq => h q (by simp [hq]))
   simp only [val, List.length_cons, Nat.pow_succ]
   have h3 : b * (val b w + 1) ≤ b * b ^ w.length := Nat.mul_le_mul_left _ h2
   rw [Nat.mul_add, Nat.mul_one] at h3
   rw [Nat.mul_comm (b ^ w.length) b]
   omega
end Go.Pv
namespace Go.Pv
def LstP (P : Nat → Prop) (v : Int) : Prop := (v = -1 ∧ ∀ m, ¬ P m) ∨ ∃ m0 : Nat, v = (m0 : Int) ∧ P m0 ∧ ∀ m, P m → m0 ≤ m
theorem LstP.uniq {P : Nat → Prop} {v v' : Int} (h : LstP P v) (h' : LstP P v') : v = v' := by
 rcases h with ⟨h1, h2⟩ | ⟨m, h1, h2, h3⟩
 · rcases h' with ⟨g1, g2⟩ | ⟨k, g1, g2, g3⟩
   · rw [h1, g1]
   · exact absurd g2 (h2 k)
 · rcases h' with ⟨g1, g2⟩ | ⟨k, g1, g2, g3⟩
   · exact absurd h2 (g2 m)
   · have := h3 k g2
     have := g3 m h2
     omega
theorem LstP.of {P Q : Nat → Prop} {v : Int} (h : LstP P v) (e : ∀ m, P m ↔ Q m) : LstP Q v := by
 rcases h with ⟨h1, h2⟩ | ⟨m, h1, h2, h3⟩
 · exact .inl ⟨h1, fun m hm => h2 m ((e m).2 hm)⟩
 · exact .inr ⟨m, h1, (e m).1 h2, fun k hk => h3 k ((e k).2 hk)⟩
theorem val_inj {b : Nat} : ∀ (u w : List Nat), u.length = w.length → (∀ r ∈ u, r < b) → (∀ r ∈ w, r < b) → val b u = val b w → u = w
 | [], [], _, _, _, _ => rfl
 | [], _ :: _, h, _, _, _ => by simp at h
 | _ :: _, [], h, _, _, _ => by simp at h
 | r :: u, q :: w, h, h1, h2, e => by
   simp only [val] at e
   have r1 := h1 r (by simp); have q1 := h2 q (by simp)
   have e1 : r = q := by
     have := congrArg (· % b) e
     simp only [Nat.add_mul_mod_self_left] at this
     rw [Nat.mod_eq_of_lt r1, Nat.mod_eq_of_lt q1] at this
     exact this
   subst e1
   have e2 : b * val b u = b * val b w := by omega
   have e3 : val b u = val b w := Nat.eq_of_mul_eq_mul_left (by omega) e2
   rw [val_inj u w (by simpa using h) (fun p hp => h1 p (by simp [hp])) (fun p hp => h2 p (by simp [hp])) e3]
theorem digits_len {b : Nat} (hb : 1 ≤ b) : ∀ (J m : Nat), m < b ^ J → ∃ w : List Nat, w.length = J ∧ (∀ r ∈ w, r < b) ∧ val b w = m
 | 0, m, h => ⟨[], rfl, by simp, by simp at h; simp [val, h]⟩
 | J + 1, m, h => by
   rw [Nat.pow_succ] at h
   obtain ⟨w, w1, w2, w3⟩ := digits_len hb J (m / b) (Nat.div_lt_of_lt_mul (by rw [Nat.mul_comm]; exact h))
   refine ⟨m % b :: w, by simp [w1], fun r hr => ?_, ?_⟩
   · rcases List.mem_cons.1 hr with rfl | hr
     · exact Nat.mod_lt _ (by omega)
     · exact w2 r hr
   · rw [val, w3]; exact Nat.mod_add_div m b
theorem go_append (x : MM) : ∀ (w u : List Nat) (s : Nat), go x s (w ++ u) = go x (go x s w) u
 | [], _, _ => rfl
 | r :: w, u, s => go_append x w u (dM x s r)
theorem sq_go {x : MM} (hx : Tame x) {w : List Nat} {s : Nat} (hs : s < x.2.1.length) (hw : okW x w) : sq x s (val x.1.toNat w) = oM x (go x s w) := by
 rw [← beh_sq hx.wm hx.base.1 hx.zed w s hs hw, beh_go]
theorem okW_nat {x : MM} (hb : 0 ≤ x.1) {w : List Nat} : okW x w ↔ ∀ r ∈ w, r < x.1.toNat := by
 constructor
 · intro h r hr; have := h r hr; omega
 · intro h r hr; have := h r hr; omega
structure BackI (x : MM) (out : Int) (J j : Nat) (u : List Nat) : Prop where
 len : j + u.length = J
 ok : okW x u
 way : ∃ w, w.length = j ∧ okW x w ∧ oM x (go x 0 (w ++ u)) = out
 least : ∀ w, w.length = J → okW x w → oM x (go x 0 w) = out → val x.1.toNat u ≤ val x.1.toNat (w.drop j)
theorem BackI.step {x : MM} (hb : 2 ≤ x.1) {out : Int} {J j : Nat} {u : List Nat} (h : BackI x out J (j + 1) u) {r : Nat} (hr : (r : Int) < x.1) (h1 : ∃ w, w.length = j ∧ okW x w ∧ oM x (go x 0 (w ++ r :: u)) = out)
   (h2 : ∀ q, q < r → ¬ ∃ w, w.length = j ∧ okW x w ∧ oM x (go x 0 (w ++ q :: u)) = out) : BackI x out J j (r :: u) := by
 refine ⟨by have := h.len; simp; omega, fun q hq => ?_, h1, fun w w1 w2 w3 => ?_⟩
 · rcases List.mem_cons.1 hq with rfl | hq
   · exact hr
   · exact h.ok q hq
 · have hl := h.len
   have hj : j < w.length := by omega
   have hd : w.drop j = w.getD j 0 :: w.drop (j + 1) := by rw [List.drop_eq_getElem_cons hj, getD_of hj]
   have hdm : w.getD j 0 ∈ w := getD_mem hj 0
   have hdb := w2 _ hdm
   have h3 := h.least w w1 w2 w3
   rw [hd]
   simp only [val]
   rcases Nat.lt_or_ge (val x.1.toNat u) (val x.1.toNat (w.drop (j + 1))) with hlt | hge
   · have := Nat.mul_le_mul_left x.1.toNat (Nat.succ_le_of_lt hlt)
     rw [Nat.mul_succ] at this
     omega
   · have e : val x.1.toNat u = val x.1.toNat (w.drop (j + 1)) := by omega
     have e2 : u = w.drop (j + 1) := val_inj _ _ (by rw [List.length_drop]; omega) ((okW_nat (by omega)).1 h.ok) (fun q hq => by have := w2 q (List.mem_of_mem_drop hq); omega) e
     rw [← e2]
     have : r ≤ w.getD j 0 := by
       rcases Nat.lt_or_ge (w.getD j 0) r with hq | hq
       · exfalso
         refine h2 _ hq ⟨w.take j, by rw [List.length_take]; omega, fun q hq => w2 q (List.mem_of_mem_take hq), ?_⟩
         rw [e2, ← hd, List.take_append_drop]; exact w3
       · exact hq
     omega
theorem BackI.some {x : MM} {out : Int} {J j : Nat} {u : List Nat} (h : BackI x out J (j + 1) u) : ∃ r : Nat, (r : Int) < x.1 ∧ ∃ w, w.length = j ∧ okW x w ∧ oM x (go x 0 (w ++ r :: u)) = out := by
 obtain ⟨w, w1, w2, w3⟩ := h.way
 have hne : w ≠ [] := by intro e; subst e; simp at w1
 have e := List.dropLast_concat_getLast hne
 rw [← e] at w2 w3
 obtain ⟨q1, q2⟩ := okW_snoc.1 w2
 refine ⟨w.getLast hne, q2, w.dropLast, by rw [List.length_dropLast]; omega, q1, ?_⟩
 rw [List.append_assoc] at w3
 exact w3
theorem BackI.lst {x : MM} (hx : Tame x) {out : Int} {J : Nat} {u : List Nat} (h : BackI x out J 0 u) : LstP (fun m => m < x.1.toNat ^ J ∧ sq x 0 m = out) (val x.1.toNat u) := by
 have hb := hx.base
 have hl := h.len
 obtain ⟨w, w1, w2, w3⟩ := h.way
 have : w = [] := List.eq_nil_of_length_eq_zero w1
 subst this
 refine .inr ⟨_, rfl, ⟨?_, ?_⟩, fun m hm => ?_⟩
 · have := val_lt (b := x.1.toNat) (by omega) u ((okW_nat (by omega)).1 h.ok)
   rw [show u.length = J by omega] at this; exact this
 · rw [sq_go hx hx.many.1 h.ok]; exact w3
 · obtain ⟨w, w1, w2, w3⟩ := digits_len (b := x.1.toNat) (by omega) J m hm.1
   have hw := (okW_nat (x := x) (by omega)).2 w2
   have := h.least w w1 hw (by rw [← sq_go hx hx.many.1 hw, w3]; exact hm.2)
   rw [List.drop_zero, w3] at this
   exact this
theorem none_lst {x : MM} (hx : Tame x) {out : Int} {J : Nat} (h : ∀ w, w.length = J → okW x w → oM x (go x 0 w) ≠ out) : ∀ m, m < x.1.toNat ^ J → sq x 0 m ≠ out := fun m hm => by
 have hb := hx.base
 obtain ⟨w, w1, w2, w3⟩ := digits_len (b := x.1.toNat) (by omega) J m hm
 have hw := (okW_nat (x := x) (by omega)).2 w2
 rw [← w3, sq_go hx hx.many.1 hw]
 exact h w w1 hw
theorem LstP.more {x : MM} {out : Int} {J n : Nat} (hJ : J ≤ n) (hb : 1 ≤ x.1.toNat) {v : Int} (h : LstP (fun m => m < x.1.toNat ^ J ∧ sq x 0 m = out) v) (h0 : 0 ≤ v) : LstP (fun m => m < x.1.toNat ^ n ∧ sq x 0 m = out) v := by
 rcases h with ⟨h1, _⟩ | ⟨m, h1, h2, h3⟩
 · omega
 · have hp : x.1.toNat ^ J ≤ x.1.toNat ^ n := Nat.pow_le_pow_right hb hJ
   refine .inr ⟨m, h1, ⟨by omega, h2.2⟩, fun k hk => ?_⟩
   rcases Nat.lt_or_ge k (x.1.toNat ^ J) with hl | hl
   · exact h3 k ⟨hl, hk.2⟩
   · omega
def Few (x : MM) (out : Int) (j R s : Nat) (m : Nat) : Prop := sq x s m = out ∧ (m < x.1.toNat ^ j ∨ m < x.1.toNat ^ (j + 1) ∧ m % x.1.toNat < R)
theorem Few.zero {x : MM} {out : Int} {j s m : Nat} : Few x out j 0 s m ↔ m < x.1.toNat ^ j ∧ sq x s m = out := by
 unfold Few
 constructor
 · rintro ⟨h1, h2 | ⟨_, h2⟩⟩
   · exact ⟨h2, h1⟩
   · omega
 · rintro ⟨h1, h2⟩; exact ⟨h2, .inl h1⟩
theorem Few.all {x : MM} (hb : 2 ≤ x.1) {out : Int} {j s m : Nat} : Few x out j x.1.toNat s m ↔ m < x.1.toNat ^ (j + 1) ∧ sq x s m = out := by
 have : x.1.toNat ^ j ≤ x.1.toNat ^ (j + 1) := Nat.pow_le_pow_right (by omega) (by omega)
 have := Nat.mod_lt m (show x.1.toNat > 0 by omega)
 unfold Few
 constructor
 · rintro ⟨h1, h2 | ⟨h2, _⟩⟩
   · exact ⟨by omega, h1⟩
   · exact ⟨h2, h1⟩
 · rintro ⟨h1, h2⟩; exact ⟨h2, .inr ⟨h1, by assumption⟩⟩
theorem Few.next {x : MM} (hx : Tame x) {out : Int} {j s R : Nat} (hs : s < x.2.1.length) (hR : (R : Int) < x.1) {now old : Int} (h1 : LstP (Few x out j R s) now) (h2 : LstP (fun m => m < x.1.toNat ^ j ∧ sq x (dM x s R) m = out) old) :
   LstP (Few x out j (R + 1) s) (if 0 ≤ old ∧ (now < 0 ∨ old * x.1 + R < now) then old * x.1 + R else now) := by
 have hb := hx.base
 have eb : ((x.1.toNat : Nat) : Int) = x.1 := by omega
 have key : ∀ m, Few x out j (R + 1) s m ↔ Few x out j R s m ∨ ∃ k, m = x.1.toNat * k + R ∧ k < x.1.toNat ^ j ∧ sq x (dM x s R) k = out := fun m => by
   have hst := sq_step hb.1 hx.zed hs m
   have hdm := Nat.div_add_mod m x.1.toNat
   unfold Few
   constructor
   · rintro ⟨g1, g2 | ⟨g2, g3⟩⟩
     · exact .inl ⟨g1, .inl g2⟩
     · rcases Nat.lt_or_ge (m % x.1.toNat) R with hl | hl
       · exact .inl ⟨g1, .inr ⟨g2, hl⟩⟩
       · have he : m % x.1.toNat = R := by omega
         refine .inr ⟨m / x.1.toNat, by omega, ?_, ?_⟩
         · rw [Nat.pow_succ] at g2
           exact Nat.div_lt_of_lt_mul (by rw [Nat.mul_comm]; exact g2)
         · rw [he] at hst; rw [← hst]; exact g1
   · rintro (⟨g1, g2 | ⟨g2, g3⟩⟩ | ⟨k, rfl, g2, g3⟩)
     · exact ⟨g1, .inl g2⟩
     · exact ⟨g1, .inr ⟨g2, by omega⟩⟩
     · have hRn : R < x.1.toNat := by omega
       have e1 : (x.1.toNat * k + R) % x.1.toNat = R := by rw [Nat.mul_add_mod, Nat.mod_eq_of_lt hRn]
       have e2 : (x.1.toNat * k + R) / x.1.toNat = k := by rw [Nat.mul_add_div (by omega), Nat.div_eq_of_lt hRn]; rfl
       rw [e1, e2] at hst
       refine ⟨by rw [hst]; exact g3, .inr ⟨?_, by omega⟩⟩
       have := Nat.mul_le_mul_left x.1.toNat (Nat.succ_le_of_lt g2)
       rw [Nat.mul_succ] at this
       rw [Nat.pow_succ, Nat.mul_comm (x.1.toNat ^ j)]
       omega
 rcases h2 with ⟨o1, o2⟩ | ⟨k, o1, o2, o3⟩
 · rw [if_neg (by omega)]
   exact h1.of fun m => ⟨fun h => (key m).2 (.inl h), fun h => ((key m).1 h).resolve_right fun ⟨k, _, k2, k3⟩ => o2 k ⟨k2, k3⟩⟩
 · have em : old * x.1 + R = ((x.1.toNat * k + R : Nat) : Int) := by rw [o1, Int.natCast_add, Int.natCast_mul, eb, Int.mul_comm]
   rw [em]
   have mono : ∀ k', k ≤ k' → x.1.toNat * k + R ≤ x.1.toNat * k' + R := fun k' h => by
     have := Nat.mul_le_mul_left x.1.toNat h
     omega
   rcases h1 with ⟨n1, n2⟩ | ⟨q, n1, n2, n3⟩
   · rw [if_pos ⟨by omega, .inl (by omega)⟩]
     refine .inr ⟨_, rfl, (key _).2 (.inr ⟨k, rfl, o2⟩), fun m hm => ?_⟩
     rcases (key m).1 hm with h | ⟨k', rfl, k2, k3⟩
     · exact absurd h (n2 m)
     · exact mono k' (o3 k' ⟨k2, k3⟩)
   · by_cases hlt : x.1.toNat * k + R < q
     · rw [if_pos ⟨by omega, .inr (by omega)⟩]
       refine .inr ⟨_, rfl, (key _).2 (.inr ⟨k, rfl, o2⟩), fun m hm => ?_⟩
       rcases (key m).1 hm with h | ⟨k', rfl, k2, k3⟩
       · have := n3 m h; omega
       · exact mono k' (o3 k' ⟨k2, k3⟩)
     · rw [if_neg (by omega)]
       refine .inr ⟨q, n1, (key _).2 (.inl n2), fun m hm => ?_⟩
       rcases (key m).1 hm with h | ⟨k', rfl, k2, k3⟩
       · exact n3 m h
       · have := mono k' (o3 k' ⟨k2, k3⟩); omega
theorem LstP.lt {x : MM} {out : Int} {j s : Nat} {v : Int} (h : LstP (fun m => m < x.1.toNat ^ j ∧ sq x s m = out) v) : v < (x.1.toNat ^ j : Nat) ∧ -1 ≤ v := by
 rcases h with ⟨h1, _⟩ | ⟨m, h1, h2, _⟩
 · omega
 · omega
theorem Few.lt {x : MM} (hb : 1 ≤ x.1.toNat) {out : Int} {j R s : Nat} {v : Int} (h : LstP (Few x out j R s) v) : v < (x.1.toNat ^ (j + 1) : Nat) ∧ -1 ≤ v := by
 have : x.1.toNat ^ j ≤ x.1.toNat ^ (j + 1) := Nat.pow_le_pow_right (by omega) (by omega)
 rcases h with ⟨h1, _⟩ | ⟨m, h1, h2, _⟩
 · omega
 · have := h2.2; omega
end Go.Pv
namespace Go.Pv
theorem pow_bound {b n : Nat} (hb : b ≤ 5) (hn : n ≤ 24) : b ^ n ≤ 59604644775390625 := by
 have h1 : b ^ n ≤ 5 ^ n := Nat.pow_le_pow_left hb n
 have h2 : 5 ^ n ≤ 5 ^ 24 := Nat.pow_le_pow_right (by omega) hn
 have h3 : (5 : Nat) ^ 24 = 59604644775390625 := by decide
 omega
def AtV (x : MM) (out : Int) (j : Nat) (v : List Int) : Prop := v.length = 12 ∧ ∀ s, s < x.2.1.length → LstP (fun m => m < x.1.toNat ^ j ∧ sq x s m = out) (v.getD s 0)
theorem init_loop {x : MM} (hx : Tame x) (N : Nat) (out : Int) {C : Type} (k0 : MM → List Int → Option C) : ∀ (F i : Nat) (v : List Int), x.2.1.length - i < F → i ≤ x.2.1.length → v.length = 12 → (∀ s, s < i → v.getD s 0 = if oM x s = out then 0 else -1) →
   ∃ v', AtV x out 0 v' ∧ g26L250f N F k0 out (x.2.1.length : Int) (i : Int) x v = k0 x v'
 | 0, i, v, hF, _, _, _ => by omega
 | F + 1, i, v, hF, hi, hl, hall => by
   rw [g26L250f_succ]
   unfold g26L250B
   have hm := hx.many
   by_cases hlt : i < x.2.1.length
   · rw [decide_eq_true (show (i : Int) < (x.2.1.length : Int) by omega), cond_true, if_pos (⟨by omega, by omega⟩ : idx (i : Int) 12), if_pos (⟨by omega, by omega⟩ : idx (i : Int) x.2.1.length), Int.toNat_natCast, wn i (by omega)]
     by_cases ho : oM x i = out
     · have e : ieq (x.2.1.getD i 0) out = true := by simp only [ieq, decide_eq_true_eq]; exact ho
       rw [e, cond_true, if_pos (⟨by omega, by omega⟩ : idx (i : Int) 12)]
       refine init_loop hx N out k0 F (i + 1) _ (by omega) (by omega) (by simp [hl]) fun s hs => ?_
       rw [getD_set _ (by rw [List.length_set]; omega)]
       by_cases hsi : i = s
       · subst hsi; rw [if_pos rfl, if_pos ho]
       · rw [if_neg hsi, getD_set _ (by omega), if_neg hsi, hall s (by omega)]
     · have e : ieq (x.2.1.getD i 0) out = false := by simp only [ieq, decide_eq_false_iff_not]; exact ho
       rw [e, cond_false]
       refine init_loop hx N out k0 F (i + 1) _ (by omega) (by omega) (by simp [hl]) fun s hs => ?_
       rw [getD_set _ (by omega)]
       by_cases hsi : i = s
       · subst hsi; rw [if_pos rfl, if_neg ho]
       · rw [if_neg hsi, hall s (by omega)]
   · rw [decide_eq_false (show ¬ (i : Int) < (x.2.1.length : Int) by omega), cond_false]
     refine ⟨v, ⟨hl, fun s hs => ?_⟩, rfl⟩
     rw [hall s (by omega)]
     by_cases ho : oM x s = out
     · rw [if_pos ho]
       exact .inr ⟨0, rfl, ⟨by simp, by rw [sq_zero]; exact ho⟩, fun m _ => Nat.zero_le m⟩
     · rw [if_neg ho]
       refine .inl ⟨rfl, fun m hm => ?_⟩
       have : m = 0 := by have := hm.1; simp at this; exact this
       subst this
       rw [sq_zero] at hm
       exact ho hm.2
theorem dig_loop {x : MM} (hx : Tame x) (N : Nat) {out : Int} {j s : Nat} (hj : j < 12) (hs : s < x.2.1.length) {old : List Int} (hO : AtV x out j old) {C : Type} (k0 : Int → Int → List (List Int) → Int → Int → MM → List Int → List Int → Option C) (a i c : Int) :
   ∀ (F r : Nat) (now : List Int), x.1.toNat - r < F → (r : Int) ≤ x.1 → now.length = 12 → LstP (Few x out j r s) (now.getD s 0) →
     ∃ now', now'.length = 12 ∧ LstP (Few x out j x.1.toNat s) (now'.getD s 0) ∧ (∀ t, t ≠ s → now'.getD t 0 = now.getD t 0) ∧
       g26L66374246f N F k0 (s : Int) a i x.2.2.1 c (s : Int) (x.2.2.1.getD s []) x.1 (r : Int) x old now = k0 a i x.2.2.1 c (s : Int) x old now'
 | 0, r, now, hF, hr, _, _ => by omega
 | F + 1, r, now, hF, hr, hl, hL => by
   rw [g26L66374246f_succ]
   unfold g26L66374246B
   have hm := hx.many; have hb := hx.base
   have hw := hx.wm
   have hrow := hw.row s hs
   by_cases hlt : (r : Int) < x.1
   · have hat := hw.at hs hlt
     have hO1 := hO.2 (dM x s r) hat.2
     have hlo := hO1.lt
     have hln := Few.lt (x := x) (by omega) hL
     have hp1 := pow_bound (b := x.1.toNat) (n := j) (by omega) (by omega)
     have hp2 := pow_bound (b := x.1.toNat) (n := j + 1) (by omega) (by omega)
     have hnx := Few.next hx hs hlt hL hO1
     rw [decide_eq_true hlt, cond_true, if_pos (⟨by omega, by omega⟩ : idx (r : Int) (x.2.2.1.getD s []).length)]
     simp only [Int.toNat_natCast, hat.1]
     rw [if_pos (⟨by omega, by omega⟩ : idx ((dM x s r : Nat) : Int) 12), if_pos (⟨by omega, by omega⟩ : idx ((dM x s r : Nat) : Int) 12), wn r (by omega)]
     by_cases h0 : 0 ≤ old.getD (dM x s r) 0
     · have hmul : old.getD (dM x s r) 0 * x.1 ≤ 59604644775390625 * 5 := Int.mul_le_mul (by omega) (by omega) (by omega) (by omega)
       have hmul0 : 0 ≤ old.getD (dM x s r) 0 * x.1 := Int.mul_nonneg h0 (by omega)
       have e1 : IntKind.wrap .i64 ((IntKind.wrap .i64 (old.getD (dM x s r) 0 * x.1)) + (r : Int)) = old.getD (dM x s r) 0 * x.1 + (r : Int) := by
         rw [w64 (x := old.getD (dM x s r) 0 * x.1) (by omega) (by omega), w64 (by omega) (by omega)]
       have next : ∀ now2 : List Int, now2.length = 12 → LstP (Few x out j (r + 1) s) (now2.getD s 0) → (∀ t, t ≠ s → now2.getD t 0 = now.getD t 0) →
           ∃ now', now'.length = 12 ∧ LstP (Few x out j x.1.toNat s) (now'.getD s 0) ∧ (∀ t, t ≠ s → now'.getD t 0 = now.getD t 0) ∧ g26L66374246f N F k0 (s : Int) a i x.2.2.1 c (s : Int) (x.2.2.1.getD s []) x.1 ((r + 1 : Nat) : Int) x old now2 = k0 a i x.2.2.1 c (s : Int) x old now' := by
         intro now2 g1 g2 g3
         obtain ⟨now', n1, n2, n3, n4⟩ := dig_loop hx N hj hs hO k0 a i c F (r + 1) now2 (by omega) (by omega) g1 g2
         exact ⟨now', n1, n2, fun t ht => (n3 t ht).trans (g3 t ht), n4⟩
       have hset : ∀ v : Int, (now.set s v).getD s 0 = v := fun v => by rw [getD_set _ (by omega), if_pos rfl]
       have hsetn : ∀ v : Int, ∀ t, t ≠ s → (now.set s v).getD t 0 = now.getD t 0 := fun v t ht => by rw [getD_set _ (by omega), if_neg (fun e => ht e.symm)]
       rw [decide_eq_true h0, cond_true, if_pos (⟨by omega, by omega⟩ : idx (s : Int) 12), e1]
       by_cases hn0 : now.getD s 0 < 0
       · rw [decide_eq_true hn0, cond_true, if_pos (⟨by omega, by omega⟩ : idx (s : Int) 12)]
         rw [if_pos ⟨h0, .inl hn0⟩] at hnx
         exact next _ (by simp [hl]) (by rw [hset]; exact hnx) (hsetn _)
       · rw [decide_eq_false hn0, cond_false, if_pos (⟨by omega, by omega⟩ : idx (s : Int) 12)]
         by_cases hlt2 : old.getD (dM x s r) 0 * x.1 + (r : Int) < now.getD s 0
         · rw [decide_eq_true hlt2, cond_true, if_pos (⟨by omega, by omega⟩ : idx (s : Int) 12)]
           rw [if_pos ⟨h0, .inr hlt2⟩] at hnx
           exact next _ (by simp [hl]) (by rw [hset]; exact hnx) (hsetn _)
         · rw [decide_eq_false hlt2, cond_false]
           rw [if_neg (by omega)] at hnx
           exact next _ hl hnx (fun _ _ => rfl)
     · rw [decide_eq_false h0, cond_false]
       rw [if_neg (fun h => h0 h.1)] at hnx
       exact dig_loop hx N hj hs hO k0 a i c F (r + 1) now (by omega) (by omega) hl hnx
   · rw [decide_eq_false hlt, cond_false]
     have : r = x.1.toNat := by omega
     subst this
     exact ⟨now, hl, hL, fun _ _ => rfl, rfl⟩
theorem st_loop {x : MM} (hx : Tame x) (N : Nat) (hN : 100 < N) {out : Int} {j : Nat} (hj : j < 12) {old : List Int} (hO : AtV x out j old) {C : Type} (k0 : Int → Int → MM → List Int → List Int → Option C) (a i : Int) :
   ∀ (F s : Nat) (now : List Int), x.2.1.length - s < F → s ≤ x.2.1.length → now.length = 12 → (∀ t, t < s → LstP (fun m => m < x.1.toNat ^ (j + 1) ∧ sq x t m = out) (now.getD t 0)) → (∀ t, s ≤ t → now.getD t 0 = old.getD t 0) →
     ∃ now', AtV x out (j + 1) now' ∧ g26L259274f N F k0 a i x.2.2.1 (x.2.1.length : Int) (s : Int) x old now = k0 a i x old now'
 | 0, s, now, hF, _, _, _, _ => by omega
 | F + 1, s, now, hF, hs, hl, hd, hu => by
   rw [g26L259274f_succ]
   unfold g26L259274B
   have hm := hx.many; have hb := hx.base
   have hw := hx.wm
   have hnx := hx.next
   by_cases hlt : s < x.2.1.length
   · have hrow := hw.row s hlt
     rw [decide_eq_true (show (s : Int) < (x.2.1.length : Int) by omega), cond_true, if_pos (⟨by omega, by omega⟩ : idx (s : Int) x.2.2.1.length), Int.toNat_natCast, hrow, g26L66374246_eq]
     obtain ⟨now', n1, n2, n3, n4⟩ := dig_loop hx N hj hlt hO (fun e5 e6 e7 e8 e9 e10 e11 e12 => (g26L259274f N F k0 e5 e6 e7 e8 (IntKind.wrap .i64 (e9 + 1)) e10 e11 e12)) a i (x.2.1.length : Int) N 0 now (by omega) (by omega) hl (by
       rw [hu s (Nat.le_refl _)]
       exact (hO.2 s hlt).of fun m => Few.zero.symm)
     simp only [Int.natCast_zero] at n4
     refine (show _ = _ from n4) ▸ ?_
     rw [wn s (by omega)]
     exact st_loop hx N hN hj hO k0 a i F (s + 1) now' (by omega) (by omega) n1 (fun t ht => by
       by_cases hts : t = s
       · subst hts
         exact n2.of fun m => Few.all hb.1
       · rw [n3 t hts]; exact hd t (by omega)) (fun t ht => by rw [n3 t (by omega)]; exact hu t (by omega))
   · rw [decide_eq_false (show ¬ (s : Int) < (x.2.1.length : Int) by omega), cond_false]
     exact ⟨now, ⟨hl, fun t ht => hd t (by omega)⟩, rfl⟩
theorem rd_loop {x : MM} (hx : Tame x) (N : Nat) (hN : 100 < N) {out : Int} {C : Type} (k0 : MM → List Int → Option C) :
   ∀ (F i : Nat) (v : List Int), x.2.1.length - i < F → i ≤ x.2.1.length → AtV x out i v → ∃ v', AtV x out x.2.1.length v' ∧ g26L506f N F k0 (x.2.1.length : Int) (i : Int) x v = k0 x v'
 | 0, i, v, hF, _, _ => by omega
 | F + 1, i, v, hF, hi, hv => by
   rw [g26L506f_succ]
   unfold g26L506B
   have hm := hx.many
   by_cases hlt : i < x.2.1.length
   · rw [decide_eq_true (show (i : Int) < (x.2.1.length : Int) by omega), cond_true, hx.next, g26L259274_eq]
     obtain ⟨v2, h1, h2⟩ := st_loop hx N hN (j := i) (by omega) hv (fun e13 e14 e15 e16 e17 => (g26L506f N F k0 e13 (IntKind.wrap .i64 (e14 + 1)) e15 e17)) (x.2.1.length : Int) (i : Int) N 0 v (by omega) (by omega) hv.1 (fun t ht => by omega) (fun t _ => rfl)
     simp only [Int.natCast_zero] at h2
     refine (show _ = _ from h2) ▸ ?_
     rw [wn i (by omega)]
     exact rd_loop hx N hN k0 F (i + 1) v2 (by omega) (by omega) h1
   · have : i = x.2.1.length := by omega
     subst this
     rw [decide_eq_false (by omega), cond_false]
     exact ⟨v, hv, rfl⟩
theorem ever26 {x : MM} (hx : Tame x) {out : Int} (ho : 0 ≤ out ∧ out ≤ 9) : ∃ v, LstP (fun m => m < x.1.toNat ^ x.2.1.length ∧ sq x 0 m = out) v ∧ g26 2000 x out = some (imax v 0, decide (0 ≤ v), 0, ()) := by
 have hm := hx.many
 unfold g26
 rw [hx.check 2000 (by omega)]
 simp only [Option.bind_some]
 rw [show (!ieq (0 : Int) 0) = false from rfl, cond_false, are_eq 2000 0 9 [out] (by simp) (by simp)]
 simp only [Option.bind_some]
 rw [show (List.all [out] fun x => decide (0 ≤ x) && decide (x ≤ 9)) = true by simp; omega, Bool.not_true, cond_false, g26L250_eq]
 obtain ⟨v1, a1, a2⟩ := init_loop hx 2000 out (fun e3 e4 => g26L506 2000 (fun e18 e19 => if idx 0 12 then if idx 0 12 then some ((imax (List.getD e19 (Int.toNat 0) 0) 0), (decide ((0 : Int) ≤ (List.getD e19 (Int.toNat 0) 0))), (0 : Int), ()) else none else none) ((List.length e3.2.1 : Nat) : Int) 0 e3 e4) 2000 0 (List.replicate 12 0) (by omega) (by omega) (by simp) (fun s hs => by omega)
 simp only [Int.natCast_zero] at a2
 rw [a2, g26L506_eq]
 obtain ⟨v2, b1, b2⟩ := rd_loop hx 2000 (by omega) (fun e18 e19 => if idx 0 12 then if idx 0 12 then some ((imax (List.getD e19 (Int.toNat 0) 0) 0), (decide ((0 : Int) ≤ (List.getD e19 (Int.toNat 0) 0))), (0 : Int), ()) else none else none) 2000 0 v1 (by omega) (by omega) a1
 simp only [Int.natCast_zero] at b2
 refine ⟨v2.getD 0 0, b1.2 0 (by omega), ?_⟩
 refine Eq.trans b2 ?_
 rw [if_pos (⟨by omega, by omega⟩ : idx 0 12), if_pos (⟨by omega, by omega⟩ : idx 0 12)]
 rfl
theorem ever26_bad {x : MM} (hx : Tame x) {out : Int} (ho : out < 0 ∨ 9 < out) : g26 2000 x out = some (0, false, 1, ()) := by
 unfold g26
 rw [hx.check 2000 (by omega)]
 simp only [Option.bind_some]
 rw [show (!ieq (0 : Int) 0) = false from rfl, cond_false, are_eq 2000 0 9 [out] (by simp) (by simp)]
 simp only [Option.bind_some]
 have : (List.all [out] fun x => decide (0 ≤ x) && decide (x ≤ 9)) = false := by
   cases h : (List.all [out] fun x => decide (0 ≤ x) && decide (x ≤ 9)) with
   | false => rfl
   | true => simp at h; omega
 rw [this, Bool.not_false, cond_true]
end Go.Pv
namespace Go.Pv
theorem getB_set2 {l : List Bool} {i : Nat} (v : Bool) (h : i < l.length) (j : Nat) : (l.set i v).getD j false = if i = j then v else l.getD j false := by
 rw [List.getD_eq_getElem?_getD, List.getD_eq_getElem?_getD, List.getElem?_set]
 split
 · rename_i e; subst e; simp [h]
 · rfl
theorem dec_fuel {n s F : Nat} (h : n - s < F + 1) (hlt : s < n) : n - (s + 1) < F := by omega
theorem rowOf_map {α : Type} (R : List (List α)) {i : Nat} (h : i < R.length) : rowOf (R.map some) i = some (R.getD i []) := by
 unfold rowOf
 rw [List.getElem?_map, List.getElem?_eq_getElem h, getD_of h]; rfl
theorem idAt_map {α : Type} (R : List (List α)) {i : Nat} (h : i < R.length) : idAt (List.range R.length) (R.map some) i = some i := by
 unfold idAt
 rw [List.getElem?_range h]
 simp only
 rw [rowOf_map R h]
theorem gridAll_map {α : Type} (R : List (List α)) : gridAll (R.map some) (List.range R.length) = some R := by
 have key : ∀ l : List Nat, (∀ i ∈ l, i < R.length) → gridAll (R.map some) l = some (l.map fun i => R.getD i []) := by
   intro l
   induction l with
   | nil => intro _; rfl
   | cons i l ih =>
     intro h
     unfold gridAll
     rw [rowOf_map R (h i (by simp)), Option.bind_some, ih (fun j hj => h j (by simp [hj])), Option.bind_some]; rfl
 rw [key _ (fun i hi => List.mem_range.1 hi)]
 congr 1
 refine List.ext_getElem (by simp) fun i h1 h2 => ?_
 rw [List.getElem_map, List.getElem_range, getD_of h2]
def SetOk (x : MM) (i : Nat) (S : List Bool) : Prop := S.length = x.2.1.length ∧ ∀ s, s < x.2.1.length → (S.getD s false = true ↔ ∃ w, w.length = i ∧ okW x w ∧ go x 0 w = s)
theorem goal_loop {x : MM} (hx : Tame x) (N : Nat) {C : Type} (k0 : List (List Bool) → Int → Int → MM → List Bool → Option C) (R : List (List Bool)) (j out : Int) :
   ∀ (F s : Nat) (g : List Bool), x.2.1.length - s < F → s ≤ x.2.1.length → g.length = x.2.1.length → (∀ t, t < s → g.getD t false = ieq (oM x t) out) →
     ∃ g', g'.length = x.2.1.length ∧ (∀ t, t < x.2.1.length → g'.getD t false = ieq (oM x t) out) ∧ g68L122f N F k0 R j out (x.2.1.length : Int) (s : Int) x g = k0 R j (x.2.1.length : Int) x g'
 | 0, s, g, hF, _, _, _ => by omega
 | F + 1, s, g, hF, hs, hl, hall => by
   rw [g68L122f_succ]
   unfold g68L122B
   have hm := hx.many
   by_cases hlt : s < x.2.1.length
   · rw [decide_eq_true (show (s : Int) < (x.2.1.length : Int) by omega), cond_true, if_pos (⟨by omega, by omega⟩ : idx (s : Int) x.2.1.length), if_pos (⟨by omega, by omega⟩ : idx (s : Int) g.length), Int.toNat_natCast, if_pos (by omega), wn s (by omega)]
     refine goal_loop hx N k0 R j out F (s + 1) _ (by omega) (by omega) (by simp [hl]) fun t ht => ?_
     rw [getB_set2 _ (by omega)]
     by_cases hts : s = t
     · subst hts; rw [if_pos rfl]; rfl
     · rw [if_neg hts]; exact hall t (by omega)
   · rw [decide_eq_false (show ¬ (s : Int) < (x.2.1.length : Int) by omega), cond_false]
     exact ⟨g, hl, fun t ht => hall t (by omega), rfl⟩
def GoalOk (x : MM) (out : Int) (u : List Nat) (g : List Bool) : Prop := g.length = x.2.1.length ∧ ∀ s, s < x.2.1.length → (g.getD s false = true ↔ oM x (go x s u) = out)
theorem before_loop {x : MM} (hx : Tame x) (N : Nat) {out : Int} {u : List Nat} {g : List Bool} (hg : GoalOk x out u g) {R : List (List Bool)} {j : Nat} (hj : j < R.length) (hj2 : j ≤ 12) (hS : SetOk x j (R.getD j [])) {r : Nat} (hr : (r : Int) < x.1) {C : Type} (k0 : List (List Bool) → Int → Int → List Bool → Int → Int → Bool → MM → List Bool → Option C) (v : Int) :
   ∀ (F s : Nat) (f : Bool) (b : List Bool), x.2.1.length - s < F → s ≤ x.2.1.length → b.length = x.2.1.length → (∀ t, t < s → (b.getD t false = true ↔ oM x (go x t (r :: u)) = out)) → (f = true ↔ ∃ t, t < s ∧ oM x (go x t (r :: u)) = out ∧ (R.getD j []).getD t false = true) →
     ∃ f' b', GoalOk x out (r :: u) b' ∧ (f' = true ↔ ∃ t, t < x.2.1.length ∧ oM x (go x t (r :: u)) = out ∧ (R.getD j []).getD t false = true) ∧
       g68L8266906f N F k0 R ((j + 1 : Nat) : Int) (x.2.1.length : Int) g v (r : Int) f (s : Int) x b = k0 R ((j + 1 : Nat) : Int) (x.2.1.length : Int) g v (r : Int) f' x b'
 | 0, s, f, b, hF, _, _, _, _ => by omega
 | F + 1, s, f, b, hF, hs, hl, hb, hf => by
   rw [g68L8266906f_succ]
   unfold g68L8266906B
   have hm := hx.many
   have hw := hx.wm
   have hnx := hx.next
   by_cases hlt : s < x.2.1.length
   · have hat := hw.at hlt hr
     have hrow := hw.row s hlt
     have hgl := hg.1
     rw [decide_eq_true (show (s : Int) < (x.2.1.length : Int) by omega), cond_true, if_pos (⟨by omega, by omega⟩ : idx (s : Int) x.2.2.1.length), if_pos (⟨by omega, by rw [Int.toNat_natCast]; omega⟩ : idx (r : Int) (x.2.2.1.getD (Int.toNat (s : Int)) []).length)]
     simp only [Int.toNat_natCast, hat.1]
     rw [if_pos (⟨by omega, by omega⟩ : idx ((dM x s r : Nat) : Int) g.length), if_pos (⟨by omega, by omega⟩ : idx (s : Int) b.length), if_pos (by omega), wn s (by omega)]
     generalize hv : g.getD (dM x s r) false = c
     have hc : c = true ↔ oM x (go x s (r :: u)) = out := by rw [← hv]; exact hg.2 _ hat.2
     have hl2 : (b.set s c).length = x.2.1.length := by rw [List.length_set]; exact hl
     have hs2 : (b.set s c).getD s false = c := by rw [getB_set2 _ (by omega), if_pos rfl]
     have hb2 : ∀ t, t < s + 1 → ((b.set s c).getD t false = true ↔ oM x (go x t (r :: u)) = out) := fun t ht => by
       rw [getB_set2 _ (by omega)]
       by_cases hts : s = t
       · subst hts; rw [if_pos rfl]; exact hc
       · rw [if_neg hts]; exact hb t (by omega)
     cases f with
     | true =>
       rw [cond_true]
       obtain ⟨t0, t1, t2, t3⟩ := hf.1 rfl
       exact before_loop hx N hg hj hj2 hS hr k0 v F (s + 1) true _ (dec_fuel hF hlt) hlt hl2 hb2 ⟨fun _ => ⟨t0, by omega, t2, t3⟩, fun _ => rfl⟩
     | false =>
       have hnf : ∀ t, t < s → ¬ (oM x (go x t (r :: u)) = out ∧ (R.getD j []).getD t false = true) := fun t ht h => by
         have := hf.2 ⟨t, ht, h.1, h.2⟩
         cases this
       have ejj : IntKind.wrap .i64 (((j + 1 : Nat) : Int) - 1) = (j : Int) := by rw [w64 (by omega) (by omega)]; omega
       have hSl := hS.1
       rw [cond_false, if_pos (⟨by omega, by omega⟩ : idx (s : Int) (b.set s c).length), if_pos (by omega), hs2, ejj]
       cases c with
       | true =>
         rw [cond_true, if_pos (⟨by omega, by omega⟩ : idx (j : Int) R.length), Int.toNat_natCast, if_pos (⟨by omega, by omega⟩ : idx (s : Int) (R.getD j []).length)]
         refine before_loop hx N hg hj hj2 hS hr k0 v F (s + 1) _ _ (dec_fuel hF hlt) hlt hl2 hb2 ⟨fun h => ⟨s, by omega, hc.1 rfl, h⟩, fun h => ?_⟩
         obtain ⟨t, t1, t2, t3⟩ := h
         by_cases hts : t = s
         · subst hts; exact t3
         · exact absurd ⟨t2, t3⟩ (hnf t (by omega))
       | false =>
         rw [cond_false]
         refine before_loop hx N hg hj hj2 hS hr k0 v F (s + 1) false _ (dec_fuel hF hlt) hlt hl2 hb2 ⟨fun h => (by cases h), fun h => ?_⟩
         obtain ⟨t, t1, t2, t3⟩ := h
         by_cases hts : t = s
         · subst hts; have := hc.2 t2; cases this
         · exact absurd ⟨t2, t3⟩ (hnf t (by omega))
   · rw [decide_eq_false (show ¬ (s : Int) < (x.2.1.length : Int) by omega), cond_false]
     have : s = x.2.1.length := by omega
     subst this
     exact ⟨f, b, ⟨hl, hb⟩, hf, rfl⟩
theorem found_iff {x : MM} (hx : Tame x) {out : Int} {u : List Nat} {j r : Nat} {S : List Bool} (hS : SetOk x j S) : (∃ t, t < x.2.1.length ∧ oM x (go x t (r :: u)) = out ∧ S.getD t false = true) ↔ ∃ w, w.length = j ∧ okW x w ∧ oM x (go x 0 (w ++ r :: u)) = out := by
 constructor
 · rintro ⟨t, t1, t2, t3⟩
   obtain ⟨w, w1, w2, w3⟩ := (hS.2 t t1).1 t3
   exact ⟨w, w1, w2, by rw [go_append, w3]; exact t2⟩
 · rintro ⟨w, w1, w2, w3⟩
   have hl := go_lt hx.wm w 0 hx.many.1 w2
   refine ⟨go x 0 w, hl, by rw [go_append] at w3; exact w3, (hS.2 _ hl).2 ⟨w, w1, w2, rfl⟩⟩
theorem digit_loop {x : MM} (hx : Tame x) (N : Nat) (hN : 100 < N) {out : Int} {J j : Nat} {u : List Nat} (hB : BackI x out J (j + 1) u) (hJ : J ≤ 12) {g : List Bool} (hg : GoalOk x out u g) {R : List (List Bool)} (hj : j < R.length) (hS : SetOk x j (R.getD j [])) {C : Type}
   (k0 : List (List Bool) → Int → Int → Int → MM → List Bool → Option C) (k1 : List (List Bool) → Int → Int → List Bool → Int → MM → Option C) :
   ∀ (F r : Nat), x.1.toNat - r < F → (r : Int) ≤ x.1 → (∀ q, q < r → ¬ ∃ w, w.length = j ∧ okW x w ∧ oM x (go x 0 (w ++ q :: u)) = out) →
     ∃ r' g', BackI x out J j (r' :: u) ∧ GoalOk x out (r' :: u) g' ∧ g68L16146f N F k0 k1 R ((j + 1 : Nat) : Int) (x.2.1.length : Int) g (val x.1.toNat u : Int) (r : Int) x = k0 R ((j + 1 : Nat) : Int) (x.2.1.length : Int) (val x.1.toNat (r' :: u) : Int) x g'
 | 0, r, hF, hr, _ => by omega
 | F + 1, r, hF, hr, hno => by
   rw [g68L16146f_succ]
   unfold g68L16146B
   have hm := hx.many; have hb := hx.base
   have hlen := hB.len
   by_cases hlt : (r : Int) < x.1
   · have hr1 : ((r + 1 : Nat) : Int) ≤ x.1 := by omega
     have hrF : x.1.toNat - (r + 1) < F := by omega
     have hwn : IntKind.wrap .i64 ((r : Int) + 1) = ((r + 1 : Nat) : Int) := wn r (by omega)
     rw [decide_eq_true hlt, cond_true, if_pos (⟨rfl, by omega, by omega⟩ : mkOk _ _), g68L8266906_eq]
     obtain ⟨f', b', h1, h2, h3⟩ := before_loop hx N hg hj (by omega) hS hlt (fun e6 e7 e8 e9 e10 e11 e12 e13 e14 => bif e12 then (k0 e6 e7 e8 (IntKind.wrap .i64 ((IntKind.wrap .i64 (e10 * e13.1)) + e11)) e13 e14) else (g68L16146f N F k0 k1 e6 e7 e8 e9 e10 (IntKind.wrap .i64 (e11 + 1)) e13)) (val x.1.toNat u : Int) N 0 false (List.replicate (Int.toNat ((x.2.1.length : Nat) : Int)) false) (by omega) (by omega) (by simp) (fun t ht => by omega) ⟨fun h => (by cases h), fun h => (by obtain ⟨t, ht, _⟩ := h; omega)⟩
     simp only [Int.natCast_zero] at h3
     have h2' := h2.trans (found_iff hx hS)
     cases f' with
     | true =>
       have hvl := val_lt (b := x.1.toNat) (by omega) u ((okW_nat (by omega)).1 hB.ok)
       have hp := pow_bound (b := x.1.toNat) (n := u.length) (by omega) (by omega)
       have ev : IntKind.wrap .i64 ((IntKind.wrap .i64 ((val x.1.toNat u : Int) * x.1)) + (r : Int)) = (val x.1.toNat (r :: u) : Int) := by
         have e1 : (val x.1.toNat u : Int) * x.1 = ((val x.1.toNat u * x.1.toNat : Nat) : Int) := by rw [Int.natCast_mul]; congr 1; omega
         have e2 : val x.1.toNat u * x.1.toNat ≤ 59604644775390625 * 5 := Nat.mul_le_mul (by omega) (by omega)
         rw [e1, w64 (x := ((val x.1.toNat u * x.1.toNat : Nat) : Int)) (by omega) (by omega), w64 (by omega) (by omega)]
         simp only [val]
         rw [Nat.mul_comm]
         omega
       refine ⟨r, b', hB.step hb.1 hlt (h2'.1 rfl) hno, h1, ?_⟩
       refine Eq.trans h3 ?_
       rw [cond_true, ev]
     | false =>
       have hr2 : ¬ ∃ w, w.length = j ∧ okW x w ∧ oM x (go x 0 (w ++ r :: u)) = out := fun h => by have := h2'.2 h; cases this
       obtain ⟨r', g', g1, g2, g3⟩ := digit_loop hx N hN hB hJ hg hj hS k0 k1 F (r + 1) hrF hr1 (fun q hq => by
         by_cases hqr : q = r
         · subst hqr; exact hr2
         · exact hno q (by omega))
       refine ⟨r', g', g1, g2, ?_⟩
       refine Eq.trans h3 ?_
       rw [cond_false, hwn]
       exact g3
   · exfalso
     obtain ⟨r0, q1, q2⟩ := hB.some
     exact hno r0 (by omega) q2
theorem back_loop68 {x : MM} (hx : Tame x) (N : Nat) (hN : 100 < N) {out : Int} {J : Nat} (hJ : J ≤ 12) {R : List (List Bool)} (hR : J < R.length) (hS : ∀ i, i < R.length → SetOk x i (R.getD i [])) {C : Type} (k0 : Int → MM → Option C) :
   ∀ (F j : Nat) (u : List Nat) (g : List Bool), j < F → BackI x out J j u → GoalOk x out u g → ∃ u', BackI x out J 0 u' ∧ g68L252f N F k0 R (j : Int) (x.2.1.length : Int) g (val x.1.toNat u : Int) x = k0 (val x.1.toNat u' : Int) x
 | 0, j, u, g, hF, _, _ => by omega
 | F + 1, j, u, g, hF, hB, hg => by
   rw [g68L252f_succ]
   unfold g68L252B
   have hlen := hB.len
   cases j with
   | zero =>
     rw [decide_eq_false (show ¬ (0 : Int) < ((0 : Nat) : Int) by omega), cond_false]
     exact ⟨u, hB, rfl⟩
   | succ j =>
     rw [decide_eq_true (show (0 : Int) < ((j + 1 : Nat) : Int) by omega), cond_true, g68L16146_eq]
     obtain ⟨r', g', g1, g2, g3⟩ := digit_loop hx N hN hB hJ hg (R := R) (j := j) (by omega) (hS j (by omega)) (fun e15 e16 e17 e18 e19 e20 => (g68L252f N F k0 e15 (IntKind.wrap .i64 (e16 - 1)) e17 e20 e18 e19)) (fun e21 e22 e23 e24 e25 e26 => (g68L252f N F k0 e21 (IntKind.wrap .i64 (e22 - 1)) e23 e24 e25 e26)) N 0 (by have := hx.base; omega) (by have := hx.base; omega) (fun q hq => by omega)
     simp only [Int.natCast_zero] at g3
     obtain ⟨u', h1, h2⟩ := back_loop68 hx N hN hJ hR hS k0 F j (r' :: u) g' (by omega) g1 g2
     refine ⟨u', h1, ?_⟩
     refine Eq.trans g3 ?_
     rw [w64 (by omega) (by omega), show ((j + 1 : Nat) : Int) - 1 = (j : Int) by omega]
     exact h2
theorem back68 {x : MM} (hx : Tame x) {out : Int} {J : Nat} (hJ : J ≤ 12) {R : List (List Bool)} (hR : J < R.length) (hS : ∀ i, i < R.length → SetOk x i (R.getD i [])) (hw : ∃ w, w.length = J ∧ okW x w ∧ oM x (go x 0 w) = out) :
   ∃ v : Nat, LstP (fun m => m < x.1.toNat ^ J ∧ sq x 0 m = out) (v : Int) ∧ g68 2000 x R (J : Int) out = some (v : Int) := by
 have hm := hx.many
 unfold g68
 rw [if_pos (⟨rfl, by omega, by omega⟩ : mkOk _ _), g68L122_eq]
 obtain ⟨g', a1, a2, a3⟩ := goal_loop hx 2000 (fun e1 e2 e3 e4 e5 => g68L252 2000 (fun e27 e28 => some e27) e1 e2 e3 e5 0 e4) R (J : Int) out 2000 0 (List.replicate (Int.toNat ((x.2.1.length : Nat) : Int)) false) (by omega) (by omega) (by simp) (fun t ht => by omega)
 simp only [Int.natCast_zero] at a3
 rw [a3, g68L252_eq]
 obtain ⟨w, w1, w2, w3⟩ := hw
 obtain ⟨u', b1, b2⟩ := back_loop68 (out := out) hx 2000 (by omega) hJ hR hS (fun e27 e28 => some e27) 2000 J [] g' (by omega) ⟨by simp, okW_nil x, ⟨w, w1, w2, by rw [List.append_nil]; exact w3⟩, fun w h1 _ _ => by simp [val]⟩ ⟨a1, fun s hs => by rw [a2 s hs]; simp only [ieq, decide_eq_true_eq]; rfl⟩
 exact ⟨_, b1.lst hx, b2⟩
theorem in_loop {x : MM} (hx : Tame x) (N : Nat) {R : List (List Bool)} {j s : Nat} (hR : R.length = j + 1) (hj : j ≤ 12) (hs : s < x.2.1.length) (hl : (R.getD j []).length = x.2.1.length) {C : Type} (k0 : Int → Int → Int → Bool → Int → MM → List Nat → List (Option (List Bool)) → List Bool → Option C) (out : Int) (f : Bool) (P : Nat → Prop) :
   ∀ (F r : Nat) (nx : List Bool), x.1.toNat - r < F → (r : Int) ≤ x.1 → nx.length = x.2.1.length → (∀ t, t < x.2.1.length → (nx.getD t false = true ↔ P t ∨ ((R.getD j []).getD s false = true ∧ ∃ q : Nat, q < r ∧ dM x s q = t))) →
     ∃ nx', nx'.length = x.2.1.length ∧ (∀ t, t < x.2.1.length → (nx'.getD t false = true ↔ P t ∨ ((R.getD j []).getD s false = true ∧ ∃ q : Nat, (q : Int) < x.1 ∧ dM x s q = t))) ∧
       g28L33180966f N F k0 out (x.2.1.length : Int) (j : Int) f (s : Int) (r : Int) x (List.range R.length) (R.map some) nx = k0 out (x.2.1.length : Int) (j : Int) f (s : Int) x (List.range R.length) (R.map some) nx'
 | 0, r, nx, hF, hr, _, _ => by omega
 | F + 1, r, nx, hF, hr, hn, hP => by
   rw [g28L33180966f_succ]
   unfold g28L33180966B
   have hm := hx.many; have hb := hx.base
   have hw := hx.wm
   have hnx := hx.next
   by_cases hlt : (r : Int) < x.1
   · have hat := hw.at hs hlt
     have hrow := hw.row s hs
     rw [decide_eq_true hlt, cond_true, if_pos (⟨by omega, by rw [List.length_range]; omega⟩ : idx (j : Int) (List.range R.length).length), Int.toNat_natCast, idAt_map R (by omega)]
     simp only [Option.bind_some]
     rw [rowOf_map R (by omega)]
     simp only [Option.bind_some]
     rw [if_pos (⟨by omega, by omega⟩ : idx (s : Int) (R.getD j []).length), Int.toNat_natCast, if_pos (by omega)]
     by_cases hc : (R.getD j []).getD s false = true
     · rw [hc, cond_true, if_pos (⟨by omega, by omega⟩ : idx (s : Int) x.2.2.1.length), if_pos (⟨by omega, by omega⟩ : idx (r : Int) (x.2.2.1.getD s []).length), Int.toNat_natCast, hat.1, if_pos (⟨by omega, by omega⟩ : idx ((dM x s r : Nat) : Int) nx.length), Int.toNat_natCast, if_pos (by omega), wn r (by omega)]
       have ih := in_loop hx N hR hj hs hl k0 out f P F (r + 1) (nx.set (dM x s r) true) (by omega) (by omega) (by simp [hn]) fun t ht => by
         rw [getB_set2 _ (by omega)]
         by_cases htd : dM x s r = t
         · rw [if_pos htd]
           exact ⟨fun _ => .inr ⟨hc, r, by omega, htd⟩, fun _ => rfl⟩
         · rw [if_neg htd, hP t ht]
           constructor
           · rintro (h | ⟨h1, q, q1, q2⟩)
             · exact .inl h
             · exact .inr ⟨h1, q, by omega, q2⟩
           · rintro (h | ⟨h1, q, q1, q2⟩)
             · exact .inl h
             · by_cases hqr : q = r
               · subst hqr; exact absurd q2 htd
               · exact .inr ⟨h1, q, by omega, q2⟩
       rw [hc] at ih
       exact ih
     · rw [Bool.not_eq_true] at hc
       rw [hc, cond_false]
       refine ⟨nx, hn, fun t ht => ?_, rfl⟩
       rw [hP t ht, hc]
       simp
   · rw [decide_eq_false hlt, cond_false]
     refine ⟨nx, hn, fun t ht => ?_, rfl⟩
     rw [hP t ht]
     constructor
     · rintro (h | ⟨h1, q, q1, q2⟩)
       · exact .inl h
       · exact .inr ⟨h1, q, by omega, q2⟩
     · rintro (h | ⟨h1, q, q1, q2⟩)
       · exact .inl h
       · exact .inr ⟨h1, q, by omega, q2⟩
theorem set_loop {x : MM} (hx : Tame x) (N : Nat) (hN : 100 < N) {R : List (List Bool)} {j : Nat} (hR : R.length = j + 1) (hj : j ≤ 12) (hl : (R.getD j []).length = x.2.1.length) {C : Type} (k0 : Int → Int → Int → Bool → MM → List Nat → List (Option (List Bool)) → List Bool → Option C) (out : Int) :
   ∀ (F s : Nat) (f : Bool) (nx : List Bool), x.2.1.length - s < F → s ≤ x.2.1.length → nx.length = x.2.1.length → (∀ t, t < x.2.1.length → (nx.getD t false = true ↔ ∃ p, p < s ∧ (R.getD j []).getD p false = true ∧ ∃ q : Nat, (q : Int) < x.1 ∧ dM x p q = t)) → (f = true ↔ ∃ p, p < s ∧ (R.getD j []).getD p false = true ∧ oM x p = out) →
     ∃ f' nx', nx'.length = x.2.1.length ∧ (∀ t, t < x.2.1.length → (nx'.getD t false = true ↔ ∃ p, p < x.2.1.length ∧ (R.getD j []).getD p false = true ∧ ∃ q : Nat, (q : Int) < x.1 ∧ dM x p q = t)) ∧ (f' = true ↔ ∃ p, p < x.2.1.length ∧ (R.getD j []).getD p false = true ∧ oM x p = out) ∧
       g28L259226f N F k0 out (x.2.1.length : Int) (j : Int) f (s : Int) x (List.range R.length) (R.map some) nx = k0 out (x.2.1.length : Int) (j : Int) f' x (List.range R.length) (R.map some) nx'
 | 0, s, f, nx, hF, _, _, _, _ => by omega
 | F + 1, s, f, nx, hF, hs, hn, hP, hf => by
   rw [g28L259226f_succ]
   unfold g28L259226B
   have hm := hx.many; have hb := hx.base
   by_cases hlt : s < x.2.1.length
   · have go_on : ∀ f2 : Bool, (f2 = true ↔ ∃ p, p < s + 1 ∧ (R.getD j []).getD p false = true ∧ oM x p = out) →
         ∃ f' nx', nx'.length = x.2.1.length ∧ (∀ t, t < x.2.1.length → (nx'.getD t false = true ↔ ∃ p, p < x.2.1.length ∧ (R.getD j []).getD p false = true ∧ ∃ q : Nat, (q : Int) < x.1 ∧ dM x p q = t)) ∧ (f' = true ↔ ∃ p, p < x.2.1.length ∧ (R.getD j []).getD p false = true ∧ oM x p = out) ∧
           g28L33180966 N (fun e7 e8 e9 e10 e11 e12 e13 e14 e15 => (g28L259226f N F k0 e7 e8 e9 e10 (IntKind.wrap .i64 (e11 + 1)) e12 e13 e14 e15)) out (x.2.1.length : Int) (j : Int) f2 (s : Int) 0 x (List.range R.length) (R.map some) nx = k0 out (x.2.1.length : Int) (j : Int) f' x (List.range R.length) (R.map some) nx' := by
       intro f2 hf2
       rw [g28L33180966_eq]
       obtain ⟨nx2, i1, i2, i3⟩ := in_loop hx N hR hj hlt hl (fun e7 e8 e9 e10 e11 e12 e13 e14 e15 => (g28L259226f N F k0 e7 e8 e9 e10 (IntKind.wrap .i64 (e11 + 1)) e12 e13 e14 e15)) out f2 (fun t => ∃ p, p < s ∧ (R.getD j []).getD p false = true ∧ ∃ q : Nat, (q : Int) < x.1 ∧ dM x p q = t) N 0 nx (by omega) (by omega) hn (fun t ht => by
         rw [hP t ht]
         constructor
         · intro h; exact .inl h
         · rintro (h | ⟨_, q, q1, _⟩)
           · exact h
           · omega)
       simp only [Int.natCast_zero] at i3
       obtain ⟨f', nx', h1, h2, h3, h4⟩ := set_loop hx N hN hR hj hl k0 out F (s + 1) f2 nx2 (dec_fuel hF hlt) hlt i1 (fun t ht => by
         rw [i2 t ht]
         constructor
         · rintro (⟨p, p1, p2⟩ | ⟨h1, h2⟩)
           · exact ⟨p, by omega, p2⟩
           · exact ⟨s, by omega, h1, h2⟩
         · rintro ⟨p, p1, p2, p3⟩
           by_cases hps : p = s
           · subst hps; exact .inr ⟨p2, p3⟩
           · exact .inl ⟨p, by omega, p2, p3⟩) hf2
       refine ⟨f', nx', h1, h2, h3, ?_⟩
       refine Eq.trans i3 ?_
       rw [wn s (by omega)]
       exact h4
     rw [decide_eq_true (show (s : Int) < (x.2.1.length : Int) by omega), cond_true]
     cases f with
     | true =>
       rw [cond_true]
       obtain ⟨p, p1, p2⟩ := hf.1 rfl
       exact go_on true ⟨fun _ => ⟨p, by omega, p2⟩, fun _ => rfl⟩
     | false =>
       have hnf : ∀ p, p < s → ¬ ((R.getD j []).getD p false = true ∧ oM x p = out) := fun p hp h => by have := hf.2 ⟨p, hp, h⟩; cases this
       rw [cond_false, if_pos (⟨by omega, by rw [List.length_range]; omega⟩ : idx (j : Int) (List.range R.length).length), Int.toNat_natCast, idAt_map R (by omega)]
       simp only [Option.bind_some]
       rw [rowOf_map R (by omega)]
       simp only [Option.bind_some]
       rw [if_pos (⟨by omega, by omega⟩ : idx (s : Int) (R.getD j []).length), Int.toNat_natCast, if_pos (by omega)]
       by_cases hc : (R.getD j []).getD s false = true
       · rw [hc, cond_true, if_pos (⟨by omega, by omega⟩ : idx (s : Int) x.2.1.length)]
         refine go_on _ ⟨fun h => ⟨s, by omega, hc, of_decide_eq_true h⟩, fun h => ?_⟩
         obtain ⟨p, p1, p2, p3⟩ := h
         by_cases hps : p = s
         · subst hps; show ieq (oM x p) out = true; rw [p3]; exact ieq_self out
         · exact absurd ⟨p2, p3⟩ (hnf p (by omega))
       · rw [Bool.not_eq_true] at hc
         rw [hc, cond_false]
         refine go_on false ⟨fun h => (by cases h), fun h => ?_⟩
         obtain ⟨p, p1, p2, p3⟩ := h
         by_cases hps : p = s
         · subst hps; rw [hc] at p2; cases p2
         · exact absurd ⟨p2, p3⟩ (hnf p (by omega))
   · rw [decide_eq_false (show ¬ (s : Int) < (x.2.1.length : Int) by omega), cond_false]
     have : s = x.2.1.length := by omega
     subst this
     exact ⟨f, nx, hn, hP, hf, rfl⟩
theorem next_set {x : MM} (hx : Tame x) {j : Nat} {S nx : List Bool} (hS : SetOk x j S) (h1 : nx.length = x.2.1.length) (h2 : ∀ t, t < x.2.1.length → (nx.getD t false = true ↔ ∃ p, p < x.2.1.length ∧ S.getD p false = true ∧ ∃ q : Nat, (q : Int) < x.1 ∧ dM x p q = t)) : SetOk x (j + 1) nx := by
 refine ⟨h1, fun t ht => ?_⟩
 rw [h2 t ht]
 constructor
 · rintro ⟨p, p1, p2, q, q1, q2⟩
   obtain ⟨w, w1, w2, w3⟩ := (hS.2 p p1).1 p2
   exact ⟨w ++ [q], by simp [w1], okW_snoc.2 ⟨w2, q1⟩, by rw [go_snoc, w3, q2]⟩
 · rintro ⟨w, w1, w2, w3⟩
   have hne : w ≠ [] := by intro e; subst e; simp at w1
   have e := List.dropLast_concat_getLast hne
   rw [← e] at w2 w3
   obtain ⟨a1, a2⟩ := okW_snoc.1 w2
   rw [go_snoc] at w3
   have hl := go_lt hx.wm w.dropLast 0 hx.many.1 a1
   exact ⟨go x 0 w.dropLast, hl, (hS.2 _ hl).2 ⟨w.dropLast, by rw [List.length_dropLast]; omega, a1, rfl⟩, w.getLast hne, a2, w3⟩
theorem sets_loop {x : MM} (hx : Tame x) {out : Int} {C : Type} (k0 : Int → MM → Option C) (k1 : MM → List Nat → List (Option (List Bool)) → Option C) :
   ∀ (F j : Nat) (R : List (List Bool)), x.2.1.length + 1 - j < F → j ≤ x.2.1.length + 1 → R.length = j + 1 → (∀ i, i < R.length → SetOk x i (R.getD i [])) → (∀ w, w.length < j → okW x w → oM x (go x 0 w) ≠ out) →
     (∃ (J v : Nat), J ≤ x.2.1.length ∧ LstP (fun m => m < x.1.toNat ^ J ∧ sq x 0 m = out) (v : Int) ∧ g28L506f 2000 F k0 k1 out (x.2.1.length : Int) (j : Int) x (List.range R.length) (R.map some) = k0 (v : Int) x) ∨
     ((∀ w, w.length ≤ x.2.1.length → okW x w → oM x (go x 0 w) ≠ out) ∧ ∃ i r, g28L506f 2000 F k0 k1 out (x.2.1.length : Int) (j : Int) x (List.range R.length) (R.map some) = k1 x i r)
 | 0, j, R, hF, _, _, _, _ => by omega
 | F + 1, j, R, hF, hj, hR, hS, hno => by
   rw [g28L506f_succ]
   unfold g28L506B
   have hm := hx.many
   by_cases hlt : j ≤ x.2.1.length
   · have hF2 : x.2.1.length + 1 - (j + 1) < F := dec_fuel hF (by omega)
     have hj2 : j + 1 ≤ x.2.1.length + 1 := by omega
     have hSj := hS j (by omega)
     rw [decide_eq_true (show (j : Int) ≤ (x.2.1.length : Int) by omega), cond_true, if_pos (⟨rfl, by omega, by omega⟩ : mkOk _ _), g28L259226_eq]
     obtain ⟨f', nx', h1, h2, h3, h4⟩ := set_loop hx 2000 (by omega) hR (by omega) hSj.1 (fun e37 e38 e39 e40 e41 e42 e43 e44 => bif e40 then Option.bind (gridAll e43 e42) fun r45 => Option.bind (g68 2000 e41 r45 e39 e37) fun r46 => (k0 r46 e41) else if List.length e42 + List.length [0] ≤ maxCount then (g28L506f 2000 F k0 k1 e37 e38 (IntKind.wrap .i64 (e39 + 1)) e41 (e42 ++ shiftIds (List.length e43) [0]) (e43 ++ [some e44])) else none) out 2000 0 false (List.replicate (Int.toNat ((x.2.1.length : Nat) : Int)) false) (by omega) (by omega) (by simp) (fun t ht => ⟨fun h => by
         have : (List.replicate (Int.toNat ((x.2.1.length : Nat) : Int)) false).getD t false = false := by
           rw [List.getD_eq_getElem?_getD, List.getElem?_replicate]; split <;> rfl
         rw [this] at h; exact (by cases h), fun h => (by obtain ⟨p, hp, _⟩ := h; omega)⟩) ⟨fun h => (by cases h), fun h => (by obtain ⟨p, hp, _⟩ := h; omega)⟩
     simp only [Int.natCast_zero] at h4
     have hfw : f' = true ↔ ∃ w, w.length = j ∧ okW x w ∧ oM x (go x 0 w) = out := by
       rw [h3]
       constructor
       · rintro ⟨p, p1, p2, p3⟩
         obtain ⟨w, w1, w2, w3⟩ := (hSj.2 p p1).1 p2
         exact ⟨w, w1, w2, by rw [w3]; exact p3⟩
       · rintro ⟨w, w1, w2, w3⟩
         have hl := go_lt hx.wm w 0 hx.many.1 w2
         exact ⟨_, hl, (hSj.2 _ hl).2 ⟨w, w1, w2, rfl⟩, w3⟩
     cases f' with
     | true =>
       obtain ⟨v, v1, v2⟩ := back68 hx (J := j) (by omega) (R := R) (by omega) hS (hfw.1 rfl)
       refine .inl ⟨j, v, hlt, v1, ?_⟩
       refine Eq.trans h4 ?_
       rw [cond_true, gridAll_map R, Option.bind_some, v2, Option.bind_some]
     | false =>
       have hR2 : (R ++ [nx']).length = (j + 1) + 1 := by simp [hR]
       have e1 : List.range R.length ++ shiftIds (List.length (R.map some)) [0] = List.range (R ++ [nx']).length := by
         rw [List.length_append, List.length_singleton, List.range_succ]
         simp [shiftIds]
       have e2 : R.map some ++ [some nx'] = (R ++ [nx']).map some := by simp
       have ih := sets_loop hx (out := out) k0 k1 F (j + 1) (R ++ [nx']) hF2 hj2 hR2 (fun i hi => by
         rw [hR2] at hi
         by_cases hij : i < R.length
         · rw [getD_append_left hij]; exact hS i hij
         · have : i = R.length := by omega
           subst this
           rw [getD_last, hR]
           exact next_set hx hSj h1 h2) (fun w hw hok => by
         by_cases hwj : w.length = j
         · intro e
           have := hfw.2 ⟨w, hwj, hok, e⟩
           cases this
         · exact hno w (by omega) hok)
       have e4 : g28L506f 2000 (F + 1) k0 k1 out (x.2.1.length : Int) (j : Int) x (List.range R.length) (R.map some) = g28L506f 2000 F k0 k1 out (x.2.1.length : Int) ((j + 1 : Nat) : Int) x (List.range (R ++ [nx']).length) ((R ++ [nx']).map some) := by
         rw [g28L506f_succ]
         unfold g28L506B
         rw [decide_eq_true (show (j : Int) ≤ (x.2.1.length : Int) by omega), cond_true, if_pos (⟨rfl, by omega, by omega⟩ : mkOk _ _), g28L259226_eq]
         refine Eq.trans h4 ?_
         rw [cond_false, if_pos (by rw [List.length_range, List.length_singleton]; simp only [maxCount]; omega), wn j (by omega), e1, e2]
       rw [g28L506f_succ] at e4
       unfold g28L506B at e4
       rw [decide_eq_true (show (j : Int) ≤ (x.2.1.length : Int) by omega), cond_true, if_pos (⟨rfl, by omega, by omega⟩ : mkOk _ _), g28L259226_eq] at e4
       rw [e4]
       exact ih
   · rw [decide_eq_false (show ¬ (j : Int) ≤ (x.2.1.length : Int) by omega), cond_false]
     exact .inr ⟨fun w hw hok => hno w (by omega) hok, _, _, rfl⟩
theorem ever28 {x : MM} (hx : Tame x) (out : Int) : ∃ v, LstP (fun m => m < x.1.toNat ^ x.2.1.length ∧ sq x 0 m = out) v ∧ g28 2000 x out = some v := by
 have hm := hx.many; have hb := hx.base
 have hp : 0 < x.1.toNat ^ x.2.1.length := Nat.pow_pos (by omega)
 unfold g28
 rw [if_pos (⟨by omega, by omega⟩ : idx 0 x.2.1.length), show Int.toNat 0 = 0 from rfl]
 by_cases h0 : oM x 0 = out
 · rw [show ieq (x.2.1.getD 0 0) out = true by simp only [ieq, decide_eq_true_eq]; exact h0, cond_true]
   exact ⟨0, .inr ⟨0, rfl, ⟨hp, by rw [sq_zero]; exact h0⟩, fun m _ => Nat.zero_le m⟩, rfl⟩
 · rw [show ieq (x.2.1.getD 0 0) out = false by simp only [ieq, decide_eq_false_iff_not]; exact h0, cond_false, if_pos (⟨rfl, by omega, by omega⟩ : mkOk _ _), Int.toNat_natCast]
   have hid : idAt [0] [some (List.replicate x.2.1.length false)] 0 = some 0 := rfl
   have hro : rowOf [some (List.replicate x.2.1.length false)] 0 = some (List.replicate x.2.1.length false) := rfl
   rw [if_pos (⟨by omega, by simp⟩ : idx 0 [0].length), hid]
   simp only [Option.bind_some]
   rw [hro]
   simp only [Option.bind_some]
   rw [if_pos (⟨by omega, by simp; omega⟩ : idx 0 (List.replicate x.2.1.length false).length), if_pos (by simp; omega), g28L506_eq]
   have hS0 : SetOk x 0 ((List.replicate x.2.1.length false).set 0 true) := by
     refine ⟨by simp, fun s hs => ?_⟩
     rw [getB_set2 _ (by simp; omega)]
     by_cases hs0 : 0 = s
     · subst hs0
       rw [if_pos rfl]
       exact ⟨fun _ => ⟨[], rfl, okW_nil x, rfl⟩, fun _ => rfl⟩
     · rw [if_neg hs0]
       constructor
       · intro h
         rw [List.getD_eq_getElem?_getD, List.getElem?_replicate] at h
         split at h <;> cases h
       · rintro ⟨w, w1, w2, w3⟩
         have : w = [] := List.eq_nil_of_length_eq_zero w1
         subst this
         exact absurd w3 hs0
   have := sets_loop hx (out := out) (fun e47 e48 => some e47) (fun e49 e50 e51 => some (-1)) 2000 0 [(List.replicate x.2.1.length false).set 0 true] (by omega) (by omega) rfl (fun i hi => by
     have : i = 0 := by simp at hi; omega
     subst this; exact hS0) (fun w hw _ => by omega)
   rcases this with ⟨J, v, h1, h2, h3⟩ | ⟨h1, i, r, h2⟩
   · exact ⟨(v : Int), h2.more h1 (by omega) (by omega), h3⟩
   · exact ⟨-1, .inl ⟨rfl, fun m hm2 => none_lst hx (J := x.2.1.length) (fun w hw hok => h1 w (by omega) hok) m hm2.1 hm2.2⟩, h2⟩
end Go.Pv
