/- Plain texts, merged: QaA, QaB, QaC, QaD, QaM, QaR, QaR2, QaOp, QaAw, QaS, QaS2, QaR3, QaT, QaT2, QaDecides, QaA2, QaD2, QaE. -/
import Derived.Test.YtldhdlohhiphjaaPvL06
/- Seat 06, plain: lists in ranges, sums, copies, the question. -/
set_option linter.unusedVariables false
set_option linter.unusedSimpArgs false
namespace Go.Pv
abbrev PP := Int × List Int × List Int × List (List Int) × Unit
abbrev QQ := List Int × Int × Int × Unit
theorem w64 {x : Int} (h1 : -9223372036854775808 ≤ x) (h2 : x < 9223372036854775808) : IntKind.wrap .i64 x = x := by rw [IntKind.wrap_i64]; omega
theorem wu64 (x : Int) : IntKind.wrap .u64 x = x % 18446744073709551616 := by simp only [IntKind.wrap, IntKind.signed, IntKind.bits]; simp
theorem wu64n {x : Int} (h1 : 0 ≤ x) (h2 : x < 18446744073709551616) : IntKind.wrap .u64 x = x := by rw [wu64]; omega
theorem wn (i : Nat) (h : i < 1000000) : IntKind.wrap .i64 ((i : Int) + 1) = ((i + 1 : Nat) : Int) := by rw [w64 (by omega) (by omega)]; simp
@[simp] theorem ieq_self (x : Int) : ieq x x = true := by simp only [ieq, decide_true]
theorem low (x : Int) {m : Int} (hm : 0 < m) (hm2 : m < 1000000) : ∃ r : Int, IntKind.wrap .i64 (Int.tmod (IntKind.wrap .u64 x) m) = r ∧ 0 ≤ r ∧ r < m := by
 refine ⟨(x % 18446744073709551616) % m, ?_, Int.emod_nonneg _ (by omega), Int.emod_lt_of_pos _ hm⟩
 rw [wu64, Int.tmod_eq_emod_of_nonneg (Int.emod_nonneg _ (by decide))]
 have h1 := Int.emod_nonneg (x % 18446744073709551616) (show m ≠ 0 by omega)
 have h2 := Int.emod_lt_of_pos (x % 18446744073709551616) hm
 exact w64 (by omega) (by omega)
theorem getD_mem {α : Type} {l : List α} {i : Nat} (h : i < l.length) (d : α) : l.getD i d ∈ l := by
 rw [List.getD_eq_getElem?_getD, List.getElem?_eq_getElem h]; simp
theorem getD_drop (l : List Int) (i : Nat) (h : i < l.length) : l.drop i = l.getD i 0 :: l.drop (i + 1) := by
 rw [List.drop_eq_getElem_cons h]; simp [h]
theorem any_loop (N : Nat) {C : Type} (k0 : Int → Option C) (k1 : Option C) (l : List Int) (f : (Int × Unit) → Option Bool) (p : Int → Bool) (hf : ∀ x, f (x, ()) = some (p x)) (hl : l.length < 4611686018427387904) :
   ∀ (F i : Nat), l.length - i < F → i ≤ l.length → ((l.drop i).any p = true ∧ ∃ j : Nat, g90L26f N F k0 k1 l f (l.length : Int) (i : Int) = k0 j) ∨ ((l.drop i).any p = false ∧ g90L26f N F k0 k1 l f (l.length : Int) (i : Int) = k1)
 | 0, i, h, _ => by omega
 | F + 1, i, h, hi => by
   rw [g90L26f_succ]
   unfold g90L26B
   by_cases hlt : i < l.length
   · have e1 : decide ((i : Int) < (l.length : Int)) = true := by simp; omega
     have e2 : idx (i : Int) l.length := ⟨by omega, by omega⟩
     rw [e1, cond_true, if_pos e2, Int.toNat_natCast, hf]
     simp only [Option.bind_some]
     rw [getD_drop l i hlt, List.any_cons]
     cases hp : p (l.getD i 0) with
     | true => exact .inl ⟨by simp, i, rfl⟩
     | false =>
       simp only [cond_false, Bool.false_or]
       have e3 : IntKind.wrap .i64 ((i : Int) + 1) = ((i + 1 : Nat) : Int) := by rw [w64 (by omega) (by omega)]; simp
       rw [e3]
       exact any_loop N k0 k1 l f p hf hl F (i + 1) (by omega) (by omega)
   · have e1 : decide ((i : Int) < (l.length : Int)) = false := by simp; omega
     rw [e1, cond_false, List.drop_eq_nil_of_le (by omega)]
     exact .inr ⟨rfl, rfl⟩
theorem are_eq (N : Nat) (lo hi : Int) (l : List Int) (hN : l.length < N) (hl : l.length < 4611686018427387904) : g60 N lo hi l = some (l.all fun x => decide (lo ≤ x) && decide (x ≤ hi)) := by
 unfold g60 g86 g90
 rw [g90L26_eq]
 have := any_loop N (fun e2 => some e2) (some (-1)) l (fun (x1 : (Int) × (Unit)) => Option.bind (g87 N x1.1 lo hi) fun y2 => some y2) (fun x => decide (x < lo) || decide (hi < x))
   (fun x => by
     simp only [g87]
     cases h : decide (x < lo) <;> simp) hl N 0 (by omega) (by omega)
 simp only [Int.natCast_zero, List.drop_zero] at this
 have hx : (l.all fun x => decide (lo ≤ x) && decide (x ≤ hi)) = !(l.any fun x => decide (x < lo) || decide (hi < x)) := by
   rw [List.not_any_eq_all_not]
   congr 1
   funext x
   by_cases h1 : x < lo <;> by_cases h2 : hi < x <;> simp [h1, h2] <;> omega
 rcases this with ⟨h1, j, h2⟩ | ⟨h1, h2⟩
 · rw [h2, hx, h1]
   simp
 · rw [h2, hx, h1]
   simp
theorem sum88_loop (N : Nat) {C : Type} (k0 : Int → Option C) (l : List Int) (hl : l.length ≤ 100) (hb : ∀ x ∈ l, -1000000 ≤ x ∧ x ≤ 1000000) :
   ∀ (F i : Nat) (s : Int), l.length - i < F → i ≤ l.length → -1000000 * (i : Int) ≤ s → s ≤ 1000000 * (i : Int) → g88L58f N F k0 s l (l.length : Int) (i : Int) = k0 (s + (l.drop i).sum)
 | 0, i, s, h, _, _, _ => by omega
 | F + 1, i, s, h, hi, h1, h2 => by
   rw [g88L58f_succ]
   unfold g88L58B
   by_cases hlt : i < l.length
   · have e1 : decide ((i : Int) < (l.length : Int)) = true := by simp; omega
     have e2 : idx (i : Int) l.length := ⟨by omega, by omega⟩
     obtain ⟨b1, b2⟩ := hb _ (getD_mem hlt 0)
     rw [e1, cond_true, if_pos e2, Int.toNat_natCast, wn i (by omega), w64 (by omega) (by omega)]
     dsimp only
     rw [sum88_loop N k0 l hl hb F (i + 1) (s + l.getD i 0) (by omega) (by omega) (by omega) (by omega), getD_drop l i hlt, List.sum_cons]
     congr 1; omega
   · have e1 : decide ((i : Int) < (l.length : Int)) = false := by simp; omega
     rw [e1, cond_false, List.drop_eq_nil_of_le (by omega)]; simp
theorem sum88 (N : Nat) (l : List Int) (hl : l.length ≤ 100) (hN : 100 < N) (hb : ∀ x ∈ l, -1000000 ≤ x ∧ x ≤ 1000000) : g88 N l = some l.sum := by
 unfold g88
 rw [g88L58_eq]
 have := sum88_loop N (fun e1 => some e1) l hl hb N 0 0 (by omega) (by omega) (by omega) (by omega)
 simp only [Int.natCast_zero, List.drop_zero, Int.zero_add] at this
 exact this
def crowdB (l : List Int) (many : Int) : Bool := decide ((l.length : Int) = many) && ((l.all fun x => decide (0 ≤ x) && decide (x ≤ 9)) && (decide (1 ≤ l.sum) && decide (l.sum ≤ 9)))
end Go.Pv
namespace Go.Pv
def RLt (r s : List Int) : Prop := r.getD 0 0 < s.getD 0 0 ∨ r.getD 0 0 = s.getD 0 0 ∧ r.getD 1 0 < s.getD 1 0
def RuleOk (n : Int) (r : List Int) : Prop := r.length = 4 ∧ (∀ t ∈ r, 0 ≤ t ∧ t < n) ∧ r.getD 0 0 ≤ r.getD 1 0
structure PT (x : PP) : Prop where
 n : 1 ≤ x.1 ∧ x.1 ≤ 5
 out : (x.2.1.length : Int) = x.1 ∧ ∀ o ∈ x.2.1, 0 ≤ o ∧ o ≤ 1
 start : 1 ≤ x.2.2.1.length ∧ x.2.2.1.length ≤ 2 ∧ ∀ s ∈ x.2.2.1, 0 ≤ s ∧ s < x.1
 rules : x.2.2.2.1.length ≤ 15 ∧ (∀ r ∈ x.2.2.2.1, RuleOk x.1 r) ∧ x.2.2.2.1.Pairwise RLt
theorem cmp97 (N : Nat) (a b : Int) : g97 N a b = some (if a < b then -1 else if b < a then 1 else 0) := by
 have h99 : ∀ x : Int, g99 N x = some false := fun x => by simp [g99]
 unfold g97
 rw [h99, h99]
 simp only [Option.bind_some, cond_false]
 by_cases h : a < b
 · simp [h]
 · by_cases h2 : b < a <;> simp [h, h2]
theorem compare_lt (N : Nat) (hN : 5 < N) (a b c d : Int) (h : a < c ∨ a = c ∧ b < d) : g85 N [a, b] [c, d] = some (-1) := by
 unfold g85
 rw [g85L26_eq]
 obtain ⟨M, rfl⟩ : ∃ M, N = M + 3 := ⟨N - 3, by omega⟩
 rw [show M + 3 = (M + 2) + 1 from rfl, g85L26f_succ]
 unfold g85L26B
 have q0 : idx (0 : Int) 2 := by decide
 have q1 : idx (1 : Int) 2 := by decide
 rcases h with h | ⟨rfl, h⟩
 · simp [cmp97, h, idx, ieq]
 · have hab : ¬ (a < a) := by omega
   have e1 : IntKind.wrap .i64 1 = 1 := by decide
   simp [cmp97, idx, ieq, hab, e1]
   rw [show M + 2 = (M + 1) + 1 from rfl, g85L26f_succ]
   unfold g85L26B
   simp [cmp97, idx, ieq, h, e1]
theorem PT.check_loop {x : PP} (h : PT x) (N : Nat) (hN : 20 < N) {C : Type} (k0 : Int → PP → Option C) (k1 : PP → Option C) :
   ∀ (F i : Nat), x.2.2.2.1.length - i < F → i ≤ x.2.2.2.1.length → g59L122f N F k0 k1 x.1 x.2.2.2.1 (x.2.2.2.1.length : Int) (i : Int) x = k1 x
 | 0, i, hF, _ => by omega
 | F + 1, i, hF, hi => by
   rw [g59L122f_succ]
   unfold g59L122B
   obtain ⟨hn1, hn2⟩ := h.n
   obtain ⟨hr1, hr2, hr3⟩ := h.rules
   by_cases hlt : i < x.2.2.2.1.length
   · have e1 : decide ((i : Int) < (x.2.2.2.1.length : Int)) = true := by simp; omega
     have e2 : idx (i : Int) x.2.2.2.1.length := ⟨by omega, by omega⟩
     obtain ⟨r1, r2, r3⟩ := hr2 _ (getD_mem hlt (List.replicate 4 0))
     have ih := h.check_loop N hN k0 k1 F (i + 1) (by omega) (by omega)
     have hprev : 0 < i → RLt (x.2.2.2.1.getD (i - 1) (List.replicate 4 0)) (x.2.2.2.1.getD i (List.replicate 4 0)) := fun hp => by
       have := List.pairwise_iff_getElem.1 hr3 (i - 1) i (by omega) hlt (by omega)
       rw [List.getD_eq_getElem?_getD, List.getD_eq_getElem?_getD, List.getElem?_eq_getElem (show i - 1 < _ by omega), List.getElem?_eq_getElem hlt]
       exact this
     have hprev2 : 0 < i → RuleOk x.1 (x.2.2.2.1.getD (i - 1) (List.replicate 4 0)) := fun hp => hr2 _ (getD_mem (by omega) _)
     rw [e1, cond_true, if_pos e2, if_pos (by decide), Int.toNat_natCast]
     generalize hq : x.2.2.2.1.getD i (List.replicate 4 0) = q at r1 r2 r3 hprev
     match q, r1 with
     | [a, b, c, d], _ =>
       have e5 : g60 N 0 (IntKind.wrap .i64 (x.1 - 1)) [a, b, c, d] = some true := by
         rw [are_eq N _ _ _ (by simp; omega) (by simp), w64 (by omega) (by omega)]
         congr 1
         rw [List.all_eq_true]
         intro t ht
         obtain ⟨a1, a2⟩ := r2 t ht
         simp; omega
       have e6 : decide (b < a) = false := by simp at r3; simp; omega
       rw [if_pos (by decide), if_pos (by decide)]
       simp only [show Int.toNat 4 = 4 from rfl, show Int.toNat 0 = 0 from rfl, show Int.toNat 1 = 1 from rfl, List.take, List.drop, e5, Option.bind_some, Bool.not_true, cond_false, List.getD_cons_zero, List.getD_cons_succ, e6]
       by_cases hp : 0 < i
       · have e7 : decide ((0 : Int) < (i : Int)) = true := by simp; omega
         have e8 : IntKind.wrap .i64 ((i : Int) - 1) = ((i - 1 : Nat) : Int) := by rw [w64 (by omega) (by omega)]; omega
         have e9 : idx ((i - 1 : Nat) : Int) x.2.2.2.1.length := ⟨by omega, by omega⟩
         rw [e7, cond_true, e8, if_pos e9, if_pos (by decide), if_pos (by decide), Int.toNat_natCast]
         have hx := hprev hp
         obtain ⟨p1, p2, p3⟩ := hprev2 hp
         generalize hq2 : x.2.2.2.1.getD (i - 1) (List.replicate 4 0) = q2 at p1 p2 p3 hx
         match q2, p1 with
         | [a', b', c', d'], _ =>
           simp only [RLt, List.getD_cons_zero, List.getD_cons_succ] at hx
           simp only [show Int.toNat 2 = 2 from rfl, List.take, List.drop]
           rw [compare_lt N (by omega) a' b' a b hx]
           simp only [Option.bind_some]
           rw [show decide ((0 : Int) ≤ -1) = false from rfl, cond_false, wn i (by omega)]
           exact ih
       · have e7 : decide ((0 : Int) < (i : Int)) = false := by simp; omega
         rw [e7, cond_false, wn i (by omega)]
         exact ih
   · have e1 : decide ((i : Int) < (x.2.2.2.1.length : Int)) = false := by simp; omega
     rw [e1, cond_false]
theorem PT.check {x : PP} (h : PT x) (N : Nat) (hN : 20 < N) : g59 N x = some 0 := by
 obtain ⟨hn1, hn2⟩ := h.n
 obtain ⟨ho1, ho2⟩ := h.out
 obtain ⟨hs1, hs2, hs3⟩ := h.start
 obtain ⟨hr1, hr2, hr3⟩ := h.rules
 unfold g59
 have e1 : g60 N 1 5 [x.1] = some true := by
   rw [are_eq N _ _ _ (by simp; omega) (by simp)]; simp; omega
 have e2 : ieq ((List.length x.2.1 : Nat) : Int) x.1 = true := by simp only [ieq, decide_eq_true_eq]; exact ho1
 have e3 : g60 N 0 1 x.2.1 = some true := by
   rw [are_eq N _ _ _ (by omega) (by omega)]
   congr 1
   rw [List.all_eq_true]
   intro t ht
   have := ho2 t ht
   simp; omega
 have e4 : g60 N 1 2 [((List.length x.2.2.1 : Nat) : Int)] = some true := by
   rw [are_eq N _ _ _ (by simp; omega) (by simp)]; simp; omega
 have e5 : g60 N 0 (IntKind.wrap .i64 (x.1 - 1)) x.2.2.1 = some true := by
   rw [are_eq N _ _ _ (by omega) (by omega), w64 (by omega) (by omega)]
   congr 1
   rw [List.all_eq_true]
   intro t ht
   have := hs3 t ht
   simp; omega
 have e6 : decide ((15 : Int) < ((List.length x.2.2.2.1 : Nat) : Int)) = false := by simp; omega
 rw [e1, e2, e3, e4, e5, e6]
 simp only [Option.bind_some, Bool.not_true, cond_false]
 rw [g59L122_eq]
 have := h.check_loop N hN (fun e7 e8 => some e7) (fun e9 => some (0 : Int)) N 0 (by omega) (by omega)
 simp only [Int.natCast_zero] at this
 exact this
end Go.Pv
namespace Go.Pv
def cn (n : Nat) : Nat → Nat | 0 => 0 | a + 1 => cn n a + (n - a)
structure RInv (n a b : Nat) (R : List (List Int)) : Prop where
 ok : ∀ r ∈ R, RuleOk (n : Int) r ∧ (r.getD 0 0 < (a : Int) ∨ r.getD 0 0 = (a : Int) ∧ r.getD 1 0 < (b : Int))
 sorted : R.Pairwise RLt
 few : R.length ≤ cn n a + (b - a)
theorem RInv.next {n a : Nat} {R : List (List Int)} (h : RInv n a n R) (ha : a < n) : RInv n (a + 1) (a + 1) R := by
 refine ⟨fun r hr => ?_, h.sorted, by have := h.few; simp only [cn]; omega⟩
 obtain ⟨h1, h2⟩ := h.ok r hr
 exact ⟨h1, .inl (by omega)⟩
end Go.Pv
namespace Go.Pv
theorem sum_nonneg : ∀ l : List Int, (∀ t ∈ l, 0 ≤ t) → 0 ≤ l.sum
 | [], _ => by simp
 | a :: l, h => by
   have h1 := h a (by simp)
   have h2 := sum_nonneg l (fun t ht => h t (by simp [ht]))
   simp only [List.sum_cons]; omega
theorem mem_le_sum : ∀ l : List Int, (∀ t ∈ l, 0 ≤ t) → ∀ t ∈ l, t ≤ l.sum
 | [], _, t, ht => by cases ht
 | a :: l, h, t, ht => by
   have h1 := h a (by simp)
   have h2 := sum_nonneg l (fun t ht => h t (by simp [ht]))
   simp only [List.sum_cons]
   rcases List.mem_cons.1 ht with rfl | ht
   · omega
   · have := mem_le_sum l (fun t ht => h t (by simp [ht])) t ht
     omega
theorem set_sum : ∀ (l : List Int) (i : Nat) (v : Int), i < l.length → (l.set i v).sum = l.sum - l.getD i 0 + v
 | [], i, v, h => by simp at h
 | a :: l, 0, v, h => by simp; omega
 | a :: l, i + 1, v, h => by
   have := set_sum l i v (by simpa using h)
   simp only [List.set_cons_succ, List.sum_cons, List.getD_cons_succ, this]; omega
structure Crowd (l : List Int) (n : Int) : Prop where
 len : (l.length : Int) = n
 pos : ∀ t ∈ l, 0 ≤ t
 sum : 1 ≤ l.sum ∧ l.sum ≤ 9
theorem Crowd.le {l : List Int} {n : Int} (h : Crowd l n) : ∀ t ∈ l, 0 ≤ t ∧ t ≤ 9 := fun t ht => by
 have := mem_le_sum l h.pos t ht
 have := h.pos t ht
 have := h.sum.2
 omega
theorem Crowd.b {l : List Int} {n : Int} (h : Crowd l n) : crowdB l n = true := by
 unfold crowdB
 simp only [Bool.and_eq_true, decide_eq_true_eq]
 refine ⟨h.len, ?_, h.sum⟩
 rw [List.all_eq_true]
 intro t ht
 have := h.le t ht
 simp; omega
end Go.Pv
namespace Go.Pv
def dec (c : List Int) (i : Nat) : List Int := c.set i (c.getD i 0 - 1)
def inc (c : List Int) (i : Nat) : List Int := c.set i (c.getD i 0 + 1)
theorem dec_len (c : List Int) (i : Nat) : (dec c i).length = c.length := by simp [dec]
theorem inc_len (c : List Int) (i : Nat) : (inc c i).length = c.length := by simp [inc]
theorem getD_set (c : List Int) (i j : Nat) (v : Int) : (c.set i v).getD j 0 = if i = j ∧ i < c.length then v else c.getD j 0 := by
 simp only [List.getD_eq_getElem?_getD, List.getElem?_set]
 by_cases h : i = j
 · subst h
   by_cases h2 : i < c.length
   · simp [h2]
   · simp [h2]
 · simp [h]
def Bd (k : Int) (c : List Int) : Prop := ∀ j, -k ≤ c.getD j 0 ∧ c.getD j 0 ≤ k
theorem Bd.dec {k : Int} {c : List Int} (h : Bd k c) (i : Nat) : Bd (k + 1) (dec c i) := fun j => by
 have h1 := h j
 have h2 := h i
 unfold Go.Pv.dec
 rw [getD_set]
 split <;> omega
theorem Bd.inc {k : Int} {c : List Int} (h : Bd k c) (i : Nat) : Bd (k + 1) (inc c i) := fun j => by
 have h1 := h j
 have h2 := h i
 unfold Go.Pv.inc
 rw [getD_set]
 split <;> omega
theorem wdec {k : Int} {c : List Int} (h : Bd k c) (hk : k ≤ 100) (i : Nat) : c.set i (IntKind.wrap .i64 (c.getD i 0 - 1)) = dec c i := by
 have := h i
 rw [w64 (by omega) (by omega)]; rfl
theorem winc {k : Int} {c : List Int} (h : Bd k c) (hk : k ≤ 100) (i : Nat) : c.set i (IntKind.wrap .i64 (c.getD i 0 + 1)) = inc c i := by
 have := h i
 rw [w64 (by omega) (by omega)]; rfl
def canL (p q : Nat) (c : List Int) : Bool := decide (0 ≤ (dec (dec c p) q).getD p 0) && decide (0 ≤ (dec (dec c p) q).getD q 0)
def stepL (p q s t : Nat) (c : List Int) : List Int := inc (inc (dec (dec c p) q) s) t
def canR (r : List Int) (c : List Int) : Bool := canL (r.getD 0 0).toNat (r.getD 1 0).toNat c
def stepR (r : List Int) (c : List Int) : List Int := stepL (r.getD 0 0).toNat (r.getD 1 0).toNat (r.getD 2 0).toNat (r.getD 3 0).toNat c
theorem rule_nat {n : Int} {r : List Int} (h : RuleOk n r) : ∃ p q s t : Nat, r = [(p : Int), (q : Int), (s : Int), (t : Int)] ∧ (p : Int) < n ∧ (q : Int) < n ∧ (s : Int) < n ∧ (t : Int) < n := by
 obtain ⟨h1, h2, _⟩ := h
 match r, h1 with
 | [a, b, c, d], _ =>
   have ha := h2 a (by simp)
   have hb := h2 b (by simp)
   have hc := h2 c (by simp)
   have hd := h2 d (by simp)
   refine ⟨a.toNat, b.toNat, c.toNat, d.toNat, ?_, by omega, by omega, by omega, by omega⟩
   rw [Int.toNat_of_nonneg ha.1, Int.toNat_of_nonneg hb.1, Int.toNat_of_nonneg hc.1, Int.toNat_of_nonneg hd.1]
theorem ix {p n : Nat} (h : p < n) : idx (p : Int) n := ⟨by omega, by omega⟩
theorem can77 (N : Nat) (p q s t : Nat) (hp : p < 5) (hq : q < 5) (c : List Int) (hc : Bd 50 c) : g77 N [(p : Int), (q : Int), (s : Int), (t : Int)] c = some (canL p q c) := by
 unfold g77 canL
 have h0 : idx 0 4 := by decide
 have h1 : idx 1 4 := by decide
 have w1 := wdec hc (by omega) p
 have w2 := wdec (hc.dec p) (by omega) q
 simp only [show Int.toNat 0 = 0 from rfl, show Int.toNat 1 = 1 from rfl, List.getD_cons_zero, List.getD_cons_succ, Int.toNat_natCast, if_pos h0, if_pos h1, if_pos (ix hp), if_pos (ix hq), w1, w2]
 cases decide (0 ≤ (dec (dec c p) q).getD p 0) <;> rfl
theorem after78 (N : Nat) (p q s t : Nat) (hp : p < 5) (hq : q < 5) (hs : s < 5) (ht : t < 5) (c : List Int) (hc : Bd 50 c) : g78 N [(p : Int), (q : Int), (s : Int), (t : Int)] c = some (stepL p q s t c) := by
 unfold g78 stepL
 have h0 : idx 0 4 := by decide
 have h1 : idx 1 4 := by decide
 have h2 : idx 2 4 := by decide
 have h3 : idx 3 4 := by decide
 have w1 := wdec hc (by omega) p
 have w2 := wdec (hc.dec p) (by omega) q
 have w3 := winc ((hc.dec p).dec q) (by omega) s
 have w4 := winc (((hc.dec p).dec q).inc s) (by omega) t
 simp only [show Int.toNat 0 = 0 from rfl, show Int.toNat 1 = 1 from rfl, show Int.toNat 2 = 2 from rfl, show Int.toNat 3 = 3 from rfl, List.getD_cons_zero, List.getD_cons_succ, Int.toNat_natCast, if_pos h0, if_pos h1, if_pos h2, if_pos h3, if_pos (ix hp), if_pos (ix hq), if_pos (ix hs), if_pos (ix ht), w1, w2, w3, w4]
def meetL (x : PP) (c : List Int) (r : Int) : List Int × Bool × Unit :=
 if 0 ≤ r ∧ r < (x.2.2.2.1.length : Int) then bif canR (x.2.2.2.1.getD r.toNat (List.replicate 4 0)) c then (stepR (x.2.2.2.1.getD r.toNat (List.replicate 4 0)) c, true, ()) else (c, false, ()) else (c, false, ())
theorem meet42 (N : Nat) (x : PP) (hx : PT x) (c : List Int) (hc : (c.length : Int) = x.1) (hb : Bd 50 c) (r : Int) : g42 N x c r = some (meetL x c r) := by
 unfold g42 meetL
 by_cases h1 : r < 0
 · have e1 : decide (r < 0) = true := by simpa using h1
   rw [e1, cond_true, if_neg (by omega)]
 · have e1 : decide (r < 0) = false := by simpa using h1
   rw [e1, cond_false]
   by_cases h2 : (x.2.2.2.1.length : Int) ≤ r
   · have e2 : decide (((List.length x.2.2.2.1 : Nat) : Int) ≤ r) = true := by simpa using h2
     rw [e2, cond_true, if_neg (by omega)]
   · have e2 : decide (((List.length x.2.2.2.1 : Nat) : Int) ≤ r) = false := by simpa using h2
     have hr : r.toNat < x.2.2.2.1.length := by omega
     obtain ⟨p, q, s, t, hR, hp, hq, hs, ht⟩ := rule_nat (hx.rules.2.1 _ (getD_mem hr (List.replicate 4 0)))
     have hn := hx.n
     have hp : p < c.length := by omega
     have hq : q < c.length := by omega
     have hs : s < c.length := by omega
     have ht : t < c.length := by omega
     rw [e2, cond_false, if_pos ⟨by omega, by omega⟩, if_pos (by simp [maxCount]; omega), if_pos (show 0 ≤ r ∧ r < (x.2.2.2.1.length : Int) from ⟨by omega, by omega⟩), hR]
     have h0 : idx 0 4 := by decide
     have h1 : idx 1 4 := by decide
     have h2 : idx 2 4 := by decide
     have h3 : idx 3 4 := by decide
     have w1 := wdec hb (by omega) p
     have w2 := wdec (hb.dec p) (by omega) q
     have w3 := winc ((hb.dec p).dec q) (by omega) s
     have w4 := winc (((hb.dec p).dec q).inc s) (by omega) t
     simp only [canR, stepR, canL, stepL, show Int.toNat 0 = 0 from rfl, show Int.toNat 1 = 1 from rfl, show Int.toNat 2 = 2 from rfl, show Int.toNat 3 = 3 from rfl, List.getD_cons_zero, List.getD_cons_succ, Int.toNat_natCast, List.nil_append, dec_len, inc_len, if_pos h0, if_pos h1, if_pos h2, if_pos h3, if_pos (ix hp), if_pos (ix hq), if_pos (ix hs), if_pos (ix ht), if_pos hp, if_pos hq, if_pos hs, if_pos ht, w1, w2, w3, w4]
     by_cases k1 : (dec (dec c p) q).getD p 0 < 0
     · have k1' : ¬ (0 ≤ (dec (dec c p) q).getD p 0) := by omega
       simp only [k1, k1', decide_true, decide_false, cond_true, cond_false, Bool.false_and]
     · have k1' : 0 ≤ (dec (dec c p) q).getD p 0 := by omega
       by_cases k2 : (dec (dec c p) q).getD q 0 < 0
       · have k2' : ¬ (0 ≤ (dec (dec c p) q).getD q 0) := by omega
         simp only [k1, k1', k2, k2', decide_true, decide_false, cond_true, cond_false, Bool.false_and, Bool.and_false]
       · have k2' : 0 ≤ (dec (dec c p) q).getD q 0 := by omega
         simp only [k1, k1', k2, k2', decide_true, decide_false, cond_true, cond_false, Bool.and_true, Bool.true_and]
theorem getD_pos {c : List Int} (h : ∀ t ∈ c, 0 ≤ t) (j : Nat) : 0 ≤ c.getD j 0 := by
 by_cases hj : j < c.length
 · exact h _ (getD_mem hj 0)
 · rw [List.getD_eq_getElem?_getD, List.getElem?_eq_none (by omega)]; simp
theorem pos_of_getD {c : List Int} (h : ∀ j, 0 ≤ c.getD j 0) : ∀ t ∈ c, 0 ≤ t := fun t ht => by
 obtain ⟨j, hj, rfl⟩ := List.getElem_of_mem ht
 have := h j
 rw [List.getD_eq_getElem?_getD, List.getElem?_eq_getElem hj] at this
 exact this
theorem Crowd.bd {c : List Int} {n : Int} (h : Crowd c n) : Bd 50 c := fun j => by
 by_cases hj : j < c.length
 · have := h.le _ (getD_mem hj 0); omega
 · rw [List.getD_eq_getElem?_getD, List.getElem?_eq_none (by omega)]; simp
theorem stepL_sum {c : List Int} {p q s t : Nat} (hp : p < c.length) (hq : q < c.length) (hs : s < c.length) (ht : t < c.length) : (stepL p q s t c).sum = c.sum := by
 have s1 : (dec c p).sum = c.sum - 1 := by unfold dec; rw [set_sum _ _ _ hp]; omega
 have s2 : (dec (dec c p) q).sum = c.sum - 2 := by
   have := set_sum (dec c p) q ((dec c p).getD q 0 - 1) (by rw [dec_len]; exact hq)
   show ((dec c p).set q _).sum = _
   omega
 have s3 : (inc (dec (dec c p) q) s).sum = c.sum - 1 := by
   have := set_sum (dec (dec c p) q) s ((dec (dec c p) q).getD s 0 + 1) (by rw [dec_len, dec_len]; exact hs)
   show ((dec (dec c p) q).set s _).sum = _
   omega
 have := set_sum (inc (dec (dec c p) q) s) t ((inc (dec (dec c p) q) s).getD t 0 + 1) (by rw [inc_len, dec_len, dec_len]; exact ht)
 show ((inc (dec (dec c p) q) s).set t _).sum = _
 omega
theorem Crowd.step {c : List Int} {n : Int} (h : Crowd c n) {p q s t : Nat} (hp : p < c.length) (hq : q < c.length) (hs : s < c.length) (ht : t < c.length) (hcan : canL p q c = true) : Crowd (stepL p q s t c) n := by
 unfold canL at hcan
 simp only [Bool.and_eq_true, decide_eq_true_eq] at hcan
 have s4 := stepL_sum hp hq hs ht
 have p1 : ∀ j, 0 ≤ (dec (dec c p) q).getD j 0 := fun j => by
   by_cases h1 : j = p
   · subst h1; exact hcan.1
   · by_cases h2 : j = q
     · subst h2; exact hcan.2
     · have := getD_pos h.pos j
       unfold dec
       rw [getD_set, if_neg (by omega), getD_set, if_neg (by omega)]
       exact this
 have p2 : ∀ j, 0 ≤ (inc (dec (dec c p) q) s).getD j 0 := fun j => by
   have h1 := p1 j
   have h2 := p1 s
   unfold inc
   rw [getD_set]
   split <;> omega
 have p3 : ∀ j, 0 ≤ (stepL p q s t c).getD j 0 := fun j => by
   have h1 := p2 j
   have h2 := p2 t
   show 0 ≤ ((inc (dec (dec c p) q) s).set t _).getD j 0
   rw [getD_set]
   split <;> omega
 refine ⟨?_, pos_of_getD p3, by rw [s4]; exact h.sum⟩
 rw [← h.len]
 simp only [stepL, inc_len, dec_len]
theorem Crowd.stepR {x : PP} (hx : PT x) {c : List Int} (h : Crowd c x.1) {r : List Int} (hr : RuleOk x.1 r) (hcan : canR r c = true) : Crowd (stepR r c) x.1 := by
 obtain ⟨p, q, s, t, rfl, hp, hq, hs, ht⟩ := rule_nat hr
 have := h.len
 exact h.step (p := p) (q := q) (s := s) (t := t) (by omega) (by omega) (by omega) (by omega) hcan
def pad (c : List Int) : List Int := c ++ List.replicate (5 - c.length) 0
theorem getD_pad (c : List Int) (j : Nat) : (pad c).getD j 0 = c.getD j 0 := by
 unfold pad
 simp only [List.getD_eq_getElem?_getD, List.getElem?_append, List.getElem?_replicate]
 split
 · rfl
 · rename_i h
   rw [List.getElem?_eq_none (by omega)]
   split <;> rfl
theorem pad_set (c : List Int) (i : Nat) (v : Int) (h : i < c.length) : (pad c).set i v = pad (c.set i v) := by
 unfold pad
 rw [List.set_append_left _ _ h, List.length_set]
theorem pad_dec (c : List Int) (i : Nat) (h : i < c.length) : dec (pad c) i = pad (dec c i) := by unfold dec; rw [getD_pad, pad_set _ _ _ h]
theorem pad_inc (c : List Int) (i : Nat) (h : i < c.length) : inc (pad c) i = pad (inc c i) := by unfold inc; rw [getD_pad, pad_set _ _ _ h]
theorem pad_bd {k : Int} {c : List Int} (h : Bd k c) : Bd k (pad c) := fun j => by rw [getD_pad]; exact h j
theorem pad_can (p q : Nat) (c : List Int) (hp : p < c.length) (hq : q < c.length) : canL p q (pad c) = canL p q c := by
 unfold canL
 rw [pad_dec c p hp, pad_dec _ q (by rw [dec_len]; exact hq), getD_pad, getD_pad]
theorem pad_step (p q s t : Nat) (c : List Int) (hp : p < c.length) (hq : q < c.length) (hs : s < c.length) (ht : t < c.length) : stepL p q s t (pad c) = pad (stepL p q s t c) := by
 unfold stepL
 rw [pad_dec c p hp, pad_dec _ q (by rw [dec_len]; exact hq), pad_inc _ s (by rw [dec_len, dec_len]; exact hs), pad_inc _ t (by rw [inc_len, dec_len, dec_len]; exact ht)]
theorem pad_take (c : List Int) : (pad c).take c.length = c := by unfold pad; rw [List.take_left']; rfl
theorem can_pad (N : Nat) {x : PP} (hx : PT x) {c : List Int} (hc : Crowd c x.1) {r : List Int} (hr : RuleOk x.1 r) : g77 N r (pad c) = some (canR r c) := by
 obtain ⟨p, q, s, t, rfl, hp, hq, hs, ht⟩ := rule_nat hr
 have := hc.len
 have := hx.n
 rw [can77 N p q s t (by omega) (by omega) _ (pad_bd hc.bd), pad_can p q c (by omega) (by omega)]
 rfl
theorem after_pad (N : Nat) {x : PP} (hx : PT x) {c : List Int} (hc : Crowd c x.1) {r : List Int} (hr : RuleOk x.1 r) : g78 N r (pad c) = some (pad (stepR r c)) := by
 obtain ⟨p, q, s, t, rfl, hp, hq, hs, ht⟩ := rule_nat hr
 have := hc.len
 have := hx.n
 rw [after78 N p q s t (by omega) (by omega) (by omega) (by omega) _ (pad_bd hc.bd), pad_step p q s t c (by omega) (by omega) (by omega) (by omega)]
 rfl
end Go.Pv
namespace Go.Pv
theorem nodup_len : ∀ {L M : List (List Int)}, L.Nodup → (∀ d ∈ L, d ∈ M) → L.length ≤ M.length
 | [], M, _, _ => by simp
 | a :: L, M, h, hs => by
   have h1 := List.nodup_cons.1 h
   have ha : a ∈ M := hs a (by simp)
   have ih := nodup_len (L := L) (M := M.erase a) h1.2 (fun d hd => by
     have hne : d ≠ a := fun e => h1.1 (e ▸ hd)
     exact (List.mem_erase_of_ne hne).2 (hs d (by simp [hd])))
   have hl := List.length_erase_of_mem ha
   have hp := List.length_pos_of_mem ha
   simp only [List.length_cons]
   omega
def allC : Nat → Nat → List (List Int)
 | 0, 0 => [[]]
 | 0, _ + 1 => []
 | n + 1, s => (List.range (s + 1)).flatMap fun k => (allC n (s - k)).map fun l => (k : Int) :: l
theorem mem_allC : ∀ (n s : Nat) (l : List Int), l.length = n → (∀ t ∈ l, 0 ≤ t) → l.sum = (s : Int) → l ∈ allC n s
 | 0, 0, [], _, _, _ => by simp [allC]
 | 0, s + 1, [], _, _, h => by simp at h; omega
 | n + 1, s, a :: l, hl, hp, hs => by
   have ha := hp a (by simp)
   have hn := sum_nonneg l (fun t ht => hp t (by simp [ht]))
   simp only [List.sum_cons] at hs
   simp only [allC, List.mem_flatMap, List.mem_range, List.mem_map]
   refine ⟨a.toNat, by omega, l, mem_allC n (s - a.toNat) l (by simpa using hl) (fun t ht => hp t (by simp [ht])) (by omega), by rw [Int.toNat_of_nonneg ha]⟩
def lensB : Bool := [1, 2, 3, 4, 5].all fun n => [0, 1, 2, 3, 4, 5, 6, 7, 8, 9].all fun s => decide ((allC n s).length ≤ 715)
theorem lens_ok : lensB = true := by decide +kernel
theorem allC_len (n s : Nat) (h1 : 1 ≤ n) (h2 : n ≤ 5) (h3 : s ≤ 9) : (allC n s).length ≤ 715 := by
 have h := lens_ok
 unfold lensB at h
 have a := List.all_eq_true.1 h n (by simp; omega)
 have b := List.all_eq_true.1 a s (by simp; omega)
 exact of_decide_eq_true b
def nbr (x : PP) (c : List Int) : List (List Int) := (x.2.2.2.1.filter fun r => canR r c).map fun r => stepR r c
def addN (L : List (List Int)) (d : List Int) : List (List Int) := if d ∈ L then L else L ++ [d]
def rnd (x : PP) (L : List (List Int)) (c : List Int) : List (List Int) := (nbr x c).foldl addN L
def bfs (x : PP) : Nat → Nat → List (List Int) → List (List Int)
 | 0, _, L => L
 | F + 1, i, L => if i < L.length then bfs x F (i + 1) (rnd x L (L.getD i [])) else L
inductive Reach (x : PP) : List Int → List Int → Prop
 | refl (c) : Reach x c c
 | step {c d e} : Reach x c d → e ∈ nbr x d → Reach x c e
theorem Reach.trans {x : PP} {c d e : List Int} (h1 : Reach x c d) (h2 : Reach x d e) : Reach x c e := by
 induction h2 with
 | refl => exact h1
 | step _ hn ih => exact ih.step hn
theorem nbr_crowd {x : PP} (hx : PT x) {c d : List Int} (hc : Crowd c x.1) (hd : d ∈ nbr x c) : Crowd d x.1 ∧ d.sum = c.sum := by
 unfold nbr at hd
 obtain ⟨r, hr, rfl⟩ := List.mem_map.1 hd
 obtain ⟨hr, hcan⟩ := List.mem_filter.1 hr
 have hro := hx.rules.2.1 r hr
 refine ⟨hc.stepR hx hro hcan, ?_⟩
 obtain ⟨p, q, s, t, rfl, hp, hq, hs, ht⟩ := rule_nat hro
 have hl := hc.len
 exact stepL_sum (p := p) (q := q) (s := s) (t := t) (by omega) (by omega) (by omega) (by omega)
theorem Reach.crowd {x : PP} (hx : PT x) {c d : List Int} (h : Reach x c d) (hc : Crowd c x.1) : Crowd d x.1 ∧ d.sum = c.sum := by
 induction h with
 | refl => exact ⟨hc, rfl⟩
 | step _ hn ih =>
   obtain ⟨h1, h2⟩ := nbr_crowd hx ih.1 hn
   exact ⟨h1, h2.trans ih.2⟩
theorem addN_mem {L : List (List Int)} {d e : List Int} : e ∈ addN L d ↔ e ∈ L ∨ e = d := by
 unfold addN
 split
 · rename_i h
   constructor
   · exact .inl
   · rintro (h1 | rfl)
     · exact h1
     · exact h
 · simp
theorem addN_nodup {L : List (List Int)} (h : L.Nodup) (d : List Int) : (addN L d).Nodup := by
 unfold addN
 split
 · exact h
 · rename_i hd
   rw [List.nodup_append]
   refine ⟨h, by simp, fun a ha b hb => ?_⟩
   obtain rfl := List.mem_singleton.1 hb
   exact fun e => hd (e ▸ ha)
theorem addN_pre (L : List (List Int)) (d : List Int) : ∃ T, addN L d = L ++ T := by
 unfold addN
 split
 · exact ⟨[], by simp⟩
 · exact ⟨[d], rfl⟩
theorem fold_mem {ds : List (List Int)} : ∀ {L : List (List Int)} {e : List Int}, e ∈ ds.foldl addN L ↔ e ∈ L ∨ e ∈ ds := by
 induction ds with
 | nil => intro L e; simp
 | cons d ds ih =>
   intro L e
   rw [List.foldl_cons, ih, addN_mem, List.mem_cons, or_assoc]
theorem fold_nodup {ds : List (List Int)} : ∀ {L : List (List Int)}, L.Nodup → (ds.foldl addN L).Nodup := by
 induction ds with
 | nil => intro L h; exact h
 | cons d ds ih => intro L h; exact ih (addN_nodup h d)
theorem fold_pre {ds : List (List Int)} : ∀ (L : List (List Int)), ∃ T, ds.foldl addN L = L ++ T := by
 induction ds with
 | nil => intro L; exact ⟨[], by simp⟩
 | cons d ds ih =>
   intro L
   obtain ⟨T, h1⟩ := addN_pre L d
   obtain ⟨T2, h2⟩ := ih (addN L d)
   exact ⟨T ++ T2, by rw [List.foldl_cons, h2, h1, List.append_assoc]⟩
structure BInv (x : PP) (c : List Int) (i : Nat) (L : List (List Int)) : Prop where
 head : L.getD 0 [] = c ∧ 0 < L.length
 nodup : L.Nodup
 reach : ∀ d ∈ L, Reach x c d
 closed : ∀ j, j < i → ∀ e ∈ nbr x (L.getD j []), e ∈ L
 le : i ≤ L.length
theorem getD_app (L T : List (List Int)) (i : Nat) (h : i < L.length) : (L ++ T).getD i [] = L.getD i [] := by
 simp only [List.getD_eq_getElem?_getD, List.getElem?_append, h, if_true]
theorem BInv.next {x : PP} {c : List Int} {i : Nat} {L : List (List Int)} (h : BInv x c i L) (hi : i < L.length) : BInv x c (i + 1) (rnd x L (L.getD i [])) := by
 obtain ⟨T, hT⟩ := fold_pre (ds := nbr x (L.getD i [])) L
 have hm := h.reach _ (getD_mem hi [])
 refine ⟨?_, fold_nodup h.nodup, fun d hd => ?_, fun j hj e he => ?_, ?_⟩
 · unfold rnd
   rw [hT, getD_app _ _ _ h.head.2]
   exact ⟨h.head.1, by have := h.head.2; simp; omega⟩
 · rcases fold_mem.1 hd with hd | hd
   · exact h.reach d hd
   · exact hm.step hd
 · unfold rnd at he ⊢
   refine fold_mem.2 ?_
   rw [hT, getD_app _ _ _ (by omega)] at he
   by_cases hji : j = i
   · subst hji; exact .inr he
   · exact .inl (h.closed j (by omega) e he)
 · unfold rnd
   rw [hT]; simp; omega
theorem BInv.len {x : PP} (hx : PT x) {c : List Int} (hc : Crowd c x.1) {i : Nat} {L : List (List Int)} (h : BInv x c i L) : L.length ≤ 715 := by
 have hn := hx.n
 have hs := hc.sum
 refine Nat.le_trans (nodup_len h.nodup (M := allC x.1.toNat c.sum.toNat) fun d hd => ?_) (allC_len _ _ (by omega) (by omega) (by omega))
 obtain ⟨h1, h2⟩ := (h.reach d hd).crowd hx hc
 have := h1.len
 exact mem_allC _ _ d (by omega) h1.pos (by rw [h2]; omega)
theorem BInv.start (x : PP) (c : List Int) : BInv x c 0 [c] :=
 ⟨⟨rfl, by simp⟩, by simp, fun d hd => by obtain rfl := List.mem_singleton.1 hd; exact .refl d, fun j hj => by omega, by simp⟩
structure Found (x : PP) (c : List Int) (L : List (List Int)) : Prop where
 head : L.getD 0 [] = c ∧ 0 < L.length
 nodup : L.Nodup
 mem : ∀ d, d ∈ L ↔ Reach x c d
 len : L.length ≤ 715
theorem BInv.found {x : PP} (hx : PT x) {c : List Int} (hc : Crowd c x.1) {L : List (List Int)} (h : BInv x c L.length L) : Found x c L := by
 refine ⟨h.head, h.nodup, fun d => ⟨h.reach d, fun hr => ?_⟩, h.len hx hc⟩
 induction hr with
 | refl => rw [← h.head.1]; exact getD_mem h.head.2 []
 | step _ hn ih =>
   obtain ⟨j, hj, rfl⟩ := List.getElem_of_mem ih
   refine h.closed j hj _ ?_
   rw [List.getD_eq_getElem?_getD, List.getElem?_eq_getElem hj]
   exact hn
theorem bfs_found {x : PP} (hx : PT x) {c : List Int} (hc : Crowd c x.1) : ∀ (F i : Nat) (L : List (List Int)), BInv x c i L → 715 < F + i → Found x c (bfs x F i L)
 | 0, i, L, h, hF => by have := h.len hx hc; have := h.le; omega
 | F + 1, i, L, h, hF => by
   unfold bfs
   split
   · rename_i hi
     exact bfs_found hx hc F (i + 1) _ (h.next hi) (by omega)
   · rename_i hi
     have : i = L.length := by have := h.le; omega
     subst this
     exact h.found hx hc
end Go.Pv
namespace Go.Pv
section
variable {α β : Type} {eq : α → α → Bool} (heq : ∀ a b, eq a b = true ↔ a = b)
include heq
theorem find_put [DecidableEq α] (k k' : α) (v : β) : ∀ m : List (α × β), mapFind eq k' (mapPut eq k v m) = if k' = k then some v else mapFind eq k' m
 | [] => by
   simp only [mapPut, mapFind]
   by_cases h : k' = k
   · rw [if_pos ((heq _ _).2 h), if_pos h]
   · rw [if_neg (fun h2 => h ((heq _ _).1 h2)), if_neg h]
 | q :: r => by
   simp only [mapPut]
   by_cases h1 : eq k q.1 = true
   · rw [if_pos h1]
     have e1 := (heq _ _).1 h1
     simp only [mapFind]
     by_cases h : k' = k
     · rw [if_pos ((heq _ _).2 h), if_pos h]
     · have h2 : ¬ (eq k' q.1 = true) := fun h2 => h ((heq _ _).1 h2 |>.trans e1.symm)
       have h3 : ¬ (eq k' k = true) := fun h2 => h ((heq _ _).1 h2)
       rw [if_neg h3, if_neg h, if_neg h2]
   · rw [if_neg h1]
     simp only [mapFind]
     by_cases h2 : eq k' q.1 = true
     · have e2 := (heq _ _).1 h2
       have h : k' ≠ k := fun h => h1 ((heq _ _).2 (h.symm.trans e2))
       rw [if_pos h2, if_neg h, if_pos h2]
     · rw [if_neg h2, find_put k k' v r, if_neg h2]
end
theorem go_eq : ∀ a b : List Int, Ty.beq.go ieq a b = true ↔ a = b
 | [], [] => by simp [Ty.beq.go]
 | [], _ :: _ => by simp [Ty.beq.go]
 | _ :: _, [] => by simp [Ty.beq.go]
 | x :: a, y :: b => by simp [Ty.beq.go, go_eq a b, ieq]
theorem arr_eq (a b : List Int) : Ty.beq (.arr 5 (.int .i64)) a b = true ↔ a = b := go_eq a b
theorem int_eq (a b : Int) : Ty.beq (.int .i64) a b = true ↔ a = b := by
 show ieq a b = true ↔ a = b
 simp [ieq]
theorem pad_inj {a b : List Int} (h : a.length = b.length) (he : pad a = pad b) : a = b := by
 have := congrArg (List.take a.length) he
 rw [pad_take] at this
 rw [this, h, pad_take]
abbrev HowT := List (List Int × (List Int × Int × Unit))
def HInv (n : Int) (how : HowT) (L : List (List Int)) : Prop := ∀ e : List Int, (e.length : Int) = n → (mapFind (Ty.beq (.arr 5 (.int .i64))) (pad e) how).isSome = decide (e ∈ L)
abbrev t79 : Ty := .pair (.int .i64) (tyO [.box (.d (.pair (.int .i64) (.pair (.lst (.int .i64)) (.pair (.lst (.int .i64)) (.pair (.lst (.arr 4 (.int .i64))) .unit))))) (.a (.d (.pair (.int .i64) (.pair (.lst (.int .i64)) (.pair (.lst (.int .i64)) (.pair (.lst (.arr 4 (.int .i64))) .unit)))))), .box .leaf (.a (.mp 13 0)), .box (.d (.lst (.arr 5 (.int .i64)))) (.a (.sl (.arr 5 (.int .i64)) 18 0)), .box (.d (.int .i64)) (.a (.d (.int .i64))), .map (.arr 5 (.int .i64)) (.pair (.arr 5 (.int .i64)) (.pair (.int .i64) .unit)), .vec (.arr 5 (.int .i64))])
noncomputable abbrev run79 (N : Nat) : Cbs t79 := ⟨(g79R7826 N).told.run [(.ref 2 0 []), (.ref 6 0 []), (.ref 7 0 []), (.ref 8 0 [])], .unit, fun _ _ => none⟩
theorem nbr_drop (x : PP) (d : List Int) (k : Nat) (hk : k < x.2.2.2.1.length) (L : List (List Int)) :
   (((x.2.2.2.1.drop k).filter fun r => canR r d).map fun r => stepR r d).foldl addN L =
     (((x.2.2.2.1.drop (k + 1)).filter fun r => canR r d).map fun r => stepR r d).foldl addN (if canR (x.2.2.2.1.getD k (List.replicate 4 0)) d = true then addN L (stepR (x.2.2.2.1.getD k (List.replicate 4 0)) d) else L) := by
 have hd : x.2.2.2.1.drop k = x.2.2.2.1.getD k (List.replicate 4 0) :: x.2.2.2.1.drop (k + 1) := by
   rw [List.drop_eq_getElem_cons hk]; simp [hk]
 rw [hd, List.filter_cons]
 split <;> rfl
theorem reach_loop (N : Nat) {x : PP} (hx : PT x) {C : Type} (k0 k1 : Cbs t79 → t79.T → Option C) (d : List Int) (hd : Crowd d x.1) (i : Nat) :
   ∀ (F k : Nat) (L : List (List Int)) (how : HowT), x.2.2.2.1.length - k < F → k ≤ x.2.2.2.1.length → HInv x.1 how L → i < L.length → L.length + (x.2.2.2.1.length - k) ≤ 10000 → ∃ how', HInv x.1 how' ((((x.2.2.2.1.drop k).filter fun r => canR r d).map fun r => stepR r d).foldl addN L) ∧
     g98xL6f N F t79 k0 k1 (pad d) x.2.2.2.1 (x.2.2.2.1.length : Int) (k : Int) (run79 N) ((0, (x, (), (), (i : Int), how, L.map pad, ())) : t79.T) = k1 (run79 N) ((0, (x, (), (), (i : Int), how', ((((x.2.2.2.1.drop k).filter fun r => canR r d).map fun r => stepR r d).foldl addN L).map pad, ())) : t79.T)
 | 0, k, L, how, h, _, _, _, _ => by omega
 | F + 1, k, L, how, h, hk, hI, hi, hlen => by
   rw [g98xL6f_succ]
   unfold g98xL6B
   have hr15 := hx.rules.1
   by_cases hlt : k < x.2.2.2.1.length
   · have e1 : decide ((k : Int) < (x.2.2.2.1.length : Int)) = true := by simp; omega
     have hro := hx.rules.2.1 _ (getD_mem hlt (List.replicate 4 0))
     rw [e1, cond_true, if_pos (ix hlt), Int.toNat_natCast]
     dsimp only
     rw [can_pad N hx hd hro, nbr_drop x d k hlt L]
     simp only [Option.bind_some]
     cases hcan : canR (x.2.2.2.1.getD k (List.replicate 4 0)) d with
     | false =>
       simp only [cond_false]
       rw [wn k (by omega)]
       obtain ⟨how', h1, h2⟩ := reach_loop N hx k0 k1 d hd i F (k + 1) L how (by omega) (by omega) hI hi (by omega)
       exact ⟨how', h1, h2⟩
     | true =>
       have hs := hd.stepR hx hro hcan
       simp only [cond_true]
       rw [after_pad N hx hd hro]
       simp only [Option.bind_some, if_true]
       generalize stepR (x.2.2.2.1.getD k (List.replicate 4 0)) d = e at hs ⊢
       have hy : (g79R7826 N).told.run [(.ref 2 0 []), (.ref 6 0 []), (.ref 7 0 []), (.ref 8 0 [])] ((0 : Int), (x, (), (), (i : Int), how, L.map pad, ())) [.dat (.int .i64) (k : Int), .dat (.arr 5 (.int .i64)) (pad e)] = g79R7826B N (fun vo2 vo8 vo13 vo18 => some (((0, (vo2, (), (), vo8, vo13, vo18, ())) : t79.T), true)) x (i : Int) how (L.map pad) (k : Int) (pad e) :=
         (g79R7826_run N x (i : Int) how (L.map pad) 0 (k : Int) (pad e)).trans (if_pos rfl)
       have hf := hI e hs.len
       rw [wn k (by omega)]
       by_cases hm : e ∈ L
       · have ea : addN L e = L := by unfold addN; rw [if_pos hm]
         rw [decide_eq_true hm] at hf
         rw [ea]
         have hy2 : g79R7826B N (fun vo2 vo8 vo13 vo18 => some (((0, (vo2, (), (), vo8, vo13, vo18, ())) : t79.T), true)) x (i : Int) how (L.map pad) (k : Int) (pad e) = some (((0, (x, (), (), (i : Int), how, L.map pad, ())) : t79.T), true) := by
           unfold g79R7826B
           rw [hf, Bool.not_true, cond_false]
         obtain ⟨how', a1, a2⟩ := reach_loop N hx k0 k1 d hd i F (k + 1) L how (by omega) (by omega) hI hi (by omega)
         exact ⟨how', a1, (congrArg (fun o => Option.bind o _) (hy.trans hy2)).trans a2⟩
       · have ea : addN L e = L ++ [e] := by unfold addN; rw [if_neg hm]
         rw [decide_eq_false hm] at hf
         rw [ea]
         have hy2 : g79R7826B N (fun vo2 vo8 vo13 vo18 => some (((0, (vo2, (), (), vo8, vo13, vo18, ())) : t79.T), true)) x (i : Int) how (L.map pad) (k : Int) (pad e) = some (((0, (x, (), (), (i : Int), mapPut (Ty.beq (.arr 5 (.int .i64))) (pad e) ((List.getD (L.map pad) (Int.toNat (i : Int)) (List.replicate 5 0)), (k : Int), ()) how, (L ++ [e]).map pad, ())) : t79.T), true) := by
           unfold g79R7826B
           rw [hf, Bool.not_false, cond_true, if_pos ⟨by omega, by simp; omega⟩, if_pos (by simp; omega), if_pos (by simp [maxCount]; omega), show List.map pad L ++ [pad e] = (L ++ [e]).map pad by simp]
         obtain ⟨how', a1, a2⟩ := reach_loop N hx k0 k1 d hd i F (k + 1) (L ++ [e]) (mapPut (Ty.beq (.arr 5 (.int .i64))) (pad e) ((List.getD (L.map pad) (Int.toNat (i : Int)) (List.replicate 5 0)), (k : Int), ()) how) (by omega) (by omega) (fun e' he' => by
           rw [find_put arr_eq]
           by_cases hee : e' = e
           · subst hee
             simp
           · have hp : ¬ (pad e' = pad e) := fun hp => hee (pad_inj (by have := hs.len; omega) hp)
             rw [if_neg hp, hI e' he']
             simp [hee]) (by simp; omega) (by simp; omega)
         exact ⟨how', a1, (congrArg (fun o => Option.bind o _) (hy.trans hy2)).trans a2⟩
   · have e1 : decide ((k : Int) < (x.2.2.2.1.length : Int)) = false := by simp; omega
     rw [e1, cond_false, List.drop_eq_nil_of_le (by omega)]
     exact ⟨how, hI, rfl⟩
theorem reached_loop (N : Nat) (hN : 100 < N) {x : PP} (hx : PT x) {C : Type} (k0 : PP → Int → HowT → List (List Int) → Option C) {c : List Int} (hc : Crowd c x.1) :
   ∀ (F i : Nat) (L : List (List Int)) (how : HowT), 716 < F + i → BInv x c i L → HInv x.1 how L → ∃ how' L', Found x c L' ∧ HInv x.1 how' L' ∧ L' = bfs x F i L ∧ g79L122f N F k0 x (i : Int) how (L.map pad) = k0 x (L'.length : Int) how' (L'.map pad)
 | 0, i, L, how, hF, hB, hI => by have := hB.len hx hc; have := hB.le; omega
 | F + 1, i, L, how, hF, hB, hI => by
   rw [g79L122f_succ]
   unfold g79L122B
   have hl := hB.len hx hc
   have hr15 := hx.rules.1
   unfold bfs
   by_cases hlt : i < L.length
   · have e1 : decide ((i : Int) < ((L.map pad).length : Int)) = true := by simp; omega
     have hm := (hB.reach _ (getD_mem hlt [])).crowd hx hc
     have eg : (L.map pad).getD i (List.replicate 5 0) = pad (L.getD i []) := by
       simp only [List.getD_eq_getElem?_getD, List.getElem?_map, List.getElem?_eq_getElem hlt, Option.map_some, Option.getD_some]
     rw [if_pos hlt, e1, cond_true, if_pos ⟨by omega, by simp; omega⟩, if_pos (by simp; omega), Int.toNat_natCast, eg]
     unfold g95x
     simp only [Option.bind_some]
     unfold g98x
     rw [g98xL6_eq]
     obtain ⟨how1, h1, h2⟩ := reach_loop N hx (fun e6 e7 => some ((()), ((e6, e7), ()), (()))) (fun e8 e9 => some ((()), ((e8, e9), ()), (()))) (L.getD i []) hm.1 i N 0 L how (by omega) (by omega) hI hlt (by omega)
     simp only [Int.natCast_zero, List.drop_zero] at h1 h2
     have hnb : (((x.2.2.2.1.filter fun r => canR r (L.getD i [])).map fun r => stepR r (L.getD i [])).foldl addN L) = rnd x L (L.getD i []) := rfl
     rw [hnb] at h1 h2
     obtain ⟨how', L', g1, g2, g3, g4⟩ := reached_loop N hN hx k0 hc F (i + 1) (rnd x L (L.getD i [])) how1 (by omega) (hB.next hlt) h1
     refine ⟨how', L', g1, g2, g3, ?_⟩
     refine (congrArg (fun o => Option.bind o _) h2).trans ?_
     simp only [Option.bind_some, asT]
     rw [if_pos trivial, wn i (by omega)]
     exact g4
   · have e1 : decide ((i : Int) < ((L.map pad).length : Int)) = false := by simp; omega
     have hi : i = L.length := by have := hB.le; omega
     rw [e1, cond_false, if_neg hlt]
     subst hi
     exact ⟨how, L, hB.found hx hc, hI, rfl, rfl⟩
def allL (x : PP) (c : List Int) : List (List Int) := bfs x 2000 0 [c]
theorem allL_found {x : PP} (hx : PT x) {c : List Int} (hc : Crowd c x.1) : Found x c (allL x c) := bfs_found hx hc 2000 0 [c] (.start x c) (by omega)
theorem reached79 {x : PP} (hx : PT x) {c : List Int} (hc : Crowd c x.1) : ∃ how, HInv x.1 how (allL x c) ∧ g79 2000 x (pad c) = some ((allL x c).map pad, how, ()) := by
 unfold g79
 rw [g79L122_eq]
 obtain ⟨how, L, h1, h2, h3, h4⟩ := reached_loop 2000 (by omega) hx (fun e3 e4 e5 e6 => some ((e6, e5, ()) : List (List Int) × HowT × Unit)) hc 2000 0 [c] (mapPut (Ty.beq (.arr 5 (.int .i64))) (pad c) ((List.replicate 5 0), 0, ()) []) (by omega) (.start x c) (fun e he => by
   rw [find_put arr_eq]
   by_cases hee : e = c
   · subst hee; simp
   · have hp : ¬ (pad e = pad c) := fun hp => hee (pad_inj (by have := hc.len; omega) hp)
     rw [if_neg hp]
     simp [mapFind, hee])
 subst h3
 simp only [Int.natCast_zero] at h4
 exact ⟨how, h2, h4⟩
end Go.Pv
namespace Go.Pv
end Go.Pv
namespace Go.Pv
theorem awake_true : g29 2000 = some true := by kernel_rfl
end Go.Pv
namespace Go.Pv
def allOn (x : PP) (c : List Int) (on : Int) : Prop := ∀ s, 0 < c.getD s 0 → x.2.1.getD s 0 = on
def SetOn (x : PP) (c : List Int) (on : Int) : Prop := ∀ d, Reach x c d → allOn x d on
def DecOn (x : PP) (c : List Int) (on : Int) : Prop := ∀ d, Reach x c d → ∃ e, Reach x d e ∧ SetOn x e on
theorem some_pos {c : List Int} {n : Int} (hc : Crowd c n) : ∃ s, s < c.length ∧ 0 < c.getD s 0 := by
 by_cases h : ∃ s, s < c.length ∧ 0 < c.getD s 0
 · exact h
 · exfalso
   have hz : ∀ t ∈ c, t = 0 := fun t ht => by
     obtain ⟨j, hj, rfl⟩ := List.getElem_of_mem ht
     have h1 := hc.pos _ ht
     have h2 : ¬ 0 < c.getD j 0 := fun h2 => h ⟨j, hj, h2⟩
     rw [List.getD_eq_getElem?_getD, List.getElem?_eq_getElem hj] at h2
     simp at h2; omega
   have : ∀ l : List Int, (∀ t ∈ l, t = 0) → l.sum = 0 := by
     intro l
     induction l with
     | nil => intro _; rfl
     | cons a l ih =>
       intro h
       have h1 := h a (by simp)
       have h2 := ih (fun t ht => h t (by simp [ht]))
       simp [h1, h2]
   have := this c hz
   have := hc.sum
   omega
theorem allOn_one {x : PP} {c : List Int} {n a b : Int} (hc : Crowd c n) (ha : allOn x c a) (hb : allOn x c b) : a = b := by
 obtain ⟨s, _, hs⟩ := some_pos hc
 rw [← ha s hs, ← hb s hs]
theorem SetOn.one {x : PP} {c : List Int} {n a b : Int} (hc : Crowd c n) (ha : SetOn x c a) (hb : SetOn x c b) : a = b := allOn_one hc (ha c (.refl c)) (hb c (.refl c))
theorem SetOn.next {x : PP} {c d : List Int} {a : Int} (h : SetOn x c a) (hr : Reach x c d) : SetOn x d a := fun e he => h e (hr.trans he)
theorem DecOn.next {x : PP} {c d : List Int} {a : Int} (h : DecOn x c a) (hr : Reach x c d) : DecOn x d a := fun e he => h e (hr.trans he)
theorem SetOn.dec {x : PP} {c : List Int} {a : Int} (h : SetOn x c a) : DecOn x c a := fun d hd => ⟨d, .refl d, h.next hd⟩
theorem SetOn.decOne {x : PP} (hx : PT x) {c : List Int} {a b : Int} (hc : Crowd c x.1) (h : SetOn x c a) (h2 : DecOn x c b) : a = b := by
 obtain ⟨e, he, hs⟩ := h2 c (.refl c)
 exact SetOn.one (he.crowd hx hc).1 (h.next he) hs
theorem DecOn.one {x : PP} (hx : PT x) {c : List Int} {a b : Int} (hc : Crowd c x.1) (h : DecOn x c a) (h2 : DecOn x c b) : a = b := by
 obtain ⟨e, he, hs⟩ := h c (.refl c)
 exact hs.decOne hx (he.crowd hx hc).1 (h2.next he)
theorem op_loop (N : Nat) {C : Type} (k0 : Int → Int → PP → Option C) (k1 : Int → PP → Option C) {x : PP} (hx : PT x) {c : List Int} (hc : Crowd c x.1) :
   ∀ (F i : Nat) (out : Int), 5 - i < F → i ≤ 5 → ((out = -1 ∧ ∀ s, s < i → c.getD s 0 = 0) ∨ (0 ≤ out ∧ out ≤ 1 ∧ (∃ s, 0 < c.getD s 0 ∧ x.2.1.getD s 0 = out) ∧ ∀ s, s < i → 0 < c.getD s 0 → x.2.1.getD s 0 = out)) →
     (∃ s t, 0 < c.getD s 0 ∧ 0 < c.getD t 0 ∧ x.2.1.getD s 0 ≠ x.2.1.getD t 0 ∧ ∃ o, g94L58f N F k0 k1 out (pad c) (i : Int) x = k0 (-1) o x) ∨ (∃ v, 0 ≤ v ∧ v ≤ 1 ∧ allOn x c v ∧ g94L58f N F k0 k1 out (pad c) (i : Int) x = k1 v x)
 | 0, i, out, h, _, _ => by omega
 | F + 1, i, out, h, hi, hI => by
   rw [g94L58f_succ]
   unfold g94L58B
   have hcl := hc.len
   have hn := hx.n
   obtain ⟨ho1, ho2⟩ := hx.out
   have hz : ∀ s, ¬ s < c.length → c.getD s 0 = 0 := fun s hs => by
     rw [List.getD_eq_getElem?_getD, List.getElem?_eq_none (by omega)]; rfl
   by_cases hlt : i < 5
   · have e1 : decide ((i : Int) < 5) = true := by simp; omega
     rw [e1, cond_true, if_pos (ix hlt), Int.toNat_natCast, getD_pad]
     by_cases h0 : c.getD i 0 = 0
     · have e2 : ieq (c.getD i 0) 0 = true := by simp only [ieq, decide_eq_true_eq]; exact h0
       rw [e2, cond_true, wn i (by omega)]
       refine op_loop N k0 k1 hx hc F (i + 1) out (by omega) (by omega) ?_
       rcases hI with ⟨h1, h2⟩ | ⟨h1, h2, h3, h4⟩
       · refine .inl ⟨h1, fun s hs => ?_⟩
         by_cases hsi : s = i
         · subst hsi; exact h0
         · exact h2 s (by omega)
       · refine .inr ⟨h1, h2, h3, fun s hs hp => ?_⟩
         by_cases hsi : s = i
         · subst hsi; omega
         · exact h4 s (by omega) hp
     · have e2 : ieq (c.getD i 0) 0 = false := by simp only [ieq, decide_eq_false_iff_not]; exact h0
       have hp : 0 < c.getD i 0 := by have := getD_pos hc.pos i; omega
       have hic : i < c.length := Decidable.byContradiction fun h => h0 (hz i h)
       have hio : i < x.2.1.length := by omega
       obtain ⟨b1, b2⟩ := ho2 _ (getD_mem hio 0)
       rw [e2, cond_false, if_pos (ix hio), wn i (by omega)]
       have go : (out = -1 ∨ x.2.1.getD i 0 = out) → _ := fun hh => op_loop N k0 k1 hx hc F (i + 1) (x.2.1.getD i 0) (by omega) (by omega) (.inr ⟨b1, b2, ⟨i, hp, rfl⟩, fun s hs hps => by
         by_cases hsi : s = i
         · subst hsi; rfl
         · rcases hI with ⟨h1, h2⟩ | ⟨h1, h2, h3, h4⟩
           · have := h2 s (by omega); omega
           · rw [h4 s (by omega) hps]
             rcases hh with hh | hh
             · omega
             · exact hh.symm⟩)
       rcases hI with ⟨h1, h2⟩ | ⟨h1, h2, ⟨s, hs1, hs2⟩, h4⟩
       · have e3 : decide ((0 : Int) ≤ out) = false := by simp; omega
         rw [e3, cond_false, if_pos (ix hio)]
         exact go (.inl h1)
       · have e3 : decide ((0 : Int) ≤ out) = true := by simp; omega
         rw [e3, cond_true]
         by_cases heq : x.2.1.getD i 0 = out
         · have e4 : ieq (x.2.1.getD i 0) out = true := by simp only [ieq, decide_eq_true_eq]; exact heq
           rw [e4, Bool.not_true, cond_false, if_pos (ix hio)]
           exact go (.inr heq)
         · have e4 : ieq (x.2.1.getD i 0) out = false := by simp only [ieq, decide_eq_false_iff_not]; exact heq
           rw [e4, Bool.not_false, cond_true]
           exact .inl ⟨i, s, hp, hs1, by rw [hs2]; exact heq, out, rfl⟩
   · have e1 : decide ((i : Int) < 5) = false := by simp; omega
     rw [e1, cond_false]
     rcases hI with ⟨h1, h2⟩ | ⟨h1, h2, h3, h4⟩
     · exfalso
       obtain ⟨s, hs, hp⟩ := some_pos hc
       have := h2 s (by omega)
       omega
     · refine .inr ⟨out, h1, h2, fun s hp => ?_, rfl⟩
       by_cases hs : s < c.length
       · exact h4 s (by omega) hp
       · have := hz s hs; omega
theorem op94 (N : Nat) (hN : 10 < N) {x : PP} (hx : PT x) {c : List Int} (hc : Crowd c x.1) : ∃ v, g94 N x (pad c) = some v ∧ -1 ≤ v ∧ v ≤ 1 ∧ ∀ on, 0 ≤ on → (v = on ↔ allOn x c on) := by
 unfold g94
 rw [g94L58_eq]
 have := op_loop N (fun e1 e2 e3 => some e1) (fun e4 e5 => some e4) hx hc N 0 (-1) (by omega) (by omega) (.inl ⟨rfl, fun s hs => by omega⟩)
 simp only [Int.natCast_zero] at this
 rcases this with ⟨s, t, h1, h2, h3, o, h4⟩ | ⟨v, h1, h2, h3, h4⟩
 · refine ⟨-1, h4, by omega, by omega, fun on hon => ⟨fun h => by omega, fun h => ?_⟩⟩
   exact absurd ((h s h1).trans (h t h2).symm) h3
 · exact ⟨v, h4, by omega, h2, fun on hon => ⟨fun h => h ▸ h3, fun h => allOn_one hc h3 h⟩⟩
theorem set_loop (N : Nat) (hN : 10 < N) {C : Type} (k0 : Int → Int → PP → Option C) (k1 : Int → PP → Option C) {x : PP} (hx : PT x) (out : Int) (L : List (List Int)) (hL : ∀ d ∈ L, Crowd d x.1) (hl : L.length ≤ 1000) :
   ∀ (F i : Nat), L.length - i < F → i ≤ L.length → ((∃ d w, d ∈ L ∧ g94 N x (pad d) = some w ∧ w ≠ out) ∧ g71L122f N F k0 k1 out (L.map pad) ((L.map pad).length : Int) (i : Int) x = k0 (-1) out x) ∨ ((∀ j, i ≤ j → j < L.length → g94 N x (pad (L.getD j [])) = some out) ∧ g71L122f N F k0 k1 out (L.map pad) ((L.map pad).length : Int) (i : Int) x = k1 out x)
 | 0, i, h, _ => by omega
 | F + 1, i, h, hi => by
   rw [g71L122f_succ]
   unfold g71L122B
   by_cases hlt : i < L.length
   · have e1 : decide ((i : Int) < ((L.map pad).length : Int)) = true := by simp; omega
     have eg : (L.map pad).getD i (List.replicate 5 0) = pad (L.getD i []) := by
       simp only [List.getD_eq_getElem?_getD, List.getElem?_map, List.getElem?_eq_getElem hlt, Option.map_some, Option.getD_some]
     have hm := hL _ (getD_mem hlt [])
     obtain ⟨w, hw, _⟩ := op94 N hN hx hm
     rw [e1, cond_true, if_pos ⟨by omega, by simp; omega⟩, Int.toNat_natCast, eg, hw]
     simp only [Option.bind_some]
     by_cases hwo : w = out
     · have e2 : ieq w out = true := by simp only [ieq, decide_eq_true_eq]; exact hwo
       rw [e2, Bool.not_true, cond_false, wn i (by omega)]
       rcases set_loop N hN k0 k1 hx out L hL hl F (i + 1) (by omega) (by omega) with h1 | ⟨h1, h2⟩
       · exact .inl h1
       · refine .inr ⟨fun j hj hjl => ?_, h2⟩
         by_cases hji : j = i
         · subst hji; rw [hw, hwo]
         · exact h1 j (by omega) hjl
     · have e2 : ieq w out = false := by simp only [ieq, decide_eq_false_iff_not]; exact hwo
       rw [e2, Bool.not_false, cond_true]
       exact .inl ⟨⟨_, w, getD_mem hlt [], hw, hwo⟩, rfl⟩
   · have e1 : decide ((i : Int) < ((L.map pad).length : Int)) = false := by simp; omega
     rw [e1, cond_false]
     exact .inr ⟨fun j hj hjl => by omega, rfl⟩
theorem set71 {x : PP} (hx : PT x) {c : List Int} (hc : Crowd c x.1) : ∃ v, g71 2000 x (pad c) = some v ∧ -1 ≤ v ∧ v ≤ 1 ∧ ∀ on, 0 ≤ on → (v = on ↔ SetOn x c on) := by
 obtain ⟨o, ho, o1, o2, o3⟩ := op94 2000 (by omega) hx hc
 obtain ⟨how, _, hr⟩ := reached79 hx hc
 have hf := allL_found hx hc
 unfold g71
 rw [ho, hr]
 simp only [Option.bind_some]
 rw [g71L122_eq]
 have hcr : ∀ d ∈ allL x c, Crowd d x.1 := fun d hd => (((hf.mem d).1 hd).crowd hx hc).1
 have hlen := hf.len
 have := set_loop 2000 (by omega) (fun e4 e5 e6 => some e4) (fun e7 e8 => some e7) hx o (allL x c) hcr (by omega) 2000 0 (by omega) (by omega)
 simp only [Int.natCast_zero] at this
 rcases this with ⟨⟨d, w, hd, hw, hwo⟩, h2⟩ | ⟨h1, h2⟩
 · refine ⟨-1, h2, by omega, by omega, fun on hon => ⟨fun h => by omega, fun h => ?_⟩⟩
   have a := (o3 on hon).2 (h c (.refl c))
   obtain ⟨w', hw', _, _, w3⟩ := op94 2000 (by omega) hx (hcr d hd)
   have b := (w3 on hon).2 (h d ((hf.mem d).1 hd))
   rw [hw'] at hw
   have := Option.some.inj hw
   omega
 · refine ⟨o, h2, o1, o2, fun on hon => ⟨fun h => fun d hd => ?_, fun h => (o3 on hon).2 (h c (.refl c))⟩⟩
   have hdm := (hf.mem d).2 hd
   obtain ⟨j, hj, hje⟩ := List.getElem_of_mem hdm
   have hg := h1 j (by omega) hj
   have : (allL x c).getD j [] = d := by rw [List.getD_eq_getElem?_getD, List.getElem?_eq_getElem hj]; exact hje
   rw [this] at hg
   obtain ⟨w', hw', _, _, w3⟩ := op94 2000 (by omega) hx (hcr d hdm)
   rw [hg] at hw'
   have := Option.some.inj hw'
   exact (w3 on hon).1 (by omega)
end Go.Pv
namespace Go.Pv
theorem getD_map_pad {L : List (List Int)} {i : Nat} (h : i < L.length) : (L.map pad).getD i (List.replicate 5 0) = pad (L.getD i []) := by
 simp only [List.getD_eq_getElem?_getD, List.getElem?_map, List.getElem?_eq_getElem h, Option.map_some, Option.getD_some]
noncomputable def Sv (x : PP) (c : List Int) : Int := (g71 2000 x (pad c)).getD 0
theorem Sv_eq {x : PP} (hx : PT x) {c : List Int} (hc : Crowd c x.1) : g71 2000 x (pad c) = some (Sv x c) ∧ -1 ≤ Sv x c ∧ Sv x c ≤ 1 ∧ ∀ on, 0 ≤ on → (Sv x c = on ↔ SetOn x c on) := by
 obtain ⟨v, h1, h2, h3, h4⟩ := set71 hx hc
 have : Sv x c = v := by unfold Sv; rw [h1]; rfl
 rw [this]
 exact ⟨h1, h2, h3, h4⟩
abbrev KnT := List (List Int × Int)
def SInv (x : PP) (known : KnT) (L : List (List Int)) (i : Nat) : Prop := ∀ j, j < i → mapFind (Ty.beq (.arr 5 (.int .i64))) (pad (L.getD j [])) known = some (Sv x (L.getD j []))
theorem known_loop {C : Type} (k0 : List (List Int) → PP → KnT → Option C) {x : PP} (hx : PT x) (L : List (List Int)) (hL : ∀ d ∈ L, Crowd d x.1) (hl : L.length ≤ 1000) (u : List (List Int)) :
   ∀ (F i : Nat) (known : KnT), L.length - i < F → i ≤ L.length → SInv x known L i → ∃ known', SInv x known' L L.length ∧ g73L218f 2000 F k0 u (L.map pad) ((L.map pad).length : Int) (i : Int) x known = k0 u x known'
 | 0, i, known, h, _, _ => by omega
 | F + 1, i, known, h, hi, hI => by
   rw [g73L218f_succ]
   unfold g73L218B
   by_cases hlt : i < L.length
   · have e1 : decide ((i : Int) < ((L.map pad).length : Int)) = true := by simp; omega
     have hm := hL _ (getD_mem hlt [])
     rw [e1, cond_true, if_pos ⟨by omega, by simp; omega⟩, Int.toNat_natCast, getD_map_pad hlt, (Sv_eq hx hm).1]
     simp only [Option.bind_some]
     rw [wn i (by omega)]
     refine known_loop k0 hx L hL hl u F (i + 1) _ (by omega) (by omega) (fun j hj => ?_)
     rw [find_put arr_eq]
     by_cases hji : j = i
     · subst hji; rw [if_pos rfl]
     · by_cases hp : pad (L.getD j []) = pad (L.getD i [])
       · have hmj := hL _ (getD_mem (show j < L.length by omega) [])
         have := pad_inj (by have := hmj.len; have := hm.len; omega) hp
         rw [if_pos hp, this]
       · rw [if_neg hp]
         exact hI j (by omega)
   · have e1 : decide ((i : Int) < ((L.map pad).length : Int)) = false := by simp; omega
     rw [e1, cond_false]
     have : i = L.length := by omega
     subst this
     exact ⟨known, hI, rfl⟩
theorem own_loop {C : Type} (k0 : Int → Int → List (List Int) → Int → Int → PP → KnT → Option C) {x : PP} (known : KnT) (M : List (List Int)) (hM : ∀ e ∈ M, mapFind (Ty.beq (.arr 5 (.int .i64))) (pad e) known = some (Sv x e)) (hl : M.length ≤ 1000) (out : Int) (u : List (List Int)) (a b : Int) :
   ∀ (F i : Nat), M.length - i < F → i ≤ M.length → (∀ j, j < i → Sv x (M.getD j []) < 0) → ∃ own, ((own = -1 ∧ ∀ e ∈ M, Sv x e < 0) ∨ (0 ≤ own ∧ ∃ e ∈ M, Sv x e = own)) ∧ g73L3658554f 2000 F k0 out (-1) u a b (M.map pad) ((M.map pad).length : Int) (i : Int) x known = k0 out own u a b x known
 | 0, i, h, _, _ => by omega
 | F + 1, i, h, hi, hI => by
   rw [g73L3658554f_succ]
   unfold g73L3658554B
   by_cases hlt : i < M.length
   · have e1 : decide ((i : Int) < ((M.map pad).length : Int)) = true := by simp; omega
     have hm := hM _ (getD_mem hlt [])
     rw [e1, cond_true, if_pos ⟨by omega, by simp; omega⟩, Int.toNat_natCast, getD_map_pad hlt, hm, Option.getD_some]
     by_cases hs : 0 ≤ Sv x (M.getD i [])
     · have e2 : decide ((0 : Int) ≤ Sv x (M.getD i [])) = true := by simpa using hs
       rw [e2, cond_true]
       exact ⟨_, .inr ⟨hs, _, getD_mem hlt [], rfl⟩, rfl⟩
     · have e2 : decide ((0 : Int) ≤ Sv x (M.getD i [])) = false := by simpa using hs
       rw [e2, cond_false, wn i (by omega)]
       refine own_loop k0 known M hM hl out u a b F (i + 1) (by omega) (by omega) (fun j hj => ?_)
       by_cases hji : j = i
       · subst hji; omega
       · exact hI j (by omega)
   · have e1 : decide ((i : Int) < ((M.map pad).length : Int)) = false := by simp; omega
     rw [e1, cond_false]
     refine ⟨-1, .inl ⟨rfl, fun e he => ?_⟩, rfl⟩
     obtain ⟨j, hj, hje⟩ := List.getElem_of_mem he
     have := hI j (by omega)
     rw [List.getD_eq_getElem?_getD, List.getElem?_eq_getElem hj] at this
     simp only [Option.getD_some] at this
     rw [hje] at this
     exact this
theorem dec_loop {C : Type} (k0 : Int → PP → KnT → Option C) {x : PP} (hx : PT x) {c : List Int} (hc : Crowd c x.1) (known : KnT) (hK : SInv x known (allL x c) (allL x c).length) :
   ∀ (F i : Nat) (out : Int), (allL x c).length - i < F → i ≤ (allL x c).length → ((out = -1 ∧ i = 0) ∨ (0 ≤ out ∧ 0 < i ∧ ∀ j, j < i → ∃ e, Reach x ((allL x c).getD j []) e ∧ SetOn x e out)) →
     ∃ v, ((v = -1 ∧ ∀ on, 0 ≤ on → ¬ DecOn x c on) ∨ (0 ≤ v ∧ DecOn x c v)) ∧ g73L1786f 2000 F k0 out ((allL x c).map pad) (((allL x c).map pad).length : Int) (i : Int) x known = k0 v x known
 | 0, i, out, h, _, _ => by omega
 | F + 1, i, out, h, hi, hI => by
   rw [g73L1786f_succ]
   unfold g73L1786B
   have hf := allL_found hx hc
   have hlen := hf.len
   have hcr : ∀ d, Reach x c d → Crowd d x.1 := fun d hd => (hd.crowd hx hc).1
   have hKm : ∀ e, Reach x c e → mapFind (Ty.beq (.arr 5 (.int .i64))) (pad e) known = some (Sv x e) := fun e he => by
     obtain ⟨j, hj, hje⟩ := List.getElem_of_mem ((hf.mem e).2 he)
     have := hK j hj
     rw [List.getD_eq_getElem?_getD, List.getElem?_eq_getElem hj] at this
     simp only [Option.getD_some] at this
     rw [hje] at this
     exact this
   by_cases hlt : i < (allL x c).length
   · have e1 : decide ((i : Int) < (((allL x c).map pad).length : Int)) = true := by simp; omega
     have hrd := (hf.mem _).1 (getD_mem hlt [])
     have hd := hcr _ hrd
     generalize hde : (allL x c).getD i [] = d at hrd hd
     obtain ⟨how, _, hr⟩ := reached79 hx hd
     have hfd := allL_found hx hd
     have hlend := hfd.len
     rw [e1, cond_true, if_pos ⟨by omega, by simp; omega⟩, Int.toNat_natCast, getD_map_pad hlt, hde, hr]
     simp only [Option.bind_some]
     rw [g73L3658554_eq]
     obtain ⟨own, ho, he⟩ := own_loop (fun e7 e8 e9 e10 e11 e12 e13 => bif (decide ((e8 : Int) < 0)) then (k0 (-1) e12 e13) else bif (decide ((0 : Int) ≤ e7)) then bif (!ieq e8 e7) then (k0 (-1) e12 e13) else (g73L1786f 2000 F k0 e8 e9 e10 (IntKind.wrap .i64 (e11 + 1)) e12 e13) else (g73L1786f 2000 F k0 e8 e9 e10 (IntKind.wrap .i64 (e11 + 1)) e12 e13)) known (allL x d) (fun e he => hKm e (hrd.trans ((hfd.mem e).1 he))) (by omega) out ((allL x c).map pad) (((allL x c).map pad).length : Int) (i : Int) 2000 0 (by omega) (by omega) (fun j hj => by omega)
     simp only [Int.natCast_zero] at he
     have hown : 0 ≤ own → ∃ e, Reach x d e ∧ SetOn x e own := fun h0 => by
       rcases ho with ⟨h1, _⟩ | ⟨h1, e, hem, hse⟩
       · omega
       · have hre := (hfd.mem e).1 hem
         exact ⟨e, hre, ((Sv_eq hx (hcr e (hrd.trans hre))).2.2.2 own h1).1 hse⟩
     by_cases h0 : own < 0
     · have e2 : decide (own < 0) = true := by simpa using h0
       refine ⟨-1, .inl ⟨rfl, fun on hon hdec => ?_⟩, he.trans ?_⟩
       · rcases ho with ⟨h1, h2⟩ | ⟨h1, _⟩
         · obtain ⟨e, hre, hse⟩ := hdec d hrd
           have := h2 e ((hfd.mem e).2 hre)
           have := ((Sv_eq hx (hcr e (hrd.trans hre))).2.2.2 on hon).2 hse
           omega
         · omega
       · rw [e2, cond_true]
     · have e2 : decide (own < 0) = false := by simpa using h0
       obtain ⟨e, hre, hse⟩ := hown (by omega)
       have next : ((out = -1 ∧ i = 0) ∨ out = own) → ∃ v, ((v = -1 ∧ ∀ on, 0 ≤ on → ¬ DecOn x c on) ∨ (0 ≤ v ∧ DecOn x c v)) ∧ g73L1786f 2000 F k0 own ((allL x c).map pad) (((allL x c).map pad).length : Int) ((i + 1 : Nat) : Int) x known = k0 v x known := fun hh =>
         dec_loop k0 hx hc known hK F (i + 1) own (Nat.lt_of_succ_lt_succ (show (allL x c).length - (i + 1) + 1 < F + 1 by clear ho hown; omega)) hlt (.inr ⟨Int.not_lt.1 h0, Nat.succ_pos i, fun j hj => by
           by_cases hji : j = i
           · subst hji; rw [hde]; exact ⟨e, hre, hse⟩
           · rcases hI with ⟨h1, h2⟩ | ⟨h1, h2, h3⟩
             · omega
             · rcases hh with hh | hh
               · omega
               · exact hh ▸ h3 j (by omega)⟩)
       rcases hI with ⟨h1, h2⟩ | ⟨h1, h2, h3⟩
       · have e3 : decide ((0 : Int) ≤ out) = false := by simp; omega
         obtain ⟨v, hv, hv2⟩ := next (.inl ⟨h1, h2⟩)
         refine ⟨v, hv, he.trans ?_⟩
         rw [e2, cond_false, e3, cond_false, wn i (by omega)]
         exact hv2
       · have e3 : decide ((0 : Int) ≤ out) = true := by simpa using h1
         by_cases hoo : own = out
         · have e4 : ieq own out = true := by simp only [ieq, decide_eq_true_eq]; exact hoo
           obtain ⟨v, hv, hv2⟩ := next (.inr hoo.symm)
           refine ⟨v, hv, he.trans ?_⟩
           rw [e2, cond_false, e3, cond_true, e4, Bool.not_true, cond_false, wn i (by omega)]
           exact hv2
         · have e4 : ieq own out = false := by simp only [ieq, decide_eq_false_iff_not]; exact hoo
           refine ⟨-1, .inl ⟨rfl, fun on hon hdec => hoo ?_⟩, he.trans ?_⟩
           · obtain ⟨e0, hr0, hs0⟩ := h3 0 (by omega)
             rw [hf.head.1] at hr0
             have a := SetOn.decOne hx (hcr e0 hr0) hs0 (hdec.next hr0)
             have b := SetOn.decOne hx (hcr e (hrd.trans hre)) hse (hdec.next (hrd.trans hre))
             omega
           · rw [e2, cond_false, e3, cond_true, e4, Bool.not_false, cond_true]
   · have e1 : decide ((i : Int) < (((allL x c).map pad).length : Int)) = false := by simp; omega
     rw [e1, cond_false]
     have hpos := hf.head.2
     rcases hI with ⟨h1, h2⟩ | ⟨h1, h2, h3⟩
     · omega
     · refine ⟨out, .inr ⟨h1, fun d hd => ?_⟩, rfl⟩
       obtain ⟨j, hj, hje⟩ := List.getElem_of_mem ((hf.mem d).2 hd)
       have := h3 j (by omega)
       rw [List.getD_eq_getElem?_getD, List.getElem?_eq_getElem hj] at this
       simp only [Option.getD_some] at this
       rw [hje] at this
       exact this
theorem dec73 {x : PP} (hx : PT x) {c : List Int} (hc : Crowd c x.1) : ∃ v, g73 2000 x (pad c) = some v ∧ -1 ≤ v ∧ ∀ on, 0 ≤ on → (v = on ↔ DecOn x c on) := by
 obtain ⟨how, _, hr⟩ := reached79 hx hc
 have hf := allL_found hx hc
 have hlen := hf.len
 have hcr : ∀ d ∈ allL x c, Crowd d x.1 := fun d hd => (((hf.mem d).1 hd).crowd hx hc).1
 unfold g73
 rw [hr]
 simp only [Option.bind_some]
 rw [g73L218_eq]
 obtain ⟨known, hk, he⟩ := known_loop (fun e3 e4 e5 => g73L1786 2000 (fun e14 e15 e16 => some e14) (-1) e3 ((List.length e3 : Nat) : Int) 0 e4 e5) hx (allL x c) hcr (by omega) ((allL x c).map pad) 2000 0 [] (by omega) (by omega) (fun j hj => by omega)
 simp only [Int.natCast_zero] at he
 rw [he, g73L1786_eq]
 obtain ⟨v, hv, he2⟩ := dec_loop (fun e14 e15 e16 => some e14) hx hc known hk 2000 0 (-1) (by omega) (by omega) (.inl ⟨rfl, rfl⟩)
 simp only [Int.natCast_zero] at he2
 refine ⟨v, he2, ?_⟩
 rcases hv with ⟨h1, h2⟩ | ⟨h1, h2⟩
 · exact ⟨by omega, fun on hon => ⟨fun h => by omega, fun h => absurd h (h2 on hon)⟩⟩
 · exact ⟨by omega, fun on hon => ⟨fun h => h ▸ h2, fun h => DecOn.one hx hc h2 h⟩⟩
end Go.Pv
namespace Go.Pv
def keyP : List Int → Int → Int | [], k => k | a :: l, k => keyP l (10 * k + a)
theorem key_loop (N : Nat) {C : Type} (k0 : Int → Option C) (l : List Int) (hl : l.length ≤ 5) (hb : ∀ t ∈ l, 0 ≤ t ∧ t ≤ 9) :
   ∀ (F i : Nat) (k : Int), l.length - i < F → i ≤ l.length → 0 ≤ k → k < 10 ^ i → g76L58f N F k0 l k (i : Int) = k0 (keyP (l.drop i) k)
 | 0, i, k, h, _, _, _ => by omega
 | F + 1, i, k, h, hi, h0, h1 => by
   rw [g76L58f_succ]
   unfold g76L58B
   by_cases hlt : i < l.length
   · have e1 : decide ((i : Int) < (l.length : Int)) = true := by simp; omega
     obtain ⟨b1, b2⟩ := hb _ (getD_mem hlt 0)
     have hp : (10 : Int) ^ (i + 1) = 10 * 10 ^ i := by rw [Int.pow_succ]; omega
     have h5 : (10 : Int) ^ i ≤ 10 ^ 5 := by
       have h1 : (10 : Nat) ^ i ≤ 10 ^ 5 := Nat.pow_le_pow_right (by omega) (by omega)
       have h2 : ((10 ^ i : Nat) : Int) ≤ ((10 ^ 5 : Nat) : Int) := Int.ofNat_le.2 h1
       simpa using h2
     have h6 : (10 : Int) ^ 5 = 100000 := by decide
     rw [e1, cond_true, if_pos (ix hlt), Int.toNat_natCast, wn i (by omega), w64 (x := 10 * k) (by omega) (by omega), w64 (x := 10 * k + l.getD i 0) (by omega) (by omega), getD_drop l i hlt]
     exact key_loop N k0 l hl hb F (i + 1) _ (by omega) (by omega) (by omega) (by omega)
   · have e1 : decide ((i : Int) < (l.length : Int)) = false := by simp; omega
     rw [e1, cond_false, List.drop_eq_nil_of_le (by omega)]; rfl
theorem keyN_eq (N : Nat) (hN : 100 < N) {l : List Int} (hl : l.length ≤ 5) (hb : ∀ t ∈ l, 0 ≤ t ∧ t ≤ 9) : g76 N l = some (keyP l 0) := by
 unfold g76
 rw [g76L58_eq]
 have := key_loop N (fun e1 => some e1) l hl hb N 0 0 (by omega) (by omega) (by omega) (by simp)
 simp only [Int.natCast_zero, List.drop_zero] at this
 exact this
theorem keyP_inj : ∀ (a b : List Int) (j k : Int), a.length = b.length → (∀ t ∈ a, 0 ≤ t ∧ t ≤ 9) → (∀ t ∈ b, 0 ≤ t ∧ t ≤ 9) → keyP a j = keyP b k → j = k ∧ a = b
 | [], [], j, k, _, _, _, h => ⟨h, rfl⟩
 | x :: a, y :: b, j, k, hl, ha, hb, h => by
   obtain ⟨h1, h2⟩ := keyP_inj a b (10 * j + x) (10 * k + y) (by simpa using hl) (fun t ht => ha t (by simp [ht])) (fun t ht => hb t (by simp [ht])) h
   have hx := ha x (by simp)
   have hy := hb y (by simp)
   have : j = k := by omega
   subst this
   have : x = y := by omega
   subst this
   exact ⟨rfl, by rw [h2]⟩
def KInv (n : Int) (known : List (Int × Int)) (L : List (List Int)) : Prop := ∀ e : List Int, Crowd e n → mapFind (Ty.beq (.int .i64)) (keyP e 0) known = if e ∈ L then some (L.idxOf e : Int) else none
def rowL (L : List (List Int)) (ds : List (List Int)) : List Int := ds.map fun d => (L.idxOf d : Int)
theorem idx_app {L T : List (List Int)} {e : List Int} (h : e ∈ L) : (L ++ T).idxOf e = L.idxOf e := by rw [List.idxOf_append, if_pos h]
theorem rowL_app {L T : List (List Int)} {ds : List (List Int)} (h : ∀ d ∈ ds, d ∈ L) : rowL (L ++ T) ds = rowL L ds := by
 unfold rowL
 exact List.map_congr_left fun d hd => by rw [idx_app (h d hd)]
theorem ref_loop (N : Nat) (hN : 100 < N) {x : PP} (hx : PT x) {C : Type} (k0 : Int → PP → List Int → List (List Int) → List Int → List (Int × Int) → List (List Int) → List Int → List (List Int) → List (List Int) → List Int → List (List Int) → Option C) (d : List Int) (hd : Crowd d x.1) (i : Nat) (u1 : List (List Int)) (u2 : List Int) (u3 u4 : List (List Int)) (u5 : List Int) (u6 : List (List Int)) :
   ∀ (F k : Nat) (L : List (List Int)) (steps : List Int) (known : List (Int × Int)) (done : List (List Int)), x.2.2.2.1.length - k < F → k ≤ x.2.2.2.1.length → KInv x.1 known L → i < L.length → L.getD i [] = d → steps.length = L.length → L.length + (x.2.2.2.1.length - k) ≤ 10000 → done.length ≤ k → (∀ e ∈ done, e ∈ L) → ∃ known' steps', KInv x.1 known' ((((x.2.2.2.1.drop k).filter fun r => canR r d).map fun r => stepR r d).foldl addN L) ∧ steps'.length = ((((x.2.2.2.1.drop k).filter fun r => canR r d).map fun r => stepR r d).foldl addN L).length ∧
     g39L64074f N F k0 (i : Int) (k : Int) x (rowL L done) L steps known u1 u2 u3 u4 u5 u6 = k0 (i : Int) x (rowL ((((x.2.2.2.1.drop k).filter fun r => canR r d).map fun r => stepR r d).foldl addN L) (done ++ (((x.2.2.2.1.drop k).filter fun r => canR r d).map fun r => stepR r d))) ((((x.2.2.2.1.drop k).filter fun r => canR r d).map fun r => stepR r d).foldl addN L) steps' known' u1 u2 u3 u4 u5 u6
 | 0, k, L, steps, known, done, h, _, _, _, _, _, _, _, _ => by omega
 | F + 1, k, L, steps, known, done, h, hk, hI, hi, hLd, hst, hlen, hdl, hdone => by
   rw [g39L64074f_succ]
   unfold g39L64074B
   have hr15 := hx.rules.1
   by_cases hlt : k < x.2.2.2.1.length
   · have e1 : decide ((k : Int) < (x.2.2.2.1.length : Int)) = true := by simp; omega
     have hro := hx.rules.2.1 _ (getD_mem hlt (List.replicate 4 0))
     have hdrop : x.2.2.2.1.drop k = x.2.2.2.1.getD k (List.replicate 4 0) :: x.2.2.2.1.drop (k + 1) := by
       rw [List.drop_eq_getElem_cons hlt]; simp [hlt]
     rw [e1, cond_true, if_pos (ix hi), Int.toNat_natCast, if_pos hi, hLd, meet42 N x hx d hd.len hd.bd]
     simp only [Option.bind_some]
     have hm : meetL x d (k : Int) = bif canR (x.2.2.2.1.getD k (List.replicate 4 0)) d then (stepR (x.2.2.2.1.getD k (List.replicate 4 0)) d, true, ()) else (d, false, ()) := by
       unfold meetL
       rw [if_pos ⟨by omega, by omega⟩, Int.toNat_natCast]
     rw [hm, wn k (by omega), hdrop, List.filter_cons]
     cases hcan : canR (x.2.2.2.1.getD k (List.replicate 4 0)) d with
     | false =>
       simp only [cond_false, Bool.not_false, cond_true, Bool.false_eq_true, if_false]
       exact ref_loop N hN hx k0 d hd i u1 u2 u3 u4 u5 u6 F (k + 1) L steps known done (by omega) (by omega) hI hi hLd hst (by omega) (by omega) hdone
     | true =>
       have hs := hd.stepR hx hro hcan
       simp only [cond_false, Bool.not_true, cond_true, if_true, List.map_cons, List.foldl_cons]
       generalize stepR (x.2.2.2.1.getD k (List.replicate 4 0)) d = e at hs ⊢
       have hsl := hs.len
       have hn := hx.n
       rw [keyN_eq N hN (l := e) (by omega) hs.le]
       simp only [Option.bind_some]
       rw [hI e hs]
       by_cases hmem : e ∈ L
       · have ea : addN L e = L := by unfold addN; rw [if_pos hmem]
         rw [if_pos hmem, ea]
         simp only [Option.isSome_some, Bool.not_true, cond_false, Option.getD_some]
         rw [if_pos (by simp [rowL, maxCount]; omega)]
         have er : rowL L done ++ [(L.idxOf e : Int)] = rowL L (done ++ [e]) := by simp [rowL]
         rw [er]
         have := ref_loop N hN hx k0 d hd i u1 u2 u3 u4 u5 u6 F (k + 1) L steps known (done ++ [e]) (by omega) (by omega) hI hi hLd hst (by omega) (by simp; omega) (fun e' he' => by
           rcases List.mem_append.1 he' with h1 | h1
           · exact hdone e' h1
           · obtain rfl := List.mem_singleton.1 h1; exact hmem)
         simpa only [List.append_assoc, List.singleton_append] using this
       · have ea : addN L e = L ++ [e] := by unfold addN; rw [if_neg hmem]
         rw [if_neg hmem, ea]
         simp only [Option.isSome_none, Bool.not_false, cond_true]
         rw [if_pos (by simp [maxCount]; omega), if_pos (by rw [hst]; exact ix hi), if_pos (by rw [hst]; exact hi), if_pos (by simp [maxCount]; omega), if_pos (by simp [rowL, maxCount]; omega)]
         have hix : (L ++ [e]).idxOf e = L.length := by
           rw [List.idxOf_append, if_neg hmem]; simp
         have er : rowL L done ++ [((L.length : Nat) : Int)] = rowL (L ++ [e]) (done ++ [e]) := by
           have := rowL_app (T := [e]) hdone
           unfold rowL at this ⊢
           rw [List.map_append, this]
           simp [hix]
         rw [er]
         have := ref_loop N hN hx k0 d hd i u1 u2 u3 u4 u5 u6 F (k + 1) (L ++ [e]) (steps ++ [IntKind.wrap .i64 (steps.getD i 0 + 1)]) (mapPut (Ty.beq (.int .i64)) (keyP e 0) ((L.length : Nat) : Int) known) (done ++ [e]) (by omega) (by omega) (fun e' he' => by
           rw [find_put int_eq]
           by_cases hee : e' = e
           · subst hee
             rw [if_pos rfl, if_pos (by simp), hix]
           · have hp : ¬ (keyP e' 0 = keyP e 0) := fun hp => hee (keyP_inj e' e 0 0 (by have := he'.len; omega) he'.le hs.le hp).2
             rw [if_neg hp, hI e' he']
             by_cases hm2 : e' ∈ L
             · rw [if_pos hm2, if_pos (by simp [hm2]), idx_app hm2]
             · rw [if_neg hm2, if_neg (by simp [hm2, hee])]) (by simp; omega) (by rw [getD_app _ _ _ hi]; exact hLd) (by simp [hst]) (by simp; omega) (by simp; omega) (fun e' he' => by
           rcases List.mem_append.1 he' with h1 | h1
           · exact List.mem_append.2 (.inl (hdone e' h1))
           · exact List.mem_append.2 (.inr h1))
         simpa only [List.append_assoc, List.singleton_append] using this
   · have e1 : decide ((k : Int) < (x.2.2.2.1.length : Int)) = false := by simp; omega
     rw [e1, cond_false, List.drop_eq_nil_of_le (by omega)]
     exact ⟨known, steps, hI, hst, by simp⟩
def Rows39 (x : PP) (i : Nat) (L next : List (List Int)) : Prop := next.length = i ∧ ∀ j, j < i → next.getD j [] = rowL L (nbr x (L.getD j []))
theorem ref39_loop (N : Nat) (hN : 100 < N) {x : PP} (hx : PT x) {C : Type} (k0 : PP → List (List Int) → List Int → List (Int × Int) → List (List Int) → List Int → List (List Int) → List (List Int) → List Int → List (List Int) → Option C) {c : List Int} (hc : Crowd c x.1) (u1 : List (List Int)) (u2 : List Int) (u3 u4 : List (List Int)) (u5 : List Int) :
   ∀ (F i : Nat) (L : List (List Int)) (steps : List Int) (known : List (Int × Int)) (next : List (List Int)), 716 < F + i → BInv x c i L → KInv x.1 known L → steps.length = L.length → Rows39 x i L next → ∃ known' steps' next', Rows39 x (bfs x F i L).length (bfs x F i L) next' ∧ steps'.length = (bfs x F i L).length ∧ g39L250f N F k0 (i : Int) x L steps known u1 u2 u3 u4 u5 next = k0 x (bfs x F i L) steps' known' u1 u2 u3 u4 u5 next'
 | 0, i, L, steps, known, next, hF, hB, hI, hst, hR => by have := hB.len hx hc; have := hB.le; omega
 | F + 1, i, L, steps, known, next, hF, hB, hI, hst, hR => by
   rw [g39L250f_succ]
   unfold g39L250B
   have hl := hB.len hx hc
   have hr15 := hx.rules.1
   unfold bfs
   by_cases hlt : i < L.length
   · have e1 : decide ((i : Int) < (L.length : Int)) = true := by simp; omega
     have hm := (hB.reach _ (getD_mem hlt [])).crowd hx hc
     rw [if_pos hlt, e1, cond_true, g39L64074_eq]
     obtain ⟨known1, steps1, h1, h2, h3⟩ := ref_loop N hN hx (fun e5 e6 e7 e8 e9 e10 e11 e12 e13 e14 e15 e16 => if List.length e16 + List.length [e7] ≤ maxCount then g39L250f N F k0 (IntKind.wrap .i64 (e5 + 1)) e6 e8 e9 e10 e11 e12 e13 e14 e15 (e16 ++ [e7]) else none) (L.getD i []) hm.1 i u1 u2 u3 u4 u5 next N 0 L steps known [] (by omega) (by omega) hI hlt rfl hst (by omega) (by simp) (fun e he => by cases he)
     simp only [Int.natCast_zero, List.drop_zero, List.nil_append] at h1 h2 h3
     have hnb : (((x.2.2.2.1.filter fun r => canR r (L.getD i [])).map fun r => stepR r (L.getD i [])).foldl addN L) = rnd x L (L.getD i []) := rfl
     have hnb2 : ((x.2.2.2.1.filter fun r => canR r (L.getD i [])).map fun r => stepR r (L.getD i [])) = nbr x (L.getD i []) := rfl
     rw [hnb] at h1 h2 h3
     rw [hnb2] at h3
     have hB2 := hB.next hlt
     have hl2 := hB2.len hx hc
     obtain ⟨T, hT⟩ := fold_pre (ds := nbr x (L.getD i [])) L
     have hT : rnd x L (L.getD i []) = L ++ T := hT
     have hRl := hR.1
     have hR2 : Rows39 x (i + 1) (rnd x L (L.getD i [])) (next ++ [rowL (rnd x L (L.getD i [])) (nbr x (L.getD i []))]) := by
       refine ⟨by simp [hRl], fun j hj => ?_⟩
       by_cases hji : j = i
       · subst hji
         rw [List.getD_eq_getElem?_getD, List.getElem?_append_right (by omega), hRl, Nat.sub_self]
         have : (rnd x L (L.getD j [])).getD j [] = L.getD j [] := by rw [hT, getD_app _ _ _ hlt]
         rw [this]; rfl
       · have : (rnd x L (L.getD i [])).getD j [] = L.getD j [] := by rw [hT, getD_app _ _ _ (by omega)]
         rw [this, getD_app _ _ _ (by omega), hR.2 j (by omega), hT, rowL_app (fun d hd => hB.closed j (by omega) d hd)]
     obtain ⟨known2, steps2, next2, g1, g2, g3⟩ := ref39_loop N hN hx k0 hc u1 u2 u3 u4 u5 F (i + 1) (rnd x L (L.getD i [])) steps1 known1 _ (by omega) hB2 h1 h2 hR2
     refine ⟨known2, steps2, next2, g1, g2, ?_⟩
     refine Eq.trans h3 ?_
     rw [if_pos (by simp [maxCount]; omega), wn i (by omega)]
     exact g3
   · have e1 : decide ((i : Int) < (L.length : Int)) = false := by simp; omega
     have hi : i = L.length := by have := hB.le; omega
     rw [e1, cond_false, if_neg hlt]
     subst hi
     exact ⟨known, steps, next, hR, hst, rfl⟩
theorem ref39 {x : PP} (hx : PT x) {c : List Int} (hc : Crowd c x.1) : ∃ steps next, Rows39 x (allL x c).length (allL x c) next ∧ steps.length = (allL x c).length ∧ g39 2000 x c = some (allL x c, steps, next, ()) := by
 unfold g39
 have hcl := hc.len
 have hn := hx.n
 rw [keyN_eq 2000 (by omega) (l := c) (by omega) hc.le]
 simp only [Option.bind_some]
 rw [g39L250_eq]
 obtain ⟨known, steps, next, h1, h2, h3⟩ := ref39_loop 2000 (by omega) hx (fun e17 e18 e19 e20 e21 e22 e23 e24 e25 e26 => some ((e18, e19, e26, ()) : List (List Int) × List Int × List (List Int) × Unit)) hc [] [] [] [] [] 2000 0 [c] [0] (mapPut (Ty.beq (.int .i64)) (keyP c 0) 0 []) [] (by omega) (.start x c) (fun e he => by
   rw [find_put int_eq]
   by_cases hee : e = c
   · subst hee; simp
   · have hp : ¬ (keyP e 0 = keyP c 0) := fun hp => hee (keyP_inj e c 0 0 (by have := he.len; omega) he.le hc.le hp).2
     rw [if_neg hp]
     simp [mapFind, hee]) rfl ⟨rfl, fun j hj => by omega⟩
 simp only [Int.natCast_zero] at h3
 exact ⟨steps, next, h1, h2, h3⟩
end Go.Pv
namespace Go.Pv
abbrev CC := List (List Int) × List Int × List (List Int) × Unit
def fal : List Bool → Nat | [] => 0 | b :: l => (bif b then 0 else 1) + fal l
theorem fal_le : ∀ l : List Bool, fal l ≤ l.length
 | [] => by simp [fal]
 | b :: l => by have := fal_le l; cases b <;> simp [fal] <;> omega
theorem fal_set : ∀ (l : List Bool) (i : Nat), i < l.length → l.getD i false = false → fal (l.set i true) + 1 = fal l
 | [], i, h, _ => by simp at h
 | b :: l, 0, h, hb => by
   simp only [List.getD_cons_zero] at hb
   subst hb
   simp [fal]; omega
 | b :: l, i + 1, h, hb => by
   have := fal_set l i (by simpa using h) (by simpa using hb)
   simp only [List.set_cons_succ, fal]; omega
theorem getB_set (c : List Bool) (i j : Nat) (v : Bool) (h : i < c.length) : (c.set i v).getD j false = if i = j then v else c.getD j false := by
 simp only [List.getD_eq_getElem?_getD, List.getElem?_set]
 by_cases h2 : i = j
 · subst h2; simp [h]
 · simp [h2]
def Clos (next : List (List Int)) (out : List Bool) (j : Nat) : Prop := ∀ k ∈ next.getD j [], out.getD k.toNat false = true → out.getD j false = true
def RowOk (next : List (List Int)) (n : Nat) : Prop := next.length = n ∧ n ≤ 1000 ∧ ∀ j, j < n → (next.getD j []).length ≤ 1000 ∧ ∀ k ∈ next.getD j [], 0 ≤ k ∧ k < (n : Int)
theorem innerA {C : Type} (N : Nat) (k0 : Bool → Int → CC → List Bool → List Bool → Option C) (x : CC) (n i : Nat) (hx : RowOk x.2.2.1 n) (hi : i < n) (z : List Bool) :
   ∀ (F k : Nat) (out : List Bool) (again : Bool), (x.2.2.1.getD i []).length - k < F → k ≤ (x.2.2.1.getD i []).length → out.length = n → (out.getD i false = false → ∀ k', k' < k → out.getD ((x.2.2.1.getD i []).getD k' 0).toNat false = false) →
     ∃ again' out', ((again' = again ∧ out' = out ∧ Clos x.2.2.1 out i) ∨ (again' = true ∧ out' = out.set i true ∧ fal (out.set i true) + 1 = fal out ∧ ∃ q ∈ x.2.2.1.getD i [], out.getD q.toNat false = true)) ∧ g75xL501138f N F k0 again (i : Int) (k : Int) x out z = k0 again' (i : Int) x out' z 
 | 0, k, out, again, h, _, _, _ => by omega
 | F + 1, k, out, again, h, hk, hl, hI => by
   rw [g75xL501138f_succ]
   unfold g75xL501138B
   obtain ⟨r1, r0, r2⟩ := hx
   obtain ⟨r3, r4⟩ := r2 i hi
   have hin : idx (i : Int) x.2.2.1.length := ⟨by omega, by omega⟩
   have hio : idx (i : Int) out.length := ⟨by omega, by omega⟩
   have hio2 : i < out.length := by omega
   rw [if_pos hin, Int.toNat_natCast]
   by_cases hlt : k < (x.2.2.1.getD i []).length
   · have e1 : decide ((k : Int) < ((x.2.2.1.getD i []).length : Int)) = true := decide_eq_true (by omega)
     rw [e1, cond_true, if_pos hio, if_pos hio2]
     cases hb : out.getD i false with
     | true =>
       simp only [Bool.not_true, cond_false]
       exact ⟨again, out, .inl ⟨rfl, rfl, fun k _ _ => hb⟩, rfl⟩
     | false =>
       simp only [Bool.not_false, cond_true]
       have hq := getD_mem hlt 0
       obtain ⟨q1, q2⟩ := r4 _ hq
       rw [if_pos hin, if_pos (ix hlt), Int.toNat_natCast, if_pos ⟨q1, by omega⟩, if_pos (by omega), wn k (by omega)]
       cases ho : out.getD (Int.toNat ((x.2.2.1.getD i []).getD k 0)) false with
       | true =>
         simp only [cond_true]
         rw [if_pos hio, if_pos hio2]
         obtain ⟨F', rfl⟩ : ∃ F', F = F' + 1 := ⟨F - 1, by omega⟩
         refine ⟨true, out.set i true, .inr ⟨rfl, rfl, fal_set out i hio2 hb, _, hq, ho⟩, ?_⟩
         rw [g75xL501138f_succ]
         unfold g75xL501138B
         rw [if_pos hin, Int.toNat_natCast]
         have hset : (out.set i true).getD i false = true := by rw [getB_set _ _ _ _ hio2, if_pos rfl]
         cases hd : decide (((k + 1 : Nat) : Int) < ((x.2.2.1.getD i []).length : Int)) with
         | true =>
           rw [cond_true, if_pos (by simpa using hio), if_pos (by simpa using hio2), hset]
           rfl
         | false => rfl
       | false =>
         simp only [cond_false]
         refine innerA N k0 x n i ⟨r1, r0, r2⟩ hi z F (k + 1) out again (by omega) (by omega) hl (fun hh k' hk' => ?_)
         by_cases hkk : k' = k
         · subst hkk; exact ho
         · exact hI hh k' (by omega)
   · have e1 : decide ((k : Int) < ((x.2.2.1.getD i []).length : Int)) = false := decide_eq_false (by omega)
     rw [e1, cond_false]
     refine ⟨again, out, .inl ⟨rfl, rfl, fun q hq hqo => ?_⟩, rfl⟩
     cases hb : out.getD i false with
     | true => rfl
     | false =>
       obtain ⟨j, hj, hje⟩ := List.getElem_of_mem hq
       have := hI hb j (by omega)
       have hgd : (x.2.2.1.getD i []).getD j 0 = q := by rw [List.getD_eq_getElem?_getD (l := x.2.2.1.getD i []), List.getElem?_eq_getElem hj]; exact hje
       rw [hgd, hqo] at this
       exact this.symm
theorem passA {C : Type} (N : Nat) (hN : 1001 < N) (k0 : Bool → CC → List Bool → List Bool → Option C) (x : CC) (n : Nat) (hx : RowOk x.2.2.1 n) (G : Nat → Prop) (hG : ∀ j, j < n → ∀ k ∈ x.2.2.1.getD j [], G k.toNat → G j) (z : List Bool) :
   ∀ (F i : Nat) (out : List Bool) (again : Bool), n - i < F → i ≤ n → out.length = n → (∀ j, out.getD j false = true → G j) →
     ∃ again' out', out'.length = n ∧ (∀ j, out'.getD j false = true → G j) ∧ (∀ j, out.getD j false = true → out'.getD j false = true) ∧ ((again' = again ∧ out' = out ∧ ∀ j, i ≤ j → j < n → Clos x.2.2.1 out j) ∨ (again' = true ∧ fal out' < fal out)) ∧ g75xL7830f N F k0 again (i : Int) x out z = k0 again' x out' z 
 | 0, i, out, again, h, _, _, _ => by omega
 | F + 1, i, out, again, h, hi, hl, hS => by
   rw [g75xL7830f_succ]
   unfold g75xL7830B
   have hxx := hx
   obtain ⟨r1, r0, r2⟩ := hxx
   by_cases hlt : i < n
   · have e1 : decide ((i : Int) < ((out.length : Nat) : Int)) = true := by simp; omega
     rw [e1, cond_true, g75xL501138_eq]
     obtain ⟨again1, out1, h1, h2⟩ := innerA N (fun e1 e2 e3 e4 e9 => g75xL7830f N F k0 e1 (IntKind.wrap .i64 (e2 + 1)) e3 e4 e9 ) x n i hx hlt z N 0 out again (by have := (r2 i hlt).1; omega) (by omega) hl (fun _ k' hk' => by omega)
     simp only [Int.natCast_zero] at h2
     rcases h1 with ⟨rfl, rfl, h3⟩ | ⟨rfl, rfl, h3, q, hq, hqo⟩
     · obtain ⟨again', out', a1, a2, a3, a4, a5⟩ := passA N hN k0 x n hx G hG z F (i + 1) out1 again1 (by omega) (by omega) hl hS
       refine ⟨again', out', a1, a2, a3, ?_, ?_⟩
       · rcases a4 with ⟨b1, b2, b3⟩ | b
         · refine .inl ⟨b1, b2, fun j hj hjn => ?_⟩
           by_cases hji : j = i
           · subst hji; exact h3
           · exact b3 j (by omega) hjn
         · exact .inr b
       · refine h2.trans ?_
         rw [wn i (by omega)]
         exact a5
     · have hio : i < out.length := by omega
       have hf := h3
       have hm : ∀ j, out.getD j false = true → (out.set i true).getD j false = true := fun j hj => by
         rw [getB_set _ _ _ _ hio]; split <;> first | rfl | exact hj
       obtain ⟨again', out', a1, a2, a3, a4, a5⟩ := passA N hN k0 x n hx G hG z F (i + 1) (out.set i true) true (by omega) (by omega) (by simp [hl]) (fun j hj => by
         rw [getB_set _ _ _ _ hio] at hj
         by_cases hji : i = j
         · subst hji; exact hG i hlt q hq (hS _ hqo)
         · rw [if_neg hji] at hj; exact hS j hj)
       refine ⟨again', out', a1, a2, fun j hj => a3 j (hm j hj), .inr ?_, ?_⟩
       · rcases a4 with ⟨b1, b2, b3⟩ | ⟨b1, b2⟩
         · exact ⟨b1, by rw [b2]; omega⟩
         · exact ⟨b1, by omega⟩
       · refine h2.trans ?_
         rw [wn i (by omega)]
         exact a5
   · have e1 : decide ((i : Int) < ((out.length : Nat) : Int)) = false := by simp; omega
     rw [e1, cond_false]
     exact ⟨again, out, hl, hS, fun j hj => hj, .inl ⟨rfl, rfl, fun j hj hjn => by omega⟩, rfl⟩
theorem spreadA {C : Type} (N : Nat) (hN : 1001 < N) (k0 : CC → List Bool → List Bool → Option C) (x : CC) (n : Nat) (hx : RowOk x.2.2.1 n) (G : Nat → Prop) (hG : ∀ j, j < n → ∀ k ∈ x.2.2.1.getD j [], G k.toNat → G j) (z : List Bool) :
   ∀ (F : Nat) (out : List Bool), fal out + 1 < F → out.length = n → (∀ j, out.getD j false = true → G j) →
     ∃ out', out'.length = n ∧ (∀ j, out'.getD j false = true → G j) ∧ (∀ j, out.getD j false = true → out'.getD j false = true) ∧ (∀ j, j < n → Clos x.2.2.1 out' j) ∧ g75xL122f N F k0 true x out z = k0 x out' z 
 | 0, out, h, _, _ => by omega
 | F + 1, out, h, hl, hS => by
   rw [g75xL122f_succ]
   unfold g75xL122B
   rw [cond_true, g75xL7830_eq]
   obtain ⟨again', out', a1, a2, a3, a4, a5⟩ := passA N hN (fun e5 e6 e7 e9 => g75xL122f N F k0 e5 e6 e7 e9 ) x n hx G hG z N 0 out false (by have := hx.2.1; omega) (by omega) hl hS
   simp only [Int.natCast_zero] at a5
   rcases a4 with ⟨rfl, rfl, b3⟩ | ⟨rfl, b2⟩
   · refine ⟨out', a1, a2, a3, fun j hj => b3 j (by omega) hj, a5.trans ?_⟩
     obtain ⟨F', rfl⟩ : ∃ F', F = F' + 1 := ⟨F - 1, by omega⟩
     rw [g75xL122f_succ]
     rfl
   · obtain ⟨out2, c1, c2, c3, c4, c5⟩ := spreadA N hN k0 x n hx G hG z F out' (by omega) a1 a2
     exact ⟨out2, c1, c2, fun j hj => c3 j (a3 j hj), c4, a5.trans c5⟩
theorem innerB {C : Type} (N : Nat) (k0 : Bool → Int → CC → List Bool → Option C) (x : CC) (n i : Nat) (hx : RowOk x.2.2.1 n) (hi : i < n) :
   ∀ (F k : Nat) (out : List Bool) (again : Bool), (x.2.2.1.getD i []).length - k < F → k ≤ (x.2.2.1.getD i []).length → out.length = n → (out.getD i false = false → ∀ k', k' < k → out.getD ((x.2.2.1.getD i []).getD k' 0).toNat false = false) →
     ∃ again' out', ((again' = again ∧ out' = out ∧ Clos x.2.2.1 out i) ∨ (again' = true ∧ out' = out.set i true ∧ fal (out.set i true) + 1 = fal out ∧ ∃ q ∈ x.2.2.1.getD i [], out.getD q.toNat false = true)) ∧ g75x2L501138f N F k0 again (i : Int) (k : Int) x out = k0 again' (i : Int) x out' 
 | 0, k, out, again, h, _, _, _ => by omega
 | F + 1, k, out, again, h, hk, hl, hI => by
   rw [g75x2L501138f_succ]
   unfold g75x2L501138B
   obtain ⟨r1, r0, r2⟩ := hx
   obtain ⟨r3, r4⟩ := r2 i hi
   have hin : idx (i : Int) x.2.2.1.length := ⟨by omega, by omega⟩
   have hio : idx (i : Int) out.length := ⟨by omega, by omega⟩
   have hio2 : i < out.length := by omega
   rw [if_pos hin, Int.toNat_natCast]
   by_cases hlt : k < (x.2.2.1.getD i []).length
   · have e1 : decide ((k : Int) < ((x.2.2.1.getD i []).length : Int)) = true := decide_eq_true (by omega)
     rw [e1, cond_true, if_pos hio, if_pos hio2]
     cases hb : out.getD i false with
     | true =>
       simp only [Bool.not_true, cond_false]
       exact ⟨again, out, .inl ⟨rfl, rfl, fun k _ _ => hb⟩, rfl⟩
     | false =>
       simp only [Bool.not_false, cond_true]
       have hq := getD_mem hlt 0
       obtain ⟨q1, q2⟩ := r4 _ hq
       rw [if_pos hin, if_pos (ix hlt), Int.toNat_natCast, if_pos ⟨q1, by omega⟩, if_pos (by omega), wn k (by omega)]
       cases ho : out.getD (Int.toNat ((x.2.2.1.getD i []).getD k 0)) false with
       | true =>
         simp only [cond_true]
         rw [if_pos hio, if_pos hio2]
         obtain ⟨F', rfl⟩ : ∃ F', F = F' + 1 := ⟨F - 1, by omega⟩
         refine ⟨true, out.set i true, .inr ⟨rfl, rfl, fal_set out i hio2 hb, _, hq, ho⟩, ?_⟩
         rw [g75x2L501138f_succ]
         unfold g75x2L501138B
         rw [if_pos hin, Int.toNat_natCast]
         have hset : (out.set i true).getD i false = true := by rw [getB_set _ _ _ _ hio2, if_pos rfl]
         cases hd : decide (((k + 1 : Nat) : Int) < ((x.2.2.1.getD i []).length : Int)) with
         | true =>
           rw [cond_true, if_pos (by simpa using hio), if_pos (by simpa using hio2), hset]
           rfl
         | false => rfl
       | false =>
         simp only [cond_false]
         refine innerB N k0 x n i ⟨r1, r0, r2⟩ hi  F (k + 1) out again (by omega) (by omega) hl (fun hh k' hk' => ?_)
         by_cases hkk : k' = k
         · subst hkk; exact ho
         · exact hI hh k' (by omega)
   · have e1 : decide ((k : Int) < ((x.2.2.1.getD i []).length : Int)) = false := decide_eq_false (by omega)
     rw [e1, cond_false]
     refine ⟨again, out, .inl ⟨rfl, rfl, fun q hq hqo => ?_⟩, rfl⟩
     cases hb : out.getD i false with
     | true => rfl
     | false =>
       obtain ⟨j, hj, hje⟩ := List.getElem_of_mem hq
       have := hI hb j (by omega)
       have hgd : (x.2.2.1.getD i []).getD j 0 = q := by rw [List.getD_eq_getElem?_getD (l := x.2.2.1.getD i []), List.getElem?_eq_getElem hj]; exact hje
       rw [hgd, hqo] at this
       exact this.symm
theorem passB {C : Type} (N : Nat) (hN : 1001 < N) (k0 : Bool → CC → List Bool → Option C) (x : CC) (n : Nat) (hx : RowOk x.2.2.1 n) (G : Nat → Prop) (hG : ∀ j, j < n → ∀ k ∈ x.2.2.1.getD j [], G k.toNat → G j) :
   ∀ (F i : Nat) (out : List Bool) (again : Bool), n - i < F → i ≤ n → out.length = n → (∀ j, out.getD j false = true → G j) →
     ∃ again' out', out'.length = n ∧ (∀ j, out'.getD j false = true → G j) ∧ (∀ j, out.getD j false = true → out'.getD j false = true) ∧ ((again' = again ∧ out' = out ∧ ∀ j, i ≤ j → j < n → Clos x.2.2.1 out j) ∨ (again' = true ∧ fal out' < fal out)) ∧ g75x2L7830f N F k0 again (i : Int) x out = k0 again' x out' 
 | 0, i, out, again, h, _, _, _ => by omega
 | F + 1, i, out, again, h, hi, hl, hS => by
   rw [g75x2L7830f_succ]
   unfold g75x2L7830B
   have hxx := hx
   obtain ⟨r1, r0, r2⟩ := hxx
   by_cases hlt : i < n
   · have e1 : decide ((i : Int) < ((out.length : Nat) : Int)) = true := by simp; omega
     rw [e1, cond_true, g75x2L501138_eq]
     obtain ⟨again1, out1, h1, h2⟩ := innerB N (fun e1 e2 e3 e4 => g75x2L7830f N F k0 e1 (IntKind.wrap .i64 (e2 + 1)) e3 e4 ) x n i hx hlt  N 0 out again (by have := (r2 i hlt).1; omega) (by omega) hl (fun _ k' hk' => by omega)
     simp only [Int.natCast_zero] at h2
     rcases h1 with ⟨rfl, rfl, h3⟩ | ⟨rfl, rfl, h3, q, hq, hqo⟩
     · obtain ⟨again', out', a1, a2, a3, a4, a5⟩ := passB N hN k0 x n hx G hG  F (i + 1) out1 again1 (by omega) (by omega) hl hS
       refine ⟨again', out', a1, a2, a3, ?_, ?_⟩
       · rcases a4 with ⟨b1, b2, b3⟩ | b
         · refine .inl ⟨b1, b2, fun j hj hjn => ?_⟩
           by_cases hji : j = i
           · subst hji; exact h3
           · exact b3 j (by omega) hjn
         · exact .inr b
       · refine h2.trans ?_
         rw [wn i (by omega)]
         exact a5
     · have hio : i < out.length := by omega
       have hf := h3
       have hm : ∀ j, out.getD j false = true → (out.set i true).getD j false = true := fun j hj => by
         rw [getB_set _ _ _ _ hio]; split <;> first | rfl | exact hj
       obtain ⟨again', out', a1, a2, a3, a4, a5⟩ := passB N hN k0 x n hx G hG  F (i + 1) (out.set i true) true (by omega) (by omega) (by simp [hl]) (fun j hj => by
         rw [getB_set _ _ _ _ hio] at hj
         by_cases hji : i = j
         · subst hji; exact hG i hlt q hq (hS _ hqo)
         · rw [if_neg hji] at hj; exact hS j hj)
       refine ⟨again', out', a1, a2, fun j hj => a3 j (hm j hj), .inr ?_, ?_⟩
       · rcases a4 with ⟨b1, b2, b3⟩ | ⟨b1, b2⟩
         · exact ⟨b1, by rw [b2]; omega⟩
         · exact ⟨b1, by omega⟩
       · refine h2.trans ?_
         rw [wn i (by omega)]
         exact a5
   · have e1 : decide ((i : Int) < ((out.length : Nat) : Int)) = false := by simp; omega
     rw [e1, cond_false]
     exact ⟨again, out, hl, hS, fun j hj => hj, .inl ⟨rfl, rfl, fun j hj hjn => by omega⟩, rfl⟩
theorem spreadB {C : Type} (N : Nat) (hN : 1001 < N) (k0 : CC → List Bool → Option C) (x : CC) (n : Nat) (hx : RowOk x.2.2.1 n) (G : Nat → Prop) (hG : ∀ j, j < n → ∀ k ∈ x.2.2.1.getD j [], G k.toNat → G j) :
   ∀ (F : Nat) (out : List Bool), fal out + 1 < F → out.length = n → (∀ j, out.getD j false = true → G j) →
     ∃ out', out'.length = n ∧ (∀ j, out'.getD j false = true → G j) ∧ (∀ j, out.getD j false = true → out'.getD j false = true) ∧ (∀ j, j < n → Clos x.2.2.1 out' j) ∧ g75x2L122f N F k0 true x out = k0 x out' 
 | 0, out, h, _, _ => by omega
 | F + 1, out, h, hl, hS => by
   rw [g75x2L122f_succ]
   unfold g75x2L122B
   rw [cond_true, g75x2L7830_eq]
   obtain ⟨again', out', a1, a2, a3, a4, a5⟩ := passB N hN (fun e5 e6 e7 => g75x2L122f N F k0 e5 e6 e7 ) x n hx G hG  N 0 out false (by have := hx.2.1; omega) (by omega) hl hS
   simp only [Int.natCast_zero] at a5
   rcases a4 with ⟨rfl, rfl, b3⟩ | ⟨rfl, b2⟩
   · refine ⟨out', a1, a2, a3, fun j hj => b3 j (by omega) hj, a5.trans ?_⟩
     obtain ⟨F', rfl⟩ : ∃ F', F = F' + 1 := ⟨F - 1, by omega⟩
     rw [g75x2L122f_succ]
     rfl
   · obtain ⟨out2, c1, c2, c3, c4, c5⟩ := spreadB N hN k0 x n hx G hG  F out' (by omega) a1 a2
     exact ⟨out2, c1, c2, fun j hj => c3 j (a3 j hj), c4, a5.trans c5⟩
end Go.Pv
namespace Go.Pv
structure Ref (x : PP) (c : List Int) (y : CC) : Prop where
 px : PT x
 crowd : Crowd c x.1
 found : Found x c y.1
 rows : Rows39 x y.1.length y.1 y.2.2.1
theorem Ref.cr {x : PP} {c : List Int} {y : CC} (h : Ref x c y) {d : List Int} (hd : d ∈ y.1) : Crowd d x.1 := (((h.found.mem d).1 hd).crowd h.px h.crowd).1
theorem Ref.step {x : PP} {c : List Int} {y : CC} (h : Ref x c y) {d e : List Int} (hd : d ∈ y.1) (he : Reach x d e) : e ∈ y.1 := (h.found.mem e).2 (((h.found.mem d).1 hd).trans he)
theorem Ref.rowOk {x : PP} {c : List Int} {y : CC} (h : Ref x c y) : RowOk y.2.2.1 y.1.length := by
 have hl := h.found.len
 refine ⟨h.rows.1, by omega, fun j hj => ?_⟩
 rw [h.rows.2 j hj]
 have hr := h.px.rules.1
 refine ⟨?_, fun k hk => ?_⟩
 · unfold rowL nbr
   have := List.length_filter_le (fun r => canR r (y.1.getD j [])) x.2.2.2.1
   simp only [List.length_map]; omega
 · unfold rowL at hk
   obtain ⟨e, he, rfl⟩ := List.mem_map.1 hk
   have hm : e ∈ y.1 := h.step (getD_mem hj []) (.step (.refl _) he)
   have := List.idxOf_lt_length_of_mem hm
   omega
theorem at_idx {L : List (List Int)} {d : List Int} (h : d ∈ L) : L.getD (L.idxOf d) [] = d := by
 have := List.idxOf_lt_length_of_mem h
 rw [List.getD_eq_getElem?_getD, List.getElem?_eq_getElem this]
 simp
theorem idx_at {L : List (List Int)} (hn : L.Nodup) {j : Nat} (h : j < L.length) : L.idxOf (L.getD j []) = j := by
 have hg : L.getD j [] = L[j] := by rw [List.getD_eq_getElem?_getD, List.getElem?_eq_getElem h]; rfl
 rw [hg]
 have hm : L[j] ∈ L := List.getElem_mem h
 have h1 := List.idxOf_lt_length_of_mem hm
 have h2 : L[L.idxOf L[j]] = L[j] := List.getElem_idxOf h1
 have hp := List.pairwise_iff_getElem.1 hn
 rcases Nat.lt_trichotomy (L.idxOf L[j]) j with h3 | h3 | h3
 · exact absurd h2 (hp _ _ h1 h h3)
 · exact h3
 · exact absurd h2.symm (hp _ _ h h1 h3)
theorem Ref.spr {x : PP} {c : List Int} {y : CC} (h : Ref x c y) (src out : List Bool) (hs : src.length = y.1.length)
   (h2 : ∀ j, out.getD j false = true → ∃ d e, j < y.1.length ∧ d = y.1.getD j [] ∧ Reach x d e ∧ src.getD (y.1.idxOf e) false = true)
   (h3 : ∀ j, src.getD j false = true → out.getD j false = true) (h4 : ∀ j, j < y.1.length → Clos y.2.2.1 out j) (d : List Int) (hd : d ∈ y.1) :
   out.getD (y.1.idxOf d) false = true ↔ ∃ e, Reach x d e ∧ src.getD (y.1.idxOf e) false = true := by
 constructor
 · intro ho
   obtain ⟨d', e, _, hd', hr, hse⟩ := h2 _ ho
   rw [at_idx hd] at hd'
   subst hd'
   exact ⟨e, hr, hse⟩
 · rintro ⟨e, hr, hse⟩
   have hk : ∀ a b, Reach x a b → a ∈ y.1 → out.getD (y.1.idxOf b) false = true → out.getD (y.1.idxOf a) false = true := by
     intro a b hab
     induction hab with
     | refl => exact fun _ ho => ho
     | step hab hn ih =>
       rename_i d1 e1
       intro ha ho
       refine ih ha ?_
       have hb := h.step ha hab
       have hbl := List.idxOf_lt_length_of_mem hb
       refine h4 _ hbl ((y.1.idxOf e1 : Nat) : Int) ?_ ho
       rw [h.rows.2 _ hbl, at_idx hb]
       exact List.mem_map.2 ⟨_, hn, rfl⟩
   exact hk d e hr hd (h3 _ hse)
theorem Ref.G {x : PP} {c : List Int} {y : CC} (h : Ref x c y) (src : List Bool) : ∀ j, j < y.1.length → ∀ k ∈ y.2.2.1.getD j [], (∃ d e, k.toNat < y.1.length ∧ d = y.1.getD k.toNat [] ∧ Reach x d e ∧ src.getD (y.1.idxOf e) false = true) → (∃ d e, j < y.1.length ∧ d = y.1.getD j [] ∧ Reach x d e ∧ src.getD (y.1.idxOf e) false = true) := by
 rintro j hj k hk ⟨d, e, h1, rfl, h3, h4⟩
 rw [h.rows.2 j hj] at hk
 obtain ⟨b, hb, rfl⟩ := List.mem_map.1 hk
 have hbm : b ∈ y.1 := h.step (getD_mem hj []) (.step (.refl _) hb)
 rw [Int.toNat_natCast, at_idx hbm] at h3
 exact ⟨_, e, hj, rfl, (Reach.step (.refl _) hb).trans h3, h4⟩
theorem src_start {L : List (List Int)} {x : PP} (hn : L.Nodup) (src : List Bool) (hs : src.length = L.length) : ∀ j, src.getD j false = true → ∃ d e, j < L.length ∧ d = L.getD j [] ∧ Reach x d e ∧ src.getD (L.idxOf e) false = true := fun j hj => by
 have hjl : j < L.length := by
   apply Decidable.byContradiction
   intro h
   rw [List.getD_eq_getElem?_getD, List.getElem?_eq_none (by omega)] at hj
   cases hj
 exact ⟨_, _, hjl, rfl, .refl _, by rw [idx_at hn hjl]; exact hj⟩
theorem spread75 {x : PP} {c : List Int} {y : CC} (h : Ref x c y) (src : List Bool) (hs : src.length = y.1.length) : ∃ out r, out.length = y.1.length ∧ (∀ d ∈ y.1, (out.getD (y.1.idxOf d) false = true ↔ ∃ e, Reach x d e ∧ src.getD (y.1.idxOf e) false = true)) ∧ g75x 2000 y src = some r ∧ r.2.2.1 = out := by
 have hl := h.found.len
 have hfl := fal_le src
 unfold g75x
 obtain ⟨out, a1, a2, a3, a4, a5⟩ := spreadA 2000 (by omega) (fun e10 e11 e12 => some ((((), ()), ((), e12, ()), (e11, ())) : (g75xS).R)) y y.1.length h.rowOk (fun j => ∃ d e, j < y.1.length ∧ d = y.1.getD j [] ∧ Reach x d e ∧ src.getD (y.1.idxOf e) false = true) (h.G src) src 2000 src (by omega) hs (src_start h.found.nodup src hs)
 refine ⟨out, ((((), ()), ((), src, ()), (out, ())) : (g75xS).R), a1, h.spr src out hs a2 a3 a4, ?_, rfl⟩
 rw [if_pos (by simp [maxCount]; omega), List.nil_append, g75xL122_eq]
 exact a5
theorem spread75b {x : PP} {c : List Int} {y : CC} (h : Ref x c y) (src : List Bool) (hs : src.length = y.1.length) : ∃ out r, out.length = y.1.length ∧ (∀ d ∈ y.1, (out.getD (y.1.idxOf d) false = true ↔ ∃ e, Reach x d e ∧ src.getD (y.1.idxOf e) false = true)) ∧ g75x2 2000 y src = some r ∧ r.2.2.1 = out := by
 have hl := h.found.len
 have hfl := fal_le src
 unfold g75x2
 obtain ⟨out, a1, a2, a3, a4, a5⟩ := spreadB 2000 (by omega) (fun e8 e9 => some ((((), ()), ((), ()), (e9, ())) : (g75x2S).R)) y y.1.length h.rowOk (fun j => ∃ d e, j < y.1.length ∧ d = y.1.getD j [] ∧ Reach x d e ∧ src.getD (y.1.idxOf e) false = true) (h.G src) 2000 src (by omega) hs (src_start h.found.nodup src hs)
 refine ⟨out, ((((), ()), ((), ()), (out, ())) : (g75x2S).R), a1, h.spr src out hs a2 a3 a4, ?_, rfl⟩
 rw [if_pos (by simp [maxCount]; omega), List.nil_append, g75x2L122_eq]
 exact a5
theorem oth_inner {C : Type} (N : Nat) (k0 : Int → Int → PP → CC → List Bool → Option C) {x : PP} {c : List Int} {y : CC} (h : Ref x c y) (on : Int) (i : Nat) (hi : i < y.1.length) :
   ∀ (F s : Nat) (o : List Bool), x.1.toNat - s < F → (s : Int) ≤ x.1 → o.length = y.1.length → ∃ o', o'.length = y.1.length ∧ (∀ j, j ≠ i → o'.getD j false = o.getD j false) ∧ (o'.getD i false = true ↔ o.getD i false = true ∨ ∃ t, s ≤ t ∧ (t : Int) < x.1 ∧ 0 < (y.1.getD i []).getD t 0 ∧ x.2.1.getD t 0 ≠ on) ∧ g74L3730f N F k0 on (i : Int) (s : Int) x y o = k0 on (i : Int) x y o'
 | 0, s, o, hF, _, _ => by omega
 | F + 1, s, o, hF, hs, ho => by
   rw [g74L3730f_succ]
   unfold g74L3730B
   have hn := h.px.n
   have hout := h.px.out.1
   have hd := (h.cr (getD_mem hi [])).len
   by_cases hlt : (s : Int) < x.1
   · have e1 : decide ((s : Int) < x.1) = true := decide_eq_true hlt
     have hsl : s < (y.1.getD i []).length := by omega
     have hso : s < x.2.1.length := by omega
     have hio : i < o.length := by omega
     rw [e1, cond_true, if_pos (ix hi), Int.toNat_natCast, if_pos (ix hsl), Int.toNat_natCast, wn s (by omega)]
     by_cases hp : 0 < (y.1.getD i []).getD s 0
     · rw [decide_eq_true hp, cond_true, if_pos (ix hso)]
       by_cases hq : x.2.1.getD s 0 = on
       · have e3 : ieq (x.2.1.getD s 0) on = true := by simp only [ieq, decide_eq_true_eq]; exact hq
         rw [e3, Bool.not_true, cond_false]
         obtain ⟨o', a1, a2, a3, a4⟩ := oth_inner N k0 h on i hi F (s + 1) o (by omega) (by omega) ho
         refine ⟨o', a1, a2, ?_, a4⟩
         rw [a3]
         constructor
         · rintro (b | ⟨t, b1, b2⟩)
           · exact .inl b
           · exact .inr ⟨t, by omega, b2⟩
         · rintro (b | ⟨t, b1, b2, b3, b4⟩)
           · exact .inl b
           · refine .inr ⟨t, ?_, b2, b3, b4⟩
             by_cases hts : t = s
             · subst hts; exact absurd hq b4
             · omega
       · have e3 : ieq (x.2.1.getD s 0) on = false := by simp only [ieq, decide_eq_false_iff_not]; exact hq
         rw [e3, Bool.not_false, cond_true, if_pos (ix hio), if_pos hio]
         obtain ⟨o', a1, a2, a3, a4⟩ := oth_inner N k0 h on i hi F (s + 1) (o.set i true) (by omega) (by omega) (by simp [ho])
         refine ⟨o', a1, fun j hj => ?_, ?_, a4⟩
         · rw [a2 j hj, getB_set _ _ _ _ hio, if_neg (fun e => hj e.symm)]
         · rw [a3]
           constructor
           · intro _; exact .inr ⟨s, by omega, hlt, hp, hq⟩
           · intro _; left; rw [getB_set _ _ _ _ hio, if_pos rfl]
     · rw [decide_eq_false hp, cond_false]
       obtain ⟨o', a1, a2, a3, a4⟩ := oth_inner N k0 h on i hi F (s + 1) o (by omega) (by omega) ho
       refine ⟨o', a1, a2, ?_, a4⟩
       rw [a3]
       constructor
       · rintro (b | ⟨t, b1, b2⟩)
         · exact .inl b
         · exact .inr ⟨t, by omega, b2⟩
       · rintro (b | ⟨t, b1, b2, b3, b4⟩)
         · exact .inl b
         · refine .inr ⟨t, ?_, b2, b3, b4⟩
           by_cases hts : t = s
           · subst hts; exact absurd b3 hp
           · omega
   · have e1 : decide ((s : Int) < x.1) = false := decide_eq_false hlt
     rw [e1, cond_false]
     refine ⟨o, ho, fun j hj => rfl, ?_, rfl⟩
     constructor
     · exact .inl
     · rintro (b | ⟨t, b1, b2, _⟩)
       · exact b
       · omega
theorem oth_loop {C : Type} (N : Nat) (hN : 1001 < N) (k0 : PP → CC → List Bool → Option C) {x : PP} {c : List Int} {y : CC} (h : Ref x c y) (on : Int) :
   ∀ (F i : Nat) (o : List Bool), y.1.length - i < F → i ≤ y.1.length → o.length = y.1.length → (∀ j, i ≤ j → o.getD j false = false) → (∀ j, j < i → (o.getD j false = true ↔ ¬ allOn x (y.1.getD j []) on)) → ∃ o', o'.length = y.1.length ∧ (∀ j, j < y.1.length → (o'.getD j false = true ↔ ¬ allOn x (y.1.getD j []) on)) ∧ g74L58f N F k0 on (i : Int) x y o = k0 x y o'
 | 0, i, o, hF, _, _, _, _ => by omega
 | F + 1, i, o, hF, hi, ho, hz, hI => by
   rw [g74L58f_succ]
   unfold g74L58B
   have hl := h.found.len
   have hn := h.px.n
   by_cases hlt : i < y.1.length
   · have e1 : decide ((i : Int) < ((y.1.length : Nat) : Int)) = true := decide_eq_true (by omega)
     have hd := (h.cr (getD_mem hlt [])).len
     rw [e1, cond_true, g74L3730_eq]
     obtain ⟨o1, a1, a2, a3, a4⟩ := oth_inner N (fun e1 e2 e3 e4 e5 => g74L58f N F k0 e1 (IntKind.wrap .i64 (e2 + 1)) e3 e4 e5) h on i hlt N 0 o (by omega) (by omega) ho
     simp only [Int.natCast_zero] at a4
     obtain ⟨o2, b1, b2, b3⟩ := oth_loop N hN k0 h on F (i + 1) o1 (by omega) (by omega) a1 (fun j hj => by rw [a2 j (by omega)]; exact hz j (by omega)) (fun j hj => by
       by_cases hji : j = i
       · subst hji
         rw [a3, hz j (by omega)]
         unfold allOn
         constructor
         · rintro (b | ⟨t, _, _, b3, b4⟩)
           · cases b
           · exact fun hh => b4 (hh t b3)
         · intro hh
           right
           apply Classical.byContradiction
           intro hne
           refine hh fun s hs => Classical.byContradiction fun hso => hne ⟨s, by omega, ?_, hs, hso⟩
           have : s < (y.1.getD j []).length := by
             apply Decidable.byContradiction
             intro hsl
             have hz0 : (y.1.getD j []).getD s 0 = 0 := by
               rw [List.getD_eq_getElem?_getD (l := y.1.getD j []), List.getElem?_eq_none (by omega)]; rfl
             omega
           omega
       · rw [a2 j hji]; exact hI j (by omega))
     refine ⟨o2, b1, b2, a4.trans ?_⟩
     rw [wn i (by omega)]
     exact b3
   · have e1 : decide ((i : Int) < ((y.1.length : Nat) : Int)) = false := decide_eq_false (by omega)
     rw [e1, cond_false]
     have : i = y.1.length := by omega
     subst this
     exact ⟨o, ho, hI, rfl⟩
theorem not_loop {C : Type} (N : Nat) (k0 : List Bool → Option C) (o0 : List Bool) (hl : o0.length ≤ 1000) :
   ∀ (F i : Nat) (o : List Bool), o.length - i < F → i ≤ o.length → o.length = o0.length → (∀ j, i ≤ j → o.getD j false = o0.getD j false) → (∀ j, j < i → o.getD j false = !o0.getD j false) → ∃ o', o'.length = o0.length ∧ (∀ j, j < o0.length → o'.getD j false = !o0.getD j false) ∧ g74L250f N F k0 (i : Int) o = k0 o'
 | 0, i, o, hF, _, _, _, _ => by omega
 | F + 1, i, o, hF, hi, ho, hz, hI => by
   rw [g74L250f_succ]
   unfold g74L250B
   by_cases hlt : i < o.length
   · have e1 : decide ((i : Int) < ((o.length : Nat) : Int)) = true := decide_eq_true (by omega)
     rw [e1, cond_true, if_pos (ix hlt), Int.toNat_natCast, if_pos hlt, if_pos (ix hlt), if_pos hlt, wn i (by omega)]
     refine not_loop N k0 o0 hl F (i + 1) _ (by simp; omega) (by simp; omega) (by simp [ho]) (fun j hj => ?_) (fun j hj => ?_)
     · rw [getB_set _ _ _ _ hlt, if_neg (by omega)]; exact hz j (by omega)
     · rw [getB_set _ _ _ _ hlt]
       by_cases hji : i = j
       · subst hji; rw [if_pos rfl, hz i (by omega)]
       · rw [if_neg hji]; exact hI j (by omega)
   · have e1 : decide ((i : Int) < ((o.length : Nat) : Int)) = false := decide_eq_false (by omega)
     rw [e1, cond_false]
     exact ⟨o, ho, fun j hj => hI j (by omega), rfl⟩
theorem set74 {x : PP} {c : List Int} {y : CC} (h : Ref x c y) (on : Int) : ∃ o, o.length = y.1.length ∧ (∀ d ∈ y.1, (o.getD (y.1.idxOf d) false = true ↔ SetOn x d on)) ∧ g74 2000 x y on = some o := by
 have hl := h.found.len
 unfold g74
 obtain ⟨o1, a1, a2, a3⟩ := oth_loop 2000 (by omega) (fun e6 e7 e8 => Option.bind (g75x 2000 e7 e8) fun r9 => g74L250 2000 (fun e10 => some e10) 0 r9.2.2.1) h on 2000 0 (List.replicate y.1.length false) (by omega) (by omega) (by simp) (fun j _ => by
   simp only [List.getD_eq_getElem?_getD, List.getElem?_replicate]
   split <;> rfl) (fun j hj => by omega)
 simp only [Int.natCast_zero] at a3
 obtain ⟨out, r, b1, b2, b3, b4⟩ := spread75 h o1 a1
 obtain ⟨o2, c1, c2, c3⟩ := not_loop 2000 (fun e10 => some e10) out (by omega) 2000 0 out (by omega) (by omega) rfl (fun j _ => rfl) (fun j hj => by omega)
 simp only [Int.natCast_zero] at c3
 refine ⟨o2, by omega, fun d hd => ?_, ?_⟩
 · have hdl := List.idxOf_lt_length_of_mem hd
   rw [c2 _ (by omega)]
   have hb := b2 d hd
   constructor
   · intro hh e he
     apply Classical.byContradiction
     intro hne
     have hem := h.step hd he
     have hel := List.idxOf_lt_length_of_mem hem
     have : out.getD (y.1.idxOf d) false = true := hb.2 ⟨e, he, (a2 _ hel).2 (by rw [at_idx hem]; exact hne)⟩
     rw [this] at hh
     cases hh
   · intro hh
     cases hv : out.getD (y.1.idxOf d) false with
     | false => rfl
     | true =>
       obtain ⟨e, he, hse⟩ := hb.1 hv
       have hem := h.step hd he
       have hel := List.idxOf_lt_length_of_mem hem
       have := (a2 _ hel).1 hse
       rw [at_idx hem] at this
       exact absurd (hh e he) this
 · rw [if_pos ⟨rfl, by omega, by omega⟩, g74L58_eq, Int.toNat_natCast]
   refine a3.trans ?_
   rw [b3]
   simp only [Option.bind_some]
   rw [b4, g74L250_eq]
   exact c3
end Go.Pv
namespace Go.Pv
theorem mkRef {x : PP} (hx : PT x) {c : List Int} (hc : Crowd c x.1) : ∃ y : CC, g39 2000 x c = some y ∧ Ref x c y := by
 obtain ⟨steps, next, h1, h2, h3⟩ := ref39 hx hc
 exact ⟨(allL x c, steps, next, ()), h3, ⟨hx, hc, allL_found hx hc, h1⟩⟩
theorem all_loop {C : Type} (N : Nat) (k0 : Int → Bool → PP → CC → List Bool → Option C) (on : Int) (x : PP) (y : CC) (o : List Bool) (hl : o.length ≤ 1000) :
   ∀ (F i : Nat) (b : Bool), o.length - i < F → i ≤ o.length → (b = true ↔ ∀ j, j < i → o.getD j false = true) → ∃ b', (b' = true ↔ ∀ j, j < o.length → o.getD j false = true) ∧ g38L29850f N F k0 on b (i : Int) x y o = k0 on b' x y o
 | 0, i, b, hF, _, _ => by omega
 | F + 1, i, b, hF, hi, hb => by
   rw [g38L29850f_succ]
   unfold g38L29850B
   by_cases hlt : i < o.length
   · have e1 : decide ((i : Int) < ((o.length : Nat) : Int)) = true := decide_eq_true (by omega)
     rw [e1, cond_true, if_pos (ix hlt), Int.toNat_natCast, if_pos hlt, wn i (by omega)]
     cases hbb : b with
     | true =>
       rw [cond_true]
       refine all_loop N k0 on x y o hl F (i + 1) _ (by omega) (by omega) ⟨fun h j hj => ?_, fun h => h i (by omega)⟩
       by_cases hji : j = i
       · subst hji; exact h
       · exact (hb.1 hbb) j (by omega)
     | false =>
       rw [cond_false]
       refine all_loop N k0 on x y o hl F (i + 1) _ (by omega) (by omega) ⟨fun h => (by cases h), fun h => ?_⟩
       have := hb.2 (fun j hj => h j (by omega))
       rw [hbb] at this
       exact this
   · have e1 : decide ((i : Int) < ((o.length : Nat) : Int)) = false := decide_eq_false (by omega)
     rw [e1, cond_false]
     have : i = o.length := by omega
     subst this
     exact ⟨b, hb, rfl⟩
theorem dec_round {C : Type} (rec : Int → PP → CC → Option C) (k0 : Int → PP → CC → Option C) (k1 : PP → CC → Option C) {x : PP} {c : List Int} {y : CC} (h : Ref x c y) (on : Int) (hon : on < 2) :
   (DecOn x c on ∧ g38L58B 2000 rec k0 k1 on x y = k0 on x y) ∨ (¬ DecOn x c on ∧ g38L58B 2000 rec k0 k1 on x y = rec (IntKind.wrap .i64 (on + 1)) x y) := by
 obtain ⟨o, a1, a2, a3⟩ := set74 h on
 obtain ⟨out, r, b1, b2, b3, b4⟩ := spread75b h o a1
 have hl := h.found.len
 unfold g38L58B
 rw [decide_eq_true hon, cond_true, a3]
 simp only [Option.bind_some]
 rw [b3]
 simp only [Option.bind_some]
 rw [b4, g38L29850_eq]
 obtain ⟨b, c1, c2⟩ := all_loop 2000 (fun e4 e5 e6 e7 e8 => bif e5 then (k0 e4 e6 e7) else (rec (IntKind.wrap .i64 (e4 + 1)) e6 e7)) on x y out (by omega) 2000 0 true (by omega) (by omega) ⟨fun _ j hj => by omega, fun _ => rfl⟩
 simp only [Int.natCast_zero] at c2
 have key : b = true ↔ DecOn x c on := by
   rw [c1]
   constructor
   · intro hh d hd
     have hdm := (h.found.mem d).2 hd
     have hdl := List.idxOf_lt_length_of_mem hdm
     obtain ⟨e, he, hse⟩ := (b2 d hdm).1 (hh _ (by omega))
     exact ⟨e, he, (a2 e (h.step hdm he)).1 hse⟩
   · intro hh j hj
     have hjl : j < y.1.length := by omega
     have hm := getD_mem hjl []
     obtain ⟨e, he, hse⟩ := hh _ ((h.found.mem _).1 hm)
     have := (b2 _ hm).2 ⟨e, he, (a2 e (h.step hm he)).2 hse⟩
     rw [idx_at h.found.nodup hjl] at this
     exact this
 cases hb : b with
 | true => exact .inl ⟨key.1 hb, by rw [hb] at c2; exact c2⟩
 | false => exact .inr ⟨fun hd => (by have := key.2 hd; rw [hb] at this; cases this), by rw [hb] at c2; exact c2⟩
theorem decides38 {x : PP} (hx : PT x) {c : List Int} (hc : Crowd c x.1) : ∃ v, g38 2000 x c = some v ∧ -1 ≤ v ∧ v ≤ 1 ∧ ∀ on, 0 ≤ on → on ≤ 1 → (v = on ↔ DecOn x c on) := by
 obtain ⟨y, hy, h⟩ := mkRef hx hc
 unfold g38
 rw [hy]
 simp only [Option.bind_some]
 rw [g38L58_eq]
 have H : ∀ F : Nat, ∃ v, g38L58f 2000 (F + 3) (fun e9 e10 e11 => some e9) (fun e12 e13 => some (-1)) 0 x y = some v ∧ -1 ≤ v ∧ v ≤ 1 ∧ ∀ on, 0 ≤ on → on ≤ 1 → (v = on ↔ DecOn x c on) := by
   intro F
   rw [show F + 3 = (F + 2) + 1 from rfl, g38L58f_succ]
   rcases dec_round (fun a b d => g38L58f 2000 (F + 2) (fun e9 e10 e11 => some e9) (fun e12 e13 => some (-1)) a b d) (fun e9 e10 e11 => some e9) (fun e12 e13 => some (-1)) h 0 (by omega) with ⟨d0, e0⟩ | ⟨d0, e0⟩
   · exact ⟨0, e0, by omega, by omega, fun on h1 h2 => ⟨fun e => e ▸ d0, fun s => DecOn.one hx hc d0 s⟩⟩
   · rw [show IntKind.wrap .i64 (0 + 1) = 1 from by decide, show F + 2 = (F + 1) + 1 from rfl, g38L58f_succ] at e0
     rcases dec_round (fun a b d => g38L58f 2000 (F + 1) (fun e9 e10 e11 => some e9) (fun e12 e13 => some (-1)) a b d) (fun e9 e10 e11 => some e9) (fun e12 e13 => some (-1)) h 1 (by omega) with ⟨d1, e1⟩ | ⟨d1, e1⟩
     · exact ⟨1, e0.trans e1, by omega, by omega, fun on h1 h2 => ⟨fun e => e ▸ d1, fun s => DecOn.one hx hc d1 s⟩⟩
     · rw [show IntKind.wrap .i64 (1 + 1) = 2 from by decide, g38L58f_succ] at e1
       refine ⟨-1, (e0.trans e1).trans ?_, by omega, by omega, fun on h1 h2 => ⟨fun e => by omega, fun s => ?_⟩⟩
       · unfold g38L58B
         rfl
       · rcases (show on = 0 ∨ on = 1 by omega) with rfl | rfl
         · exact absurd s d0
         · exact absurd s d1
 exact H 1997
theorem DecOn.le {x : PP} (hx : PT x) {c : List Int} (hc : Crowd c x.1) {v : Int} (h : DecOn x c v) : v ≤ 1 := by
 obtain ⟨e, he, hs⟩ := h c (.refl c)
 obtain ⟨s, _, hp⟩ := some_pos (he.crowd hx hc).1
 have := hs e (.refl e) s hp
 by_cases hl : s < x.2.1.length
 · have := hx.out.2 _ (getD_mem hl 0); omega
 · rw [List.getD_eq_getElem?_getD, List.getElem?_eq_none (by omega)] at this
   simp at this; omega
end Go.Pv
namespace Go.Pv
def askedB (q : QQ) (many : Int) : Bool := decide ((q.1.length : Int) = many) && ((q.1.all fun x => decide (-5 ≤ x) && decide (x ≤ 5)) && ((decide (-9 ≤ q.2.1) && decide (q.2.1 ≤ 9)) && (decide (0 ≤ q.2.2.1) && decide (q.2.2.1 ≤ 9))))
theorem isQ_eq (N : Nat) (q : QQ) (many : Int) (hl : q.1.length ≤ 100) (hN : 100 < N) : g61 N q many = some (askedB q many) := by
 unfold g61 askedB
 rw [are_eq N _ _ q.1 (by omega) (by omega), are_eq N _ _ [q.2.1] (by simp; omega) (by simp), are_eq N _ _ [q.2.2.1] (by simp; omega) (by simp)]
 by_cases h1 : (q.1.length : Int) = many
 · simp only [ieq, h1, decide_true, cond_true, Option.bind_some, Bool.true_and]
   cases h2 : q.1.all fun x => decide (-5 ≤ x) && decide (x ≤ 5) with
   | false => simp
   | true =>
     by_cases h3 : (-9 ≤ q.2.1) <;> by_cases h4 : q.2.1 ≤ 9 <;> simp [h3, h4]
 · simp [ieq, h1]
end Go.Pv
namespace Go.Pv
theorem mul_b {x y : Int} (h1 : -5 ≤ x ∧ x ≤ 5) (h2 : 0 ≤ y ∧ y ≤ 9) : -45 ≤ x * y ∧ x * y ≤ 45 := by
 obtain ⟨a1, a2⟩ := h1
 have l1 : x * y ≤ 5 * y := Int.mul_le_mul_of_nonneg_right a2 h2.1
 have l2 : -5 * y ≤ x * y := Int.mul_le_mul_of_nonneg_right a1 h2.1
 omega
theorem two_cases : ∀ {a k : List Int}, a.length = k.length → 1 ≤ k.length → k.length ≤ 2 → (∃ p x, a = [p] ∧ k = [x]) ∨ (∃ p q x y, a = [p, q] ∧ k = [x, y])
 | [], [], _, h, _ => by simp at h
 | [p], [x], _, _, _ => .inl ⟨p, x, rfl, rfl⟩
 | [p, q], [x, y], _, _, _ => .inr ⟨p, q, x, y, rfl, rfl⟩
 | _ :: _ :: _ :: _, k, h1, _, h3 => by simp at h1; omega
 | [], _ :: _, h, _, _ => by simp at h
 | [_], [], h, _, _ => by simp at h
 | [_], _ :: _ :: _, h, _, _ => by simp at h
 | [_, _], [], h, _, _ => by simp at h
 | [_, _], [_], h, _, _ => by simp at h
 | [_, _], _ :: _ :: _ :: _, h, _, _ => by simp at h
theorem holds_two (N : Nat) (hN : 100 < N) (q : QQ) (k : List Int) (hlen : q.1.length = k.length) (h1 : 1 ≤ k.length) (h2 : k.length ≤ 2) (hq : ∀ t ∈ q.1, -5 ≤ t ∧ t ≤ 5) (hk : ∀ t ∈ k, 0 ≤ t ∧ t ≤ 9) (hb : -9 ≤ q.2.1 ∧ q.2.1 ≤ 9) : g22 N q k = g63 N q k := by
 obtain ⟨M, rfl⟩ : ∃ M, N = M + 3 := ⟨N - 3, by omega⟩
 obtain ⟨qa, qb, qm, ⟨⟩⟩ := q
 have z : IntKind.wrap .i64 0 = 0 := by decide
 have z1 : IntKind.wrap .i64 1 = 1 := by decide
 have z2 : IntKind.wrap .i64 2 = 2 := by decide
 dsimp only at hlen hq hb
 rcases two_cases hlen h1 h2 with ⟨a, x, rfl, rfl⟩ | ⟨a, b, x, y, rfl, rfl⟩
 · skip
   have m1 := mul_b (hq a (by simp)) (hk x (by simp))
   have ea : IntKind.wrap .i64 (a * x) = a * x := w64 (by omega) (by omega)
   unfold g22 g63
   rw [g22L58_eq, g63L58_eq]
   rw [show M + 3 = (M + 2) + 1 from rfl, g22L58f_succ, g63L58f_succ]
   unfold g22L58B g63L58B
   simp [idx, z1, z, ea, maxCount]
   rw [show M + 2 = (M + 1) + 1 from rfl, g22L58f_succ, g63L58f_succ]
   unfold g22L58B g63L58B
   simp [idx, z1, z, ea, maxCount, sum88 _ [a * x] (by simp) (show 100 < M + 1 + 1 + 1 by omega) (fun t ht => by obtain rfl := List.mem_singleton.1 ht; omega)]
 · skip
   have m1 := mul_b (hq a (by simp)) (hk x (by simp))
   have m2 := mul_b (hq b (by simp)) (hk y (by simp))
   have ea : IntKind.wrap .i64 (a * x) = a * x := w64 (by omega) (by omega)
   have eb : IntKind.wrap .i64 (b * y) = b * y := w64 (by omega) (by omega)
   have ec : IntKind.wrap .i64 (a * x + b * y) = a * x + b * y := w64 (by omega) (by omega)
   unfold g22 g63
   rw [g22L58_eq, g63L58_eq]
   rw [show M + 3 = (M + 2) + 1 from rfl, g22L58f_succ, g63L58f_succ]
   unfold g22L58B g63L58B
   simp [idx, z1, z, ea, maxCount]
   rw [show M + 2 = (M + 1) + 1 from rfl, g22L58f_succ, g63L58f_succ]
   unfold g22L58B g63L58B
   simp [idx, z1, z2, z, ea, eb, ec, maxCount]
   rw [g22L58f_succ, g63L58f_succ]
   unfold g22L58B g63L58B
   simp [idx, z1, z2, z, ea, eb, ec, maxCount, sum88 _ [a * x, b * y] (by simp) (show 100 < M + 1 + 1 + 1 by omega) (fun t ht => by
     simp only [List.mem_cons, List.not_mem_nil, or_false] at ht
     rcases ht with rfl | rfl <;> omega)]
theorem holds_some (N : Nat) (hN : 100 < N) (q : QQ) (k : List Int) (hlen : q.1.length = k.length) (h1 : 1 ≤ k.length) (h2 : k.length ≤ 2) (hq : ∀ t ∈ q.1, -5 ≤ t ∧ t ≤ 5) (hk : ∀ t ∈ k, 0 ≤ t ∧ t ≤ 9) (hb : -9 ≤ q.2.1 ∧ q.2.1 ≤ 9) : ∃ b, g22 N q k = some b := by
 obtain ⟨M, rfl⟩ : ∃ M, N = M + 3 := ⟨N - 3, by omega⟩
 obtain ⟨qa, qb, qm, ⟨⟩⟩ := q
 have z : IntKind.wrap .i64 0 = 0 := by decide
 have z1 : IntKind.wrap .i64 1 = 1 := by decide
 have z2 : IntKind.wrap .i64 2 = 2 := by decide
 dsimp only at hlen hq hb
 rcases two_cases hlen h1 h2 with ⟨a, x, rfl, rfl⟩ | ⟨a, b, x, y, rfl, rfl⟩
 · skip
   unfold g22
   rw [g22L58_eq]
   rw [show M + 3 = (M + 2) + 1 from rfl, g22L58f_succ]
   unfold g22L58B
   simp [idx, z1, z, maxCount]
   rw [show M + 2 = (M + 1) + 1 from rfl, g22L58f_succ]
   unfold g22L58B
   by_cases hm : qm = 0 <;> simp [idx, z1, z, maxCount, ieq, hm] <;> first | omega | exact (Decidable.em _).symm
 · skip
   unfold g22
   rw [g22L58_eq]
   rw [show M + 3 = (M + 2) + 1 from rfl, g22L58f_succ]
   unfold g22L58B
   simp [idx, z1, z, maxCount]
   rw [show M + 2 = (M + 1) + 1 from rfl, g22L58f_succ]
   unfold g22L58B
   simp [idx, z1, z2, z, maxCount]
   rw [g22L58f_succ]
   unfold g22L58B
   by_cases hm : qm = 0 <;> simp [idx, z1, z2, z, maxCount, ieq, hm] <;> first | omega | exact (Decidable.em _).symm
end Go.Pv
namespace Go.Pv
structure QT (q : QQ) (n : Int) : Prop where
 len : (q.1.length : Int) = n
 a : ∀ t ∈ q.1, -5 ≤ t ∧ t ≤ 5
 b : -9 ≤ q.2.1 ∧ q.2.1 ≤ 9
 m : 0 ≤ q.2.2.1 ∧ q.2.2.1 ≤ 9
theorem QT.asked {q : QQ} {n : Int} (h : QT q n) : askedB q n = true := by
 unfold askedB
 simp only [Bool.and_eq_true, decide_eq_true_eq]
 refine ⟨h.len, ?_, h.b, h.m⟩
 rw [List.all_eq_true]
 intro t ht
 have := h.a t ht
 simp; omega
theorem begun_loop (N : Nat) {C : Type} (k0 : PP → List Int → List Int → Option C) (x : PP) (hx : PT x) (k : List Int) (hk : k.length ≤ x.2.2.1.length) (hb : ∀ t ∈ k, 0 ≤ t ∧ t ≤ 9) (z : List Int) :
   ∀ (F i : Nat) (c : List Int), k.length - i < F → i ≤ k.length → c.length = 5 → (∀ t ∈ c, 0 ≤ t ∧ t ≤ 9 * (i : Int)) → g64L58f N F k0 k (k.length : Int) (i : Int) x z c = k0 x z ((List.range (k.length - i)).foldl (fun c j => c.set (x.2.2.1.getD (i + j) 0).toNat (c.getD (x.2.2.1.getD (i + j) 0).toNat 0 + k.getD (i + j) 0)) c)
 | 0, i, c, h, _, _, _ => by omega
 | F + 1, i, c, h, hi, hc, hcb => by
   rw [g64L58f_succ]
   unfold g64L58B
   obtain ⟨s1, s2, s3⟩ := hx.start
   obtain ⟨n1, n2⟩ := hx.n
   by_cases hlt : i < k.length
   · have e1 : decide ((i : Int) < (k.length : Int)) = true := by simp; omega
     obtain ⟨t1, t2⟩ := s3 _ (getD_mem (show i < x.2.2.1.length by omega) 0)
     obtain ⟨b1, b2⟩ := hb _ (getD_mem hlt 0)
     have q : idx (x.2.2.1.getD i 0) 5 := ⟨t1, by omega⟩
     have hcm := hcb _ (getD_mem (show (x.2.2.1.getD i 0).toNat < c.length by omega) 0)
     rw [e1, cond_true, if_pos ⟨by omega, by omega⟩, if_pos ⟨by omega, by omega⟩, Int.toNat_natCast, if_pos q, if_pos q, wn i (by omega), w64 (by omega) (by omega)]
     dsimp only
     rw [begun_loop N k0 x hx k hk hb z F (i + 1) _ (by omega) (by omega) (by simp [hc]) (fun t ht => by
       rcases List.mem_or_eq_of_mem_set ht with ht | rfl
       · have := hcb t ht; omega
       · omega)]
     rw [show k.length - i = (k.length - (i + 1)) + 1 by omega, List.range_succ_eq_map, List.foldl_cons, List.foldl_map]
     simp only [Nat.add_zero, Nat.succ_eq_add_one, Nat.add_comm 1, Nat.add_assoc]
   · have e1 : decide ((i : Int) < (k.length : Int)) = false := by simp; omega
     rw [e1, cond_false, show k.length - i = 0 by omega]; rfl
theorem crowd_loop (N : Nat) {C : Type} (k0 : PP → List Int → Option C) (x : PP) (hx : PT x) (k : List Int) (hk : k.length ≤ x.2.2.1.length) (hb : ∀ t ∈ k, 0 ≤ t ∧ t ≤ 9) :
   ∀ (F i : Nat) (c : List Int), k.length - i < F → i ≤ k.length → (c.length : Int) = x.1 → (∀ t ∈ c, 0 ≤ t ∧ t ≤ 9 * (i : Int)) → g28L58f N F k0 k (i : Int) x c = k0 x ((List.range (k.length - i)).foldl (fun c j => c.set (x.2.2.1.getD (i + j) 0).toNat (c.getD (x.2.2.1.getD (i + j) 0).toNat 0 + k.getD (i + j) 0)) c)
 | 0, i, c, h, _, _, _ => by omega
 | F + 1, i, c, h, hi, hc, hcb => by
   rw [g28L58f_succ]
   unfold g28L58B
   obtain ⟨s1, s2, s3⟩ := hx.start
   obtain ⟨n1, n2⟩ := hx.n
   by_cases hlt : i < k.length
   · have e1 : decide ((i : Int) < (k.length : Int)) = true := by simp; omega
     obtain ⟨t1, t2⟩ := s3 _ (getD_mem (show i < x.2.2.1.length by omega) 0)
     obtain ⟨b1, b2⟩ := hb _ (getD_mem hlt 0)
     have q : idx (x.2.2.1.getD i 0) c.length := ⟨t1, by omega⟩
     have q2 : (x.2.2.1.getD i 0).toNat < c.length := by omega
     have hcm := hcb _ (getD_mem q2 0)
     have q3 : idx (i : Int) x.2.2.1.length := ⟨by omega, by omega⟩
     have q4 : idx (i : Int) k.length := ⟨by omega, by omega⟩
     rw [e1, cond_true, if_pos q3, if_pos q3, Int.toNat_natCast, if_pos q, if_pos q2, if_pos q4, if_pos q, if_pos q2, wn i (by omega), w64 (by omega) (by omega)]
     dsimp only
     rw [crowd_loop N k0 x hx k hk hb F (i + 1) _ (by omega) (by omega) (by simp [hc]) (fun t ht => by
       rcases List.mem_or_eq_of_mem_set ht with ht | rfl
       · have := hcb t ht; omega
       · omega)]
     rw [show k.length - i = (k.length - (i + 1)) + 1 by omega, List.range_succ_eq_map, List.foldl_cons, List.foldl_map]
     simp only [Nat.add_zero, Nat.succ_eq_add_one, Nat.add_comm 1, Nat.add_assoc]
   · have e1 : decide ((i : Int) < (k.length : Int)) = false := by simp; omega
     rw [e1, cond_false, show k.length - i = 0 by omega]; rfl
theorem foldl_len (x : PP) (k : List Int) : ∀ (l : List Nat) (c : List Int), (l.foldl (fun c j => c.set (x.2.2.1.getD (0 + j) 0).toNat (c.getD (x.2.2.1.getD (0 + j) 0).toNat 0 + k.getD (0 + j) 0)) c).length = c.length
 | [], c => rfl
 | j :: l, c => by simp only [List.foldl_cons]; rw [foldl_len x k l]; simp
def begunL (x : PP) (k c : List Int) : List Int := (List.range k.length).foldl (fun c j => c.set (x.2.2.1.getD (0 + j) 0).toNat (c.getD (x.2.2.1.getD (0 + j) 0).toNat 0 + k.getD (0 + j) 0)) c
theorem begun_eq (N : Nat) (hN : 100 < N) (x : PP) (hx : PT x) (k : List Int) (hk : Crowd k (x.2.2.1.length : Int)) : g64 N x k = some (begunL x k (List.replicate 5 0)) := by
 unfold g64
 have hl := hk.len
 have h2 := hx.start.2.1
 rw [g64L58_eq]
 have := begun_loop N (fun e1 e2 e3 => some e3) x hx k (by omega) hk.le (List.replicate 5 0) N 0 (List.replicate 5 0) (by omega) (by omega) (by simp) (fun t ht => by have := List.eq_of_mem_replicate ht; omega)
 simp only [Int.natCast_zero, Nat.sub_zero] at this
 exact this
theorem crowd28_eq (N : Nat) (hN : 100 < N) (x : PP) (hx : PT x) (k : List Int) (hk : Crowd k (x.2.2.1.length : Int)) : g28 N x k = some (begunL x k (List.replicate x.1.toNat 0)) := by
 unfold g28
 have hl := hk.len
 have h2 := hx.start.2.1
 obtain ⟨n1, n2⟩ := hx.n
 have hm : mkOk x.1 x.1 := ⟨by omega, by omega, by omega⟩
 rw [if_pos hm, g28L58_eq]
 have := crowd_loop N (fun e1 e2 => some e2) x hx k (by omega) hk.le N 0 (List.replicate x.1.toNat 0) (by omega) (by omega) (by simp; omega) (fun t ht => by have := List.eq_of_mem_replicate ht; omega)
 simp only [Int.natCast_zero, Nat.sub_zero] at this
 exact this
end Go.Pv
