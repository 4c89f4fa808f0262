/- Plain texts, merged: QaMk8, QaMakers. -/
import Derived.Test.YtldhdlohhiphjaaQaMk1
import Derived.Test.YtldhdlohhiphjaaQaMk2
import Derived.Test.YtldhdlohhiphjaaQaMk3
import Derived.Test.YtldhdlohhiphjaaQaMk4
import Derived.Test.YtldhdlohhiphjaaQaMk5
import Derived.Test.YtldhdlohhiphjaaQaMk6
import Derived.Test.YtldhdlohhiphjaaMg2
import Derived.Test.YtldhdlohhiphjaaMg1
/- Seat 06, plain: the protocols that the program makes, asked of some kinds. -/
set_option linter.unusedVariables false
set_option linter.unusedSimpArgs false
namespace Go.Pv
theorem at_good {a k : Int} (h1 : 1 ≤ a) (h2 : a ≤ 4) (h3 : 1 ≤ k) (h4 : k ≤ 9) : goodB (g56 2000 a) ([1], a, 0, ()) [k] = true := by
 have h : atB a = true ∧ atC a = true := by
   have : a = 1 ∨ a = 2 ∨ a = 3 ∨ a = 4 := by omega
   rcases this with rfl | rfl | rfl | rfl
   · exact ⟨at1, at1c⟩
   · exact ⟨at2, at2c⟩
   · exact ⟨at3, at3c⟩
   · exact ⟨at4, at4c⟩
 by_cases hk : k ≤ 8
 · exact List.all_eq_true.1 h.1 k (mem8 h3 hk)
 · have : k = 9 := by omega
   subst this
   exact h.2
theorem le_good {m r k : Int} (h1 : 1 ≤ m) (h2 : m ≤ 3) (hr : 0 ≤ r) (hr2 : r < m) (h3 : 1 ≤ k) (h4 : k ≤ 9) : goodB (g58 2000 m r) ([1], r, m, ()) [k] = true := by
 have h : leB m r = true ∧ leC m r = true := by
   have : (m = 1 ∧ r = 0) ∨ (m = 2 ∧ r = 0) ∨ (m = 2 ∧ r = 1) ∨ (m = 3 ∧ r = 0) ∨ (m = 3 ∧ r = 1) ∨ (m = 3 ∧ r = 2) := by omega
   rcases this with ⟨rfl, rfl⟩ | ⟨rfl, rfl⟩ | ⟨rfl, rfl⟩ | ⟨rfl, rfl⟩ | ⟨rfl, rfl⟩ | ⟨rfl, rfl⟩
   · exact ⟨le10, le10c⟩
   · exact ⟨le20, le20c⟩
   · exact ⟨le21, le21c⟩
   · exact ⟨le30, le30c⟩
   · exact ⟨le31, le31c⟩
   · exact ⟨le32, le32c⟩
 by_cases hk : k ≤ 8
 · exact List.all_eq_true.1 h.1 k (mem8 h3 hk)
 · have : k = 9 := by omega
   subst this
   exact h.2
theorem maj_good {c : List Int} (hc : Crowd c 2) : g53 2000 majP ([1, -1], 1, 0, ()) c = some true := by
 have hl := hc.len
 match c, hl with
 | [p, q], _ =>
   have hp := hc.le p (by simp)
   have hq := hc.le q (by simp)
   have hs := hc.sum
   simp only [List.sum_cons, List.sum_nil] at hs
   have h : majB p = true := by
     have : p = 0 ∨ p = 1 ∨ p = 2 ∨ p = 3 ∨ p = 4 ∨ p = 5 ∨ p = 6 ∨ p = 7 ∨ p = 8 ∨ p = 9 := by omega
     rcases this with rfl | rfl | rfl | rfl | rfl | rfl | rfl | rfl | rfl | rfl
     · exact maj0
     · exact maj1
     · exact maj2
     · exact maj3
     · exact maj4
     · exact maj5
     · exact maj6
     · exact maj7
     · exact maj8
     · exact maj9
   have h2 := List.all_eq_true.1 h q (mem10 hq.1 hq.2)
   have e1 : decide (1 ≤ p + q) = true := by simp; omega
   have e2 : decide (p + q ≤ 9) = true := by simp; omega
   simp only [e1, e2, Bool.and_self, Bool.not_true, Bool.false_or] at h2
   cases h6 : g53 2000 majP ([1, -1], 1, 0, ()) [p, q] with
   | none => rw [h6] at h2; cases h2
   | some b => rw [h6] at h2; exact congrArg some h2
end Go.Pv
namespace Go.Pv
def rltB (r s : List Int) : Bool := decide (r.getD 0 0 < s.getD 0 0) || (decide (r.getD 0 0 = s.getD 0 0) && decide (r.getD 1 0 < s.getD 1 0))
def ruleB (n : Int) (r : List Int) : Bool := decide (r.length = 4) && (r.all (fun t => decide (0 ≤ t) && decide (t < n)) && decide (r.getD 0 0 ≤ r.getD 1 0))
def sortB : List (List Int) → Bool
 | [] => true
 | r :: l => l.all (rltB r) && sortB l
def ptB (x : PP) : Bool := (decide (1 ≤ x.1) && decide (x.1 ≤ 5)) && ((decide ((x.2.1.length : Int) = x.1) && x.2.1.all (fun o => decide (0 ≤ o) && decide (o ≤ 1))) && ((decide (1 ≤ x.2.2.1.length) && (decide (x.2.2.1.length ≤ 2) && x.2.2.1.all (fun s => decide (0 ≤ s) && decide (s < x.1)))) && (decide (x.2.2.2.1.length ≤ 15) && (x.2.2.2.1.all (ruleB x.1) && sortB x.2.2.2.1))))
theorem sort_of : ∀ l : List (List Int), sortB l = true → l.Pairwise RLt
 | [], _ => List.Pairwise.nil
 | r :: l, h => by
   simp only [sortB, Bool.and_eq_true, List.all_eq_true] at h
   refine List.pairwise_cons.2 ⟨fun s hs => ?_, sort_of l h.2⟩
   have := h.1 s hs
   simp only [rltB, Bool.or_eq_true, Bool.and_eq_true, decide_eq_true_eq] at this
   exact this
theorem pt_of {x : PP} (h : ptB x = true) : PT x := by
 simp only [ptB, ruleB, Bool.and_eq_true, decide_eq_true_eq, List.all_eq_true] at h
 obtain ⟨h1, ⟨h2, h3⟩, ⟨h4, h5, h6⟩, h7, h8, h9⟩ := h
 exact ⟨h1, ⟨h2, h3⟩, ⟨h4, h5, h6⟩, ⟨h7, fun r hr => h8 r hr, sort_of _ h9⟩⟩
noncomputable def madeB (o : Option (PP × Int × Unit)) : Bool :=
 match o with
 | some r => ieq r.2.1 0 && (ptB r.1 && (decide (r.1.2.2.1.length = 1) && (match g48 2000 r.1 with
   | some x => Ty.beq (.pair (.int .i64) (.pair (.arr 0 (.int .i64)) (.pair (.arr 0 (.int .i64)) (.pair (.arr 0 (.arr 4 (.int .i64))) .unit)))) r.1 x
   | none => false)))
 | none => false
theorem goI : ∀ a b : List Int, Ty.beq.go (Ty.beq (.int .i64)) a b = true → a = b
 | [], [], _ => rfl
 | [], _ :: _, h => by simp [Ty.beq.go] at h
 | _ :: _, [], h => by simp [Ty.beq.go] at h
 | x :: a, y :: b, h => by
   simp only [Ty.beq.go, Bool.and_eq_true] at h
   have h1 : x = y := by have := h.1; simpa [Ty.beq, ieq] using this
   rw [h1, goI a b h.2]
theorem goL : ∀ a b : List (List Int), Ty.beq.go (Ty.beq (.arr 4 (.int .i64))) a b = true → a = b
 | [], [], _ => rfl
 | [], _ :: _, h => by simp [Ty.beq.go] at h
 | _ :: _, [], h => by simp [Ty.beq.go] at h
 | x :: a, y :: b, h => by
   simp only [Ty.beq.go, Bool.and_eq_true] at h
   rw [goI x y h.1, goL a b h.2]
theorem made_ok {o : Option (PP × Int × Unit)} (h : madeB o = true) : ∃ r, o = some r ∧ ieq r.2.1 0 = true ∧ PT r.1 ∧ r.1.2.2.1.length = 1 ∧ g48 2000 r.1 = some r.1 := by
 unfold madeB at h
 cases o with
 | none => cases h
 | some r =>
   simp only [Bool.and_eq_true, decide_eq_true_eq] at h
   obtain ⟨h1, h2, h3, h4⟩ := h
   refine ⟨r, rfl, by simp only [ieq, decide_eq_true_eq]; exact h1, pt_of h2, h3, ?_⟩
   cases hx : g48 2000 r.1 with
   | none => rw [hx] at h4; cases h4
   | some x =>
     rw [hx] at h4
     obtain ⟨⟨a1, a2, a3, a4, ⟨⟩⟩, r2⟩ := r
     obtain ⟨b1, b2, b3, b4, ⟨⟩⟩ := x
     simp only [Ty.beq, Bool.and_eq_true] at h4
     obtain ⟨e1, e2, e3, e4, _⟩ := h4
     have e1 : a1 = b1 := by simpa [ieq] using e1
     rw [e1, goI _ _ e2, goI _ _ e3, goL _ _ e4]
theorem ma1 : madeB (g56 2000 1) = true := by kernel_rfl
theorem ma2 : madeB (g56 2000 2) = true := by kernel_rfl
theorem ma3 : madeB (g56 2000 3) = true := by kernel_rfl
theorem ma4 : madeB (g56 2000 4) = true := by kernel_rfl
theorem ml10 : madeB (g58 2000 1 0) = true := by kernel_rfl
theorem ml20 : madeB (g58 2000 2 0) = true := by kernel_rfl
theorem ml21 : madeB (g58 2000 2 1) = true := by kernel_rfl
theorem ml30 : madeB (g58 2000 3 0) = true := by kernel_rfl
theorem ml31 : madeB (g58 2000 3 1) = true := by kernel_rfl
theorem ml32 : madeB (g58 2000 3 2) = true := by kernel_rfl
theorem at_made {a : Int} (h1 : 1 ≤ a) (h2 : a ≤ 4) : madeB (g56 2000 a) = true := by
 have : a = 1 ∨ a = 2 ∨ a = 3 ∨ a = 4 := by omega
 rcases this with rfl | rfl | rfl | rfl
 · exact ma1
 · exact ma2
 · exact ma3
 · exact ma4
theorem le_made {m r : Int} (h1 : 1 ≤ m) (h2 : m ≤ 3) (hr : 0 ≤ r) (hr2 : r < m) : madeB (g58 2000 m r) = true := by
 have : (m = 1 ∧ r = 0) ∨ (m = 2 ∧ r = 0) ∨ (m = 2 ∧ r = 1) ∨ (m = 3 ∧ r = 0) ∨ (m = 3 ∧ r = 1) ∨ (m = 3 ∧ r = 2) := by omega
 rcases this with ⟨rfl, rfl⟩ | ⟨rfl, rfl⟩ | ⟨rfl, rfl⟩ | ⟨rfl, rfl⟩ | ⟨rfl, rfl⟩ | ⟨rfl, rfl⟩
 · exact ml10
 · exact ml20
 · exact ml21
 · exact ml30
 · exact ml31
 · exact ml32
theorem answers_of {x : PP} (hx : PT x) {q : QQ} (hq : QT q (x.2.2.1.length : Int)) (h : ∀ k, Crowd k (x.2.2.1.length : Int) → g53 2000 x q k = some true) : g51 2000 x q = some ([], true, 0, ()) := by
 rcases answers51 hx hq with ⟨_, h2⟩ | ⟨k, h1, h2, h3⟩
 · exact h2
 · exfalso
   unfold rightB at h2
   rw [h k h1] at h2
   cases h2
theorem made_answers {o : Option (PP × Int × Unit)} (hm : madeB o = true) {q : QQ} (hq : QT q 1) (h : ∀ k : Int, 1 ≤ k → k ≤ 9 → goodB o q [k] = true) : ∃ r, o = some r ∧ ieq r.2.1 0 = true ∧ g51 2000 r.1 q = some ([], true, 0, ()) := by
 obtain ⟨r, e, h1, h2, h3, h4⟩ := made_ok hm
 refine ⟨r, e, h1, answers_of h2 (by rw [h3]; exact hq) fun k hk => ?_⟩
 rw [h3] at hk
 have hl := hk.len
 match k, hl with
 | [p], _ =>
   have hs := hk.sum
   simp only [List.sum_cons, List.sum_nil] at hs
   obtain ⟨r', x, e', _, e2, _, _, e3⟩ := good_ok (h p (by omega) (by omega))
   rw [e] at e'
   cases e'
   rw [h4] at e2
   cases e2
   exact e3
theorem maj_pt : ptB majP = true := by kernel_rfl
theorem maj_two : majP.2.2.1.length = 2 := by kernel_rfl
theorem maj_answers : g51 2000 majP ([1, -1], 1, 0, ()) = some ([], true, 0, ()) :=
 answers_of (pt_of maj_pt) (by rw [maj_two]; exact ⟨rfl, fun t ht => by
   simp only [List.mem_cons, List.not_mem_nil, or_false] at ht
   rcases ht with rfl | rfl <;> omega, by simp only; omega, by simp only; omega⟩) fun k hk => maj_good (by rw [maj_two] at hk; exact hk)
theorem one_qt {b m : Int} (h1 : -9 ≤ b ∧ b ≤ 9) (h2 : 0 ≤ m ∧ m ≤ 9) : QT ([1], b, m, ()) 1 := ⟨rfl, fun t ht => by
 obtain rfl := List.mem_singleton.1 ht; omega, h1, h2⟩
theorem zeroZ : ieq (IntKind.wrap .i64 ((IntKind.wrap .i64 (((List.length ([] : List Int) : Nat) : Int) + ((List.length ([] : List Int) : Nat) : Int))) + ((List.length ([] : List Int) : Nat) : Int))) 0 = true := by kernel_rfl
noncomputable def k15 (A : Int) (B : Int) (D : Int) (r1 r2 : PP × Int × Unit) (r5 : PP) : Option Bool := Option.bind (g51 2000 r1.1 ([1], A, 0, ())) fun r3 => Option.bind (g51 2000 r2.1 ([1], D, B, ())) fun r4 => Option.bind (some r5) fun r5 => Option.bind (g51 2000 r5 ([1, (-1)], 1, 0, ())) fun r6 => bif (ieq r1.2.1 0) then bif (ieq r2.2.1 0) then bif (ieq r3.2.2.1 0) then bif (ieq r4.2.2.1 0) then bif (ieq r6.2.2.1 0) then bif r3.2.1 then bif r4.2.1 then bif r6.2.1 then bif (ieq (IntKind.wrap .i64 ((IntKind.wrap .i64 (((List.length r3.1 : Nat) : Int) + ((List.length r4.1 : Nat) : Int))) + ((List.length r6.1 : Nat) : Int))) 0) then Option.bind (g29 2000) fun r7 => some r7 else some false else some false else some false else some false else some false else some false else some false else some false else some false
theorem k15_eq {A B D : Int} {r1 r2 : PP × Int × Unit} {r5 : PP} (h1 : g51 2000 r1.1 ([1], A, 0, ()) = some ([], true, 0, ())) (h2 : g51 2000 r2.1 ([1], D, B, ()) = some ([], true, 0, ())) (h3 : g51 2000 r5 ([1, (-1)], 1, 0, ()) = some ([], true, 0, ())) (e1 : ieq r1.2.1 0 = true) (e2 : ieq r2.2.1 0 = true) : k15 A B D r1 r2 r5 = some true := by
 unfold k15
 rw [h1, h2, e1, e2]
 simp only [Option.bind_some]
 rw [h3]
 simp only [Option.bind_some, cond_true, ieq_self, zeroZ, awake_true]
theorem g15_eq (many m r : Int) {A B D : Int} (h1 : IntKind.wrap .i64 (1 + (IntKind.wrap .i64 (Int.tmod (IntKind.wrap .u64 many) 4))) = A) (h2 : IntKind.wrap .i64 (1 + (IntKind.wrap .i64 (Int.tmod (IntKind.wrap .u64 m) 3))) = B) (h3 : IntKind.wrap .i64 (Int.tmod (IntKind.wrap .u64 r) (IntKind.wrap .u64 B)) = D) (h0 : IntKind.wrap .u64 B ≠ 0) {r1 r2 : PP × Int × Unit} {r5 : PP} (g1 : g56 2000 A = some r1) (g2 : g58 2000 B D = some r2) (g3 : g47 2000 = some r5) (hk : k15 A B D r1 r2 r5 = some true) : g15 2000 many m r = some true := by
 unfold g15
 rw [h1, h2, h3, if_neg h0, g1, g2, g3]
 exact hk
theorem tallyMakers_plain (many m r : Int) : g15 2000 many m r = some true := by
 obtain ⟨a, ea, a1, a2⟩ := low many (m := 4) (by omega) (by omega)
 obtain ⟨b, eb, b1, b2⟩ := low m (m := 3) (by omega) (by omega)
 obtain ⟨c, ec, c1, c2⟩ := low r (m := 1 + b) (by omega) (by omega)
 obtain ⟨p, p1, p2, p3⟩ := made_answers (at_made (a := 1 + a) (by omega) (by omega)) (q := ([1], 1 + a, 0, ())) (one_qt (by omega) (by omega)) fun k k1 k2 => at_good (by omega) (by omega) k1 k2
 obtain ⟨q, q1, q2, q3⟩ := made_answers (le_made (m := 1 + b) (r := c) (by omega) (by omega) (by omega) (by omega)) (q := ([1], c, 1 + b, ())) (one_qt (by omega) (by omega)) fun k k1 k2 => le_good (by omega) (by omega) (by omega) (by omega) k1 k2
 exact g15_eq many m r (A := 1 + a) (B := 1 + b) (D := c) (by rw [ea, w64 (by omega) (by omega)]) (by rw [eb, w64 (by omega) (by omega)]) (by rw [wu64n (x := 1 + b) (by omega) (by omega)]; exact ec) (by rw [wu64n (x := 1 + b) (by omega) (by omega)]; omega) p1 q1 maj_eq (k15_eq p3 q3 maj_answers p2 q2)
end Go.Pv
