/- Plain texts, merged: QaAn0, QaMk0. -/
import Derived.Test.YtldhdlohhiphjaaMg1
/- Seat 06, plain: the crowd of kinds as a crowd; whether a protocol is right about some kinds. -/
set_option linter.unusedVariables false
set_option linter.unusedSimpArgs false
namespace Go.Pv
theorem begun_pad {x : PP} (hx : PT x) (k : List Int) : ∀ (l : List Nat) (c : List Int), (c.length : Int) = x.1 → (∀ j ∈ l, j < x.2.2.1.length) →
   l.foldl (fun c j => c.set (x.2.2.1.getD (0 + j) 0).toNat (c.getD (x.2.2.1.getD (0 + j) 0).toNat 0 + k.getD (0 + j) 0)) (pad c) = pad (l.foldl (fun c j => c.set (x.2.2.1.getD (0 + j) 0).toNat (c.getD (x.2.2.1.getD (0 + j) 0).toNat 0 + k.getD (0 + j) 0)) c)
 | [], _, _, _ => rfl
 | j :: l, c, hc, h => by
   simp only [List.foldl_cons]
   obtain ⟨t1, t2⟩ := hx.start.2.2 _ (getD_mem (h j (by simp)) 0)
   rw [getD_pad, pad_set _ _ _ (by rw [Nat.zero_add]; omega)]
   exact begun_pad hx k l _ (by rw [List.length_set]; exact hc) (fun i hi => h i (by simp [hi]))
theorem begun_sum {x : PP} (hx : PT x) (k : List Int) (hp : ∀ t ∈ k, 0 ≤ t) : ∀ (m i : Nat) (c : List Int), (c.length : Int) = x.1 → i + m ≤ x.2.2.1.length → i + m ≤ k.length → (∀ t ∈ c, 0 ≤ t) →
   (((List.range m).foldl (fun c j => c.set (x.2.2.1.getD (i + j) 0).toNat (c.getD (x.2.2.1.getD (i + j) 0).toNat 0 + k.getD (i + j) 0)) c).sum = c.sum + ((k.drop i).take m).sum) ∧ (∀ t ∈ (List.range m).foldl (fun c j => c.set (x.2.2.1.getD (i + j) 0).toNat (c.getD (x.2.2.1.getD (i + j) 0).toNat 0 + k.getD (i + j) 0)) c, 0 ≤ t)
 | 0, i, c, _, _, _, h => by simp; exact h
 | m + 1, i, c, hc, h1, h2, h => by
   rw [List.range_succ_eq_map, List.foldl_cons, List.foldl_map]
   have hsh : ∀ (c' : List Int), (List.range m).foldl (fun c j => c.set (x.2.2.1.getD (i + j.succ) 0).toNat (c.getD (x.2.2.1.getD (i + j.succ) 0).toNat 0 + k.getD (i + j.succ) 0)) c' = (List.range m).foldl (fun c j => c.set (x.2.2.1.getD ((i + 1) + j) 0).toNat (c.getD (x.2.2.1.getD ((i + 1) + j) 0).toNat 0 + k.getD ((i + 1) + j) 0)) c' := fun c' => by
     congr 1
     funext c j
     rw [show i + j.succ = i + 1 + j by omega]
   rw [hsh]
   obtain ⟨t1, t2⟩ := hx.start.2.2 _ (getD_mem (show i < x.2.2.1.length by omega) 0)
   have hk0 := hp _ (getD_mem (show i < k.length by omega) 0)
   have hg := h _ (getD_mem (show (x.2.2.1.getD i 0).toNat < c.length by omega) 0)
   simp only [Nat.add_zero]
   have := begun_sum hx k hp m (i + 1) (c.set (x.2.2.1.getD i 0).toNat (c.getD (x.2.2.1.getD i 0).toNat 0 + k.getD i 0)) (by rw [List.length_set]; exact hc) (by omega) (by omega) (fun t ht => by
     rcases List.mem_or_eq_of_mem_set ht with ht | rfl
     · exact h t ht
     · omega)
   refine ⟨?_, this.2⟩
   rw [this.1, set_sum _ _ _ (by omega), getD_drop k i (by omega), List.take_succ_cons, List.sum_cons]
   omega
theorem begun_crowd {x : PP} (hx : PT x) {k : List Int} (hk : Crowd k (x.2.2.1.length : Int)) : ∃ c, Crowd c x.1 ∧ g64 2000 x k = some (pad c) ∧ g28 2000 x k = some c := by
 obtain ⟨n1, n2⟩ := hx.n
 have hl := hk.len
 have hs := begun_sum hx k hk.pos k.length 0 (List.replicate x.1.toNat 0) (by simp; omega) (by omega) (by omega) (fun t ht => by have := List.eq_of_mem_replicate ht; omega)
 refine ⟨begunL x k (List.replicate x.1.toNat 0), ⟨by unfold begunL; rw [foldl_len]; simp; omega, hs.2, ?_⟩, ?_, crowd28_eq 2000 (by omega) x hx k hk⟩
 · have h1 : (begunL x k (List.replicate x.1.toNat 0)).sum = k.sum := by
     have := hs.1
     rw [List.drop_zero, List.take_length] at this
     unfold begunL
     rw [this]
     have hz : ∀ n : Nat, (List.replicate n (0 : Int)).sum = 0 := fun n => by
       induction n with
       | zero => rfl
       | succ n ih => rw [List.replicate_succ, List.sum_cons, ih]; rfl
     rw [hz]; omega
   rw [h1]; exact hk.sum
 · rw [begun_eq 2000 (by omega) x hx k hk]
   have hp : List.replicate 5 (0 : Int) = pad (List.replicate x.1.toNat 0) := by
     unfold pad
     rw [List.length_replicate, List.replicate_append_replicate]
     congr 1; omega
   unfold begunL
   rw [hp, begun_pad hx k _ _ (by simp; omega) (fun j hj => by have := List.mem_range.1 hj; omega)]
theorem right_eq {x : PP} (hx : PT x) {q : QQ} (hq : QT q (x.2.2.1.length : Int)) {k : List Int} (hk : Crowd k (x.2.2.1.length : Int)) :
   ∃ (r b : Bool) (c : List Int) (v : Int), g53 2000 x q k = some r ∧ g63 2000 q k = some b ∧ g64 2000 x k = some (pad c) ∧ g73 2000 x (pad c) = some v ∧ (r = true ↔ v = (if b then 1 else 0)) := by
 obtain ⟨c, hc, e1, e2⟩ := begun_crowd hx hk
 have hl := hk.len; have ql := hq.len
 have s1 := hx.start.1; have s2 := hx.start.2.1
 have hw := holds_two 2000 (by omega) q k (by omega) (by omega) (by omega) hq.a hk.le hq.b
 obtain ⟨b, hb⟩ := holds_some 2000 (by omega) q k (by omega) (by omega) (by omega) hq.a hk.le hq.b
 obtain ⟨v, v1, v2, v3⟩ := dec73 hx hc
 obtain ⟨u, u1, u2, u3, u4⟩ := decides38 hx hc
 cases b with
 | true =>
   refine ⟨ieq u 1, true, c, v, ?_, by rw [← hw]; exact hb, e1, v1, ?_⟩
   · unfold g53
     rw [hb]
     simp only [Option.bind_some, cond_true]
     rw [e2]
     simp only [Option.bind_some]
     rw [u1]
     simp only [Option.bind_some]
   · rw [if_pos rfl, v3 1 (by omega), ← u4 1 (by omega) (by omega)]
     simp only [ieq, decide_eq_true_eq]
 | false =>
   refine ⟨ieq u 0, false, c, v, ?_, by rw [← hw]; exact hb, e1, v1, ?_⟩
   · unfold g53
     rw [hb]
     simp only [Option.bind_some, cond_false]
     rw [e2]
     simp only [Option.bind_some]
     rw [u1]
     simp only [Option.bind_some]
   · rw [if_neg (by simp), v3 0 (by omega), ← u4 0 (by omega) (by omega)]
     simp only [ieq, decide_eq_true_eq]
noncomputable def rightB (x : PP) (q : QQ) (k : List Int) : Bool := (g53 2000 x q k).getD false
theorem round51 {x : PP} (hx : PT x) {q : QQ} (hq : QT q (x.2.2.1.length : Int)) {k : List Int} (hk : Crowd k (x.2.2.1.length : Int)) {C : Type} (kn k1 : PP → QQ → List Int → Bool → Int → Option C) (v4 : List Int) (v5 : Bool) (v6 : Int) :
   g51R122B 2000 kn k1 x q v4 v5 v6 k = if rightB x q k = true then kn x q v4 v5 v6 else k1 x q k false 0 := by
 obtain ⟨r, b, c, v, h1, h2, h3, h4, h5⟩ := right_eq hx hq hk
 have hr : rightB x q k = r := by unfold rightB; rw [h1]; rfl
 rw [hr]
 unfold g51R122B
 rw [h2]
 simp only [Option.bind_some]
 cases b with
 | true =>
   rw [cond_true, h3]
   simp only [Option.bind_some]
   rw [h4]
   simp only [Option.bind_some]
   rw [if_pos rfl] at h5
   by_cases hv : v = 1
   · rw [if_pos (h5.2 hv), hv, ieq_self, Bool.not_true, cond_false]
   · rw [if_neg (fun h => hv (h5.1 h)), show ieq v 1 = false by simp only [ieq, decide_eq_false_iff_not]; exact hv, Bool.not_false, cond_true]
 | false =>
   rw [cond_false, h3]
   simp only [Option.bind_some]
   rw [h4]
   simp only [Option.bind_some]
   rw [if_neg (by simp)] at h5
   by_cases hv : v = 0
   · rw [if_pos (h5.2 hv), hv, ieq_self, Bool.not_true, cond_false]
   · rw [if_neg (fun h => hv (h5.1 h)), show ieq v 0 = false by simp only [ieq, decide_eq_false_iff_not]; exact hv, Bool.not_false, cond_true]
abbrev t51 : Ty := .pair (.int .i64) (tyO [.box (.d (.pair (.int .i64) (.pair (.lst (.int .i64)) (.pair (.lst (.int .i64)) (.pair (.lst (.arr 4 (.int .i64))) .unit))))) (.a (.d (.pair (.int .i64) (.pair (.lst (.int .i64)) (.pair (.lst (.int .i64)) (.pair (.lst (.arr 4 (.int .i64))) .unit)))))), .box (.d (.pair (.lst (.int .i64)) (.pair (.int .i64) (.pair (.int .i64) .unit)))) (.a (.d (.pair (.lst (.int .i64)) (.pair (.int .i64) (.pair (.int .i64) .unit))))), .box (.d (.lst (.int .i64))) (.a (.d (.lst (.int .i64)))), .box (.d .bool) (.a (.d .bool)), .box (.d (.int .i64)) (.a (.d (.int .i64)))])
noncomputable abbrev run51 : Cbs t51 := ⟨(g51R122 2000).told.run [(.ref 2 0 []), (.ref 3 0 []), (.ref 4 0 []), (.ref 5 0 []), (.ref 6 0 [])], .unit, fun _ _ => none⟩
abbrev s51 (x : PP) (q : QQ) : t51.T := (0, (x, q, ([] : List Int), false, (0 : Int), ()))
abbrev d51 (x : PP) (q : QQ) (k : List Int) : t51.T := (1, (x, q, k, false, (0 : Int), ()))
theorem y51 {x : PP} (hx : PT x) {q : QQ} (hq : QT q (x.2.2.1.length : Int)) {k : List Int} (hk : Crowd k (x.2.2.1.length : Int)) :
   run51.y (s51 x q) [.dat (.lst (.int .i64)) k] = if rightB x q k = true then some (s51 x q, true) else some (d51 x q k, false) :=
 ((g51R122_run 2000 x q [] false 0 0 k).trans (if_pos rfl)).trans (round51 hx hq hk _ _ [] false 0)
theorem crowd1 {a : Int} (h1 : 1 ≤ a) (h2 : a ≤ 9) : Crowd [a] 1 := ⟨rfl, fun t ht => by obtain rfl := List.mem_singleton.1 ht; omega, by simp; omega⟩
theorem crowd2 {a b : Int} (h0 : 0 ≤ a) (h1 : 0 ≤ b) (h2 : 1 ≤ a + b) (h3 : a + b ≤ 9) : Crowd [a, b] 2 := ⟨rfl, fun t ht => by
 simp only [List.mem_cons, List.not_mem_nil, or_false] at ht
 rcases ht with rfl | rfl <;> omega, by simp; omega⟩
section
variable {x : PP} (hx : PT x) {q : QQ} (hq : QT q (x.2.2.1.length : Int)) {C : Type} (k0 k1 : Cbs t51 → t51.T → Option C)
include hx hq
theorem kinds1_loop (h1 : x.2.2.1.length = 1) : ∀ (F a : Nat), 10 - a < F → a ≤ 10 → (∀ i : Nat, 1 ≤ i → i < a → rightB x q [(i : Int)] = true) →
   ((∀ k, Crowd k 1 → rightB x q k = true) ∧ g96xL6f 2000 F t51 k0 k1 1 (a : Int) run51 (s51 x q) = k1 run51 (s51 x q)) ∨ ∃ k, Crowd k 1 ∧ rightB x q k = false ∧ g96xL6f 2000 F t51 k0 k1 1 (a : Int) run51 (s51 x q) = k0 run51 (d51 x q k)
 | 0, a, hF, _, _ => by omega
 | F + 1, a, hF, ha, hall => by
   rw [g96xL6f_succ]
   unfold g96xL6B
   by_cases hlt : a < 10
   · rw [decide_eq_true (show (a : Int) < 10 by omega), cond_true, ieq_self, cond_true, wn a (by omega)]
     by_cases h0 : 0 < a
     · rw [decide_eq_true (show (0 : Int) < (a : Int) by omega), cond_true]
       have hk : Crowd [(a : Int)] (x.2.2.1.length : Int) := by rw [h1]; exact crowd1 (by omega) (by omega)
       have hy := y51 hx hq hk
       by_cases hr : rightB x q [(a : Int)] = true
       · rw [if_pos hr] at hy
         rcases kinds1_loop h1 F (a + 1) (by omega) (by omega) (fun i i1 i2 => by
           by_cases hia : i = a
           · subst hia; exact hr
           · exact hall i i1 (by omega)) with ⟨g1, g2⟩ | ⟨k, g1, g2, g3⟩
         · exact .inl ⟨g1, (congrArg (fun o => Option.bind o _) hy).trans g2⟩
         · exact .inr ⟨k, g1, g2, (congrArg (fun o => Option.bind o _) hy).trans g3⟩
       · rw [if_neg hr] at hy
         exact .inr ⟨[(a : Int)], crowd1 (by omega) (by omega), by rw [Bool.not_eq_true] at hr; exact hr, congrArg (fun o => Option.bind o _) hy⟩
     · rw [decide_eq_false (show ¬ (0 : Int) < (a : Int) by omega), cond_false]
       exact kinds1_loop h1 F (a + 1) (by omega) (by omega) (fun i i1 i2 => by omega)
   · rw [decide_eq_false (show ¬ (a : Int) < 10 by omega), cond_false]
     refine .inl ⟨fun k hk => ?_, rfl⟩
     have hl := hk.len
     match k, hl with
     | [p], _ =>
       have hp := hk.le p (by simp)
       have hs := hk.sum
       simp only [List.sum_cons, List.sum_nil] at hs
       have := hall p.toNat (by omega) (by omega)
       rw [show ((p.toNat : Nat) : Int) = p by omega] at this
       exact this
theorem kinds2_row (h1 : x.2.2.1.length = 2) (a : Nat) (ha : a ≤ 9) (K0 K1 : Int → Int → Cbs t51 → t51.T → Option C) : ∀ (F b : Nat), 10 - a - b < F → b ≤ 10 - a → (∀ i j : Nat, i < a → 1 ≤ i + j → i + j ≤ 9 → rightB x q [(i : Int), (j : Int)] = true) → (∀ j : Nat, 1 ≤ a + j → j < b → rightB x q [(a : Int), (j : Int)] = true) →
   ((∀ i j : Nat, i < a + 1 → 1 ≤ i + j → i + j ≤ 9 → rightB x q [(i : Int), (j : Int)] = true) ∧ g96xL3278f 2000 F t51 K0 K1 2 (a : Int) (a : Int) ((10 - a : Nat) : Int) (b : Int) run51 (s51 x q) = K1 2 (a : Int) run51 (s51 x q)) ∨ ∃ k, Crowd k 2 ∧ rightB x q k = false ∧ g96xL3278f 2000 F t51 K0 K1 2 (a : Int) (a : Int) ((10 - a : Nat) : Int) (b : Int) run51 (s51 x q) = K0 2 (a : Int) run51 (d51 x q k)
 | 0, b, hF, _, _, _ => by omega
 | F + 1, b, hF, hb, hall, hrow => by
   rw [g96xL3278f_succ]
   unfold g96xL3278B
   by_cases hlt : b < 10 - a
   · rw [decide_eq_true (show (b : Int) < ((10 - a : Nat) : Int) by omega), cond_true, wn b (by omega), w64 (x := (a : Int) + (b : Int)) (by omega) (by omega)]
     by_cases h0 : 0 < a + b
     · rw [decide_eq_true (show (0 : Int) < (a : Int) + (b : Int) by omega), cond_true]
       have hc2 : Crowd [(a : Int), (b : Int)] 2 := crowd2 (by omega) (by omega) (by omega) (by omega)
       have hk : Crowd [(a : Int), (b : Int)] (x.2.2.1.length : Int) := by rw [h1]; exact hc2
       have hy := y51 hx hq hk
       by_cases hr : rightB x q [(a : Int), (b : Int)] = true
       · rw [if_pos hr] at hy
         rcases kinds2_row h1 a ha K0 K1 F (b + 1) (by omega) (by omega) hall (fun j j1 j2 => by
           by_cases hjb : j = b
           · subst hjb; exact hr
           · exact hrow j j1 (by omega)) with ⟨g1, g2⟩ | ⟨k, g1, g2, g3⟩
         · exact .inl ⟨g1, (congrArg (fun o => Option.bind o _) hy).trans g2⟩
         · exact .inr ⟨k, g1, g2, (congrArg (fun o => Option.bind o _) hy).trans g3⟩
       · rw [if_neg hr] at hy
         exact .inr ⟨_, hc2, by rw [Bool.not_eq_true] at hr; exact hr, congrArg (fun o => Option.bind o _) hy⟩
     · rw [decide_eq_false (show ¬ (0 : Int) < (a : Int) + (b : Int) by omega), cond_false]
       exact kinds2_row h1 a ha K0 K1 F (b + 1) (by omega) (by omega) hall (fun j j1 j2 => by omega)
   · rw [decide_eq_false (show ¬ (b : Int) < ((10 - a : Nat) : Int) by omega), cond_false]
     refine .inl ⟨fun i j hi h1 h2 => ?_, rfl⟩
     by_cases hia : i = a
     · subst hia; exact hrow j h1 (by omega)
     · exact hall i j (by omega) h1 h2
theorem kinds2_loop (h1 : x.2.2.1.length = 2) : ∀ (F a : Nat), 10 - a < F → a ≤ 10 → (∀ i j : Nat, i < a → 1 ≤ i + j → i + j ≤ 9 → rightB x q [(i : Int), (j : Int)] = true) →
   ((∀ k, Crowd k 2 → rightB x q k = true) ∧ g96xL6f 2000 F t51 k0 k1 2 (a : Int) run51 (s51 x q) = k1 run51 (s51 x q)) ∨ ∃ k, Crowd k 2 ∧ rightB x q k = false ∧ g96xL6f 2000 F t51 k0 k1 2 (a : Int) run51 (s51 x q) = k0 run51 (d51 x q k)
 | 0, a, hF, _, _ => by omega
 | F + 1, a, hF, ha, hall => by
   rw [g96xL6f_succ]
   unfold g96xL6B
   by_cases hlt : a < 10
   · rw [decide_eq_true (show (a : Int) < 10 by omega), cond_true, show ieq 2 1 = false from rfl, cond_false, g96xL3278_eq, w64 (x := 10 - (a : Int)) (by omega) (by omega), show (10 : Int) - (a : Int) = ((10 - a : Nat) : Int) by omega]
     have el := kinds2_row hx hq h1 a (by omega) (fun e3 e4 e5 e6 => (k0 e5 e6)) (fun e7 e8 e9 e10 => (g96xL6f 2000 F t51 k0 k1 e7 (IntKind.wrap .i64 (e8 + 1)) e9 e10)) 2000 0 (by omega) (by omega) hall (fun j j1 j2 => by omega)
     simp only [Int.natCast_zero] at el
     rcases el with ⟨g1, g2⟩ | ⟨k, g1, g2, g3⟩
     · rcases kinds2_loop h1 F (a + 1) (by omega) (by omega) g1 with ⟨f1, f2⟩ | ⟨k, f1, f2, f3⟩
       · exact .inl ⟨f1, g2.trans ((congrArg (fun z => g96xL6f 2000 F t51 k0 k1 2 z run51 (s51 x q)) (wn a (by omega))).trans f2)⟩
       · exact .inr ⟨k, f1, f2, g2.trans ((congrArg (fun z => g96xL6f 2000 F t51 k0 k1 2 z run51 (s51 x q)) (wn a (by omega))).trans f3)⟩
     · exact .inr ⟨k, g1, g2, g3⟩
   · rw [decide_eq_false (show ¬ (a : Int) < 10 by omega), cond_false]
     refine .inl ⟨fun k hk => ?_, rfl⟩
     have hl := hk.len
     match k, hl with
     | [p, r], _ =>
       have hp := hk.le p (by simp)
       have hr := hk.le r (by simp)
       have hs := hk.sum
       simp only [List.sum_cons, List.sum_nil] at hs
       have := hall p.toNat r.toNat (by omega) (by omega) (by omega)
       rw [show ((p.toNat : Nat) : Int) = p by omega, show ((r.toNat : Nat) : Int) = r by omega] at this
       exact this
end
theorem answers51 {x : PP} (hx : PT x) {q : QQ} (hq : QT q (x.2.2.1.length : Int)) :
   ((∀ k, Crowd k (x.2.2.1.length : Int) → rightB x q k = true) ∧ g51 2000 x q = some ([], true, 0, ())) ∨ ∃ k, Crowd k (x.2.2.1.length : Int) ∧ rightB x q k = false ∧ g51 2000 x q = some (k, false, 0, ()) := by
 have s1 := hx.start.1; have s2 := hx.start.2.1
 have ql := hq.len
 have e1 := hx.check 2000 (by omega)
 have e2 : g61 2000 q ((List.length x.2.2.1 : Nat) : Int) = some true := by rw [isQ_eq 2000 q _ (by omega) (by omega), hq.asked]
 have el : ((∀ k, Crowd k (x.2.2.1.length : Int) → rightB x q k = true) ∧ g96xL6f 2000 2000 t51 (fun e11 e12 => some ((()), ((e11, e12), ()), (()))) (fun e13 e14 => some ((()), ((e13, e14), ()), (()))) (x.2.2.1.length : Int) 0 run51 (s51 x q) = some ((()), ((run51, s51 x q), ()), (()))) ∨
     ∃ k, Crowd k (x.2.2.1.length : Int) ∧ rightB x q k = false ∧ g96xL6f 2000 2000 t51 (fun e11 e12 => some ((()), ((e11, e12), ()), (()))) (fun e13 e14 => some ((()), ((e13, e14), ()), (()))) (x.2.2.1.length : Int) 0 run51 (s51 x q) = some ((()), ((run51, d51 x q k), ()), (())) := by
   by_cases h1 : x.2.2.1.length = 1
   · have := kinds1_loop hx hq (C := Unit × ((Cbs t51 × t51.T) × Unit) × Unit) (fun e11 e12 => some ((()), ((e11, e12), ()), (()))) (fun e13 e14 => some ((()), ((e13, e14), ()), (()))) h1 2000 0 (by omega) (by omega) (fun i i1 i2 => by omega)
     rw [h1]; exact this
   · have h2 : x.2.2.1.length = 2 := by omega
     have := kinds2_loop hx hq (C := Unit × ((Cbs t51 × t51.T) × Unit) × Unit) (fun e11 e12 => some ((()), ((e11, e12), ()), (()))) (fun e13 e14 => some ((()), ((e13, e14), ()), (()))) h2 2000 0 (by omega) (by omega) (fun i j i1 i2 => by omega)
     rw [h2]; exact this
 unfold g51
 rw [e1]
 simp only [Option.bind_some]
 rw [ieq_self, Bool.not_true, cond_false, e2]
 simp only [Option.bind_some]
 rw [Bool.not_true, cond_false]
 unfold g82x
 simp only [Option.bind_some]
 unfold g96x
 rw [g96xL6_eq]
 rcases el with ⟨h1, h2⟩ | ⟨k, h1, h2, h3⟩
 · exact .inl ⟨h1, (congrArg (fun o => Option.bind o _) h2).trans rfl⟩
 · exact .inr ⟨k, h1, h2, (congrArg (fun o => Option.bind o _) h3).trans rfl⟩
end Go.Pv
namespace Go.Pv
noncomputable def goodB (o : Option (PP × Int × Unit)) (q : QQ) (k : List Int) : Bool :=
 match o with
 | some r => ieq r.2.1 0 && (match g48 2000 r.1 with
   | some x => (match g57 2000 x with | some b => b | none => false) && (ieq ((r.1.2.2.1.length : Nat) : Int) 1 && (match g53 2000 x q k with | some b => b | none => false))
   | none => false)
 | none => false
theorem good_ok {o : Option (PP × Int × Unit)} {q : QQ} {k : List Int} (h : goodB o q k = true) : ∃ r x, o = some r ∧ ieq r.2.1 0 = true ∧ g48 2000 r.1 = some x ∧ g57 2000 x = some true ∧ ieq ((r.1.2.2.1.length : Nat) : Int) 1 = true ∧ g53 2000 x q k = some true := by
 unfold goodB at h
 cases ho : o with
 | none => rw [ho] at h; cases h
 | some r =>
   rw [ho] at h
   simp only [Bool.and_eq_true] at h
   obtain ⟨h1, h2⟩ := h
   cases hx : g48 2000 r.1 with
   | none => rw [hx] at h2; cases h2
   | some x =>
     rw [hx] at h2
     simp only [Bool.and_eq_true] at h2
     obtain ⟨h3, h4, h5⟩ := h2
     refine ⟨r, x, rfl, h1, hx, ?_, h4, ?_⟩
     · cases h6 : g57 2000 x with
       | none => rw [h6] at h3; cases h3
       | some b => rw [h6] at h3; exact congrArg some h3
     · cases h6 : g53 2000 x q k with
       | none => rw [h6] at h5; cases h5
       | some b => rw [h6] at h5; exact congrArg some h5
def ks8 : List Int := [1, 2, 3, 4, 5, 6, 7, 8]
theorem mem8 {k : Int} (h1 : 1 ≤ k) (h2 : k ≤ 8) : k ∈ ks8 := by simp [ks8]; omega
noncomputable def atB (a : Int) : Bool := ks8.all fun k => goodB (g56 2000 a) ([1], a, 0, ()) [k]
noncomputable def atC (a : Int) : Bool := goodB (g56 2000 a) ([1], a, 0, ()) [9]
noncomputable def leB (m r : Int) : Bool := ks8.all fun k => goodB (g58 2000 m r) ([1], r, m, ()) [k]
noncomputable def leC (m r : Int) : Bool := goodB (g58 2000 m r) ([1], r, m, ()) [9]
noncomputable def majP : PP := (g47 2000).getD (0, [], [], [], ())
theorem maj_eq : g47 2000 = some majP := rfl
def ks10 : List Int := [0, 1, 2, 3, 4, 5, 6, 7, 8, 9]
theorem mem10 {k : Int} (h1 : 0 ≤ k) (h2 : k ≤ 9) : k ∈ ks10 := by simp [ks10]; omega
noncomputable def majB (p : Int) : Bool := ks10.all fun q => (!(decide (1 ≤ p + q) && decide (p + q ≤ 9))) || (match g53 2000 majP ([1, -1], 1, 0, ()) [p, q] with | some b => b | none => false)
end Go.Pv
