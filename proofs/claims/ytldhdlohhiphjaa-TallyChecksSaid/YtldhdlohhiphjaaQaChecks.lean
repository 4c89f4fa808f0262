/- Seat 06, plain: TallyChecks. -/
import Derived.Test.YtldhdlohhiphjaaMg1
import Derived.Test.YtldhdlohhiphjaaPvAB
set_option linter.unusedVariables false
set_option linter.unusedSimpArgs false
namespace Go.Pv
section
variable {y : PP} (h : g59 2000 y = some 60)
include h
theorem no70 (cs : List (List Int)) : g70 2000 y cs = some 60 := by unfold g70; rw [h]; rfl
theorem no51 (q : QQ) : g51 2000 y q = some ([], false, 60, ()) := by unfold g51; rw [h]; rfl
theorem no32 (w : List Int) (m : Int) : g32 2000 y w m = some (false, 60, ()) := by unfold g32; rw [h]; rfl
theorem no30 : g30 2000 y = some (0, 60, ()) := by unfold g30; rw [h]; rfl
theorem no25 (c : List Int) : g25 2000 y c = some ([], 60, ()) := by unfold g25; rw [h]; rfl
theorem no40 (c w : List Int) : g40 2000 y c w = some ([], 0, 60, ()) := by unfold g40; rw [no70 h]; rfl
theorem no49 (a b : List Int) : g49 2000 y a b = some ([], false, 60, ()) := by unfold g49; rw [no70 h]; rfl
theorem no43 (c : List Int) : g43 2000 y c = some (0, 60, ()) := by unfold g43; rw [no70 h]; rfl
theorem no35 (c : List Int) : g35 2000 y c = some (0, false, 60, ()) := by unfold g35; rw [no70 h]; rfl
theorem no36 (c : List Int) : g36 2000 y c = some (0, false, 60, ()) := by unfold g36; rw [no70 h]; rfl
theorem no44 (a b : List Int) : g44 2000 y a b = some ([], false, 60, ()) := by unfold g44; rw [no70 h]; rfl
end
theorem bad70 {x : PP} (hx : PT x) {cs : List (List Int)} (hl : cs.length ≤ 10) (h100 : ∀ c ∈ cs, c.length ≤ 100) (h : ∃ c ∈ cs, ¬ Crowd c x.1) : g70 2000 x cs = some 1 := by
 have hn := hx.n
 unfold g70
 rw [hx.check 2000 (by omega)]
 simp only [Option.bind_some, ieq_self, Bool.not_true, cond_false]
 rw [g70L58_eq]
 have : ∀ (F i : Nat), cs.length - i < F → i ≤ cs.length → (∀ j, j < i → Crowd (cs.getD j []) x.1) → g70L58f 2000 F (fun e3 e4 => some e3) (fun e5 => some (0 : Int)) cs (cs.length : Int) (i : Int) x = some 1 := by
   intro F
   induction F with
   | zero => intro i h _; omega
   | succ F ih =>
     intro i hF hi hall
     rw [g70L58f_succ]
     unfold g70L58B
     by_cases hlt : i < cs.length
     · have e1 : decide ((i : Int) < (cs.length : Int)) = true := by simp; omega
       have hc := h100 _ (getD_mem hlt [])
       rw [e1, cond_true, if_pos (ix hlt), Int.toNat_natCast, isCrowd_eq 2000 _ _ hc (by omega)]
       simp only [Option.bind_some]
       cases hb : crowdB (cs.getD i []) x.1 with
       | true =>
         rw [Bool.not_true, cond_false, wn i (by omega)]
         exact ih (i + 1) (by omega) (by omega) (fun j hj => by
           by_cases hji : j = i
           · subst hji; exact crowd_of_b hb
           · exact hall j (by omega))
       | false => rfl
     · exfalso
       obtain ⟨c, hc, hn⟩ := h
       obtain ⟨j, hj, he⟩ := List.getElem_of_mem hc
       have := hall j (by omega)
       rw [List.getD_eq_getElem?_getD, List.getElem?_eq_getElem hj, Option.getD_some, he] at this
       exact hn this
 have h0 := this 2000 0 (by omega) (by omega) (fun j hj => by omega)
 simp only [Int.natCast_zero] at h0
 exact h0
section
variable {x : PP} (hx : PT x) {c : List Int} (hl : c.length ≤ 100) (hc : ¬ Crowd c x.1)
include hx hl hc
theorem bad40 (w : List Int) : g40 2000 x c w = some ([], 0, 1, ()) := by
 unfold g40; rw [bad70 hx (by simp) (by simpa using hl) ⟨c, by simp, hc⟩]; rfl
theorem bad49a {z : List Int} (hz : z.length ≤ 100) : g49 2000 x z c = some ([], false, 1, ()) := by
 unfold g49; rw [bad70 hx (by simp) (by simp; exact ⟨hz, hl⟩) ⟨c, by simp, hc⟩]; rfl
theorem bad49b {z : List Int} (hz : z.length ≤ 100) : g49 2000 x c z = some ([], false, 1, ()) := by
 unfold g49; rw [bad70 hx (by simp) (by simp; exact ⟨hl, hz⟩) ⟨c, by simp, hc⟩]; rfl
theorem bad43 : g43 2000 x c = some (0, 1, ()) := by
 unfold g43; rw [bad70 hx (by simp) (by simpa using hl) ⟨c, by simp, hc⟩]; rfl
theorem bad35 : g35 2000 x c = some (0, false, 1, ()) := by
 unfold g35; rw [bad70 hx (by simp) (by simpa using hl) ⟨c, by simp, hc⟩]; rfl
theorem bad36 : g36 2000 x c = some (0, false, 1, ()) := by
 unfold g36; rw [bad70 hx (by simp) (by simpa using hl) ⟨c, by simp, hc⟩]; rfl
theorem bad44 {z : List Int} (hz : z.length ≤ 100) : g44 2000 x z c = some ([], false, 1, ()) := by
 unfold g44; rw [bad70 hx (by simp) (by simp; exact ⟨hz, hl⟩) ⟨c, by simp, hc⟩]; rfl
end
theorem bad25 {x : PP} (hx : PT x) {c : List Int} (hl : c.length ≤ 100) (hc : ¬ Crowd c (x.2.2.1.length : Int)) : g25 2000 x c = some ([], 1, ()) := by
 have hb : crowdB c (x.2.2.1.length : Int) = false := by
   cases h : crowdB c (x.2.2.1.length : Int) with
   | false => rfl
   | true => exact absurd (crowd_of_b h) hc
 unfold g25
 rw [hx.check 2000 (by omega)]
 simp only [Option.bind_some, ieq_self, Bool.not_true, cond_false]
 rw [isCrowd_eq 2000 c _ hl (by omega), hb]
 rfl
theorem own_any (p : PP) : g48 2000 p = some (p.1, p.2.1.take 6, p.2.2.1.take 3, p.2.2.2.1.take 16, ()) := by
 unfold g48
 have e : imin ((List.length p.2.2.2.1 : Nat) : Int) 16 = ((min p.2.2.2.1.length 16 : Nat) : Int) := by simp only [imin]; split <;> omega
 rw [few_eq 2000 _ 6 (by omega) (by omega), few_eq 2000 _ 3 (by omega) (by omega), e]
 simp only [Option.bind_some, show Int.toNat 6 = 6 from rfl, show Int.toNat 3 = 3 from rfl, Int.toNat_natCast]
 have t3 : List.drop (Int.toNat 0) (List.take (min p.2.2.2.1.length 16) p.2.2.2.1) = p.2.2.2.1.take 16 := by
   show List.take (min p.2.2.2.1.length 16) p.2.2.2.1 = _
   rw [Nat.min_comm, List.take_eq_take_iff]; omega
 rw [if_pos ⟨by omega, by omega, by omega⟩, t3, List.nil_append, if_pos (by simp only [List.length_nil, List.length_take, maxCount]; omega)]
theorem given_any {x : PP} (h1 : x.2.1.length ≤ 6) (h2 : x.2.2.1.length ≤ 3) (h3 : x.2.2.2.1.length ≤ 16) : g26 2000 x = some x := by
 unfold g26
 have t1 : List.take 6 x.2.1 = x.2.1 := List.take_of_length_le (by omega)
 have t2 : List.take 3 x.2.2.1 = x.2.2.1 := List.take_of_length_le (by omega)
 rw [few_eq 2000 _ 6 (by omega) (by omega), few_eq 2000 _ 3 (by omega) (by omega)]
 simp only [Option.bind_some, show Int.toNat 6 = 6 from rfl, show Int.toNat 3 = 3 from rfl]
 rw [t1, t2, List.nil_append, if_pos (by simp only [List.length_nil, maxCount]; omega)]
theorem checks_zero : ieq (IntKind.wrap .i64 ((IntKind.wrap .i64 ((IntKind.wrap .i64 ((IntKind.wrap .i64 ((IntKind.wrap .i64 ((IntKind.wrap .i64 ((IntKind.wrap .i64 (((List.length ([] : List Int) : Nat) : Int) + 0)) + ((List.length ([] : List Int) : Nat) : Int))) + ((List.length ([] : List Int) : Nat) : Int))) + 0)) + 0)) + 0)) + ((List.length ([] : List Int) : Nat) : Int))) 0 = true := by kernel_rfl
theorem checks_zero2 : ieq (IntKind.wrap .i64 ((IntKind.wrap .i64 (((List.length ([] : List Int) : Nat) : Int) + 0)) + ((List.length ([] : List Int) : Nat) : Int))) 0 = true := by kernel_rfl
theorem len0 : (!ieq ((List.length ([] : List Int) : Nat) : Int) 0) = false := by kernel_rfl
theorem n60 : (!ieq (60 : Int) 0) = true := by kernel_rfl
theorem n60a : (!ieq (60 : Int) 60) = false := by kernel_rfl
theorem n1a : (!ieq (1 : Int) 1) = false := by kernel_rfl
theorem n1 : ieq (1 : Int) 0 = false := by kernel_rfl
theorem n1b : (!ieq (1 : Int) 0) = true := by kernel_rfl
theorem n0 : (!ieq (0 : Int) 0) = false := by kernel_rfl
theorem tallyChecks_plain (p : PP) (l : List Int) (h4 : ∀ r ∈ p.2.2.2.1, r.length = 4) : g16 2000 p l = some true := by
 have e0 := own_any p
 generalize hx0 : ((p.1, p.2.1.take 6, p.2.2.1.take 3, p.2.2.2.1.take 16, ()) : PP) = x at e0
 have l1 : x.2.1.length ≤ 6 := by rw [← hx0]; simp only [List.length_take]; omega
 have l2 : x.2.2.1.length ≤ 3 := by rw [← hx0]; simp only [List.length_take]; omega
 have l3 : x.2.2.2.1.length ≤ 16 := by rw [← hx0]; simp only [List.length_take]; omega
 have h4x : ∀ r ∈ x.2.2.2.1, r.length = 4 := by rw [← hx0]; exact fun r hr => h4 r (List.mem_of_mem_take hr)
 have e1 := given_any l1 l2 l3
 have e2 : g17 2000 l 6 = some (l.take 6) := few_eq 2000 l 6 (by omega) (by omega)
 generalize hc : l.take 6 = c at e2
 have lc : c.length ≤ 6 := by rw [← hc, List.length_take]; omega
 have hm0 : 0 ≤ imax 0 (imin x.1 9) ∧ imax 0 (imin x.1 9) ≤ 9 := by simp only [imax, imin]; split <;> (try split) <;> omega
 unfold g16
 rw [e0]
 simp only [Option.bind_some]
 rw [e1]
 simp only [Option.bind_some]
 rw [e2]
 simp only [Option.bind_some]
 generalize hm : imax 0 (imin x.1 9) = m at hm0
 have hmk : mkOk m m := ⟨rfl, by omega, by omega⟩
 have lz : (List.replicate (Int.toNat m) (0 : Int)).length ≤ 100 := by simp; omega
 have lz1 : (List.set (List.replicate (Int.toNat m) (0 : Int)) (Int.toNat 0) 1).length ≤ 100 := by simp; omega
 generalize hz1 : List.set (List.replicate (Int.toNat m) (0 : Int)) (Int.toNat 0) 1 = z1 at lz1
 generalize hz : List.replicate (Int.toNat m) (0 : Int) = z at lz
 have hzl : 0 < m → idx 0 z.length ∧ Int.toNat 0 < z.length ∧ decide ((0 : Int) < ((List.length z : Nat) : Int)) = true := fun h => by
   rw [← hz, List.length_replicate]
   exact ⟨⟨by omega, by omega⟩, by rw [show Int.toNat 0 = 0 from rfl]; omega, decide_eq_true (by omega)⟩
 have hzl0 : ¬ 0 < m → decide ((0 : Int) < ((List.length z : Nat) : Int)) = false := fun h => by
   rw [← hz, List.length_replicate]
   exact decide_eq_false (by omega)
 rcases check57 h4x with ⟨hp, c57⟩ | ⟨hp, c57⟩
 · have c59 := hp.check 2000 (by omega)
   have hcr := crowded_eq 2000 c (x.2.2.1.length : Int) (by omega) (by omega)
   have hcr2 := crowded_eq 2000 c x.1 (by omega) (by omega)
   by_cases ks : Crowd c x.1
   · rw [ks.b] at hcr2
     by_cases kc : Crowd c (x.2.2.1.length : Int)
     · rw [kc.b] at hcr
       obtain ⟨d, d1, _, _⟩ := crowd_eq 2000 (by omega) x hp c kc
       simp only [c57, c59, hcr, hcr2, d1, Option.bind_some, Bool.not_true, Bool.not_false, cond_true, cond_false, n0, n1, n1a, n1b, ieq_self, beqB, BEq.rfl, awake_true, Bool.true_beq, Bool.false_beq]
     · have kb : crowdB c (x.2.2.1.length : Int) = false := by
         cases h : crowdB c (x.2.2.1.length : Int) with
         | false => rfl
         | true => exact absurd (crowd_of_b h) kc
       rw [kb] at hcr
       simp only [c57, c59, hcr, hcr2, bad25 hp (by omega) kc, Option.bind_some, Bool.not_true, Bool.not_false, cond_true, cond_false, n0, n1, n1a, n1b, ieq_self, beqB, BEq.rfl, awake_true, Bool.true_beq, Bool.false_beq, len0]
   · have kb2 : crowdB c x.1 = false := by
       cases h : crowdB c x.1 with
       | false => rfl
       | true => exact absurd (crowd_of_b h) ks
     rw [kb2] at hcr2
     have f40 := bad40 hp (by omega) ks
     have f43 := bad43 hp (by omega) ks
     have f35 := bad35 hp (by omega) ks
     have f36 := bad36 hp (by omega) ks
     have f49a := bad49a hp (by omega) ks lz
     have f49b := bad49b hp (by omega) ks lz
     have f44 := bad44 hp (by omega) ks lz
     have f49a1 := bad49a hp (by omega) ks lz1
     have f49b1 := bad49b hp (by omega) ks lz1
     have f441 := bad44 hp (by omega) ks lz1
     by_cases kc : Crowd c (x.2.2.1.length : Int)
     · rw [kc.b] at hcr
       obtain ⟨d, d1, _, _⟩ := crowd_eq 2000 (by omega) x hp c kc
       by_cases hm1 : 0 < m
       · obtain ⟨q1, q2, q3⟩ := hzl hm1
         simp only [c57, c59, hcr, hcr2, d1, if_pos hmk, if_pos q1, if_pos q2, q3, f40, f43, f35, f36, f49a1, f49b1, f441, checks_zero, Option.bind_some, Bool.not_true, Bool.not_false, cond_true, cond_false, n0, n1, n1a, n1b, ieq_self, beqB, BEq.rfl, awake_true, Bool.true_beq, Bool.false_beq]
       · have q3 := hzl0 hm1
         simp only [c57, c59, hcr, hcr2, d1, if_pos hmk, q3, f40, f43, f35, f36, f49a, f49b, f44, checks_zero, Option.bind_some, Bool.not_true, Bool.not_false, cond_true, cond_false, n0, n1, n1a, n1b, ieq_self, beqB, BEq.rfl, awake_true, Bool.true_beq, Bool.false_beq]
     · have kb : crowdB c (x.2.2.1.length : Int) = false := by
         cases h : crowdB c (x.2.2.1.length : Int) with
         | false => rfl
         | true => exact absurd (crowd_of_b h) kc
       rw [kb] at hcr
       by_cases hm1 : 0 < m
       · obtain ⟨q1, q2, q3⟩ := hzl hm1
         simp only [c57, c59, hcr, hcr2, bad25 hp (by omega) kc, if_pos hmk, if_pos q1, if_pos q2, q3, f40, f43, f35, f36, f49a1, f49b1, f441, checks_zero, Option.bind_some, Bool.not_true, Bool.not_false, cond_true, cond_false, n0, n1, n1a, n1b, ieq_self, beqB, BEq.rfl, awake_true, Bool.true_beq, Bool.false_beq, len0]
       · have q3 := hzl0 hm1
         simp only [c57, c59, hcr, hcr2, bad25 hp (by omega) kc, if_pos hmk, q3, f40, f43, f35, f36, f49a, f49b, f44, checks_zero, Option.bind_some, Bool.not_true, Bool.not_false, cond_true, cond_false, n0, n1, n1a, n1b, ieq_self, beqB, BEq.rfl, awake_true, Bool.true_beq, Bool.false_beq, len0]
 · have c59 : g59 2000 x = some 60 := by
     rcases check59 h4x (by omega) (by omega) with ⟨h, _⟩ | ⟨_, h⟩
     · exact absurd h hp
     · exact h
   by_cases hm1 : 0 < m
   · obtain ⟨q1, q2, q3⟩ := hzl hm1
     simp only [c57, c59, no51 c59, no32 c59, no30 c59, no25 c59, no40 c59, no49 c59, no43 c59, no35 c59, no36 c59, no44 c59, if_pos hmk, if_pos q1, if_pos q2, q3, checks_zero, checks_zero2, n60, n60a, Option.bind_some, Bool.not_true, Bool.not_false, cond_true, cond_false, ieq_self, awake_true]
   · have q3 := hzl0 hm1
     simp only [c57, c59, no51 c59, no32 c59, no30 c59, no25 c59, no40 c59, no49 c59, no43 c59, no35 c59, no36 c59, no44 c59, if_pos hmk, q3, checks_zero, checks_zero2, n60, n60a, Option.bind_some, Bool.not_true, Bool.not_false, cond_true, cond_false, ieq_self, awake_true]
theorem tallyChecks_plainb (a : ProdT (List.map AS.d [.pair (.int .i64) (.pair (.lst (.int .i64)) (.pair (.lst (.int .i64)) (.pair (.lst (.arr 4 (.int .i64))) .unit))), .lst (.int .i64)])) (h : BndL [.pair (.int .i64) (.pair (.lst (.int .i64)) (.pair (.lst (.int .i64)) (.pair (.lst (.arr 4 (.int .i64))) .unit))), .lst (.int .i64)] a) : g16 2000 a.1 a.2.1 = some true :=
 tallyChecks_plain a.1 a.2.1 fun r hr => (h.1.2.2.2.1.2 r hr).1
end Go.Pv
