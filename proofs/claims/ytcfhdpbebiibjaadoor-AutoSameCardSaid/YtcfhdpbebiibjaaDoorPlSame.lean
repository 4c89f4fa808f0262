/- Seat 05: AutoSame, plain. -/
import Derived.Test.YtcfhdpbebiibjaaDoorMg2
import Derived.Test.YtcfhdpbebiibjaaDoorPvAB
set_option linter.unusedVariables false
set_option linter.unusedSimpArgs false
namespace Go.Pv
theorem pow_b {b n : Nat} (hb : b ≤ 5) (hn : n ≤ 24) : b ^ n ≤ 59604644775390625 := by
 have h1 : b ^ n ≤ 5 ^ n := Nat.pow_le_pow_left hb n
 have h2 : 5 ^ n ≤ 5 ^ 24 := Nat.pow_le_pow_right (by omega) hn
 have h3 : (5 : Nat) ^ 24 = 59604644775390625 := by decide
 omega
theorem same47 {x y : MM} (hx : Tame x) (hy : Tame y) (hb : y.1 = x.1) : ∃ v d, g47 2000 x y = some (v, !d, 0, ()) ∧
   (d = false ∧ v = 0 ∧ Same x y 0 0 ∨ d = true ∧ ¬ Same x y 0 0 ∧ ∃ n : Nat, v = (n : Int) ∧ n < x.1.toNat ^ (x.2.1.length + y.2.1.length) ∧ sq x 0 n ≠ sq y 0 n) := by
 have m1 := hx.many; have m2 := hy.many
 have bx := hx.base; have by_ := hy.base
 obtain ⟨F, e1, _, b1, f1, s1, l1, _⟩ := forms_one hx.wm (by omega) 2000 (by omega) (by omega)
 obtain ⟨G, e2, _, b2, f2, s2, l2, _⟩ := forms_one hy.wm (by omega) 2000 (by omega) (by omega)
 have hb2 : G.1 = F.1 := by rw [b1, b2, hb]
 have hK : F.2.1.length * G.2.1.length ≤ 12 * 12 := Nat.mul_le_mul (by omega) (by omega)
 have hE := allPairs_len F G
 obtain ⟨v, d, e3, h3⟩ := diff_gen f1.toWM f2.toWM hb2 2000 (by omega) (E := allPairs F G) (allPairs_mem f1.toWM f2.toWM hb2) (by omega) (by omega)
 have eg : g47 2000 x y = some (v, !d, 0, ()) := by
   unfold g47
   rw [open_ok 1997 x y (hx.check _ (by omega)) (hy.check _ (by omega)), Option.bind_some, not_ieq_self, cond_false, hb, not_ieq_self, cond_false, e1, Option.bind_some, e2, Option.bind_some, e3]; rfl
 have iff : Same F G 0 0 ↔ Same x y 0 0 := ⟨fun h => ((s1.symm b1.symm).trans b1 h).trans (by rw [b2, hb]) s2, fun h => (s1.trans b1.symm h).trans (by rw [b1, hb]) (s2.symm b2.symm)⟩
 refine ⟨v, d, eg, ?_⟩
 rcases h3 with ⟨rfl, h4, h5⟩ | ⟨rfl, w, w1, w2, w3, w4⟩
 · exact .inl ⟨rfl, h4, iff.1 h5⟩
 · have hns : ¬ Same F G 0 0 := fun h => w2 (h w w1)
   have hlen : w.length < F.2.1.length + G.2.1.length := by
     rcases Nat.lt_or_ge w.length (F.2.1.length + G.2.1.length) with hl | hl
     · exact hl
     · exact absurd (moore_two f1.toWM f2.toWM hb2 f1.toWM.many f2.toWM.many fun u hu hul => w3 u hu (by omega)) hns
   have hFb : F.1.toNat = x.1.toNat := by rw [b1]
   have hp : F.1.toNat ^ w.length ≤ 4611686018427387904 := by
     have := pow_b (b := F.1.toNat) (n := w.length) (by omega) (by omega)
     omega
   have w1x : okW x w := by have := w1; unfold okW at this ⊢; rw [b1] at this; exact this
   have w1y : okW y w := by have := w1x; unfold okW at this ⊢; rw [hb]; exact this
   refine .inr ⟨rfl, fun h => hns (iff.2 h), val x.1.toNat w, by rw [w4 hp, hFb], ?_, ?_⟩
   · have h1 := val_lt (b := x.1.toNat) (by omega) w (fun r hr => by have := w1x r hr; omega)
     have h2 : x.1.toNat ^ w.length ≤ x.1.toNat ^ (x.2.1.length + y.2.1.length) := Nat.pow_le_pow_right (by omega) (by omega)
     omega
   · rw [← beh_sq hx.wm bx.1 hx.zed w 0 m1.1 w1x]
     have hyb : y.1.toNat = x.1.toNat := by rw [hb]
     rw [← hyb, ← beh_sq hy.wm by_.1 hy.zed w 0 m2.1 w1y]
     intro e
     refine w2 ?_
     rw [s1 w w1, s2 w (by unfold okW at w1y; rw [b2]; exact w1y)]
     exact e
theorem same36 {x : MM} (hx : Tame x) {n : Nat} (hn : n < 4611686018427387904) : g36 2000 x 0 (n : Int) = some (sq x 0 n) := by
 rw [ref_at]
 have := g70_sq hx 2000 (by omega) 0 n hx.many.1 hn
 simpa using this
theorem lim_loop {x y : MM} (hx : Tame x) (hy : Tame y) {C : Type} (k0 : Int → Bool → Int → Int → MM → MM → Option C) (v : Int) (d : Bool) (e : Int) :
   ∀ (F i : Nat), (x.2.1.length + y.2.1.length) - i < F → i ≤ x.2.1.length + y.2.1.length → g12L506f 2000 F k0 v d e ((x.1.toNat ^ i : Nat) : Int) (i : Int) x y = k0 v d e ((x.1.toNat ^ (x.2.1.length + y.2.1.length) : Nat) : Int) x y
 | 0, i, hF, _ => by omega
 | F + 1, i, hF, hi => by
   rw [g12L506f_succ]
   unfold g12L506B
   have m1 := hx.many; have m2 := hy.many; have hb := hx.base
   rw [w64 (x := ((x.2.1.length : Nat) : Int) + ((y.2.1.length : Nat) : Int)) (by omega) (by omega)]
   by_cases hlt : i < x.2.1.length + y.2.1.length
   · have hp := pow_b (b := x.1.toNat) (n := i + 1) (by omega) (by omega)
     have e1 : ((x.1.toNat ^ i : Nat) : Int) * x.1 = ((x.1.toNat ^ (i + 1) : Nat) : Int) := by
       rw [Nat.pow_succ, Int.natCast_mul]; congr 1; omega
     rw [decide_eq_true (show (i : Int) < ((x.2.1.length : Nat) : Int) + ((y.2.1.length : Nat) : Int) by omega), cond_true, e1, w64 (by omega) (by omega), wn i (by omega)]
     exact lim_loop hx hy k0 v d e F (i + 1) (by omega) (by omega)
   · have : i = x.2.1.length + y.2.1.length := by omega
     subst this
     rw [decide_eq_false (show ¬ (((x.2.1.length + y.2.1.length : Nat) : Nat) : Int) < ((x.2.1.length : Nat) : Int) + ((y.2.1.length : Nat) : Int) by omega), cond_false]
theorem form_same {x : MM} (hx : Tame x) : ∃ F v, g34 2000 x = some F ∧ g27 2000 F = some F ∧ g47 2000 x F = some (v, true, 0, ()) := by
 have m1 := hx.many; have hb := hx.base
 obtain ⟨F, _, f1, fb, f, fs, fl, fe⟩ := forms_one hx.wm (by omega) 2000 (by omega) (by omega)
 have hz := Zed.of f.toWM hx.wm fb hx.zed fe
 have hT : Tame F := f.tame (by omega) (by omega) hz
 obtain ⟨v, d, s1, s2⟩ := same_eq hx hT fb 2000 (by omega)
 have hd : d = false := s2.2 (fs.symm fb.symm)
 subst hd
 exact ⟨F, v, f1, hT.given 2000 (by omega), s1⟩
theorem same_awake : g24 2000 = some true := by kernel_rfl
noncomputable def k12 : Int → Bool → Int → Int → MM → MM → Option Bool := (fun e12 e13 e14 e15 e16 e17 => bif (!ieq e14 0) then some false else Option.bind (g48 2000 e16 e17) fun r18 => bif (!beqB e13 r18) then some false else bif e13 then bif (!ieq e12 0) then some false else bif (!e13) then bif (decide ((e12 : Int) < 0)) then some false else bif (decide ((e15 : Int) ≤ e12)) then some false else Option.bind (g36 2000 e16 0 e12) fun r19 => Option.bind (g36 2000 e17 0 e12) fun r20 => bif (ieq r19 r20) then some false else Option.bind (g27 2000 e16) fun r21 => Option.bind (g34 2000 e16) fun r22 => Option.bind (g27 2000 r22) fun r23 => Option.bind (g47 2000 r21 r23) fun r24 => bif (ieq r24.2.2.1 0) then bif r24.2.1 then Option.bind (g24 2000) fun r25 => some r25 else some false else some false else Option.bind (g27 2000 e16) fun r26 => Option.bind (g34 2000 e16) fun r27 => Option.bind (g27 2000 r27) fun r28 => Option.bind (g47 2000 r26 r28) fun r29 => bif (ieq r29.2.2.1 0) then bif r29.2.1 then Option.bind (g24 2000) fun r30 => some r30 else some false else some false else bif (!e13) then bif (decide ((e12 : Int) < 0)) then some false else bif (decide ((e15 : Int) ≤ e12)) then some false else Option.bind (g36 2000 e16 0 e12) fun r31 => Option.bind (g36 2000 e17 0 e12) fun r32 => bif (ieq r31 r32) then some false else Option.bind (g27 2000 e16) fun r33 => Option.bind (g34 2000 e16) fun r34 => Option.bind (g27 2000 r34) fun r35 => Option.bind (g47 2000 r33 r35) fun r36 => bif (ieq r36.2.2.1 0) then bif r36.2.1 then Option.bind (g24 2000) fun r37 => some r37 else some false else some false else Option.bind (g27 2000 e16) fun r38 => Option.bind (g34 2000 e16) fun r39 => Option.bind (g27 2000 r39) fun r40 => Option.bind (g47 2000 r38 r40) fun r41 => bif (ieq r41.2.2.1 0) then bif r41.2.1 then Option.bind (g24 2000) fun r42 => some r42 else some false else some false)
theorem same_end {x y : MM} (hx : Tame x) (hy : Tame y) (hb : y.1 = x.1) {v : Int} {d : Bool} (h : d = false ∧ v = 0 ∧ Same x y 0 0 ∨ d = true ∧ ¬ Same x y 0 0 ∧ ∃ n : Nat, v = (n : Int) ∧ n < x.1.toNat ^ (x.2.1.length + y.2.1.length) ∧ sq x 0 n ≠ sq y 0 n) :
   k12 v (!d) 0 ((x.1.toNat ^ (x.2.1.length + y.2.1.length) : Nat) : Int) x y = some true := by
 have m1 := hx.many; have m2 := hy.many; have bx := hx.base
 have hK : x.2.1.length * y.2.1.length ≤ 12 * 12 := Nat.mul_le_mul (by omega) (by omega)
 have hE := allPairs_len x y
 obtain ⟨b, e1, e2⟩ := same48 hx.wm hy.wm hb (E := allPairs x y) (allPairs_mem hx.wm hy.wm hb) (by omega)
 obtain ⟨F, u, f1, f2, f3⟩ := form_same hx
 unfold k12
 rw [e1]
 simp only [ieq_self, Bool.not_true, cond_false, Option.bind_some]
 rcases h with ⟨rfl, rfl, h2⟩ | ⟨rfl, h1, n, rfl, n1, n2⟩
 · have : b = true := e2.2 h2
   subst this
   simp only [Bool.not_false, beqB, BEq.rfl, Bool.not_true, cond_false, cond_true, ieq_self]
   rw [hx.given 2000 (by omega), f1]
   simp only [Option.bind_some]
   rw [f2]
   simp only [Option.bind_some]
   rw [f3]
   simp only [Option.bind_some, ieq_self, cond_true, same_awake]
 · have : b = false := by
     cases b with
     | false => rfl
     | true => exact absurd (e2.1 rfl) h1
   subst this
   have hp := pow_b (b := x.1.toNat) (n := x.2.1.length + y.2.1.length) (by omega) (by omega)
   simp only [Bool.not_true, beqB, BEq.rfl, cond_false, Bool.not_false, cond_true]
   rw [decide_eq_false (show ¬ ((n : Int) < 0) by omega), decide_eq_false (show ¬ (((x.1.toNat ^ (x.2.1.length + y.2.1.length) : Nat) : Int) ≤ (n : Int)) by omega), cond_false, cond_false, same36 hx (by omega), same36 hy (by omega)]
   simp only [Option.bind_some]
   rw [show ieq (sq x 0 n) (sq y 0 n) = false by simp only [ieq, decide_eq_false_iff_not]; exact n2, cond_false, hx.given 2000 (by omega), f1]
   simp only [Option.bind_some]
   rw [f2]
   simp only [Option.bind_some]
   rw [f3]
   simp only [Option.bind_some, ieq_self, cond_true, same_awake]
theorem same_plain (a c : MM) (k : List Int) : g12 2000 a c k = some true := by
 obtain ⟨b1, q1, q2, q3⟩ := base_eq 2000 (k.getD (Int.toNat 0) 0)
 obtain ⟨x, e1, hx, hxb, _⟩ := tame_eq 2000 (by omega) a b1 12 ⟨q2, q3⟩ ⟨by omega, by omega⟩
 obtain ⟨b2, q4, q5, q6⟩ := base_eq 2000 (k.getD (Int.toNat 1) 0)
 obtain ⟨y, e2, hy, hyb, _⟩ := tame_eq 2000 (by omega) c b2 12 ⟨q5, q6⟩ ⟨by omega, by omega⟩
 have m1 := hx.many; have m2 := hy.many; have bx := hx.base
 unfold g12
 rw [if_pos (⟨by omega, by omega⟩ : idx 0 2), q1]
 simp only [Option.bind_some]
 rw [e1]
 simp only [Option.bind_some]
 rw [if_pos (⟨by omega, by omega⟩ : idx 1 2), q4]
 simp only [Option.bind_some]
 rw [e2]
 simp only [Option.bind_some]
 rw [hx.given 2000 (by omega), hy.given 2000 (by omega)]
 simp only [Option.bind_some]
 by_cases hb : x.1 = y.1
 · obtain ⟨v, d, s1, s2⟩ := same47 hx hy hb.symm
   rw [s1]
   simp only [Option.bind_some]
   rw [show (!ieq x.1 y.1) = false by rw [hb]; exact not_ieq_self _, cond_false, g12L506_eq]
   have := lim_loop hx hy k12 v (!d) 0 2000 0 (by omega) (by omega)
   simp only [Nat.pow_zero, Int.natCast_zero] at this
   exact Eq.trans this (same_end hx hy hb.symm s2)
 · obtain ⟨z, e3, hz, hzb, _⟩ := tame_eq 2000 (by omega) c x.1 12 ⟨bx.1, bx.2⟩ ⟨by omega, by omega⟩
   have m3 := hz.many
   have hbad : g47 2000 x y = some (0, false, 1, ()) := by
     unfold g47
     rw [open_ok 1997 x y (hx.check _ (by omega)) (hy.check _ (by omega)), Option.bind_some, not_ieq_self, cond_false, show (!ieq x.1 y.1) = true by simp only [ieq, decide_eq_false hb, Bool.not_false], cond_true]
   obtain ⟨v, d, s1, s2⟩ := same47 hx hz hzb
   rw [hbad]
   simp only [Option.bind_some]
   rw [show (!ieq x.1 y.1) = true by simp only [ieq, decide_eq_false hb, Bool.not_false], cond_true]
   simp only [ieq_self, Bool.not_true, cond_false]
   rw [e3]
   simp only [Option.bind_some]
   rw [hz.given 2000 (by omega)]
   simp only [Option.bind_some]
   rw [s1]
   simp only [Option.bind_some]
   rw [g12L506_eq]
   have := lim_loop hx hz k12 v (!d) 0 2000 0 (by omega) (by omega)
   simp only [Nat.pow_zero, Int.natCast_zero] at this
   exact Eq.trans this (same_end hx hz hzb s2)
theorem autoSame_bnd (a : ProdT (List.map AS.d [MT, MT, .arr 2 (.int .i64)])) (h : BndL [MT, MT, .arr 2 (.int .i64)] a) : g12 2000 a.1 a.2.1 a.2.2.1 = some true := same_plain a.1 a.2.1 a.2.2.1
end Go.Pv
