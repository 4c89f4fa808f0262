/- Seat 05: AutoEvers, plain. -/
import Derived.Test.YtcfhdpbebiibjaaDoorMg1
import Derived.Test.YtcfhdpbebiibjaaDoorPvAB
set_option linter.unusedVariables false
set_option linter.unusedSimpArgs false
namespace Go.Pv
theorem evers_round {x : MM} (hx : Tame x) {C : Type} (rec : Int → Int → MM → Option C) (k0 : Bool → MM → Option C) (k1 : MM → Option C) (out i : Int) (hi : i < 2) : ∃ o, g4L58B 2000 rec k0 k1 out i x = rec o (IntKind.wrap .i64 (i + 1)) x := by
 have hm := hx.many
 obtain ⟨r, e1, r1, r2⟩ := low (x := out) (m := (x.2.1.length : Int)) (by omega) (by omega)
 have eu : IntKind.wrap .u64 ((x.2.1.length : Nat) : Int) = (x.2.1.length : Int) := by rw [wu64]; omega
 refine ⟨x.2.1.getD r.toNat 0, ?_⟩
 unfold g4L58B
 rw [decide_eq_true hi, cond_true, hx.given 2000 (by omega)]
 simp only [Option.bind_some]
 rw [eu, e1]
 rw [if_neg (show ¬ ((x.2.1.length : Nat) : Int) = 0 by omega), if_pos (⟨r1, r2⟩ : idx r x.2.1.length)]
 by_cases h1 : out < 0
 · rw [ever26_bad hx (.inl h1)]
   simp only [Option.bind_some]
   rw [decide_eq_true h1]
   rfl
 · by_cases h2 : 9 < out
   · rw [ever26_bad hx (.inr h2)]
     simp only [Option.bind_some]
     rw [decide_eq_false h1, decide_eq_true h2]
     rfl
   · obtain ⟨v, v1, v2⟩ := ever26 hx (out := out) ⟨by omega, by omega⟩
     obtain ⟨u, u1, u2⟩ := ever28 hx out
     have := v1.uniq u1
     subst this
     rw [v2, u2]
     simp only [Option.bind_some]
     rw [decide_eq_false h1, decide_eq_false h2]
     simp only [cond_false, not_ieq_self, beqB, BEq.rfl, Bool.not_true]
theorem evers_awake : g24 2000 = some true := by kernel_rfl
theorem evers_plain (a : MM) (k out : Int) : g4 2000 a k out = some true := by
 obtain ⟨b, e1, hb1, hb2⟩ := base_eq 2000 k
 obtain ⟨x, e2, hx, hxb, hxn⟩ := tame_eq 2000 (by omega) a b 12 ⟨hb1, hb2⟩ ⟨by omega, by omega⟩
 unfold g4
 rw [e1, Option.bind_some, e2, Option.bind_some, g4L58_eq]
 have H : ∀ F : Nat, g4L58f 2000 (F + 3) (fun e6 e7 => some e6) (fun e8 => Option.bind (g24 2000) fun r9 => some r9) out 0 x = some true := by
   intro F
   rw [show F + 3 = (F + 2) + 1 from rfl, g4L58f_succ]
   obtain ⟨o1, q1⟩ := evers_round hx (fun t2 t8 o7 => g4L58f 2000 (F + 2) (fun e6 e7 => some e6) (fun e8 => Option.bind (g24 2000) fun r9 => some r9) t2 t8 o7) (fun e6 e7 => some e6) (fun e8 => Option.bind (g24 2000) fun r9 => some r9) out 0 (by omega)
   refine q1.trans ?_
   rw [w64 (by omega) (by omega), show F + 2 = (F + 1) + 1 from rfl, g4L58f_succ]
   obtain ⟨o2, q2⟩ := evers_round hx (fun t2 t8 o7 => g4L58f 2000 (F + 1) (fun e6 e7 => some e6) (fun e8 => Option.bind (g24 2000) fun r9 => some r9) t2 t8 o7) (fun e6 e7 => some e6) (fun e8 => Option.bind (g24 2000) fun r9 => some r9) o1 (0 + 1) (by omega)
   refine q2.trans ?_
   rw [w64 (by omega) (by omega), g4L58f_succ]
   unfold g4L58B
   rw [show decide ((0 + 1 + 1 : Int) < 2) = false by simp, cond_false, evers_awake]; rfl
 exact H 1997
theorem autoEvers_bnd (a : ProdT (List.map AS.d [MT, .int .i64, .int .i64])) (h : BndL [MT, .int .i64, .int .i64] a) : g4 2000 a.1 a.2.1 a.2.2.1 = some true := evers_plain a.1 a.2.1 a.2.2.1
end Go.Pv
