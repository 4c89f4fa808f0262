/- Seat 05, plain: the reference's numbers of a sequence are the program's. -/
import Derived.Test.YtcfhdpbebiibjaaDoorPlA
set_option linter.unusedVariables false
set_option linter.unusedSimpArgs false
namespace Go.Pv

theorem ref_at_loop (N : Nat) {C : Type} (k0 : Int → MM → Option C) (b : Int) (x : MM) : ∀ (F : Nat) (n s : Int), g36L28f N F k0 s n b x = (atP x.2.2.1 b F n s).bind fun sf => k0 sf x
  | 0, n, s => rfl
  | F + 1, n, s => by
    rw [g36L28f_succ]
    unfold g36L28B
    simp only [atP]
    by_cases hn : 0 < n
    · rw [if_pos hn, show decide ((0 : Int) < n) = true by simpa using hn, cond_true]
      unfold atStep
      by_cases hb : b = 0
      · simp [hb]
      · by_cases h1 : idx s x.2.2.1.length
        · by_cases h2 : idx (Int.tmod n b) (x.2.2.1.getD s.toNat []).length
          · simp only [if_pos h1, if_neg hb, if_pos h2]
            exact ref_at_loop N k0 b x F _ _
          · simp only [if_pos h1, if_neg hb, if_neg h2]; rfl
        · simp only [if_neg h1, if_neg hb]; rfl
    · rw [if_neg hn, show decide ((0 : Int) < n) = false by simpa using hn, cond_false]; rfl
theorem ref_at (N : Nat) (x : MM) (s n : Int) : g36 N x s n = g70 N x s n := by
  unfold g36 g70
  rw [g36L28_eq, ref_at_loop]


end Go.Pv
