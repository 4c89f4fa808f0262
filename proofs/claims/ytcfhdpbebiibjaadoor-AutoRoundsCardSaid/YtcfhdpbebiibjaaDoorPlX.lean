/- Plain: a machine equals itself (g32), copies of small ones (g33), form with its code (g29). -/
import Derived.Test.YtcfhdpbebiibjaaDoorPlW
import Derived.Test.YtcfhdpbebiibjaaDoorPlC
set_option linter.unusedVariables false
set_option linter.unusedSimpArgs false
namespace Go.Pv

theorem ieq_self (n : Int) : ieq n n = true := by simp [ieq]
theorem not_ieq_self (n : Int) : (!ieq n n) = false := by simp [ieq]

theorem eq_row (N : Nat) {x : MM} (s : Nat) (hs : s < x.2.2.1.length) (hl : (x.2.2.1.getD s []).length ≤ 1000) {C : Type} (k0 : Bool → Int → MM → MM → Option C) (k1 : Int → MM → MM → Option C) :
    ∀ (F j : Nat), (x.2.2.1.getD s []).length - j < F → j ≤ (x.2.2.1.getD s []).length → g32L7462f N F k0 k1 (s : Int) (j : Int) x x = k1 (s : Int) x x
  | 0, j, hF, _ => by omega
  | F + 1, j, hF, hj => by
    rw [g32L7462f_succ]
    unfold g32L7462B
    have e0 : idx (s : Int) x.2.2.1.length := ⟨by omega, by omega⟩
    rw [if_pos e0, Int.toNat_natCast]
    by_cases hlt : j < (x.2.2.1.getD s []).length
    · have e1 : decide ((j : Int) < ((x.2.2.1.getD s []).length : Int)) = true := by simp only [decide_eq_true_iff]; omega
      have e2 : idx (j : Int) (x.2.2.1.getD s []).length := ⟨by omega, by omega⟩
      rw [e1, cond_true, if_pos e0, if_pos e2, if_pos e0, if_pos e2, not_ieq_self, cond_false, wn j (by omega)]
      exact eq_row N s hs hl k0 k1 F (j + 1) (by omega) (by omega)
    · have e1 : decide ((j : Int) < ((x.2.2.1.getD s []).length : Int)) = false := by simp only [decide_eq_false_iff_not]; omega
      rw [e1, cond_false]

theorem eq_rows (N : Nat) (hN : 1001 < N) {x : MM} (hn : x.2.1.length = x.2.2.1.length) (hn2 : x.2.2.1.length ≤ 60000) (hl : ∀ s, s < x.2.2.1.length → (x.2.2.1.getD s []).length ≤ 1000) {C : Type} (k0 : Bool → MM → MM → Option C) (k1 : MM → MM → Option C) :
    ∀ (F s : Nat), x.2.2.1.length - s < F → s ≤ x.2.2.1.length → g32L58f N F k0 k1 (s : Int) x x = k1 x x
  | 0, s, hF, _ => by omega
  | F + 1, s, hF, hs => by
    rw [g32L58f_succ]
    unfold g32L58B
    by_cases hlt : s < x.2.2.1.length
    · have e1 : decide ((s : Int) < (x.2.1.length : Int)) = true := by simp only [decide_eq_true_iff]; omega
      have e2 : idx (s : Int) x.2.2.1.length := ⟨by omega, by omega⟩
      have e3 : idx (s : Int) x.2.1.length := ⟨by omega, by omega⟩
      rw [e1, cond_true]
      simp only [if_pos e2, if_pos e3, not_ieq_self, cond_false]
      rw [g32L7462_eq]
      have el := fun a b => eq_row (C := C) N s hlt (hl s hlt) a b N 0 (by have := hl s hlt; omega) (by omega)
      simp only [Int.natCast_zero] at el
      rw [el, wn s (by omega)]
      exact eq_rows N hN hn hn2 hl k0 k1 F (s + 1) (by omega) (by omega)
    · have e1 : decide ((s : Int) < (x.2.1.length : Int)) = false := by simp only [decide_eq_false_iff_not]; omega
      rw [e1, cond_false]

theorem WM.same {x : MM} (h : WM x) (N : Nat) (hN : 1001 < N) (hn : x.2.1.length ≤ 60000) (hn2 : x.2.1.length < N) : g32 N x x = some true := by
  unfold g32
  simp only [not_ieq_self, cond_false]
  rw [g32L58_eq]
  have hnx := h.next
  have hb := h.base
  have := eq_rows N hN hnx.symm (by omega) (fun s hs => by have := h.row s (by omega); omega) (fun e8 e9 e10 => some e8) (fun e11 e12 => some true) N 0 (by omega) (by omega)
  simp only [Int.natCast_zero] at this
  exact this

theorem WM.cut {x : MM} (h : WM x) (hb : x.1 ≤ 26) (hn : x.2.1.length ≤ 13) : cutM x = x := by
  obtain ⟨b, o, nx, u⟩ := x
  simp only at hn hb
  have h1 := h.next
  have h2 := h.row
  simp only at h1 h2
  unfold cutM
  simp only
  rw [List.take_of_length_le (by omega), List.take_of_length_le (by omega)]
  congr 3
  refine (List.map_congr_left (g := id) fun r hr => ?_).trans (List.map_id _)
  obtain ⟨i, hi, rfl⟩ := List.getElem_of_mem hr
  have e : nx.getD i [] = nx[i] := by rw [List.getD_eq_getElem?_getD, List.getElem?_eq_getElem hi]; rfl
  have := h2 i (by omega)
  rw [e] at this
  exact List.take_of_length_le (by omega)

end Go.Pv
