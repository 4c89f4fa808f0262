/- Plain: machines by a table of functions. -/
import Derived.Test.YtcfhdpbebiibjaaDoorPlY
set_option linter.unusedVariables false
set_option linter.unusedSimpArgs false
namespace Go.Pv

def tabM (b n : Nat) (o : Nat → Int) (st : Nat → Nat → Nat) : MM := ((b : Int), (List.range n).map o, (List.range n).map fun s => (List.range b).map fun r => ((st s r : Nat) : Int), ())

theorem getD_range_map {α : Type} (f : Nat → α) {n i : Nat} (h : i < n) (d : α) : ((List.range n).map f).getD i d = f i := by
  rw [List.getD_eq_getElem?_getD, List.getElem?_map, List.getElem?_range h]; rfl
theorem tab_len (b n : Nat) (o : Nat → Int) (st : Nat → Nat → Nat) : (tabM b n o st).2.1.length = n := by simp [tabM]
theorem tab_o {b n : Nat} {o : Nat → Int} {st : Nat → Nat → Nat} {s : Nat} (h : s < n) : oM (tabM b n o st) s = o s := getD_range_map o h 0
theorem tab_row {b n : Nat} {o : Nat → Int} {st : Nat → Nat → Nat} {s : Nat} (h : s < n) : (tabM b n o st).2.2.1.getD s [] = (List.range b).map fun r => ((st s r : Nat) : Int) := getD_range_map _ h []
theorem tab_d {b n : Nat} {o : Nat → Int} {st : Nat → Nat → Nat} {s r : Nat} (h : s < n) (hr : r < b) : dM (tabM b n o st) s r = st s r := by
  unfold dM
  rw [tab_row h, getD_range_map _ hr, Int.toNat_natCast]
theorem tab_wm {b n : Nat} {o : Nat → Int} {st : Nat → Nat → Nat} (hb : 1 ≤ b ∧ b ≤ 1000) (hn : 1 ≤ n) (ho : ∀ s, s < n → 0 ≤ o s ∧ o s ≤ 9) (hst : ∀ s r, s < n → r < b → st s r < n) : WM (tabM b n o st) := by
  refine ⟨by simp only [tabM]; omega, by rw [tab_len]; exact hn, fun v hv => ?_, by simp [tabM], fun s hs => ?_, fun s hs t ht => ?_⟩
  · simp only [tabM, List.mem_map, List.mem_range] at hv
    obtain ⟨s, hs, rfl⟩ := hv
    exact ho s hs
  · rw [tab_len] at hs
    rw [tab_row hs]; simp [tabM]
  · rw [tab_len] at hs ⊢
    rw [tab_row hs] at ht
    obtain ⟨r, hr, rfl⟩ := List.mem_map.1 ht
    have := hst s r hs (List.mem_range.1 hr)
    omega
theorem outs_range (x : MM) : (List.range x.2.1.length).map (oM x) = x.2.1 := by
  apply List.ext_getElem (by simp)
  intro i h1 h2
  simp only [List.getElem_map, List.getElem_range]
  exact getD_of h2 0
theorem WM.nat {x : MM} (h : WM x) {s : Int} (h0 : 0 ≤ s) (h1 : s < (x.2.1.length : Int)) {r : Nat} (hr : (r : Int) < x.1) : (x.2.2.1.getD s.toNat []).getD r 0 = (dM x s.toNat r : Int) ∧ dM x s.toNat r < x.2.1.length := h.at (by omega) hr
theorem WM.oAt {x : MM} (h : WM x) {s : Nat} (hs : s < x.2.1.length) : 0 ≤ oM x s ∧ oM x s ≤ 9 := h.out _ (getD_mem hs 0)

/-- A list grown by one more. -/
theorem take_range_map {α : Type} (f : Nat → α) (i : Nat) : (List.range (i + 1)).map f = (List.range i).map f ++ [f i] := by rw [List.range_succ]; simp

end Go.Pv
