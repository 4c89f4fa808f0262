/- Plain: machines, what they say, and that a reduced machine in the order of its discovery is one. -/
import Derived.Test.YtcfhdpbebiibjaaDoorPlF
import Derived.Test.YtcfhdpbebiibjaaDoorPlB
set_option linter.unusedVariables false
set_option linter.unusedSimpArgs false
namespace Go.Pv

def oM (x : MM) (s : Nat) : Int := x.2.1.getD s 0
def dM (x : MM) (s r : Nat) : Nat := ((x.2.2.1.getD s []).getD r 0).toNat
/-- What is said behind a word. -/
def beh (x : MM) : Nat → List Nat → Int
  | s, [] => oM x s
  | s, r :: w => beh x (dM x s r) w
/-- Two states of two machines say the same. -/
def Same (x y : MM) (s t : Nat) : Prop := ∀ w : List Nat, (∀ r ∈ w, (r : Int) < x.1) → beh x s w = beh y t w

/-- A machine of any number of states. -/
structure WM (x : MM) : Prop where
  base : 1 ≤ x.1 ∧ x.1 ≤ 1000
  many : 1 ≤ x.2.1.length
  out : ∀ o ∈ x.2.1, 0 ≤ o ∧ o ≤ 9
  next : x.2.2.1.length = x.2.1.length
  row : ∀ s, s < x.2.1.length → ((x.2.2.1.getD s []).length : Int) = x.1
  rng : ∀ s, s < x.2.1.length → ∀ t ∈ x.2.2.1.getD s [], 0 ≤ t ∧ t < (x.2.1.length : Int)

theorem WM.at {x : MM} (h : WM x) {s r : Nat} (hs : s < x.2.1.length) (hr : (r : Int) < x.1) : (x.2.2.1.getD s []).getD r 0 = (dM x s r : Int) ∧ dM x s r < x.2.1.length := by
  have hl : r < (x.2.2.1.getD s []).length := by have := h.row s hs; omega
  have := h.rng s hs _ (getD_mem hl 0)
  unfold dM
  omega
theorem Tame.wm {x : MM} (h : Tame x) : WM x :=
  ⟨⟨by have := h.base; omega, by have := h.base; omega⟩, h.many.1, h.out, h.next, fun s hs => (h.rowAt hs).1, fun s hs => (h.row _ (getD_mem (by rw [h.next]; exact hs) [])).2⟩

theorem Same.step {x y : MM} {s t : Nat} (h : Same x y s t) {r : Nat} (hr : (r : Int) < x.1) : Same x y (dM x s r) (dM y t r) := fun w hw => h (r :: w) (by
  intro q hq
  rcases List.mem_cons.1 hq with rfl | hq
  · exact hr
  · exact hw q hq)
theorem Same.out {x y : MM} {s t : Nat} (h : Same x y s t) : oM x s = oM y t := h [] (by simp)
theorem Same.trans {x y z : MM} {s t u : Nat} (h : Same x y s t) (hb : y.1 = x.1) (k : Same y z t u) : Same x z s u := fun w hw => (h w hw).trans (k w (by rw [hb]; exact hw))
theorem Same.symm {x y : MM} {s t : Nat} (h : Same x y s t) (hb : y.1 = x.1) : Same y x t s := fun w hw => (h w (by rw [← hb]; exact hw)).symm

/-! ### The order of discovery -/
def scanRow : List Int → Nat → Option Nat
  | [], c => some c
  | t :: r, c => if t.toNat < c then scanRow r c else if t.toNat = c then scanRow r (c + 1) else none
def scanRows : List (List Int) → Nat → Nat → Bool
  | [], s, c => decide (s = c)
  | row :: rs, s, c => if s < c then (match scanRow row c with | some c' => scanRows rs (s + 1) c' | none => false) else false

structure Form (x : MM) : Prop extends WM x where
  red : ∀ s t, s < x.2.1.length → t < x.2.1.length → Same x x s t → s = t
  order : scanRows x.2.2.1 0 1 = true

section
variable {F G : MM} (hb : G.1 = F.1) (RF : ∀ s t, s < F.2.1.length → t < F.2.1.length → Same F F s t → s = t) (RG : ∀ s t, s < G.2.1.length → t < G.2.1.length → Same G G s t → s = t)
include hb RF RG
theorem row_same : ∀ (rF rG : List Int) (c cF cG : Nat), rF.length = rG.length → (∀ i, i < c → i < F.2.1.length ∧ i < G.2.1.length ∧ Same F G i i) →
    (∀ j, j < rF.length → 0 ≤ rF.getD j 0 ∧ rF.getD j 0 < (F.2.1.length : Int) ∧ 0 ≤ rG.getD j 0 ∧ rG.getD j 0 < (G.2.1.length : Int) ∧ Same F G (rF.getD j 0).toNat (rG.getD j 0).toNat) →
    scanRow rF c = some cF → scanRow rG c = some cG → rF = rG ∧ cF = cG ∧ (∀ i, i < cF → i < F.2.1.length ∧ i < G.2.1.length ∧ Same F G i i)
  | [], [], c, cF, cG, _, hc, _, h1, h2 => by
    simp only [scanRow, Option.some.injEq] at h1 h2
    subst h1 h2
    exact ⟨rfl, rfl, hc⟩
  | [], _ :: _, _, _, _, hl, _, _, _, _ => by simp at hl
  | _ :: _, [], _, _, _, hl, _, _, _, _ => by simp at hl
  | t :: rF, u :: rG, c, cF, cG, hl, hc, hj, h1, h2 => by
    have h0 := hj 0 (by simp)
    simp only [List.getD_cons_zero] at h0
    obtain ⟨t1, t2, u1, u2, hs⟩ := h0
    have hj' : ∀ j, j < rF.length → 0 ≤ rF.getD j 0 ∧ rF.getD j 0 < (F.2.1.length : Int) ∧ 0 ≤ rG.getD j 0 ∧ rG.getD j 0 < (G.2.1.length : Int) ∧ Same F G (rF.getD j 0).toNat (rG.getD j 0).toNat := fun j h => by
      have := hj (j + 1) (by simp; omega)
      simpa using this
    have hl' : rF.length = rG.length := by simpa using hl
    simp only [scanRow] at h1 h2
    by_cases ht : t.toNat < c
    · rw [if_pos ht] at h1
      obtain ⟨_, g2, g3⟩ := hc _ ht
      have : t.toNat = u.toNat := RG _ _ g2 (by omega) ((g3.symm hb).trans hb.symm hs)
      rw [if_pos (by omega)] at h2
      obtain ⟨q1, q2, q3⟩ := row_same rF rG c cF cG hl' hc hj' h1 h2
      exact ⟨by rw [q1, show t = u by omega], q2, q3⟩
    · rw [if_neg ht] at h1
      by_cases htc : t.toNat = c
      · rw [if_pos htc] at h1
        have hu : ¬ u.toNat < c := by
          intro hu
          obtain ⟨g1, g2, g3⟩ := hc _ hu
          have : u.toNat = t.toNat := RF _ _ g1 (by omega) (g3.trans hb (hs.symm hb))
          omega
        rw [if_neg hu] at h2
        by_cases huc : u.toNat = c
        · rw [if_pos huc] at h2
          have hc' : ∀ i, i < c + 1 → i < F.2.1.length ∧ i < G.2.1.length ∧ Same F G i i := fun i hi => by
            by_cases hic : i < c
            · exact hc i hic
            · have : i = c := by omega
              subst this
              refine ⟨by omega, by omega, ?_⟩
              rw [htc, huc] at hs; exact hs
          obtain ⟨q1, q2, q3⟩ := row_same rF rG (c + 1) cF cG hl' hc' hj' h1 h2
          exact ⟨by rw [q1, show t = u by omega], q2, q3⟩
        · rw [if_neg huc] at h2; simp at h2
      · rw [if_neg htc] at h1; simp at h1

theorem rows_same (wF : WM F) (wG : WM G) : ∀ (rF rG : List (List Int)) (s c : Nat), F.2.2.1.drop s = rF → G.2.2.1.drop s = rG → (∀ i, i < c → i < F.2.1.length ∧ i < G.2.1.length ∧ Same F G i i) →
    scanRows rF s c = true → scanRows rG s c = true → rF = rG ∧ ∀ i, i < s + rF.length → Same F G i i
  | [], [], s, c, _, _, hc, h1, h2 => by
    simp only [scanRows, decide_eq_true_eq] at h1
    refine ⟨rfl, fun i hi => (hc i ?_).2.2⟩
    simp at hi; omega
  | [], _ :: _, s, c, _, _, hc, h1, h2 => by
    simp only [scanRows, decide_eq_true_eq] at h1 h2
    rw [if_neg (by omega)] at h2
    simp at h2
  | _ :: _, [], s, c, _, _, hc, h1, h2 => by
    simp only [scanRows, decide_eq_true_eq] at h1 h2
    rw [if_neg (by omega)] at h1
    simp at h1
  | a :: rF, b :: rG, s, c, hF, hG, hc, h1, h2 => by
    simp only [scanRows] at h1 h2
    by_cases hs : s < c
    · rw [if_pos hs] at h1 h2
      cases hA : scanRow a c with
      | none => rw [hA] at h1; simp at h1
      | some cF =>
        cases hB : scanRow b c with
        | none => rw [hB] at h2; simp at h2
        | some cG =>
          rw [hA] at h1; rw [hB] at h2
          simp only at h1 h2
          obtain ⟨g1, g2, g3⟩ := hc s hs
          have ea : F.2.2.1.getD s [] = a := by
            have : (F.2.2.1.drop s)[0]? = some a := by rw [hF]; rfl
            rw [List.getElem?_drop] at this
            rw [List.getD_eq_getElem?_getD]; simp at this; simp [this]
          have eb : G.2.2.1.getD s [] = b := by
            have : (G.2.2.1.drop s)[0]? = some b := by rw [hG]; rfl
            rw [List.getElem?_drop] at this
            rw [List.getD_eq_getElem?_getD]; simp at this; simp [this]
          have la := wF.row s g1
          have lb := wG.row s g2
          rw [ea] at la
          rw [eb] at lb
          obtain ⟨q1, q2, q3⟩ := row_same hb RF RG a b c cF cG (by omega) hc (fun j hj => by
            have hjF : (j : Int) < F.1 := by omega
            obtain ⟨a1, a2⟩ := wF.at g1 hjF
            obtain ⟨b1, b2⟩ := wG.at g2 (show (j : Int) < G.1 by omega)
            rw [ea] at a1
            rw [eb] at b1
            rw [a1, b1]
            refine ⟨by omega, by omega, by omega, by omega, ?_⟩
            simpa using g3.step hjF) hA hB
          subst q2
          obtain ⟨p1, p2⟩ := rows_same wF wG rF rG (s + 1) cF (by
            have : F.2.2.1.drop (s + 1) = (F.2.2.1.drop s).drop 1 := by rw [List.drop_drop]
            rw [this, hF]; rfl) (by
            have : G.2.2.1.drop (s + 1) = (G.2.2.1.drop s).drop 1 := by rw [List.drop_drop]
            rw [this, hG]; rfl) q3 h1 h2
          exact ⟨by rw [q1, p1], fun i hi => p2 i (by simp at hi; omega)⟩
    · rw [if_neg hs] at h1; simp at h1
end

/-- Two forms that say the same are one. -/
theorem Form.uniq {F G : MM} (hF : Form F) (hG : Form G) (hb : G.1 = F.1) (h : Same F G 0 0) : F = G := by
  have hc : ∀ i, i < 1 → i < F.2.1.length ∧ i < G.2.1.length ∧ Same F G i i := fun i hi => by
    have : i = 0 := by omega
    subst this
    exact ⟨hF.many, hG.many, h⟩
  obtain ⟨h1, h2⟩ := rows_same hb hF.red hG.red hF.toWM hG.toWM F.2.2.1 G.2.2.1 0 1 (by simp) (by simp) hc hF.order hG.order
  have hn : F.2.1.length = G.2.1.length := by rw [← hF.next, ← hG.next, h1]
  have ho : F.2.1 = G.2.1 := by
    apply List.ext_getElem hn
    intro i hi hi'
    have := (h2 i (by rw [hF.next]; omega)).out
    unfold oM at this
    simpa [List.getD_eq_getElem?_getD, hi, hi'] using this
  obtain ⟨b1, o1, n1, u1⟩ := F
  obtain ⟨b2, o2, n2, u2⟩ := G
  simp only at hb h1 ho
  rw [hb, ho, h1]

/-- What a form is made of: states that say different things, in the order in which they are met. -/
structure Made (x F : MM) (c : Nat → Int) (l : List Nat) : Prop where
  base : F.1 = x.1
  some1 : 1 ≤ l.length
  lt : ∀ i, i < l.length → l.getD i 0 < x.2.1.length
  apart : ∀ i j, i < l.length → j < l.length → c (l.getD i 0) = c (l.getD j 0) → i = j
  first : c (l.getD 0 0) = c 0
  out : F.2.1 = l.map (oM x)
  next : F.2.2.1.length = l.length
  rowl : ∀ i, i < l.length → ((F.2.2.1.getD i []).length : Int) = x.1
  way : ∀ (i r : Nat), i < l.length → (r : Int) < x.1 → ∃ j : Nat, (F.2.2.1.getD i []).getD r 0 = (j : Int) ∧ j < l.length ∧ c (l.getD j 0) = c (dM x (l.getD i 0) r)
  order : scanRows F.2.2.1 0 1 = true

theorem Made.form {x F : MM} {c : Nat → Int} {l : List Nat} (h : Made x F c l) (hx : WM x) (hc : ∀ s t, s < x.2.1.length → t < x.2.1.length → (c s = c t ↔ Same x x s t)) : Form F ∧ Same F x 0 0 := by
  have hlen : F.2.1.length = l.length := by rw [h.out]; simp
  have hF : WM F := by
    refine ⟨by rw [h.base]; exact hx.base, by rw [hlen]; exact h.some1, fun o ho => ?_, by rw [h.next, hlen], fun s hs => ?_, fun s hs t ht => ?_⟩
    · rw [h.out] at ho
      obtain ⟨s, hs, rfl⟩ := List.mem_map.1 ho
      obtain ⟨i, hi, rfl⟩ := List.getElem_of_mem hs
      have := h.lt i hi
      have e : l.getD i 0 = l[i] := by simp [List.getD_eq_getElem?_getD, hi]
      rw [e] at this
      exact hx.out _ (getD_mem this 0)
    · rw [hlen] at hs
      rw [h.base]; exact h.rowl s hs
    · rw [hlen] at hs ⊢
      obtain ⟨r, hr, rfl⟩ := List.getElem_of_mem ht
      have hl := h.rowl s hs
      obtain ⟨j, h1, h2, _⟩ := h.way s r hs (by omega)
      have e : (F.2.2.1.getD s []).getD r 0 = (F.2.2.1.getD s [])[r] := by rw [List.getD_eq_getElem?_getD, List.getElem?_eq_getElem hr]; rfl
      rw [← e, h1]; omega
  -- what F says is what x says
  have key : ∀ (w : List Nat) (i : Nat), i < l.length → (∀ r ∈ w, (r : Int) < x.1) → beh F i w = beh x (l.getD i 0) w := by
    intro w
    induction w with
    | nil =>
      intro i hi _
      show oM F i = oM x (l.getD i 0)
      unfold oM
      rw [h.out]
      simp [List.getD_eq_getElem?_getD, hi, oM]
    | cons r w ih =>
      intro i hi hw
      have hr : (r : Int) < x.1 := hw r (by simp)
      obtain ⟨j, h1, h2, h3⟩ := h.way i r hi hr
      have hd : dM F i r = j := by unfold dM; rw [h1]; simp
      show beh F (dM F i r) w = beh x (dM x (l.getD i 0) r) w
      rw [hd, ih j h2 (fun q hq => hw q (by simp [hq]))]
      exact (hc _ _ (h.lt j h2) (hx.at (h.lt i hi) hr).2).1 h3 w (fun q hq => hw q (by simp [hq]))
  refine ⟨⟨hF, fun s t hs ht hst => ?_, h.order⟩, fun w hw => ?_⟩
  · rw [hlen] at hs ht
    refine h.apart s t hs ht ((hc _ _ (h.lt s hs) (h.lt t ht)).2 fun w hw => ?_)
    rw [← key w s hs hw, ← key w t ht hw]
    exact hst w (by rw [h.base]; exact hw)
  · rw [h.base] at hw
    rw [key w 0 h.some1 hw]
    exact (hc _ _ (h.lt 0 h.some1) hx.many).1 h.first w hw

end Go.Pv
