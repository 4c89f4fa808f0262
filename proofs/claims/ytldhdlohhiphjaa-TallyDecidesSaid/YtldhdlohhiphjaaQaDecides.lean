/- Seat 06, plain: TallyDecides. -/
import Derived.Test.YtldhdlohhiphjaaMg1
set_option linter.unusedVariables false
set_option linter.unusedSimpArgs false
namespace Go.Pv
theorem mkRef {x : PP} (hx : PT x) {c : List Int} (hc : Crowd c x.1) : ∃ y : CC, g39 2000 x c = some y ∧ Ref x c y := by
  obtain ⟨steps, next, h1, h2, h3⟩ := ref39 hx hc
  exact ⟨(allL x c, steps, next, ()), h3, ⟨hx, hc, allL_found hx hc, h1⟩⟩
theorem Ref.idx0 {x : PP} {c : List Int} {y : CC} (h : Ref x c y) : c ∈ y.1 ∧ y.1.idxOf c = 0 := by
  have h1 := h.found.head
  have h2 := idx_at h.found.nodup h1.2
  rw [h1.1] at h2
  exact ⟨h1.1 ▸ getD_mem h1.2 [], h2⟩
theorem settled37 {x : PP} (hx : PT x) {c : List Int} (hc : Crowd c x.1) : ∃ v, g37 2000 x c = some v ∧ -1 ≤ v ∧ v ≤ 1 ∧ ∀ on, 0 ≤ on → on ≤ 1 → (v = on ↔ SetOn x c on) := by
  obtain ⟨y, hy, h⟩ := mkRef hx hc
  obtain ⟨hm, h0⟩ := h.idx0
  have hpos := h.found.head.2
  obtain ⟨o0, a1, a2, a3⟩ := set74 h 0
  obtain ⟨o1, b1, b2, b3⟩ := set74 h 1
  have A := a2 c hm
  have B := b2 c hm
  rw [h0] at A B
  have hone : SetOn x c 0 → SetOn x c 1 → False := fun p q => by have := SetOn.one hc p q; omega
  unfold g37
  rw [hy]
  simp only [Option.bind_some]
  rw [g37L58_eq, show (2000 : Nat) = 1997 + 1 + 1 + 1 from rfl, g37L58f_succ]
  unfold g37L58B
  rw [show decide ((0 : Int) < 2) = true from rfl, cond_true, show (1997 + 1 + 1 + 1 : Nat) = 2000 from rfl, a3]
  simp only [Option.bind_some]
  rw [if_pos ⟨by omega, by omega⟩]
  cases hv : o0.getD (Int.toNat 0) false with
  | true =>
    have s0 := A.1 hv
    refine ⟨0, rfl, by omega, by omega, fun on h1 h2 => ⟨fun e => e ▸ s0, fun s => SetOn.one hc s0 s⟩⟩
  | false =>
    have s0 : ¬ SetOn x c 0 := fun s => by
      have := A.2 s
      rw [show Int.toNat 0 = 0 from rfl] at hv
      rw [hv] at this; cases this
    simp only [cond_false]
    rw [show IntKind.wrap .i64 (0 + 1) = 1 from by decide, g37L58f_succ]
    unfold g37L58B
    rw [show decide ((1 : Int) < 2) = true from rfl, cond_true, b3]
    simp only [Option.bind_some]
    rw [if_pos ⟨by omega, by omega⟩]
    cases hv1 : o1.getD (Int.toNat 0) false with
    | true =>
      have s1 := B.1 hv1
      refine ⟨1, rfl, by omega, by omega, fun on h1 h2 => ⟨fun e => e ▸ s1, fun s => SetOn.one hc s1 s⟩⟩
    | false =>
      have s1 : ¬ SetOn x c 1 := fun s => by
        have := B.2 s
        rw [show Int.toNat 0 = 0 from rfl] at hv1
        rw [hv1] at this; cases this
      simp only [cond_false]
      rw [show IntKind.wrap .i64 (1 + 1) = 2 from by decide, g37L58f_succ]
      unfold g37L58B
      rw [show decide ((2 : Int) < 2) = false from rfl, cond_false]
      refine ⟨-1, rfl, by omega, by omega, fun on h1 h2 => ⟨fun e => by omega, fun s => ?_⟩⟩
      rcases (show on = 0 ∨ on = 1 by omega) with rfl | rfl
      · exact absurd s s0
      · exact absurd s s1
theorem all_loop {C : Type} (N : Nat) (k0 : Int → Bool → PP → CC → List Bool → Option C) (on : Int) (x : PP) (y : CC) (o : List Bool) (hl : o.length ≤ 1000) :
    ∀ (F i : Nat) (b : Bool), o.length - i < F → i ≤ o.length → (b = true ↔ ∀ j, j < i → o.getD j false = true) → ∃ b', (b' = true ↔ ∀ j, j < o.length → o.getD j false = true) ∧ g38L29850f N F k0 on b (i : Int) x y o = k0 on b' x y o
  | 0, i, b, hF, _, _ => by omega
  | F + 1, i, b, hF, hi, hb => by
    rw [g38L29850f_succ]
    unfold g38L29850B
    by_cases hlt : i < o.length
    · have e1 : decide ((i : Int) < ((o.length : Nat) : Int)) = true := decide_eq_true (by omega)
      rw [e1, cond_true, if_pos (ix hlt), Int.toNat_natCast, if_pos hlt, wn i (by omega)]
      cases hbb : b with
      | true =>
        rw [cond_true]
        refine all_loop N k0 on x y o hl F (i + 1) _ (by omega) (by omega) ⟨fun h j hj => ?_, fun h => h i (by omega)⟩
        by_cases hji : j = i
        · subst hji; exact h
        · exact (hb.1 hbb) j (by omega)
      | false =>
        rw [cond_false]
        refine all_loop N k0 on x y o hl F (i + 1) _ (by omega) (by omega) ⟨fun h => (by cases h), fun h => ?_⟩
        have := hb.2 (fun j hj => h j (by omega))
        rw [hbb] at this
        exact this
    · have e1 : decide ((i : Int) < ((o.length : Nat) : Int)) = false := decide_eq_false (by omega)
      rw [e1, cond_false]
      have : i = o.length := by omega
      subst this
      exact ⟨b, hb, rfl⟩
theorem dec_round {C : Type} (rec : Int → PP → CC → Option C) (k0 : Int → PP → CC → Option C) (k1 : PP → CC → Option C) {x : PP} {c : List Int} {y : CC} (h : Ref x c y) (on : Int) (hon : on < 2) :
    (DecOn x c on ∧ g38L58B 2000 rec k0 k1 on x y = k0 on x y) ∨ (¬ DecOn x c on ∧ g38L58B 2000 rec k0 k1 on x y = rec (IntKind.wrap .i64 (on + 1)) x y) := by
  obtain ⟨o, a1, a2, a3⟩ := set74 h on
  obtain ⟨out, r, b1, b2, b3, b4⟩ := spread75b h o a1
  have hl := h.found.len
  unfold g38L58B
  rw [decide_eq_true hon, cond_true, a3]
  simp only [Option.bind_some]
  rw [b3]
  simp only [Option.bind_some]
  rw [b4, g38L29850_eq]
  obtain ⟨b, c1, c2⟩ := all_loop 2000 (fun e4 e5 e6 e7 e8 => bif e5 then (k0 e4 e6 e7) else (rec (IntKind.wrap .i64 (e4 + 1)) e6 e7)) on x y out (by omega) 2000 0 true (by omega) (by omega) ⟨fun _ j hj => by omega, fun _ => rfl⟩
  simp only [Int.natCast_zero] at c2
  have key : b = true ↔ DecOn x c on := by
    rw [c1]
    constructor
    · intro hh d hd
      have hdm := (h.found.mem d).2 hd
      have hdl := List.idxOf_lt_length_of_mem hdm
      obtain ⟨e, he, hse⟩ := (b2 d hdm).1 (hh _ (by omega))
      exact ⟨e, he, (a2 e (h.step hdm he)).1 hse⟩
    · intro hh j hj
      have hjl : j < y.1.length := by omega
      have hm := getD_mem hjl []
      obtain ⟨e, he, hse⟩ := hh _ ((h.found.mem _).1 hm)
      have := (b2 _ hm).2 ⟨e, he, (a2 e (h.step hm he)).2 hse⟩
      rw [idx_at h.found.nodup hjl] at this
      exact this
  cases hb : b with
  | true => exact .inl ⟨key.1 hb, by rw [hb] at c2; exact c2⟩
  | false => exact .inr ⟨fun hd => (by have := key.2 hd; rw [hb] at this; cases this), by rw [hb] at c2; exact c2⟩
theorem decides38 {x : PP} (hx : PT x) {c : List Int} (hc : Crowd c x.1) : ∃ v, g38 2000 x c = some v ∧ -1 ≤ v ∧ v ≤ 1 ∧ ∀ on, 0 ≤ on → on ≤ 1 → (v = on ↔ DecOn x c on) := by
  obtain ⟨y, hy, h⟩ := mkRef hx hc
  unfold g38
  rw [hy]
  simp only [Option.bind_some]
  rw [g38L58_eq]
  have H : ∀ F : Nat, ∃ v, g38L58f 2000 (F + 3) (fun e9 e10 e11 => some e9) (fun e12 e13 => some (-1)) 0 x y = some v ∧ -1 ≤ v ∧ v ≤ 1 ∧ ∀ on, 0 ≤ on → on ≤ 1 → (v = on ↔ DecOn x c on) := by
    intro F
    rw [show F + 3 = (F + 2) + 1 from rfl, g38L58f_succ]
    rcases dec_round (fun a b d => g38L58f 2000 (F + 2) (fun e9 e10 e11 => some e9) (fun e12 e13 => some (-1)) a b d) (fun e9 e10 e11 => some e9) (fun e12 e13 => some (-1)) h 0 (by omega) with ⟨d0, e0⟩ | ⟨d0, e0⟩
    · exact ⟨0, e0, by omega, by omega, fun on h1 h2 => ⟨fun e => e ▸ d0, fun s => DecOn.one hx hc d0 s⟩⟩
    · rw [show IntKind.wrap .i64 (0 + 1) = 1 from by decide, show F + 2 = (F + 1) + 1 from rfl, g38L58f_succ] at e0
      rcases dec_round (fun a b d => g38L58f 2000 (F + 1) (fun e9 e10 e11 => some e9) (fun e12 e13 => some (-1)) a b d) (fun e9 e10 e11 => some e9) (fun e12 e13 => some (-1)) h 1 (by omega) with ⟨d1, e1⟩ | ⟨d1, e1⟩
      · exact ⟨1, e0.trans e1, by omega, by omega, fun on h1 h2 => ⟨fun e => e ▸ d1, fun s => DecOn.one hx hc d1 s⟩⟩
      · rw [show IntKind.wrap .i64 (1 + 1) = 2 from by decide, g38L58f_succ] at e1
        refine ⟨-1, (e0.trans e1).trans ?_, by omega, by omega, fun on h1 h2 => ⟨fun e => by omega, fun s => ?_⟩⟩
        · unfold g38L58B
          rfl
        · rcases (show on = 0 ∨ on = 1 by omega) with rfl | rfl
          · exact absurd s d0
          · exact absurd s d1
  exact H 1997
theorem DecOn.le {x : PP} (hx : PT x) {c : List Int} (hc : Crowd c x.1) {v : Int} (h : DecOn x c v) : v ≤ 1 := by
  obtain ⟨e, he, hs⟩ := h c (.refl c)
  obtain ⟨s, _, hp⟩ := some_pos (he.crowd hx hc).1
  have := hs e (.refl e) s hp
  by_cases hl : s < x.2.1.length
  · have := hx.out.2 _ (getD_mem hl 0); omega
  · rw [List.getD_eq_getElem?_getD, List.getElem?_eq_none (by omega)] at this
    simp at this; omega
theorem tallyDecides_plain (p : PP) (l : List Int) : g5 2000 p l = some true := by
  unfold g5
  obtain ⟨x, ex, hx, _⟩ := tame_eq 2000 (by omega) p 5 (by omega) (by omega)
  have hn := hx.n
  obtain ⟨c, ec, hc, _⟩ := gathered_eq 2000 (by omega) l x.1 (by omega) (by omega) 7 (by omega) (by omega)
  rw [ex]
  simp only [Option.bind_some]
  rw [hx.given 2000]
  simp only [Option.bind_some]
  rw [ec]
  simp only [Option.bind_some]
  obtain ⟨s, e1, s1, s2, s3⟩ := settled35 hx hc
  obtain ⟨d, e2, d1, d2⟩ := decides36 hx hc
  obtain ⟨a, e3, a1, a2, a3⟩ := settled37 hx hc
  obtain ⟨b, e4, b1, b2, b3⟩ := decides38 hx hc
  have hsa : a = s := by
    by_cases h : 0 ≤ s
    · exact (a3 s h s2).2 ((s3 s h).1 rfl)
    · by_cases h2 : 0 ≤ a
      · have := (s3 a h2).2 ((a3 a h2 a2).1 rfl); omega
      · omega
  have hdb : b = d := by
    by_cases h : 0 ≤ d
    · have hd := (d2 d h).1 rfl
      exact (b3 d h (hd.le hx hc)).2 hd
    · by_cases h2 : 0 ≤ b
      · have := (d2 b h2).2 ((b3 b h2 b2).1 rfl); omega
      · omega
  subst hsa
  subst hdb
  rw [e1, e2, e3, e4]
  simp only [Option.bind_some, ieq_self, cond_true, awake_true]
  cases decide (0 ≤ a) <;> cases decide (0 ≤ b) <;> rfl
end Go.Pv
