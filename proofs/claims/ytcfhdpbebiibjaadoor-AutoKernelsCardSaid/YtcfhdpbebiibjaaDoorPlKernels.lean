/- Seat 05: AutoKernels, plain. -/
import Derived.Test.YtcfhdpbebiibjaaDoorMg2
import Derived.Test.YtcfhdpbebiibjaaDoorPvAB
set_option linter.unusedVariables false
set_option linter.unusedSimpArgs false
namespace Go.Pv

/-! ### The states are unlike -/
theorem unlike_row (N : Nat) (hN : 1300 < N) {F : MM} (hF : Form F) (hT : Tame F) {s : Nat} (hs : s < F.2.1.length) {C : Type} (k0 : Bool → Int → Int → MM → Option C) (k1 : Int → Int → MM → Option C) (n : Int) :
    ∀ (G t : Nat), s - t < G → t ≤ s → g15L261778f N G k0 k1 n (s : Int) (t : Int) F = k1 n (s : Int) F
  | 0, t, hG, _ => by omega
  | G + 1, t, hG, ht => by
    rw [g15L261778f_succ]
    unfold g15L261778B
    have hm := hT.many
    have hw := hT.wm
    by_cases hlt : t < s
    · have ts := sw_tame hT hs
      have tt := sw_tame hT (s := t) (by omega)
      rw [decide_eq_true (show (t : Int) < (s : Int) by omega), cond_true, begun_eq N (by omega) hw (by omega) (by omega) hs, begun_eq N (by omega) hw (by omega) (by omega) (s := t) (by omega), Option.bind_some, Option.bind_some, ts.given N (by omega), tt.given N (by omega), Option.bind_some, Option.bind_some]
      obtain ⟨v, d, e, hd⟩ := same_eq ts tt (by rw [sw_base hw, sw_base hw]) N hN
      have : d = true := by
        cases d with
        | true => rfl
        | false =>
          have h1 := hd.1 rfl
          have h2 := (sw_same hw hs 0 hw.many).symm (sw_base hw s).symm
          have h3 := sw_same hw (s := t) (by omega) 0 hw.many
          have h4 : Same F F (sw s 0) (sw t 0) := (h2.trans (sw_base hw s) h1).trans (by rw [sw_base hw t]) h3
          have e1 : sw s 0 = s := rfl
          have e2 : sw t 0 = t := rfl
          rw [e1, e2] at h4
          have := hF.red s t hs (by omega) h4
          omega
      subst this
      rw [e, Option.bind_some]
      dsimp only
      rw [not_ieq_self, cond_false, Bool.not_true, cond_false, wn t (by omega)]
      exact unlike_row N hN hF hT hs k0 k1 n G (t + 1) (by omega) (by omega)
    · rw [decide_eq_false (show ¬ (t : Int) < (s : Int) by omega), cond_false]

theorem unlike_loop (N : Nat) (hN : 1300 < N) {F : MM} (hF : Form F) (hT : Tame F) {C : Type} (k0 : Bool → Int → MM → Option C) (k1 : Int → MM → Option C) :
    ∀ (G s : Nat), F.2.1.length - s < G → s ≤ F.2.1.length → g15L4090f N G k0 k1 (F.2.1.length : Int) (s : Int) F = k1 (F.2.1.length : Int) F
  | 0, s, hG, _ => by omega
  | G + 1, s, hG, hs => by
    rw [g15L4090f_succ]
    unfold g15L4090B
    have hm := hT.many
    by_cases hlt : s < F.2.1.length
    · rw [decide_eq_true (show (s : Int) < (F.2.1.length : Int) by omega), cond_true, g15L261778_eq]
      have el := fun a b => unlike_row (C := C) N hN hF hT hlt a b (F.2.1.length : Int) N 0 (by omega) (by omega)
      simp only [Int.natCast_zero] at el
      rw [el, wn s (by omega)]
      exact unlike_loop N hN hF hT k0 k1 G (s + 1) (by omega) (by omega)
    · rw [decide_eq_false (show ¬ (s : Int) < (F.2.1.length : Int) by omega), cond_false]

/-! ### Each is met -/
theorem getB_set {l : List Bool} {i : Nat} (v : Bool) (h : i < l.length) (j : Nat) : (l.set i v).getD j false = if i = j then v else l.getD j false := by
  rw [List.getD_eq_getElem?_getD, List.getD_eq_getElem?_getD, List.getElem?_set]
  split
  · rename_i e; subst e; simp [h]
  · rfl

theorem met_row (N : Nat) {F : MM} (hT : Tame F) {s : Nat} (hs : s < F.2.1.length) {C : Type} (k0 : Int → Int → Int → MM → List Bool → Option C) (n q : Int) :
    ∀ (G r : Nat) (met : List Bool), F.1.toNat - r < G → (r : Int) ≤ F.1 → met.length = F.2.1.length → met.getD s false = true → (∀ k, k < r → met.getD (dM F s k) false = true) →
      ∃ met', g15L134194322f N G k0 n q (s : Int) (r : Int) F met = k0 n q (s : Int) F met' ∧ met'.length = F.2.1.length ∧ (∀ j, met.getD j false = true → met'.getD j false = true) ∧ ∀ k : Nat, (k : Int) < F.1 → met'.getD (dM F s k) false = true
  | 0, r, met, hG, _, _, _, _ => by omega
  | G + 1, r, met, hG, hr, hl, hms, hall => by
    rw [g15L134194322f_succ]
    unfold g15L134194322B
    have hw := hT.wm
    have hb := hT.base
    have hrow := hw.row s hs
    have hn := hw.next
    by_cases hlt : (r : Int) < F.1
    · have hat := hw.at hs hlt
      rw [decide_eq_true hlt, cond_true, if_pos (⟨by omega, by omega⟩ : idx _ _), if_pos (by omega), Int.toNat_natCast, hms, cond_true, if_pos (⟨by omega, by omega⟩ : idx _ _), if_pos (⟨by omega, by omega⟩ : idx _ _), Int.toNat_natCast, hat.1, if_pos (⟨by omega, by omega⟩ : idx _ _), if_pos (by omega), wn r (by omega), Int.toNat_natCast]
      obtain ⟨met', e1, e2, e3, e4⟩ := met_row N hT hs k0 n q G (r + 1) (met.set (dM F s r) true) (by omega) (by omega) (by rw [List.length_set]; exact hl) (by rw [getB_set _ (by omega)]; split; rfl; exact hms) (fun k hk => by
        rw [getB_set _ (by omega)]
        split
        · rfl
        · rename_i hne
          by_cases hkr : k = r
          · subst hkr; exact absurd rfl hne
          · exact hall k (by omega))
      exact ⟨met', e1, e2, fun j hj => e3 j (by rw [getB_set _ (by omega)]; split; rfl; exact hj), e4⟩
    · rw [decide_eq_false hlt, cond_false]
      exact ⟨met, rfl, hl, fun j hj => hj, fun k hk => hall k (by omega)⟩

theorem met_states (N : Nat) (hN : 1001 < N) {F : MM} (hF : Form F) (hT : Tame F) {C : Type} (k0 : Int → Int → MM → List Bool → Option C) (q : Int) :
    ∀ (G s : Nat) (met : List Bool), F.2.1.length - s < G → s ≤ F.2.1.length → met.length = F.2.1.length → met.getD 0 false = true → (∀ i, i < s → ∀ k : Nat, (k : Int) < F.1 → met.getD (dM F i k) false = true) →
      ∃ met', g15L2096786f N G k0 (F.2.1.length : Int) q (s : Int) F met = k0 (F.2.1.length : Int) q F met' ∧ met'.length = F.2.1.length ∧ ∀ j, j < F.2.1.length → met'.getD j false = true
  | 0, s, met, hG, _, _, _, _ => by omega
  | G + 1, s, met, hG, hs, hl, h0, hall => by
    rw [g15L2096786f_succ]
    unfold g15L2096786B
    have hm := hT.many
    have hb := hT.base
    by_cases hlt : s < F.2.1.length
    · have hms : met.getD s false = true := by
        rcases Nat.eq_zero_or_pos s with h | h
        · subst h; exact h0
        · obtain ⟨i, r, i1, i2, i3⟩ := hF.met h hlt
          rw [← i3]; exact hall i i1 r i2
      rw [decide_eq_true (show (s : Int) < (F.2.1.length : Int) by omega), cond_true, g15L134194322_eq]
      have el := fun k => met_row (C := C) N hT hlt k (F.2.1.length : Int) q N 0 met (by omega) (by omega) hl hms (fun k hk => by omega)
      simp only [Int.natCast_zero] at el
      obtain ⟨met', e1, e2, e3, e4⟩ := el (fun e29 e30 e31 e32 e33 => g15L2096786f N G k0 e29 e30 (IntKind.wrap .i64 (e31 + 1)) e32 e33)
      refine (show _ = _ from e1) ▸ ?_
      rw [wn s (by omega)]
      exact met_states N hN hF hT k0 q G (s + 1) met' (by omega) (by omega) e2 (e3 0 h0) (fun i hi k hk => by
        by_cases his : i = s
        · subst his; exact e4 k hk
        · exact e3 _ (hall i (by omega) k hk))
    · rw [decide_eq_false (show ¬ (s : Int) < (F.2.1.length : Int) by omega), cond_false]
      refine ⟨met, rfl, hl, fun j hj => ?_⟩
      rcases Nat.eq_zero_or_pos j with h | h
      · subst h; exact h0
      · obtain ⟨i, r, i1, i2, i3⟩ := hF.met h hj
        rw [← i3]; exact hall i (by omega) r i2

theorem met_rounds (N : Nat) (hN : 1001 < N) {F : MM} (hF : Form F) (hT : Tame F) {C : Type} (k0 : Int → MM → List Bool → Option C) :
    ∀ (G q : Nat) (met : List Bool), F.2.1.length - q < G → q ≤ F.2.1.length → met.length = F.2.1.length → met.getD 0 false = true → (0 < q → ∀ j, j < F.2.1.length → met.getD j false = true) →
      ∃ met', g15L32762f N G k0 (F.2.1.length : Int) (q : Int) F met = k0 (F.2.1.length : Int) F met' ∧ met'.length = F.2.1.length ∧ ∀ j, j < F.2.1.length → met'.getD j false = true
  | 0, q, met, hG, _, _, _, _ => by omega
  | G + 1, q, met, hG, hq, hl, h0, hall => by
    rw [g15L32762f_succ]
    unfold g15L32762B
    have hm := hT.many
    by_cases hlt : q < F.2.1.length
    · rw [decide_eq_true (show (q : Int) < (F.2.1.length : Int) by omega), cond_true, g15L2096786_eq]
      have el := fun k => met_states (C := C) N hN hF hT k (q : Int) N 0 met (by omega) (by omega) hl h0 (fun i hi => by omega)
      simp only [Int.natCast_zero] at el
      obtain ⟨met', e1, e2, e3⟩ := el (fun e34 e35 e36 e37 => g15L32762f N G k0 e34 (IntKind.wrap .i64 (e35 + 1)) e36 e37)
      refine (show _ = _ from e1) ▸ ?_
      rw [wn q (by omega)]
      exact met_rounds N hN hF hT k0 G (q + 1) met' (by omega) (by omega) e2 (e3 0 (by omega)) (fun _ => e3)
    · rw [decide_eq_false (show ¬ (q : Int) < (F.2.1.length : Int) by omega), cond_false]
      exact ⟨met, rfl, hl, hall (by omega)⟩

theorem met_all (N : Nat) {C : Type} (k0 : Bool → List Bool → Option C) (k1 : List Bool → Option C) (n : Nat) (hn : n ≤ 12) (met : List Bool) (hl : met.length = n) (hall : ∀ j, j < n → met.getD j false = true) :
    ∀ (G j : Nat), n - j < G → j ≤ n → g15L65530f N G k0 k1 (n : Int) (j : Int) met = k1 met
  | 0, j, hG, _ => by omega
  | G + 1, j, hG, hj => by
    rw [g15L65530f_succ]
    unfold g15L65530B
    by_cases hlt : j < n
    · rw [decide_eq_true (show (j : Int) < (n : Int) by omega), cond_true, if_pos (⟨by omega, by omega⟩ : idx _ _), if_pos (by omega), Int.toNat_natCast, hall j hlt, Bool.not_true, cond_false, wn j (by omega)]
      exact met_all N k0 k1 n hn met hl hall G (j + 1) (by omega) (by omega)
    · rw [decide_eq_false (show ¬ (j : Int) < (n : Int) by omega), cond_false]

/-! ### The law -/
theorem kernels_awake : g24 2000 = some true := by kernel_rfl
theorem kernels_plain (a : MM) (kb : Int) : g15 2000 a kb = some true := by
  obtain ⟨b, e1, hb1, hb2⟩ := base_eq 2000 kb
  obtain ⟨x, e2, hx, hxb, hxn⟩ := tame_eq 2000 (by omega) a b 12 ⟨hb1, hb2⟩ ⟨by omega, by omega⟩
  have hb := hx.base
  have hm := hx.many
  obtain ⟨F, f1, _, fb, f, fs, fl, fe⟩ := forms_one hx.wm (by omega) 2000 (by omega) (by omega)
  have hz := Zed.of f.toWM hx.wm fb hx.zed fe
  have hT : Tame F := f.tame (by omega) (by omega) hz
  have hm2 := hT.many
  obtain ⟨G, g1, _, gb, g, gs, gl, ge⟩ := forms_one hT.wm (by omega) 2000 (by omega) (by omega)
  have : G = F := g.uniq f gb.symm gs
  subst this
  obtain ⟨v, d, s1, s2⟩ := same_eq hx hT fb 2000 (by omega)
  have hd : d = false := s2.2 (fs.symm fb.symm)
  subst hd
  have form_of : ∀ y : MM, Tame y → g69 2000 y = some G → g29 2000 y = some (G, 0, ()) := fun y hy e => by
    unfold g29
    rw [hy.check 2000 (by omega), Option.bind_some, not_ieq_self, cond_false, e]; rfl
  have ker_of : g46 2000 G = some ((G.2.1.length : Int), 0, ()) := by
    unfold g46
    rw [hT.check 2000 (by omega), Option.bind_some, not_ieq_self, cond_false, g1]; rfl
  have own1 : g33 2000 G = some G := by rw [own_eq 2000 (by omega), f.toWM.cut (by omega) (by omega)]
  unfold g15
  rw [e1, Option.bind_some, e2, Option.bind_some, hx.given 2000 (by omega), Option.bind_some, form_of x hx f1, Option.bind_some]
  dsimp only
  rw [form_of G hT g1, Option.bind_some, ker_of, Option.bind_some, s1, Option.bind_some, own1, Option.bind_some]
  dsimp only
  rw [not_ieq_self, cond_false, cond_false, cond_false, cond_false, Bool.not_false, Bool.not_true, cond_false, hT.ref 2000 (by omega), Option.bind_some, Bool.not_true, cond_false, Option.bind_some, f.toWM.same 2000 (by omega) (by omega) (by omega), Option.bind_some, Bool.not_true, cond_false, not_ieq_self, cond_false, g15L4090_eq]
  have u := fun k0 k1 => unlike_loop 2000 (by omega) f hT (C := Bool) k0 k1 2000 0 (by omega) (by omega)
  simp only [Int.natCast_zero] at u
  rw [u, if_pos (⟨rfl, by omega, by omega⟩ : mkOk _ _), if_pos (⟨by omega, by simp; omega⟩ : idx 0 _), if_pos (by simp; omega), g15L32762_eq]
  have m0 := fun k0 => met_rounds 2000 (by omega) f hT (C := Bool) k0 2000 0 (List.set (List.replicate (Int.toNat (G.2.1.length : Int)) false) (Int.toNat 0) true) (by omega) (by omega) (by simp) (by rw [show Int.toNat 0 = 0 from rfl, getB_set _ (by simp; omega)]; simp) (fun h => by omega)
  simp only [Int.natCast_zero] at m0
  obtain ⟨met, m1, m2, m3⟩ := m0 (fun e38 e39 e40 => g15L65530 2000 (fun e41 e42 => some e41) (fun e43 => Option.bind (g24 2000) fun r44 => some r44) e38 0 e40)
  refine Eq.trans m1 ?_
  rw [g15L65530_eq]
  have m4 := met_all 2000 (fun e41 e42 => some e41) (fun e43 => Option.bind (g24 2000) fun r44 => some r44) G.2.1.length (by omega) met m2 m3 2000 0 (by omega) (by omega)
  simp only [Int.natCast_zero] at m4
  rw [m4, kernels_awake]; rfl

theorem autoKernels_bnd (a : ProdT (List.map AS.d [MT, .int .i64])) (h : BndL [MT, .int .i64] a) : g15 2000 a.1 a.2.1 = some true := kernels_plain a.1 a.2.1

end Go.Pv
