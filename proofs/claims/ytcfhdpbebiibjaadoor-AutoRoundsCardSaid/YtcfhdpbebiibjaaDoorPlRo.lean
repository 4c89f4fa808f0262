/- Plain: a sequence that comes round: what the program builds (g61) is what the reference builds (g21). -/
import Derived.Test.YtcfhdpbebiibjaaDoorPlB61
set_option linter.unusedVariables false
set_option linter.unusedSimpArgs false
namespace Go.Pv

structure RoOk (b : Int) (hd rd : List Int) : Prop where
  base : 2 ≤ b ∧ b ≤ 5
  lh : hd.length ≤ 20
  lr : 1 ≤ rd.length ∧ rd.length ≤ 20
  dh : ∀ v ∈ hd, 0 ≤ v ∧ v ≤ 9
  dr : ∀ v ∈ rd, 0 ≤ v ∧ v ≤ 9

def redN (hd rd : List Int) (v : Int) : Int := if v < (hd.length : Int) then v else hd.length + (v - hd.length) % rd.length
theorem red_rng {b : Int} {hd rd : List Int} (h : RoOk b hd rd) {v : Int} (hv : 0 ≤ v) : 0 ≤ redN hd rd v ∧ redN hd rd v < (hd.length : Int) + rd.length := by
  have := h.lr
  unfold redN
  split
  · omega
  · have m1 := Int.emod_nonneg (v - hd.length) (show (rd.length : Int) ≠ 0 by omega)
    have m2 := Int.emod_lt_of_pos (v - hd.length) (show 0 < (rd.length : Int) by omega)
    omega

def roStep (b : Int) (hd rd : List Int) (t : PP) (r : Nat) : PP := (redN hd rd (t.1 * b), redN hd rd (t.2.1 + r * t.1), ())
def roOut (hd rd : List Int) (t : PP) : Int := if t.2.1 < (hd.length : Int) then hd.getD t.2.1.toNat 0 else rd.getD ((t.2.1 - hd.length) % rd.length).toNat 0
structure RoP (hd rd : List Int) (t : PP) : Prop where
  u : 0 ≤ t.1 ∧ t.1 < (hd.length : Int) + rd.length
  v : 0 ≤ t.2.1 ∧ t.2.1 < (hd.length : Int) + rd.length

theorem ro_mul {b : Int} {hd rd : List Int} (h : RoOk b hd rd) {t : PP} (ht : RoP hd rd t) {r : Nat} (hr : (r : Int) < b) : 0 ≤ t.1 * b ∧ t.1 * b ≤ 200 ∧ 0 ≤ (r : Int) * t.1 ∧ (r : Int) * t.1 ≤ 200 := by
  have h1 := h.base; have h2 := h.lh; have h3 := h.lr; have h4 := ht.u
  have a1 : 0 ≤ t.1 * b := Int.mul_nonneg h4.1 (by omega)
  have a2 : t.1 * b ≤ 40 * b := Int.mul_le_mul_of_nonneg_right (by omega) (by omega)
  have a3 : 0 ≤ (r : Int) * t.1 := Int.mul_nonneg (by omega) h4.1
  have a4 : (r : Int) * t.1 ≤ 5 * t.1 := Int.mul_le_mul_of_nonneg_right (by omega) h4.1
  omega
theorem ro_close {b : Int} {hd rd : List Int} (h : RoOk b hd rd) {t : PP} (ht : RoP hd rd t) {r : Nat} (hr : (r : Int) < b) : RoP hd rd (roStep b hd rd t r) := by
  obtain ⟨a1, a2, a3, a4⟩ := ro_mul h ht hr
  have := ht.v
  exact ⟨red_rng h a1, red_rng h (by omega)⟩

/-- The program's reducing (g59) and the reference's (g64). -/
theorem red_ref {b : Int} {hd rd : List Int} (h : RoOk b hd rd) (N : Nat) {v : Int} (hv : 0 ≤ v ∧ v ≤ 100000) : g64 N v (hd.length : Int) (rd.length : Int) = some (redN hd rd v) := by
  have h2 := h.lh; have h3 := h.lr
  unfold g64
  rw [w64 (x := (hd.length : Int) + rd.length) (by omega) (by omega)]
  by_cases hl : v < (hd.length : Int) + rd.length
  · rw [decide_eq_true hl, cond_true]
    unfold redN
    split
    · rfl
    · rw [Int.emod_eq_of_lt (by omega) (by omega)]; congr 1; omega
  · rw [decide_eq_false hl, cond_false, if_neg (by omega), w64 (x := v - hd.length) (by omega) (by omega), Int.tmod_eq_emod_of_nonneg (by omega)]
    have m1 := Int.emod_nonneg (v - hd.length) (show (rd.length : Int) ≠ 0 by omega)
    have m2 := Int.emod_lt_of_pos (v - hd.length) (show 0 < (rd.length : Int) by omega)
    rw [w64 (by omega) (by omega)]
    unfold redN
    rw [if_neg (by omega)]
theorem red_prog {b : Int} {hd rd : List Int} (h : RoOk b hd rd) (N : Nat) {u v : Int} (hu : 0 ≤ u ∧ u ≤ 100000) (hv : 0 ≤ v ∧ v ≤ 100000) : g59 N (u, v, ()) hd rd = some (redN hd rd u, redN hd rd v, ()) := by
  have h2 := h.lh; have h3 := h.lr
  have key : ∀ w : Int, 0 ≤ w → w ≤ 100000 → (hd.length : Int) ≤ w → IntKind.wrap .i64 ((hd.length : Int) + (Int.tmod (IntKind.wrap .i64 (w - hd.length)) (rd.length : Int))) = redN hd rd w := by
    intro w h0 h1 hl
    rw [w64 (x := w - hd.length) (by omega) (by omega), Int.tmod_eq_emod_of_nonneg (by omega)]
    have m1 := Int.emod_nonneg (w - hd.length) (show (rd.length : Int) ≠ 0 by omega)
    have m2 := Int.emod_lt_of_pos (w - hd.length) (show 0 < (rd.length : Int) by omega)
    rw [w64 (by omega) (by omega)]
    unfold redN
    rw [if_neg (by omega)]
  have kl : ∀ w : Int, ¬ (hd.length : Int) ≤ w → redN hd rd w = w := fun w hw => by unfold redN; rw [if_pos (by omega)]
  have hz : ¬ (rd.length : Int) = 0 := by omega
  unfold g59
  simp only
  by_cases b1 : (hd.length : Int) ≤ v
  · by_cases b2 : (hd.length : Int) ≤ u
    · rw [decide_eq_true b1, decide_eq_true b2, cond_true, cond_true, if_neg hz, if_neg hz, key u hu.1 hu.2 b2, key v hv.1 hv.2 b1]
    · rw [decide_eq_true b1, decide_eq_false b2, cond_true, cond_false, if_neg hz, key v hv.1 hv.2 b1, kl u b2]
  · by_cases b2 : (hd.length : Int) ≤ u
    · rw [decide_eq_false b1, decide_eq_true b2, cond_false, cond_true, if_neg hz, key u hu.1 hu.2 b2, kl v b1]
    · rw [decide_eq_false b1, decide_eq_false b2, cond_false, cond_false, kl u b2, kl v b1]

theorem out_prog {b : Int} {hd rd : List Int} (h : RoOk b hd rd) (N : Nat) {t : PP} (ht : RoP hd rd t) : g58 N t.2.1 hd rd = some (roOut hd rd t) := by
  have h2 := h.lh; have h3 := h.lr; have h4 := ht.v
  unfold g58 roOut
  by_cases hl : t.2.1 < (hd.length : Int)
  · rw [decide_eq_true hl, cond_true, if_pos (⟨by omega, by omega⟩ : idx _ _), if_pos hl]
  · rw [decide_eq_false hl, cond_false, if_neg (by omega), w64 (by omega) (by omega), Int.tmod_eq_emod_of_nonneg (by omega)]
    have m1 := Int.emod_nonneg (t.2.1 - hd.length) (show (rd.length : Int) ≠ 0 by omega)
    have m2 := Int.emod_lt_of_pos (t.2.1 - hd.length) (show 0 < (rd.length : Int) by omega)
    rw [if_pos (⟨by omega, by omega⟩ : idx _ _), if_neg hl]
theorem out_rng {b : Int} {hd rd : List Int} (h : RoOk b hd rd) {t : PP} (ht : RoP hd rd t) : 0 ≤ roOut hd rd t ∧ roOut hd rd t ≤ 9 := by
  have h2 := h.lh; have h3 := h.lr; have h4 := ht.v
  unfold roOut
  split
  · exact h.dh _ (getD_mem (by omega) 0)
  · have m1 := Int.emod_nonneg (t.2.1 - hd.length) (show (rd.length : Int) ≠ 0 by omega)
    have m2 := Int.emod_lt_of_pos (t.2.1 - hd.length) (show 0 < (rd.length : Int) by omega)
    exact h.dr _ (getD_mem (by omega) 0)

theorem ro_bnd {b : Int} {hd rd : List Int} (h : RoOk b hd rd) : ∀ t : PP, RoP hd rd t → 0 ≤ t.1 * 40 + t.2.1 ∧ t.1 * 40 + t.2.1 < ((1600 : Nat) : Int) := fun t ht => by
  have h2 := h.lh; have h3 := h.lr; have h4 := ht.u; have h5 := ht.v
  omega
theorem ro_inj {b : Int} {hd rd : List Int} (h : RoOk b hd rd) : ∀ t u : PP, RoP hd rd t → RoP hd rd u → t.1 * 40 + t.2.1 = u.1 * 40 + u.2.1 → t = u := fun t u ht hu he => by
  have h2 := h.lh; have h3 := h.lr; have h4 := ht.u; have h5 := ht.v; have h6 := hu.u; have h7 := hu.v
  obtain ⟨t1, t2, ⟨⟩⟩ := t
  obtain ⟨u1, u2, ⟨⟩⟩ := u
  simp only at *
  have : t1 = u1 := by omega
  have : t2 = u2 := by omega
  subst_vars; rfl

abbrev roA (hd rd : List Int) : PP := (redN hd rd 1, redN hd rd 0, ())
theorem roA_ok {b : Int} {hd rd : List Int} (h : RoOk b hd rd) : RoP hd rd (roA hd rd) := ⟨red_rng h (by omega), red_rng h (by omega)⟩

theorem round_built {b : Int} {hd rd : List Int} (h : RoOk b hd rd) (N : Nat) (hN : 1700 < N) :
    ∃ H l, g61 N b (roA hd rd) (fun (x14 : PP × Unit) => Option.bind (g62 N x14.1 (fun (x11 : Int × Unit) => Option.bind (g58 N x11.1 hd rd) fun y12 => some y12)) fun y15 => some y15)
        (fun (x16 : PP × Int × Unit) => Option.bind (g63 N x16.1 x16.2.1 (fun (x7 : PP × Unit) => Option.bind (g59 N x7.1 hd rd) fun y8 => some y8) b) fun y17 => some y17) = some H ∧
      (∀ t ∈ l, RoP hd rd t) ∧ WM H ∧ H.1 = b ∧ H.2.1.length ≤ 1600 ∧ bfs (0, 0, ()) idK (roOut hd rd) (roStep b hd rd) b.toNat N 0 [roA hd rd] [] [] = some (l, H.2.1, H.2.2.1) := by
  have hb := h.base
  obtain ⟨H, l, e, hd', hl, hlen, hbf⟩ := built_eq61 N (b := b.toNat) (by omega) (by omega) (roA hd rd) (fun (x14 : PP × Unit) => Option.bind (g62 N x14.1 (fun (x11 : Int × Unit) => Option.bind (g58 N x11.1 hd rd) fun y12 => some y12)) fun y15 => some y15)
    (fun (x16 : PP × Int × Unit) => Option.bind (g63 N x16.1 x16.2.1 (fun (x7 : PP × Unit) => Option.bind (g59 N x7.1 hd rd) fun y8 => some y8) b) fun y17 => some y17)
    (roOut hd rd) (roStep b hd rd) (RoP hd rd) (fun t ht r hr => ro_close h ht (by omega)) 1600 (fun t => t.1 * 40 + t.2.1) (ro_bnd h) (ro_inj h) (by omega) (by omega)
    (fun t ht => by
      show Option.bind (g62 N t (fun (x11 : Int × Unit) => Option.bind (g58 N x11.1 hd rd) fun y12 => some y12)) (fun y15 => some y15) = _
      unfold g62
      simp only
      rw [out_prog h N ht]; rfl)
    (fun t ht r hr => by
      show Option.bind (g63 N t (r : Int) (fun (x7 : PP × Unit) => Option.bind (g59 N x7.1 hd rd) fun y8 => some y8) b) (fun y17 => some y17) = _
      obtain ⟨a1, a2, a3, a4⟩ := ro_mul h ht (r := r) (by omega)
      have := ht.v; have := h.lh; have := h.lr
      unfold g63
      simp only
      rw [w64 (x := t.1 * b) (by omega) (by omega), w64 (x := (r : Int) * t.1) (by omega) (by omega), w64 (by omega) (by omega), red_prog h N (by omega) (by omega)]; rfl) (roA_ok h)
  have eb : ((b.toNat : Nat) : Int) = b := by omega
  rw [eb] at e
  exact ⟨H, l, e, hl, hd'.wm (by omega) (fun t ht => out_rng h (hl t ht)), by rw [hd'.base]; exact eb, hlen, hbf⟩

/-! ### The reference's (g21) -/
theorem ref_round_row (N : Nat) {b : Int} {hd rd : List Int} (h : RoOk b hd rd) {D : Type} (k0 : Int → List Int → List Int → Int → Int → Int → Int → Int → Int → List Int → List (List Int) → List (List Int × Int) → List Int → List (List Int) → List Int → List (List Int) → Option D)
    (i : Int) (t : PP) (ht : RoP hd rd t) (a1 a2 : Int) (u1 : List Int) (u2 : List (List Int)) (o1 : List Int) (o2 : List (List Int)) :
    ∀ (F r : Nat) (row : List Int) (q : List PP), b.toNat - r < F → (r : Int) ≤ b → row.length ≤ r → q.length ≤ 100000 + r →
      g21L259226f N F k0 b hd rd (hd.length : Int) (rd.length : Int) i t.1 t.2.1 (r : Int) a1 a2 row (q.map arrP) (mpairs 0 (q.map arrP)) u1 u2 o1 o2 =
        k0 b hd rd (hd.length : Int) (rd.length : Int) i t.2.1 a1 a2 (bfsRow idK (roStep b hd rd) t ((List.range b.toNat).drop r) row q).1 ((bfsRow idK (roStep b hd rd) t ((List.range b.toNat).drop r) row q).2.map arrP) (mpairs 0 ((bfsRow idK (roStep b hd rd) t ((List.range b.toNat).drop r) row q).2.map arrP)) u1 u2 o1 o2
  | 0, r, row, q, hF, _, _, _ => by omega
  | F + 1, r, row, q, hF, hr, h1, h2 => by
    rw [g21L259226f_succ]
    unfold g21L259226B
    have hb := h.base
    by_cases hlt : (r : Int) < b
    · obtain ⟨p1, p2, p3, p4⟩ := ro_mul h ht (r := r) hlt
      have := ht.v; have := h.lh; have := h.lr
      have e1 : decide ((r : Int) < b) = true := by simpa using hlt
      rw [e1, cond_true, w64 (x := t.1 * b) (by omega) (by omega), red_ref h N (by omega), Option.bind_some, Int.mul_comm t.1 (r : Int), w64 (x := (r : Int) * t.1) (by omega) (by omega), Int.add_comm, w64 (x := t.2.1 + (r : Int) * t.1) (by omega) (by omega), red_ref h N (by omega), Option.bind_some, set_pair, range_drop (by omega)]
      unfold bfsRow
      rw [map_idK]
      rw [show ([redN hd rd (t.1 * b), redN hd rd (t.2.1 + (r : Int) * t.1)] : List Int) = arrP (roStep b hd rd t r) from rfl]
      unfold g65
      rw [find_mpairs (arr_eq 2)]
      by_cases hm : roStep b hd rd t r ∈ q
      · rw [if_pos ((mem_inj (fun a b => arrP_inj)).2 hm), if_pos hm]
        simp only [Option.isSome_some, Bool.not_true, cond_false, Option.bind_some]
        rw [if_pos (by simp only [List.length_cons, List.length_nil, maxCount]; omega), Option.getD_some, wn r (by omega), Nat.zero_add, posOf_inj_map (fun a b => arrP_inj)]
        exact ref_round_row N h k0 i t ht a1 a2 u1 u2 o1 o2 F (r + 1) _ q (by omega) (by omega) (by simp; omega) (by omega)
      · rw [if_neg (fun h => hm ((mem_inj (fun a b => arrP_inj)).1 h)), if_neg hm]
        simp only [Option.isSome_none, Bool.not_false, cond_true, Option.bind_some, Bool.not_false]
        rw [if_pos (by simp only [List.length_cons, List.length_nil, List.length_map, maxCount]; omega), if_pos (by simp only [List.length_cons, List.length_nil, maxCount]; omega), wn r (by omega)]
        rw [put_mpairs (arr_eq 2) _ _ _ _ (fun h => hm ((mem_inj (fun a b => arrP_inj)).1 h)), show mpairs 0 (q.map arrP) ++ [(arrP (roStep b hd rd t r), ((q.map arrP).length : Int))] = mpairs 0 ((q ++ [roStep b hd rd t r]).map arrP) by rw [List.map_append, List.map_cons, List.map_nil, mpairs_snoc]; simp]
        rw [show q.map arrP ++ [arrP (roStep b hd rd t r)] = (q ++ [roStep b hd rd t r]).map arrP by simp, List.length_map]
        exact ref_round_row N h k0 i t ht a1 a2 u1 u2 o1 o2 F (r + 1) _ _ (by omega) (by omega) (by simp; omega) (by simp; omega)
    · have e1 : decide ((r : Int) < b) = false := by simpa using hlt
      rw [e1, cond_false, List.drop_of_length_le (by simp; omega)]; rfl

theorem ref_round_loop (N : Nat) {b : Int} {hd rd : List Int} (h : RoOk b hd rd) (hN : 1700 < N) {D : Type} (k0 : Int → Int → List (List Int) → List (List Int × Int) → List Int → List (List Int) → List Int → List (List Int) → Option D)
    (a1 a2 : Int) (u1 : List Int) (u2 : List (List Int)) :
    ∀ (F i : Nat) (q : List PP) (o1 : List Int) (o2 : List (List Int)) (l : List PP) (outs : List Int) (rows : List (List Int)), bfs (0, 0, ()) idK (roOut hd rd) (roStep b hd rd) b.toNat F i q o1 o2 = some (l, outs, rows) → (∀ t ∈ q, RoP hd rd t) → q.Nodup → i ≤ q.length → o1.length = i → o2.length = i →
      g21L506f N F k0 b hd rd (hd.length : Int) (rd.length : Int) (i : Int) a1 a2 (q.map arrP) (mpairs 0 (q.map arrP)) u1 u2 o1 o2 = k0 a1 a2 (l.map arrP) (mpairs 0 (l.map arrP)) u1 u2 outs rows
  | 0, i, q, o1, o2, l, outs, rows, hh, _, _, _, _, _ => by simp [bfs] at hh
  | F + 1, i, q, o1, o2, l, outs, rows, hh, hq, hn, hi, l1, l2 => by
    rw [g21L506f_succ]
    unfold g21L506B
    unfold bfs at hh
    have hb := h.base
    have hh2 := h.lh
    have hr2 := h.lr
    have hlen : q.length ≤ 1600 := pigeon_num idK (fun t : PP => t.1 * 40 + t.2.1) (ro_inj h) (ro_bnd h) hq (by rw [map_idK]; exact hn)
    by_cases hlt : i < q.length
    · rw [if_pos hlt] at hh
      have e1 : decide ((i : Int) < ((q.map arrP).length : Int)) = true := by rw [decide_eq_true_iff, List.length_map]; omega
      have e2 : idx (i : Int) (q.map arrP).length := ⟨by omega, by rw [List.length_map]; omega⟩
      have e3 : Int.toNat (i : Int) < (q.map arrP).length := by rw [List.length_map]; omega
      have hs := hq _ (getD_mem hlt (0, 0, ()))
      rw [e1, cond_true, if_pos e2, if_pos (⟨by omega, by omega⟩ : idx 0 2), if_pos e3, if_pos e2, if_pos (⟨by omega, by omega⟩ : idx 1 2), if_pos e3, Int.toNat_natCast, g21L259226_eq, arrP_get q hlt]
      revert hh hs
      generalize q.getD i (0, 0, ()) = t
      intro hh hs
      have el := fun k0 => ref_round_row (D := D) N h k0 (i : Int) t hs a1 a2 u1 u2 o1 o2 N 0 [] q (by omega) (by omega) (by simp) (by omega)
      simp only [Int.natCast_zero, List.drop_zero] at el
      rw [show (arrP t).getD (Int.toNat 0) 0 = t.1 from rfl, show (arrP t).getD (Int.toNat 1) 0 = t.2.1 from rfl, el]
      obtain ⟨new, ext, e, g1, g2, g3, g4, g5⟩ := bfsRow_spec idK (roStep b hd rd) t (RoP hd rd) (List.range b.toNat) [] q (fun r hr => ro_close h hs (by have := List.mem_range.1 hr; omega)) hq (by rw [map_idK]; exact hn)
      rw [e] at hh ⊢
      dsimp only at hh ⊢
      rw [List.nil_append] at hh ⊢
      have rec' := ref_round_loop N h hN k0 a1 a2 u1 u2 F (i + 1) (q ++ ext) _ _ l outs rows hh (fun t ht => by
        rcases List.mem_append.1 ht with ht | ht
        · exact hq t ht
        · exact g3 t ht) (by rw [map_idK] at g4; exact g4) (by simp; omega) (by simp [l1]) (by simp [l2])
      have hv := hs.v
      unfold roOut at rec'
      by_cases hl : t.2.1 < (hd.length : Int)
      · rw [decide_eq_true hl, cond_true, if_pos (⟨by omega, by omega⟩ : idx _ _), if_pos (by simp only [List.length_cons, List.length_nil, maxCount]; omega), if_pos (by simp only [List.length_cons, List.length_nil, maxCount]; omega), wn i (by omega)]
        rw [if_pos hl] at rec'
        exact rec'
      · have m1 := Int.emod_nonneg (t.2.1 - hd.length) (show (rd.length : Int) ≠ 0 by omega)
        have m2 := Int.emod_lt_of_pos (t.2.1 - hd.length) (show 0 < (rd.length : Int) by omega)
        rw [decide_eq_false hl, cond_false, if_neg (by omega), w64 (x := t.2.1 - hd.length) (by omega) (by omega), Int.tmod_eq_emod_of_nonneg (by omega), if_pos (⟨by omega, by omega⟩ : idx _ _), if_pos (by simp only [List.length_cons, List.length_nil, maxCount]; omega), if_pos (by simp only [List.length_cons, List.length_nil, maxCount]; omega), wn i (by omega)]
        rw [if_neg hl] at rec'
        exact rec'
    · rw [if_neg hlt] at hh
      have e1 : decide ((i : Int) < ((q.map arrP).length : Int)) = false := by rw [decide_eq_false_iff_not, List.length_map]; omega
      rw [e1, cond_false]
      simp only [Option.some.injEq, Prod.mk.injEq] at hh
      obtain ⟨rfl, rfl, rfl⟩ := hh
      rfl

end Go.Pv
