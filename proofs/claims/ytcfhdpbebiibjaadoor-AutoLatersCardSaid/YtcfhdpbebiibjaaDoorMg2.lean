/- Plain texts, merged: PlEv, PlAt0, PlSeq, PlEvf. -/
import Derived.Test.YtcfhdpbebiibjaaDoorMg1
/- Plain: every k-th number from c: what the program builds (g73) is what the reference builds (g39). -/
set_option linter.unusedVariables false
set_option linter.unusedSimpArgs false
namespace Go.Pv

/-- The number that stands where the digits of n lead from a state. -/
theorem at_any {x : MM} (h : Tame x) (N : Nat) (hN : 100 ≤ N) (s n : Int) (hs0 : 0 ≤ s) (hs1 : s < (x.2.1.length : Int)) (h0 : 0 ≤ n) (h1 : n < 9223372036854775808) : ∃ v, g70 N x s n = some v ∧ 0 ≤ v ∧ v ≤ 9 := by
  have h63 : n < (2 : Int) ^ 63 := by
    have h2 : (2 : Int) ^ 63 = 9223372036854775808 := by decide
    rw [h2]; exact h1
  obtain ⟨sf, e1, e2, e3⟩ := at_total h 63 n s hs0 hs1 h63 h0 (by omega)
  have e4 := atP_more x.2.2.1 x.1 64 (N - 64) n s sf e1
  rw [show 64 + (N - 64) = N by omega] at e4
  have hs : sf.toNat < x.2.1.length := by omega
  have hm : x.2.1.getD sf.toNat 0 ∈ x.2.1 := getD_mem hs 0
  refine ⟨x.2.1.getD sf.toNat 0, ?_, h.out _ hm⟩
  unfold g70
  rw [e4]
  simp only [Option.bind_some]
  rw [if_pos ⟨e2, e3⟩]

def evStep (x : MM) (k : Int) (t : PP) (r : Nat) : PP := ((dM x t.1.toNat ((k * r + t.2.1) % x.1).toNat : Int), (k * r + t.2.1) / x.1, ())
def evOut (x : MM) (N : Nat) (t : PP) : Int := (g70 N x t.1 t.2.1).getD 0
structure EvP (x : MM) (C : Int) (t : PP) : Prop where
  s : 0 ≤ t.1 ∧ t.1 < (x.2.1.length : Int)
  c : 0 ≤ t.2.1 ∧ t.2.1 ≤ C

theorem ev_num {x : MM} (hx : WM x) {k C : Int} (hk : 0 ≤ k ∧ k ≤ C + 1) (hC : C ≤ 1000) {t : PP} (ht : EvP x C t) {r : Nat} (hr : (r : Int) < x.1) : 0 ≤ k * r + t.2.1 ∧ k * r + t.2.1 < x.1 * (C + 1) ∧ 0 ≤ k * (r : Int) ∧ k * (r : Int) ≤ 1001000 ∧ x.1 * (C + 1) ≤ 1001000 := by
  have hb := hx.base
  have hc := ht.c
  have h1 : 0 ≤ k * (r : Int) := Int.mul_nonneg hk.1 (by omega)
  have h2 : k * (r : Int) ≤ (C + 1) * (r : Int) := Int.mul_le_mul_of_nonneg_right hk.2 (by omega)
  have h3 : (C + 1) * (r : Int) ≤ (C + 1) * (x.1 - 1) := Int.mul_le_mul_of_nonneg_left (by omega) (by omega)
  have h4 : (C + 1) * (x.1 - 1) = x.1 * (C + 1) - (C + 1) := by rw [Int.mul_sub, Int.mul_comm, Int.mul_one]
  have h5 : x.1 * (C + 1) ≤ 1000 * (C + 1) := Int.mul_le_mul_of_nonneg_right hb.2 (by omega)
  omega

theorem ev_step {x : MM} (hx : WM x) {k C : Int} (hk : 0 ≤ k ∧ k ≤ C + 1) (hC : C ≤ 1000) {t : PP} (ht : EvP x C t) {r : Nat} (hr : (r : Int) < x.1) :
    EvP x C (evStep x k t r) ∧ (IntKind.wrap .i64 ((IntKind.wrap .i64 (k * r)) + t.2.1)) = k * r + t.2.1 ∧ Int.tmod (k * r + t.2.1) x.1 = (k * r + t.2.1) % x.1 ∧ IntKind.wrap .i64 (Int.tdiv (k * r + t.2.1) x.1) = (k * r + t.2.1) / x.1 ∧
      idx t.1 x.2.2.1.length ∧ idx ((k * r + t.2.1) % x.1) (x.2.2.1.getD t.1.toNat []).length ∧ (x.2.2.1.getD t.1.toNat []).getD ((k * r + t.2.1) % x.1).toNat 0 = (dM x t.1.toNat ((k * r + t.2.1) % x.1).toNat : Int) := by
  have hb := hx.base
  have hs := ht.s
  have hc := ht.c
  have hn := hx.next
  obtain ⟨n0, n1, n2, n3, n4⟩ := ev_num hx hk hC ht hr
  generalize hv : k * (r : Int) + t.2.1 = v at *
  have m1 := Int.emod_nonneg v (show x.1 ≠ 0 by omega)
  have m2 := Int.emod_lt_of_pos v (show 0 < x.1 by omega)
  have d1 : 0 ≤ v / x.1 := Int.ediv_nonneg n0 (by omega)
  have d2 : v / x.1 < C + 1 := Int.ediv_lt_of_lt_mul (by omega) (by rw [Int.mul_comm]; exact n1)
  have ht' : t.1.toNat < x.2.1.length := by omega
  have hrow := hx.row _ ht'
  have hat := hx.at ht' (r := (v % x.1).toNat) (by omega)
  refine ⟨⟨?_, ?_⟩, ?_, ?_, ?_, ⟨by omega, by omega⟩, ⟨m1, by omega⟩, hat.1⟩
  · unfold evStep; simp only [hv]; omega
  · unfold evStep; simp only [hv]; omega
  · rw [w64 (x := k * (r : Int)) (by omega) (by omega), hv]; exact w64 (by omega) (by omega)
  · exact Int.tmod_eq_emod_of_nonneg n0
  · rw [Int.tdiv_eq_ediv_of_nonneg n0]; exact w64 (by omega) (by omega)

theorem ev_bnd (x : MM) (C : Int) : ∀ t : PP, EvP x C t → 0 ≤ t.1 * (C + 1) + t.2.1 ∧ t.1 * (C + 1) + t.2.1 < ((x.2.1.length * (C + 1).toNat : Nat) : Int) := fun t ht => by
  have h1 := ht.s; have h2 := ht.c
  have hKe : ((x.2.1.length * (C + 1).toNat : Nat) : Int) = (x.2.1.length : Int) * (C + 1) := by rw [Int.natCast_mul, Int.toNat_of_nonneg (by omega)]
  have h3 : 0 ≤ t.1 * (C + 1) := Int.mul_nonneg h1.1 (by omega)
  have h4 : t.1 * (C + 1) ≤ ((x.2.1.length : Int) - 1) * (C + 1) := Int.mul_le_mul_of_nonneg_right (by omega) (by omega)
  rw [Int.sub_mul, Int.one_mul] at h4
  omega
theorem ev_inj (x : MM) (C : Int) : ∀ t u : PP, EvP x C t → EvP x C u → t.1 * (C + 1) + t.2.1 = u.1 * (C + 1) + u.2.1 → t = u := fun t u ht hu he => by
  have h1 := ht.c; have h2 := hu.c
  obtain ⟨t1, t2, ⟨⟩⟩ := t
  obtain ⟨u1, u2, ⟨⟩⟩ := u
  simp only at he h1 h2
  have e1 : t1 = (t1 * (C + 1) + t2) / (C + 1) := by
    rw [Int.add_comm, Int.add_mul_ediv_right _ _ (by omega), Int.ediv_eq_zero_of_lt (by omega) (by omega)]; omega
  have e2 : u1 = (u1 * (C + 1) + u2) / (C + 1) := by
    rw [Int.add_comm, Int.add_mul_ediv_right _ _ (by omega), Int.ediv_eq_zero_of_lt (by omega) (by omega)]; omega
  have e3 : t1 = u1 := by rw [e1, he]; exact e2.symm
  subst e3
  have : t2 = u2 := by omega
  rw [this]
theorem every_built {x : MM} (hx : Tame x) {k C c : Int} (hk : 0 ≤ k ∧ k ≤ C + 1) (hC : C ≤ 1000) (hc : 0 ≤ c ∧ c ≤ C) (N : Nat) (hN : 1001 < N) (hN2 : (x.2.1.length : Int) * (C + 1) < N) :
    ∃ H l, g73 N x k c = some H ∧ Disc (0, 0, ()) x.1.toNat idK (evOut x N) (evStep x k) (0, c, ()) H l ∧ (∀ t ∈ l, EvP x C t) ∧ WM H ∧ H.1 = x.1 ∧ H.2.1.length ≤ x.2.1.length * (C + 1).toNat ∧ bfs (0, 0, ()) idK (evOut x N) (evStep x k) x.1.toNat N 0 [(0, c, ())] [] [] = some (l, H.2.1, H.2.2.1) := by
  have hw := hx.wm
  have hb := hx.base
  have hm := hx.many
  have hNC : (x.2.1.length : Int) * (C + 1) ≤ 12 * (C + 1) := Int.mul_le_mul_of_nonneg_right (by omega) (by omega)
  have hKe : ((x.2.1.length * (C + 1).toNat : Nat) : Int) = (x.2.1.length : Int) * (C + 1) := by rw [Int.natCast_mul, Int.toNat_of_nonneg (by omega)]
  have ha : EvP x C (0, c, ()) := ⟨⟨by simp only; omega, by simp only; omega⟩, hc⟩
  obtain ⟨H, l, e, hd, hl, hlen, hbf⟩ := built_eq96 N (b := x.1.toNat) (by omega) hN (0, c, ()) (fun (x1 : PP × Unit) => Option.bind (g97 N x1.1 x) fun y2 => some y2) (fun (x3 : PP × Int × Unit) => Option.bind (g98 N x3.1 x3.2.1 k x) fun y4 => some y4)
    (evOut x N) (evStep x k) (EvP x C) (fun t ht r hr => (ev_step hw hk hC ht (by omega)).1) (x.2.1.length * (C + 1).toNat) (fun t => t.1 * (C + 1) + t.2.1)
    (ev_bnd x C) (ev_inj x C)
    (by omega) (by omega)
    (fun t ht => by
      show Option.bind (g97 N t x) (fun y2 => some y2) = _
      obtain ⟨v, q1, q2⟩ := at_any hx N (by omega) t.1 t.2.1 ht.s.1 ht.s.2 ht.c.1 (by have := ht.c; omega)
      unfold g97 evOut
      rw [q1]; rfl)
    (fun t ht r hr => by
      show Option.bind (g98 N t (r : Int) k x) (fun y4 => some y4) = _
      obtain ⟨q1, q2, q3, q4, q5, q6, q7⟩ := ev_step hw hk hC ht (r := r) (by omega)
      unfold g98
      rw [if_pos q5, if_neg (by omega), q2, q3, if_pos q6, if_neg (by omega), q4, q7]; rfl) ha
  have eb : ((x.1.toNat : Nat) : Int) = x.1 := by omega
  rw [eb] at e
  refine ⟨H, l, ?_, hd, hl, hd.wm (by omega) (fun t ht => ?_), by rw [hd.base]; exact eb, hlen, hbf⟩
  · unfold g73
    rw [e]; rfl
  · have ht := hl t ht
    obtain ⟨v, q1, q2⟩ := at_any hx N (by omega) t.1 t.2.1 ht.s.1 ht.s.2 ht.c.1 (by have := ht.c; omega)
    unfold evOut
    rw [q1]; exact q2

/-! ### The reference's (g39) -/
theorem ref_every_row (N : Nat) {x : MM} (hw : WM x) (hx3 : x.2.1.length ≤ 12) {k C : Int} (hk : 0 ≤ k ∧ k ≤ C + 1) (hC : C ≤ 1000) {D : Type} (k0 : Int → Int → Int → Int → MM → Int → Int → List Int → List (List Int) → List (List Int × Int) → List Int → List (List Int) → List Int → List (List Int) → Option D)
    (i : Int) (t : PP) (ht : EvP x C t) (a1 a2 : Int) (u1 : List Int) (u2 : List (List Int)) (o1 : List Int) (o2 : List (List Int)) :
    ∀ (F r : Nat) (row : List Int) (q : List PP), x.1.toNat - r < F → (r : Int) ≤ x.1 → row.length ≤ r → q.length ≤ 100000 + r →
      g39L128154f N F k0 k i t.1 t.2.1 (r : Int) x a1 a2 row (q.map arrP) (mpairs 0 (q.map arrP)) u1 u2 o1 o2 =
        k0 k i t.1 t.2.1 x a1 a2 (bfsRow idK (evStep x k) t ((List.range x.1.toNat).drop r) row q).1 ((bfsRow idK (evStep x k) t ((List.range x.1.toNat).drop r) row q).2.map arrP) (mpairs 0 ((bfsRow idK (evStep x k) t ((List.range x.1.toNat).drop r) row q).2.map arrP)) u1 u2 o1 o2
  | 0, r, row, q, hF, _, _, _ => by omega
  | F + 1, r, row, q, hF, hr, h1, h2 => by
    rw [g39L128154f_succ]
    unfold g39L128154B
    have hb := hw.base
    by_cases hlt : (r : Int) < x.1
    · obtain ⟨q1, q2, q3, q4, q5, q6, q7⟩ := ev_step hw hk hC ht (r := r) hlt
      have e1 : decide ((r : Int) < x.1) = true := by simpa using hlt
      rw [e1, cond_true, if_pos q5, if_neg (by omega), q2, q3, if_pos q6, if_neg (by omega), q4, q7, set_pair, range_drop (by omega)]
      unfold bfsRow
      rw [map_idK]
      rw [show ([(dM x t.1.toNat ((k * r + t.2.1) % x.1).toNat : Int), (k * r + t.2.1) / x.1] : List Int) = arrP (evStep x k t r) from rfl]
      unfold g65
      rw [find_mpairs (arr_eq 2)]
      by_cases hm : evStep x k t r ∈ q
      · rw [if_pos ((mem_inj (fun a b => arrP_inj)).2 hm), if_pos hm]
        simp only [Option.isSome_some, Bool.not_true, cond_false, Option.bind_some]
        rw [if_pos (by simp only [List.length_cons, List.length_nil, maxCount]; omega), Option.getD_some, wn r (by omega), Nat.zero_add, posOf_inj_map (fun a b => arrP_inj)]
        exact ref_every_row N hw hx3 hk hC k0 i t ht a1 a2 u1 u2 o1 o2 F (r + 1) _ q (by omega) (by omega) (by simp; omega) (by omega)
      · rw [if_neg (fun h => hm ((mem_inj (fun a b => arrP_inj)).1 h)), if_neg hm]
        simp only [Option.isSome_none, Bool.not_false, cond_true, Option.bind_some, Bool.not_false]
        rw [if_pos (by simp only [List.length_cons, List.length_nil, List.length_map, maxCount]; omega), if_pos (by simp only [List.length_cons, List.length_nil, maxCount]; omega), wn r (by omega)]
        rw [put_mpairs (arr_eq 2) _ _ _ _ (fun h => hm ((mem_inj (fun a b => arrP_inj)).1 h)), show mpairs 0 (q.map arrP) ++ [(arrP (evStep x k t r), ((q.map arrP).length : Int))] = mpairs 0 ((q ++ [evStep x k t r]).map arrP) by rw [List.map_append, List.map_cons, List.map_nil, mpairs_snoc]; simp]
        rw [show q.map arrP ++ [arrP (evStep x k t r)] = (q ++ [evStep x k t r]).map arrP by simp, List.length_map]
        exact ref_every_row N hw hx3 hk hC k0 i t ht a1 a2 u1 u2 o1 o2 F (r + 1) _ _ (by omega) (by omega) (by simp; omega) (by simp; omega)
    · have e1 : decide ((r : Int) < x.1) = false := by simpa using hlt
      rw [e1, cond_false, List.drop_of_length_le (by simp; omega)]; rfl

theorem ref_every_loop (N : Nat) {x : MM} (hx : Tame x) {k C : Int} (hk : 0 ≤ k ∧ k ≤ C + 1) (hC : C ≤ 1000) (hN : 1001 < N) {D : Type} (k0 : MM → Int → Int → List (List Int) → List (List Int × Int) → List Int → List (List Int) → List Int → List (List Int) → Option D)
    (a1 a2 : Int) (u1 : List Int) (u2 : List (List Int)) :
    ∀ (F i : Nat) (q : List PP) (o1 : List Int) (o2 : List (List Int)) (l : List PP) (outs : List Int) (rows : List (List Int)), bfs (0, 0, ()) idK (evOut x N) (evStep x k) x.1.toNat F i q o1 o2 = some (l, outs, rows) → (∀ t ∈ q, EvP x C t) → q.Nodup → i ≤ q.length → o1.length = i → o2.length = i →
      g39L250f N F k0 k (i : Int) x a1 a2 (q.map arrP) (mpairs 0 (q.map arrP)) u1 u2 o1 o2 = k0 x a1 a2 (l.map arrP) (mpairs 0 (l.map arrP)) u1 u2 outs rows
  | 0, i, q, o1, o2, l, outs, rows, h, _, _, _, _, _ => by simp [bfs] at h
  | F + 1, i, q, o1, o2, l, outs, rows, h, hq, hn, hi, l1, l2 => by
    rw [g39L250f_succ]
    unfold g39L250B
    unfold bfs at h
    have hw := hx.wm
    have hb := hx.base
    have hm := hx.many
    have hlen : q.length ≤ x.2.1.length * (C + 1).toNat := pigeon_num idK (fun t : PP => t.1 * (C + 1) + t.2.1) (ev_inj x C) (ev_bnd x C) hq (by rw [map_idK]; exact hn)
    have hlen2 : x.2.1.length * (C + 1).toNat ≤ 12 * 1001 := Nat.mul_le_mul (by omega) (by omega)
    by_cases hlt : i < q.length
    · rw [if_pos hlt] at h
      have e1 : decide ((i : Int) < ((q.map arrP).length : Int)) = true := by rw [decide_eq_true_iff, List.length_map]; omega
      have e2 : idx (i : Int) (q.map arrP).length := ⟨by omega, by rw [List.length_map]; omega⟩
      have e3 : Int.toNat (i : Int) < (q.map arrP).length := by rw [List.length_map]; omega
      have hs := hq _ (getD_mem hlt (0, 0, ()))
      rw [e1, cond_true, if_pos e2, if_pos (⟨by omega, by omega⟩ : idx 0 2), if_pos e3, if_pos e2, if_pos (⟨by omega, by omega⟩ : idx 1 2), if_pos e3, Int.toNat_natCast, g39L128154_eq, arrP_get q hlt]
      revert h hs
      generalize q.getD i (0, 0, ()) = t
      intro h hs
      have el := fun k0 => ref_every_row (D := D) N hw (by omega) hk hC k0 (i : Int) t hs a1 a2 u1 u2 o1 o2 N 0 [] q (by omega) (by omega) (by simp) (by omega)
      simp only [Int.natCast_zero, List.drop_zero] at el
      rw [show (arrP t).getD (Int.toNat 0) 0 = t.1 from rfl, show (arrP t).getD (Int.toNat 1) 0 = t.2.1 from rfl, el]
      obtain ⟨new, ext, e, g1, g2, g3, g4, g5⟩ := bfsRow_spec idK (evStep x k) t (EvP x C) (List.range x.1.toNat) [] q (fun r hr => (ev_step hw hk hC hs (by have := List.mem_range.1 hr; omega)).1) hq (by rw [map_idK]; exact hn)
      rw [e] at h ⊢
      dsimp only at h ⊢
      rw [List.nil_append] at h ⊢
      obtain ⟨v, q1, q2⟩ := at_any hx N (by omega) t.1 t.2.1 hs.s.1 hs.s.2 hs.c.1 (by have := hs.c; omega)
      have hv : evOut x N t = v := by unfold evOut; rw [q1]; rfl
      rw [hv] at h
      rw [ref_at, q1, Option.bind_some, if_pos (by simp only [List.length_cons, List.length_nil, maxCount]; omega), if_pos (by simp only [List.length_cons, List.length_nil, maxCount]; omega), wn i (by omega)]
      exact ref_every_loop N hx hk hC hN k0 a1 a2 u1 u2 F (i + 1) (q ++ ext) _ _ l outs rows h (fun t ht => by
        rcases List.mem_append.1 ht with ht | ht
        · exact hq t ht
        · exact g3 t ht) (by rw [map_idK] at g4; exact g4) (by simp; omega) (by simp [l1]) (by simp [l2])
    · rw [if_neg hlt] at h
      have e1 : decide ((i : Int) < ((q.map arrP).length : Int)) = false := by rw [decide_eq_false_iff_not, List.length_map]; omega
      rw [e1, cond_false]
      simp only [Option.some.injEq, Prod.mk.injEq] at h
      obtain ⟨rfl, rfl, rfl⟩ := h
      rfl

/-- What the reference makes of every k-th number is what the program builds. -/
theorem every_one {x : MM} (hx : Tame x) {k C c : Int} (hk : 0 ≤ k ∧ k ≤ C + 1) (hC : C ≤ 1000) (hc : 0 ≤ c ∧ c ≤ C) (N : Nat) (hN : 1001 < N) (hN2 : (x.2.1.length : Int) * (C + 1) < N) :
    ∃ H l, g73 N x k c = some H ∧ g39 N x k c = some H ∧ Disc (0, 0, ()) x.1.toNat idK (evOut x N) (evStep x k) (0, c, ()) H l ∧ (∀ t ∈ l, EvP x C t) ∧ WM H ∧ H.1 = x.1 ∧ H.2.1.length ≤ x.2.1.length * (C + 1).toNat := by
  have hm := hx.many
  have hb := hx.base
  obtain ⟨H, l, e, hd, hl, hw, hb1, hlen, hbf⟩ := every_built hx hk hC hc N hN hN2
  refine ⟨H, l, e, ?_, hd, hl, hw, hb1, hlen⟩
  have := ref_every_loop N hx hk hC hN (fun e17 e18 e19 e20 e21 e22 e23 e24 e25 => some (e19, e24, e25, ())) 0 x.1 [] [] N 0 [(0, c, ())] [] [] l _ _ hbf (by intro t ht; simp only [List.mem_cons, List.not_mem_nil, or_false] at ht; subst ht; exact ⟨⟨by simp only; omega, by simp only; omega⟩, hc⟩) (by simp) (by simp) rfl rfl
  unfold g39
  rw [g39L250_eq, set_pair]
  refine Eq.trans this ?_
  obtain ⟨h1, h2, h3, ⟨⟩⟩ := H
  simp only at hb1
  rw [hb1]

end Go.Pv

/- Plain: numbers of a sequence: First and At. -/
set_option linter.unusedVariables false
set_option linter.unusedSimpArgs false
namespace Go.Pv

/-- Number j of a machine's sequence. -/
def V1 (N : Nat) (x : MM) (j : Int) : Int := (g70 N x 0 j).getD 0
theorem V1_eq {x : MM} (h : Tame x) (N : Nat) (hN : 100 ≤ N) (n : Int) (h0 : 0 ≤ n) (h1 : n < 9223372036854775808) : g70 N x 0 n = some (V1 N x n) := by
  obtain ⟨v, e, _⟩ := at_some h N hN n h0 h1
  simp [V1, e]

theorem first_loop {x : MM} (h : Tame x) (N : Nat) (hN : 100 ≤ N) {C : Type} (k0 : MM → List Int → Option C) (m : Nat) (hm : m ≤ 1000) :
    ∀ (F i : Nat), m - i < F → i ≤ m → g30L250f N F k0 (m : Int) (i : Int) x ((List.range i).map fun j : Nat => V1 N x (j : Int)) = k0 x ((List.range m).map fun j : Nat => V1 N x (j : Int))
  | 0, i, hF, _ => by omega
  | F + 1, i, hF, hi => by
    rw [g30L250f_succ]
    unfold g30L250B
    by_cases hlt : i < m
    · have e1 : decide ((i : Int) < (m : Int)) = true := by simp; omega
      rw [e1, cond_true, V1_eq h N hN (i : Int) (by omega) (by omega)]
      simp only [Option.bind_some]
      rw [if_pos (by simp [maxCount]; omega), wn i (by omega)]
      have : ((List.range i).map fun j : Nat => V1 N x (j : Int)) ++ [V1 N x (i : Int)] = (List.range (i + 1)).map fun j : Nat => V1 N x (j : Int) := by
        rw [List.range_succ]; simp
      rw [this]
      exact first_loop h N hN k0 m hm F (i + 1) (by omega) (by omega)
    · have e1 : decide ((i : Int) < (m : Int)) = false := by simp; omega
      have : i = m := by omega
      rw [e1, cond_false, this]

theorem first_bad {x : MM} (h : Tame x) (N : Nat) (hN : 100 ≤ N) (m : Int) (hm : m < 0 ∨ 1000 < m) : g30 N x m = some ([], 1, ()) := by
  unfold g30
  rw [h.check N (by omega)]
  have e : g57 N 0 1000 [m] = some false := by
    rw [are_eq N _ _ _ (by simp; omega) (by simp)]; simp; omega
  simp [e]
theorem first_eq {x : MM} (h : Tame x) (N : Nat) (hN : 1001 < N) (m : Nat) (hm : m ≤ 1000) : g30 N x (m : Int) = some ((List.range m).map (fun j : Nat => V1 N x (j : Int)), 0, ()) := by
  unfold g30
  rw [h.check N (by omega)]
  have e : g57 N 0 1000 [(m : Int)] = some true := by
    rw [are_eq N _ _ _ (by simp; omega) (by simp)]; simp; omega
  rw [e]
  have := first_loop h N (by omega) (fun e4 e5 => some (e5, (0 : Int), ())) m hm N 0 (by omega) (by omega)
  simp only [Int.natCast_zero, List.range_zero, List.map_nil] at this
  simp [g30L250_eq, this]

theorem at_bad {x : MM} (h : Tame x) (N : Nat) (hN : 100 ≤ N) (n : Int) (hn : n < 0) : g35 N x n = some (0, 1, ()) := by
  unfold g35
  rw [h.check N (by omega)]
  simp [hn]
theorem at_eq {x : MM} (h : Tame x) (N : Nat) (hN : 100 ≤ N) (n : Int) (h0 : 0 ≤ n) (h1 : n < 9223372036854775808) : g35 N x n = some (V1 N x n, 0, ()) := by
  unfold g35
  rw [h.check N (by omega)]
  have : ¬ n < 0 := by omega
  simp [this, V1_eq h N hN n h0 h1]


end Go.Pv

/- Plain: the sequence of a machine, by numbers instead of words. -/
set_option linter.unusedVariables false
set_option linter.unusedSimpArgs false
namespace Go.Pv

def sq (x : MM) (s n : Nat) : Int := if h : n = 0 ∨ x.1.toNat < 2 then oM x s else sq x (dM x s (n % x.1.toNat)) (n / x.1.toNat)
termination_by n
decreasing_by exact Nat.div_lt_self (by omega) (by omega)
theorem sq_zero (x : MM) (s : Nat) : sq x s 0 = oM x s := by rw [sq]; simp
theorem sq_pos {x : MM} (hb : 2 ≤ x.1) (s : Nat) {n : Nat} (h : n ≠ 0) : sq x s n = sq x (dM x s (n % x.1.toNat)) (n / x.1.toNat) := by rw [sq, dif_neg (by omega)]

/-- A zero more ahead of the digits changes nothing. -/
def Zed (x : MM) : Prop := ∀ s, s < x.2.1.length → oM x (dM x s 0) = oM x s
theorem Tame.zed {x : MM} (h : Tame x) : Zed x := fun s hs => h.zero s hs
theorem sq_step {x : MM} (hb : 2 ≤ x.1) (hz : Zed x) {s : Nat} (hs : s < x.2.1.length) (n : Nat) : sq x s n = sq x (dM x s (n % x.1.toNat)) (n / x.1.toNat) := by
  by_cases h : n = 0
  · subst h
    rw [Nat.zero_mod, Nat.zero_div, sq_zero, sq_zero, hz s hs]
  · exact sq_pos hb s h

def val (b : Nat) : List Nat → Nat
  | [] => 0
  | r :: w => r + b * val b w
theorem beh_sq {x : MM} (hx : WM x) (hb : 2 ≤ x.1) (hz : Zed x) : ∀ (w : List Nat) (s : Nat), s < x.2.1.length → (∀ r ∈ w, (r : Int) < x.1) → beh x s w = sq x s (val x.1.toNat w)
  | [], s, hs, _ => by rw [val, sq_zero]; rfl
  | r :: w, s, hs, hw => by
    have hr : (r : Int) < x.1 := hw r (by simp)
    rw [val, sq_step hb hz hs, Nat.add_mul_mod_self_left, Nat.add_mul_div_left _ _ (by omega), Nat.mod_eq_of_lt (by omega), Nat.div_eq_of_lt (by omega), Nat.zero_add]
    exact beh_sq hx hb hz w _ (hx.at hs hr).2 (fun q hq => hw q (by simp [hq]))
/-- Each number has digits. -/
theorem digits (b : Nat) (hb : 2 ≤ b) (n : Nat) : ∃ w : List Nat, (∀ r ∈ w, r < b) ∧ val b w = n := by
  induction n using Nat.strongRecOn with
  | _ n ih =>
    by_cases h : n = 0
    · exact ⟨[], by simp, h.symm⟩
    · obtain ⟨w, h1, h2⟩ := ih (n / b) (Nat.div_lt_self (by omega) hb)
      refine ⟨n % b :: w, fun r hr => ?_, ?_⟩
      · rcases List.mem_cons.1 hr with rfl | hr
        · exact Nat.mod_lt _ (by omega)
        · exact h1 r hr
      · rw [val, h2]; exact Nat.mod_add_div n b

theorem same_sq {x y : MM} (hx : WM x) (hy : WM y) (hb : 2 ≤ x.1) (e : y.1 = x.1) (zx : Zed x) (zy : Zed y) {s t : Nat} (hs : s < x.2.1.length) (ht : t < y.2.1.length) : Same x y s t ↔ ∀ n, sq x s n = sq y t n := by
  constructor
  · intro h n
    obtain ⟨w, h1, h2⟩ := digits x.1.toNat (by omega) n
    have hw : ∀ r ∈ w, (r : Int) < x.1 := fun r hr => by have := h1 r hr; omega
    have := h w hw
    rw [beh_sq hx hb zx w s hs hw, beh_sq hy (by omega) zy w t ht (by rw [e]; exact hw), e, h2] at this
    exact this
  · intro h w hw
    rw [beh_sq hx hb zx w s hs hw, beh_sq hy (by omega) zy w t ht (by rw [e]; exact hw), e, h]

theorem Zed.of {F x : MM} (hF : WM F) (hx : WM x) (e : F.1 = x.1) (hz : Zed x) (h : ∀ i, i < F.2.1.length → ∃ t, t < x.2.1.length ∧ Same F x i t) : Zed F := fun i hi => by
  obtain ⟨t, ht, hs⟩ := h i hi
  have hb := hF.base
  have h1 := hs.out
  have h2 := (hs.step (r := 0) (by omega)).out
  rw [h1, h2, hz t ht]

/-- The numbers that the program and the reference read off. -/
theorem at_sq {x : MM} (h : Tame x) : ∀ (F n s : Nat), n < 2 ^ F → F ≤ 62 → s < x.2.1.length → ∃ t : Nat, t < x.2.1.length ∧ atP x.2.2.1 x.1 (F + 1) (n : Int) (s : Int) = some (t : Int) ∧ oM x t = sq x s n
  | 0, n, s, hn, _, hs => by
    have : n = 0 := by simp at hn; omega
    subst this
    refine ⟨s, hs, ?_, by rw [sq_zero]⟩
    simp only [atP]
    rw [if_neg (by simp)]
  | F + 1, n, s, hn, hF, hs => by
    rw [atP]
    by_cases h0 : n = 0
    · subst h0
      exact ⟨s, hs, by rw [if_neg (by simp)], by rw [sq_zero]⟩
    · rw [if_pos (by omega)]
      obtain ⟨hb1, hb2⟩ := h.base
      have hw := h.wm
      have hb : ((x.1.toNat : Nat) : Int) = x.1 := by omega
      have hlt : n % x.1.toNat < x.1.toNat := Nat.mod_lt _ (by omega)
      have em : Int.tmod (n : Int) x.1 = ((n % x.1.toNat : Nat) : Int) := by rw [Int.tmod_eq_emod_of_nonneg (by omega), Int.natCast_emod, hb]
      have ed : IntKind.wrap .i64 (Int.tdiv (n : Int) x.1) = ((n / x.1.toNat : Nat) : Int) := by
        have hp : 2 ^ (F + 1) ≤ 2 ^ 62 := Nat.pow_le_pow_right (by omega) hF
        have : (2 : Nat) ^ 62 = 4611686018427387904 := by decide
        have hle : n / x.1.toNat ≤ n := Nat.div_le_self _ _
        have e0 : (n : Int) / x.1 = ((n / x.1.toNat : Nat) : Int) := by rw [Int.natCast_ediv, hb]
        rw [Int.tdiv_eq_ediv_of_nonneg (by omega), e0]
        revert hle
        generalize n / x.1.toNat = q
        intro hle
        exact w64 (by omega) (by omega)
      have hat := hw.at hs (r := n % x.1.toNat) (by omega)
      have hrow := hw.row s hs
      have e1 : atStep x.2.2.1 x.1 (n : Int) (s : Int) = some (dM x s (n % x.1.toNat) : Int) := by
        unfold atStep
        rw [if_neg (by omega), if_pos ⟨by omega, by rw [hw.next]; omega⟩, em, Int.toNat_natCast, if_pos ⟨by omega, by omega⟩, Int.toNat_natCast, hat.1]
      rw [e1, ed]
      simp only
      obtain ⟨t, t1, t2, t3⟩ := at_sq h F (n / x.1.toNat) (dM x s (n % x.1.toNat)) (by
        have : n / x.1.toNat ≤ n / 2 := Nat.div_le_div_left (by omega) (by omega)
        rw [Nat.pow_succ] at hn; omega) (by omega) hat.2
      exact ⟨t, t1, t2, by rw [t3, sq_pos hb1 s h0]⟩

theorem g70_sq {x : MM} (h : Tame x) (N : Nat) (hN : 100 ≤ N) (s n : Nat) (hs : s < x.2.1.length) (hn : n < 4611686018427387904) : g70 N x (s : Int) (n : Int) = some (sq x s n) := by
  have h62 : (2 : Nat) ^ 62 = 4611686018427387904 := by decide
  obtain ⟨t, t1, t2, t3⟩ := at_sq h 62 n s (by omega) (by omega) hs
  have e4 := atP_more x.2.2.1 x.1 63 (N - 63) (n : Int) (s : Int) _ t2
  rw [show 63 + (N - 63) = N by omega] at e4
  unfold g70
  rw [e4, Option.bind_some, if_pos ⟨by omega, by omega⟩, Int.toNat_natCast, ← t3]; rfl
theorem g35_sq {x : MM} (h : Tame x) (N : Nat) (hN : 100 ≤ N) (n : Nat) (hn : n < 4611686018427387904) : g35 N x (n : Int) = some (sq x 0 n, 0, ()) := by
  rw [at_eq h N hN (n : Int) (by omega) (by omega)]
  unfold V1
  have := g70_sq h N hN 0 n (by have := h.many; omega) hn
  simp only [Int.natCast_zero] at this
  rw [this]; rfl

theorem Form.tame {F : MM} (h : Form F) (hb : 2 ≤ F.1 ∧ F.1 ≤ 5) (hn : F.2.1.length ≤ 12) (hz : Zed F) : Tame F := by
  have hw := h.toWM
  refine ⟨hb, ⟨hw.many, hn⟩, hw.out, hw.next, fun r hr => ?_, fun s hs => hz s hs⟩
  obtain ⟨i, hi, rfl⟩ := List.getElem_of_mem hr
  have hi' : i < F.2.1.length := by rw [← hw.next]; exact hi
  have e : F.2.2.1.getD i [] = F.2.2.1[i] := getD_of hi []
  exact ⟨by rw [← e]; exact hw.row i hi', fun t ht => hw.rng i hi' t (by rw [e]; exact ht)⟩

end Go.Pv

/- Plain: the checked form of every k-th number: tame, and its sequence. -/
set_option linter.unusedVariables false
set_option linter.unusedSimpArgs false
namespace Go.Pv

theorem ev_beh {x : MM} (hx : Tame x) {k C c : Nat} (hk : k ≤ C + 1) (hC : C ≤ 1000) (N : Nat) (hN : 100 ≤ N) {H : MM} {l : List PP} (hd : Disc (0, 0, ()) x.1.toNat idK (evOut x N) (evStep x (k : Int)) (0, (c : Int), ()) H l) (hl : ∀ t ∈ l, EvP x (C : Int) t) :
    ∀ (w : List Nat) (i : Nat), i < l.length → (∀ r ∈ w, r < x.1.toNat) → beh H i w = sq x (l.getD i (0, 0, ())).1.toNat (k * val x.1.toNat w + (l.getD i (0, 0, ())).2.1.toNat) := by
  have hb := hx.base
  have hw := hx.wm
  have eb : ((x.1.toNat : Nat) : Int) = x.1 := by omega
  intro w
  induction w with
  | nil =>
    intro i hi _
    have ht := hl _ (getD_mem hi (0, 0, ()))
    show oM H i = _
    unfold oM
    rw [hd.out, getD_of (by simpa using hi), List.getElem_map]
    rw [getD_of hi] at ht ⊢
    revert ht
    generalize l[i] = t
    intro ht
    have h1 := ht.s; have h2 := ht.c
    have := g70_sq hx N hN t.1.toNat t.2.1.toNat (by omega) (by omega)
    unfold evOut
    rw [show ((t.1.toNat : Nat) : Int) = t.1 by omega, show ((t.2.1.toNat : Nat) : Int) = t.2.1 by omega] at this
    rw [this, val, Nat.mul_zero, Nat.zero_add]; rfl
  | cons r w ih =>
    intro i hi hr
    have ht := hl _ (getD_mem hi (0, 0, ()))
    have hrb : r < x.1.toNat := hr r (by simp)
    obtain ⟨j, h1, h2, h3⟩ := hd.way i r hi hrb
    have hdm : dM H i r = j := by unfold dM; rw [h1]; simp
    show beh H (dM H i r) w = _
    rw [hdm, ih j h2 (fun q hq => hr q (by simp [hq]))]
    have h3 : l.getD j (0, 0, ()) = evStep x (k : Int) (l.getD i (0, 0, ())) r := h3
    rw [h3]
    revert ht
    generalize l.getD i (0, 0, ()) = t
    intro ht
    have q1 := ht.s; have q2 := ht.c
    have e1 : (k : Int) * (r : Int) + t.2.1 = ((k * r + t.2.1.toNat : Nat) : Int) := by rw [Int.natCast_add, Int.natCast_mul]; omega
    unfold evStep
    simp only
    have e3 : ((k * r + t.2.1.toNat : Nat) : Int) % x.1 = (((k * r + t.2.1.toNat) % x.1.toNat : Nat) : Int) := by rw [Int.natCast_emod, eb]
    have e4 : ((k * r + t.2.1.toNat : Nat) : Int) / x.1 = (((k * r + t.2.1.toNat) / x.1.toNat : Nat) : Int) := by rw [Int.natCast_ediv, eb]
    rw [e1, e3, e4, Int.toNat_natCast, Int.toNat_natCast, Int.toNat_natCast, val]
    rw [sq_step hb.1 hx.zed (s := t.1.toNat) (by omega) (k * (r + x.1.toNat * val x.1.toNat w) + t.2.1.toNat)]
    have e2 : k * (r + x.1.toNat * val x.1.toNat w) + t.2.1.toNat = (k * r + t.2.1.toNat) + x.1.toNat * (k * val x.1.toNat w) := by
      rw [Nat.mul_add, Nat.mul_left_comm]; omega
    rw [e2, Nat.add_mul_mod_self_left, Nat.add_mul_div_left _ _ (by omega), Nat.add_comm (k * val x.1.toNat w)]

theorem ev_seq {x : MM} (hx : Tame x) {k C c : Nat} (hk : k ≤ C + 1) (hC : C ≤ 1000) (N : Nat) (hN : 100 ≤ N) {H : MM} {l : List PP} (hd : Disc (0, 0, ()) x.1.toNat idK (evOut x N) (evStep x (k : Int)) (0, (c : Int), ()) H l) (hl : ∀ t ∈ l, EvP x (C : Int) t) (hw : WM H) :
    Zed H ∧ ∀ m, sq H 0 m = sq x 0 (k * m + c) := by
  have hb := hx.base
  have hb1 : H.1 = x.1 := by rw [hd.base]; omega
  have hlen : H.2.1.length = l.length := by rw [hd.out, List.length_map]
  have key := ev_beh hx hk hC N hN hd hl
  have hz : Zed H := fun s hs => by
    rw [hlen] at hs
    have h1 := key [] s hs (by simp)
    have h2 := key [0] s hs (by simp; omega)
    rw [show beh H s [] = oM H s from rfl] at h1
    rw [show beh H s [0] = oM H (dM H s 0) from rfl] at h2
    rw [h1, h2]
    simp [val]
  refine ⟨hz, fun m => ?_⟩
  obtain ⟨w, h1, h2⟩ := digits x.1.toNat (by omega) m
  have h3 := key w 0 hd.some1 h1
  rw [hd.first] at h3
  rw [beh_sq hw (by omega) hz w 0 hw.many (fun r hr => by have := h1 r hr; omega), hb1, h2] at h3
  simpa using h3

/-- A result of Every or Later: its code, and what it is where the code is none. -/
def EvR (x : MM) (k c : Nat) (r : MM) (q : Int) : Prop := q = 0 ∧ Tame r ∧ Form r ∧ r.1 = x.1 ∧ (∀ m, sq r 0 m = sq x 0 (k * m + c)) ∨ q = 8 ∧ r = nil0

theorem every_form {x : MM} (hx : Tame x) {k c : Nat} (hk : 1 ≤ k ∧ k ≤ 30) (hc : c ≤ 100) (N : Nat) (hN : 1300 < N) : ∃ r q, g38 N x (k : Int) (c : Int) = some (r, q, ()) ∧ EvR x k c r q := by
  have hb := hx.base
  have hm := hx.many
  obtain ⟨H, l, e1, e2, hd, hl, hw, hb1, hlen⟩ := every_one hx (k := (k : Int)) (C := (100 : Nat)) (c := (c : Int)) (by omega) (by omega) (by omega) N (by omega) (by omega)
  have : x.2.1.length * (((100 : Nat) : Int) + 1).toNat ≤ 1212 := by rw [show (((100 : Nat) : Int) + 1).toNat = 101 from rfl]; omega
  obtain ⟨r, q, q1, q2, q3⟩ := right_eq hw hw rfl (by omega) (fun w _ => rfl) N (by omega) (by omega) (by omega) (by omega) (by omega)
  obtain ⟨hz, hsq⟩ := ev_seq hx (k := k) (C := 100) (c := c) (by omega) (by omega) N (by omega) hd hl hw
  refine ⟨r, q, ?_, ?_⟩
  · unfold g38
    rw [hx.check N (by omega), Option.bind_some, not_ieq_self, cond_false]
    have h1 : (decide ((1 : Int) ≤ (k : Int)) && decide ((k : Int) ≤ 30)) = true := by simp; omega
    have h2 : (decide ((0 : Int) ≤ (c : Int)) && decide ((c : Int) ≤ 100)) = true := by simp; omega
    rw [are_eq N 1 30 [(k : Int)] (by simp; omega) (by simp), Option.bind_some]
    simp only [List.all_cons, List.all_nil, Bool.and_true]
    rw [h1, Bool.not_true, cond_false, are_eq N 0 100 [(c : Int)] (by simp; omega) (by simp), Option.bind_some]
    simp only [List.all_cons, List.all_nil, Bool.and_true]
    rw [h2, Bool.not_true, cond_false, e1, Option.bind_some, q1]; rfl
  · rcases q3 with ⟨rfl, _, f, fb, fs, f12, fe⟩ | ⟨rfl, rfl⟩
    · have zr := Zed.of f.toWM hw fb hz fe
      refine .inl ⟨rfl, f.tame (by omega) f12 zr, f, by omega, fun m => ?_⟩
      rw [← hsq m]
      exact (same_sq f.toWM hw (by omega) fb.symm zr hz f.toWM.many hw.many).1 fs m
    · exact .inr ⟨rfl, rfl⟩

theorem later_every {x : MM} (hx : Tame x) (c : Nat) (hc : c ≤ 100) (N : Nat) (hN : 1300 < N) : g37 N x (c : Int) = g38 N x 1 (c : Int) := by
  have h1 : (decide ((1 : Int) ≤ 1) && decide ((1 : Int) ≤ 30)) = true := by simp
  have h2 : (decide ((0 : Int) ≤ (c : Int)) && decide ((c : Int) ≤ 100)) = true := by simp; omega
  unfold g37 g38
  simp only [hx.check N (by omega), Option.bind_some, not_ieq_self, cond_false]
  rw [are_eq N 1 30 [(1 : Int)] (by simp; omega) (by simp), are_eq N 0 100 [(c : Int)] (by simp; omega) (by simp)]
  simp only [List.all_cons, List.all_nil, Bool.and_true, Option.bind_some, h1, h2, Bool.not_true, cond_false]
theorem later_form {x : MM} (hx : Tame x) {c : Nat} (hc : c ≤ 100) (N : Nat) (hN : 1300 < N) : ∃ r q, g37 N x (c : Int) = some (r, q, ()) ∧ g38 N x 1 (c : Int) = some (r, q, ()) ∧ EvR x 1 c r q := by
  obtain ⟨r, q, e, h⟩ := every_form hx (k := 1) (by omega) hc N hN
  exact ⟨r, q, by rw [later_every hx c hc N hN]; exact e, e, h⟩

theorem nil_not : ¬ Tame nil0 := fun h => by have := h.many; simp at this
theorem nil_later (N : Nat) (hN : 1300 < N) (c : Int) : g37 N nil0 c = some (nil0, 50, ()) := by
  unfold g37
  rw [check_not N (by omega) (by simp) nil_not, Option.bind_some]
  rfl
theorem nil_every (N : Nat) (hN : 1300 < N) (k c : Int) : g38 N nil0 k c = some (nil0, 50, ()) := by
  unfold g38
  rw [check_not N (by omega) (by simp) nil_not, Option.bind_some]
  rfl

/-- Two results with one sequence are one. -/
theorem results_one {r r' : MM} (h1 : Tame r) (h2 : Form r) (h1' : Tame r') (h2' : Form r') (hb : r'.1 = r.1) (h : ∀ m, sq r 0 m = sq r' 0 m) : r = r' :=
  h2.uniq h2' hb ((same_sq h2.toWM h2'.toWM h1.base.1 hb h1.zed h1'.zed h2.toWM.many h2'.toWM.many).2 h)
theorem results_eq {r : MM} (h1 : Tame r) (h2 : Form r) (N : Nat) (hN : 1300 < N) : g33 N r = some r ∧ g32 N r r = some true := by
  have hb := h1.base; have hm := h1.many
  exact ⟨by rw [own_eq N (by omega), h2.toWM.cut (by omega) (by omega)], h2.toWM.same N (by omega) (by omega) (by omega)⟩

end Go.Pv

