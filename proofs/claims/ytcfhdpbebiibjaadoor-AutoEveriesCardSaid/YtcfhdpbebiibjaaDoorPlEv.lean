/- Plain: every k-th number from c: what the program builds (g73) is what the reference builds (g39). -/
import Derived.Test.YtcfhdpbebiibjaaDoorPlB96
import Derived.Test.YtcfhdpbebiibjaaDoorPlD
set_option linter.unusedVariables false
set_option linter.unusedSimpArgs false
namespace Go.Pv

/-- The number that stands where the digits of n lead from a state. -/
theorem at_any {x : MM} (h : Tame x) (N : Nat) (hN : 100 ≤ N) (s n : Int) (hs0 : 0 ≤ s) (hs1 : s < (x.2.1.length : Int)) (h0 : 0 ≤ n) (h1 : n < 9223372036854775808) : ∃ v, g70 N x s n = some v ∧ 0 ≤ v ∧ v ≤ 9 := by
  have h63 : n < (2 : Int) ^ 63 := by
    have h2 : (2 : Int) ^ 63 = 9223372036854775808 := by decide
    rw [h2]; exact h1
  obtain ⟨sf, e1, e2, e3⟩ := at_total h 63 n s hs0 hs1 h63 h0 (by omega)
  have e4 := atP_more x.2.2.1 x.1 64 (N - 64) n s sf e1
  rw [show 64 + (N - 64) = N by omega] at e4
  have hs : sf.toNat < x.2.1.length := by omega
  have hm : x.2.1.getD sf.toNat 0 ∈ x.2.1 := getD_mem hs 0
  refine ⟨x.2.1.getD sf.toNat 0, ?_, h.out _ hm⟩
  unfold g70
  rw [e4]
  simp only [Option.bind_some]
  rw [if_pos ⟨e2, e3⟩]

def evStep (x : MM) (k : Int) (t : PP) (r : Nat) : PP := ((dM x t.1.toNat ((k * r + t.2.1) % x.1).toNat : Int), (k * r + t.2.1) / x.1, ())
def evOut (x : MM) (N : Nat) (t : PP) : Int := (g70 N x t.1 t.2.1).getD 0
structure EvP (x : MM) (C : Int) (t : PP) : Prop where
  s : 0 ≤ t.1 ∧ t.1 < (x.2.1.length : Int)
  c : 0 ≤ t.2.1 ∧ t.2.1 ≤ C

theorem ev_num {x : MM} (hx : WM x) {k C : Int} (hk : 0 ≤ k ∧ k ≤ C + 1) (hC : C ≤ 1000) {t : PP} (ht : EvP x C t) {r : Nat} (hr : (r : Int) < x.1) : 0 ≤ k * r + t.2.1 ∧ k * r + t.2.1 < x.1 * (C + 1) ∧ 0 ≤ k * (r : Int) ∧ k * (r : Int) ≤ 1001000 ∧ x.1 * (C + 1) ≤ 1001000 := by
  have hb := hx.base
  have hc := ht.c
  have h1 : 0 ≤ k * (r : Int) := Int.mul_nonneg hk.1 (by omega)
  have h2 : k * (r : Int) ≤ (C + 1) * (r : Int) := Int.mul_le_mul_of_nonneg_right hk.2 (by omega)
  have h3 : (C + 1) * (r : Int) ≤ (C + 1) * (x.1 - 1) := Int.mul_le_mul_of_nonneg_left (by omega) (by omega)
  have h4 : (C + 1) * (x.1 - 1) = x.1 * (C + 1) - (C + 1) := by rw [Int.mul_sub, Int.mul_comm, Int.mul_one]
  have h5 : x.1 * (C + 1) ≤ 1000 * (C + 1) := Int.mul_le_mul_of_nonneg_right hb.2 (by omega)
  omega

theorem ev_step {x : MM} (hx : WM x) {k C : Int} (hk : 0 ≤ k ∧ k ≤ C + 1) (hC : C ≤ 1000) {t : PP} (ht : EvP x C t) {r : Nat} (hr : (r : Int) < x.1) :
    EvP x C (evStep x k t r) ∧ (IntKind.wrap .i64 ((IntKind.wrap .i64 (k * r)) + t.2.1)) = k * r + t.2.1 ∧ Int.tmod (k * r + t.2.1) x.1 = (k * r + t.2.1) % x.1 ∧ IntKind.wrap .i64 (Int.tdiv (k * r + t.2.1) x.1) = (k * r + t.2.1) / x.1 ∧
      idx t.1 x.2.2.1.length ∧ idx ((k * r + t.2.1) % x.1) (x.2.2.1.getD t.1.toNat []).length ∧ (x.2.2.1.getD t.1.toNat []).getD ((k * r + t.2.1) % x.1).toNat 0 = (dM x t.1.toNat ((k * r + t.2.1) % x.1).toNat : Int) := by
  have hb := hx.base
  have hs := ht.s
  have hc := ht.c
  have hn := hx.next
  obtain ⟨n0, n1, n2, n3, n4⟩ := ev_num hx hk hC ht hr
  generalize hv : k * (r : Int) + t.2.1 = v at *
  have m1 := Int.emod_nonneg v (show x.1 ≠ 0 by omega)
  have m2 := Int.emod_lt_of_pos v (show 0 < x.1 by omega)
  have d1 : 0 ≤ v / x.1 := Int.ediv_nonneg n0 (by omega)
  have d2 : v / x.1 < C + 1 := Int.ediv_lt_of_lt_mul (by omega) (by rw [Int.mul_comm]; exact n1)
  have ht' : t.1.toNat < x.2.1.length := by omega
  have hrow := hx.row _ ht'
  have hat := hx.at ht' (r := (v % x.1).toNat) (by omega)
  refine ⟨⟨?_, ?_⟩, ?_, ?_, ?_, ⟨by omega, by omega⟩, ⟨m1, by omega⟩, hat.1⟩
  · unfold evStep; simp only [hv]; omega
  · unfold evStep; simp only [hv]; omega
  · rw [w64 (x := k * (r : Int)) (by omega) (by omega), hv]; exact w64 (by omega) (by omega)
  · exact Int.tmod_eq_emod_of_nonneg n0
  · rw [Int.tdiv_eq_ediv_of_nonneg n0]; exact w64 (by omega) (by omega)

theorem ev_bnd (x : MM) (C : Int) : ∀ t : PP, EvP x C t → 0 ≤ t.1 * (C + 1) + t.2.1 ∧ t.1 * (C + 1) + t.2.1 < ((x.2.1.length * (C + 1).toNat : Nat) : Int) := fun t ht => by
  have h1 := ht.s; have h2 := ht.c
  have hKe : ((x.2.1.length * (C + 1).toNat : Nat) : Int) = (x.2.1.length : Int) * (C + 1) := by rw [Int.natCast_mul, Int.toNat_of_nonneg (by omega)]
  have h3 : 0 ≤ t.1 * (C + 1) := Int.mul_nonneg h1.1 (by omega)
  have h4 : t.1 * (C + 1) ≤ ((x.2.1.length : Int) - 1) * (C + 1) := Int.mul_le_mul_of_nonneg_right (by omega) (by omega)
  rw [Int.sub_mul, Int.one_mul] at h4
  omega
theorem ev_inj (x : MM) (C : Int) : ∀ t u : PP, EvP x C t → EvP x C u → t.1 * (C + 1) + t.2.1 = u.1 * (C + 1) + u.2.1 → t = u := fun t u ht hu he => by
  have h1 := ht.c; have h2 := hu.c
  obtain ⟨t1, t2, ⟨⟩⟩ := t
  obtain ⟨u1, u2, ⟨⟩⟩ := u
  simp only at he h1 h2
  have e1 : t1 = (t1 * (C + 1) + t2) / (C + 1) := by
    rw [Int.add_comm, Int.add_mul_ediv_right _ _ (by omega), Int.ediv_eq_zero_of_lt (by omega) (by omega)]; omega
  have e2 : u1 = (u1 * (C + 1) + u2) / (C + 1) := by
    rw [Int.add_comm, Int.add_mul_ediv_right _ _ (by omega), Int.ediv_eq_zero_of_lt (by omega) (by omega)]; omega
  have e3 : t1 = u1 := by rw [e1, he]; exact e2.symm
  subst e3
  have : t2 = u2 := by omega
  rw [this]
theorem every_built {x : MM} (hx : Tame x) {k C c : Int} (hk : 0 ≤ k ∧ k ≤ C + 1) (hC : C ≤ 1000) (hc : 0 ≤ c ∧ c ≤ C) (N : Nat) (hN : 1001 < N) (hN2 : (x.2.1.length : Int) * (C + 1) < N) :
    ∃ H l, g73 N x k c = some H ∧ Disc (0, 0, ()) x.1.toNat idK (evOut x N) (evStep x k) (0, c, ()) H l ∧ (∀ t ∈ l, EvP x C t) ∧ WM H ∧ H.1 = x.1 ∧ H.2.1.length ≤ x.2.1.length * (C + 1).toNat ∧ bfs (0, 0, ()) idK (evOut x N) (evStep x k) x.1.toNat N 0 [(0, c, ())] [] [] = some (l, H.2.1, H.2.2.1) := by
  have hw := hx.wm
  have hb := hx.base
  have hm := hx.many
  have hNC : (x.2.1.length : Int) * (C + 1) ≤ 12 * (C + 1) := Int.mul_le_mul_of_nonneg_right (by omega) (by omega)
  have hKe : ((x.2.1.length * (C + 1).toNat : Nat) : Int) = (x.2.1.length : Int) * (C + 1) := by rw [Int.natCast_mul, Int.toNat_of_nonneg (by omega)]
  have ha : EvP x C (0, c, ()) := ⟨⟨by simp only; omega, by simp only; omega⟩, hc⟩
  obtain ⟨H, l, e, hd, hl, hlen, hbf⟩ := built_eq96 N (b := x.1.toNat) (by omega) hN (0, c, ()) (fun (x1 : PP × Unit) => Option.bind (g97 N x1.1 x) fun y2 => some y2) (fun (x3 : PP × Int × Unit) => Option.bind (g98 N x3.1 x3.2.1 k x) fun y4 => some y4)
    (evOut x N) (evStep x k) (EvP x C) (fun t ht r hr => (ev_step hw hk hC ht (by omega)).1) (x.2.1.length * (C + 1).toNat) (fun t => t.1 * (C + 1) + t.2.1)
    (ev_bnd x C) (ev_inj x C)
    (by omega) (by omega)
    (fun t ht => by
      show Option.bind (g97 N t x) (fun y2 => some y2) = _
      obtain ⟨v, q1, q2⟩ := at_any hx N (by omega) t.1 t.2.1 ht.s.1 ht.s.2 ht.c.1 (by have := ht.c; omega)
      unfold g97 evOut
      rw [q1]; rfl)
    (fun t ht r hr => by
      show Option.bind (g98 N t (r : Int) k x) (fun y4 => some y4) = _
      obtain ⟨q1, q2, q3, q4, q5, q6, q7⟩ := ev_step hw hk hC ht (r := r) (by omega)
      unfold g98
      rw [if_pos q5, if_neg (by omega), q2, q3, if_pos q6, if_neg (by omega), q4, q7]; rfl) ha
  have eb : ((x.1.toNat : Nat) : Int) = x.1 := by omega
  rw [eb] at e
  refine ⟨H, l, ?_, hd, hl, hd.wm (by omega) (fun t ht => ?_), by rw [hd.base]; exact eb, hlen, hbf⟩
  · unfold g73
    rw [e]; rfl
  · have ht := hl t ht
    obtain ⟨v, q1, q2⟩ := at_any hx N (by omega) t.1 t.2.1 ht.s.1 ht.s.2 ht.c.1 (by have := ht.c; omega)
    unfold evOut
    rw [q1]; exact q2

/-! ### The reference's (g39) -/
theorem arr_eq (n : Nat) (a b : List Int) : Ty.beq (.arr n (.int .i64)) a b = true ↔ a = b := by
  show Ty.beq.go (Ty.beq (.int .i64)) a b = true ↔ a = b
  induction a generalizing b with
  | nil => cases b <;> simp [Ty.beq.go]
  | cons v a ih =>
    cases b with
    | nil => simp [Ty.beq.go]
    | cons w b =>
      simp only [Ty.beq.go, Bool.and_eq_true, List.cons.injEq]
      rw [ih b]
      simp [Ty.beq, ieq]

def arrP (t : PP) : List Int := [t.1, t.2.1]
theorem arrP_inj {t u : PP} (h : arrP t = arrP u) : t = u := by
  obtain ⟨t1, t2, ⟨⟩⟩ := t
  obtain ⟨u1, u2, ⟨⟩⟩ := u
  simp only [arrP, List.cons.injEq, and_true] at h
  rw [h.1, h.2]
theorem mem_inj {α β : Type} {f : α → β} (hf : ∀ a b, f a = f b → a = b) {t : α} {q : List α} : f t ∈ q.map f ↔ t ∈ q := by
  constructor
  · intro h
    obtain ⟨u, hu, he⟩ := List.mem_map.1 h
    exact hf u t he ▸ hu
  · intro h; exact List.mem_map.2 ⟨t, h, rfl⟩
theorem posOf_inj_map {α β : Type} [DecidableEq α] [DecidableEq β] {f : α → β} (hf : ∀ a b, f a = f b → a = b) (t : α) : ∀ (q : List α), posOf (f t) (q.map f) = posOf t q
  | [] => rfl
  | u :: q => by
    simp only [List.map_cons, posOf]
    by_cases h : u = t
    · rw [if_pos h, if_pos (by rw [h])]
    · rw [if_neg h, if_neg (fun e => h (hf _ _ e)), posOf_inj_map hf t q]
theorem set_pair (a b : Int) : List.set (List.set (List.replicate 2 (0 : Int)) 0 a) 1 b = [a, b] := rfl

theorem ref_every_row (N : Nat) {x : MM} (hw : WM x) (hx3 : x.2.1.length ≤ 12) {k C : Int} (hk : 0 ≤ k ∧ k ≤ C + 1) (hC : C ≤ 1000) {D : Type} (k0 : Int → Int → Int → Int → MM → Int → Int → List Int → List (List Int) → List (List Int × Int) → List Int → List (List Int) → List Int → List (List Int) → Option D)
    (i : Int) (t : PP) (ht : EvP x C t) (a1 a2 : Int) (u1 : List Int) (u2 : List (List Int)) (o1 : List Int) (o2 : List (List Int)) :
    ∀ (F r : Nat) (row : List Int) (q : List PP), x.1.toNat - r < F → (r : Int) ≤ x.1 → row.length ≤ r → q.length ≤ 100000 + r →
      g39L128154f N F k0 k i t.1 t.2.1 (r : Int) x a1 a2 row (q.map arrP) (mpairs 0 (q.map arrP)) u1 u2 o1 o2 =
        k0 k i t.1 t.2.1 x a1 a2 (bfsRow idK (evStep x k) t ((List.range x.1.toNat).drop r) row q).1 ((bfsRow idK (evStep x k) t ((List.range x.1.toNat).drop r) row q).2.map arrP) (mpairs 0 ((bfsRow idK (evStep x k) t ((List.range x.1.toNat).drop r) row q).2.map arrP)) u1 u2 o1 o2
  | 0, r, row, q, hF, _, _, _ => by omega
  | F + 1, r, row, q, hF, hr, h1, h2 => by
    rw [g39L128154f_succ]
    unfold g39L128154B
    have hb := hw.base
    by_cases hlt : (r : Int) < x.1
    · obtain ⟨q1, q2, q3, q4, q5, q6, q7⟩ := ev_step hw hk hC ht (r := r) hlt
      have e1 : decide ((r : Int) < x.1) = true := by simpa using hlt
      rw [e1, cond_true, if_pos q5, if_neg (by omega), q2, q3, if_pos q6, if_neg (by omega), q4, q7, set_pair, range_drop (by omega)]
      unfold bfsRow
      rw [map_idK]
      rw [show ([(dM x t.1.toNat ((k * r + t.2.1) % x.1).toNat : Int), (k * r + t.2.1) / x.1] : List Int) = arrP (evStep x k t r) from rfl]
      unfold g65
      rw [find_mpairs (arr_eq 2)]
      by_cases hm : evStep x k t r ∈ q
      · rw [if_pos ((mem_inj (fun a b => arrP_inj)).2 hm), if_pos hm]
        simp only [Option.isSome_some, Bool.not_true, cond_false, Option.bind_some]
        rw [if_pos (by simp only [List.length_cons, List.length_nil, maxCount]; omega), Option.getD_some, wn r (by omega), Nat.zero_add, posOf_inj_map (fun a b => arrP_inj)]
        exact ref_every_row N hw hx3 hk hC k0 i t ht a1 a2 u1 u2 o1 o2 F (r + 1) _ q (by omega) (by omega) (by simp; omega) (by omega)
      · rw [if_neg (fun h => hm ((mem_inj (fun a b => arrP_inj)).1 h)), if_neg hm]
        simp only [Option.isSome_none, Bool.not_false, cond_true, Option.bind_some, Bool.not_false]
        rw [if_pos (by simp only [List.length_cons, List.length_nil, List.length_map, maxCount]; omega), if_pos (by simp only [List.length_cons, List.length_nil, maxCount]; omega), wn r (by omega)]
        rw [put_mpairs (arr_eq 2) _ _ _ _ (fun h => hm ((mem_inj (fun a b => arrP_inj)).1 h)), show mpairs 0 (q.map arrP) ++ [(arrP (evStep x k t r), ((q.map arrP).length : Int))] = mpairs 0 ((q ++ [evStep x k t r]).map arrP) by rw [List.map_append, List.map_cons, List.map_nil, mpairs_snoc]; simp]
        rw [show q.map arrP ++ [arrP (evStep x k t r)] = (q ++ [evStep x k t r]).map arrP by simp, List.length_map]
        exact ref_every_row N hw hx3 hk hC k0 i t ht a1 a2 u1 u2 o1 o2 F (r + 1) _ _ (by omega) (by omega) (by simp; omega) (by simp; omega)
    · have e1 : decide ((r : Int) < x.1) = false := by simpa using hlt
      rw [e1, cond_false, List.drop_of_length_le (by simp; omega)]; rfl

theorem arrP_get (q : List PP) {i : Nat} (h : i < q.length) (d : List Int) : (q.map arrP).getD i d = arrP (q.getD i (0, 0, ())) := by
  rw [getD_of h, getD_of (by simpa using h)]; simp

theorem ref_every_loop (N : Nat) {x : MM} (hx : Tame x) {k C : Int} (hk : 0 ≤ k ∧ k ≤ C + 1) (hC : C ≤ 1000) (hN : 1001 < N) {D : Type} (k0 : MM → Int → Int → List (List Int) → List (List Int × Int) → List Int → List (List Int) → List Int → List (List Int) → Option D)
    (a1 a2 : Int) (u1 : List Int) (u2 : List (List Int)) :
    ∀ (F i : Nat) (q : List PP) (o1 : List Int) (o2 : List (List Int)) (l : List PP) (outs : List Int) (rows : List (List Int)), bfs (0, 0, ()) idK (evOut x N) (evStep x k) x.1.toNat F i q o1 o2 = some (l, outs, rows) → (∀ t ∈ q, EvP x C t) → q.Nodup → i ≤ q.length → o1.length = i → o2.length = i →
      g39L250f N F k0 k (i : Int) x a1 a2 (q.map arrP) (mpairs 0 (q.map arrP)) u1 u2 o1 o2 = k0 x a1 a2 (l.map arrP) (mpairs 0 (l.map arrP)) u1 u2 outs rows
  | 0, i, q, o1, o2, l, outs, rows, h, _, _, _, _, _ => by simp [bfs] at h
  | F + 1, i, q, o1, o2, l, outs, rows, h, hq, hn, hi, l1, l2 => by
    rw [g39L250f_succ]
    unfold g39L250B
    unfold bfs at h
    have hw := hx.wm
    have hb := hx.base
    have hm := hx.many
    have hlen : q.length ≤ x.2.1.length * (C + 1).toNat := pigeon_num idK (fun t : PP => t.1 * (C + 1) + t.2.1) (ev_inj x C) (ev_bnd x C) hq (by rw [map_idK]; exact hn)
    have hlen2 : x.2.1.length * (C + 1).toNat ≤ 12 * 1001 := Nat.mul_le_mul (by omega) (by omega)
    by_cases hlt : i < q.length
    · rw [if_pos hlt] at h
      have e1 : decide ((i : Int) < ((q.map arrP).length : Int)) = true := by rw [decide_eq_true_iff, List.length_map]; omega
      have e2 : idx (i : Int) (q.map arrP).length := ⟨by omega, by rw [List.length_map]; omega⟩
      have e3 : Int.toNat (i : Int) < (q.map arrP).length := by rw [List.length_map]; omega
      have hs := hq _ (getD_mem hlt (0, 0, ()))
      rw [e1, cond_true, if_pos e2, if_pos (⟨by omega, by omega⟩ : idx 0 2), if_pos e3, if_pos e2, if_pos (⟨by omega, by omega⟩ : idx 1 2), if_pos e3, Int.toNat_natCast, g39L128154_eq, arrP_get q hlt]
      revert h hs
      generalize q.getD i (0, 0, ()) = t
      intro h hs
      have el := fun k0 => ref_every_row (D := D) N hw (by omega) hk hC k0 (i : Int) t hs a1 a2 u1 u2 o1 o2 N 0 [] q (by omega) (by omega) (by simp) (by omega)
      simp only [Int.natCast_zero, List.drop_zero] at el
      rw [show (arrP t).getD (Int.toNat 0) 0 = t.1 from rfl, show (arrP t).getD (Int.toNat 1) 0 = t.2.1 from rfl, el]
      obtain ⟨new, ext, e, g1, g2, g3, g4, g5⟩ := bfsRow_spec idK (evStep x k) t (EvP x C) (List.range x.1.toNat) [] q (fun r hr => (ev_step hw hk hC hs (by have := List.mem_range.1 hr; omega)).1) hq (by rw [map_idK]; exact hn)
      rw [e] at h ⊢
      dsimp only at h ⊢
      rw [List.nil_append] at h ⊢
      obtain ⟨v, q1, q2⟩ := at_any hx N (by omega) t.1 t.2.1 hs.s.1 hs.s.2 hs.c.1 (by have := hs.c; omega)
      have hv : evOut x N t = v := by unfold evOut; rw [q1]; rfl
      rw [hv] at h
      rw [ref_at, q1, Option.bind_some, if_pos (by simp only [List.length_cons, List.length_nil, maxCount]; omega), if_pos (by simp only [List.length_cons, List.length_nil, maxCount]; omega), wn i (by omega)]
      exact ref_every_loop N hx hk hC hN k0 a1 a2 u1 u2 F (i + 1) (q ++ ext) _ _ l outs rows h (fun t ht => by
        rcases List.mem_append.1 ht with ht | ht
        · exact hq t ht
        · exact g3 t ht) (by rw [map_idK] at g4; exact g4) (by simp; omega) (by simp [l1]) (by simp [l2])
    · rw [if_neg hlt] at h
      have e1 : decide ((i : Int) < ((q.map arrP).length : Int)) = false := by rw [decide_eq_false_iff_not, List.length_map]; omega
      rw [e1, cond_false]
      simp only [Option.some.injEq, Prod.mk.injEq] at h
      obtain ⟨rfl, rfl, rfl⟩ := h
      rfl

/-- What the reference makes of every k-th number is what the program builds. -/
theorem every_one {x : MM} (hx : Tame x) {k C c : Int} (hk : 0 ≤ k ∧ k ≤ C + 1) (hC : C ≤ 1000) (hc : 0 ≤ c ∧ c ≤ C) (N : Nat) (hN : 1001 < N) (hN2 : (x.2.1.length : Int) * (C + 1) < N) :
    ∃ H l, g73 N x k c = some H ∧ g39 N x k c = some H ∧ Disc (0, 0, ()) x.1.toNat idK (evOut x N) (evStep x k) (0, c, ()) H l ∧ (∀ t ∈ l, EvP x C t) ∧ WM H ∧ H.1 = x.1 ∧ H.2.1.length ≤ x.2.1.length * (C + 1).toNat := by
  have hm := hx.many
  have hb := hx.base
  obtain ⟨H, l, e, hd, hl, hw, hb1, hlen, hbf⟩ := every_built hx hk hC hc N hN hN2
  refine ⟨H, l, e, ?_, hd, hl, hw, hb1, hlen⟩
  have := ref_every_loop N hx hk hC hN (fun e17 e18 e19 e20 e21 e22 e23 e24 e25 => some (e19, e24, e25, ())) 0 x.1 [] [] N 0 [(0, c, ())] [] [] l _ _ hbf (by intro t ht; simp only [List.mem_cons, List.not_mem_nil, or_false] at ht; subst ht; exact ⟨⟨by simp only; omega, by simp only; omega⟩, hc⟩) (by simp) (by simp) rfl rfl
  unfold g39
  rw [g39L250_eq, set_pair]
  refine Eq.trans this ?_
  obtain ⟨h1, h2, h3, ⟨⟩⟩ := H
  simp only at hb1
  rw [hb1]

end Go.Pv
