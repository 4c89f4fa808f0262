/- Plain: the program's form (g75, g69) and the reference's (g34) are made by discovering. -/
import Derived.Test.YtcfhdpbebiibjaaDoorPlU
set_option linter.unusedVariables false
set_option linter.unusedSimpArgs false
namespace Go.Pv

theorem range_drop {b r : Nat} (h : r < b) : (List.range b).drop r = r :: (List.range b).drop (r + 1) := by
  rw [List.drop_eq_getElem_cons (by simpa using h)]; simp

/-! ### What is built of states and steps (g75) -/
abbrev idK {α : Type} : α → α := fun v => v
theorem map_idK {α : Type} (q : List α) : q.map idK = q := by simp [idK]

theorem built_row (N : Nat) {b : Nat} (hb : b ≤ 1000) {C : Type} (k0 : Int → (Int × Unit → Option Int) → (Int × Int × Unit → Option Int) → Int → Int → Int → Int → List Int → List (Int × Int) → List Int → List Int → List (List Int) → List Int → List (List Int) → Option C)
    (v0 : Int) (f2 : Int × Unit → Option Int) (f3 : Int × Int × Unit → Option Int) (step : Int → Nat → Int) (i s : Int) (hs : ∀ r : Nat, r < b → f3 (s, (r : Int), ()) = some (step s r))
    (a1 a2 : Int) (u1 : List Int) (u2 : List (List Int)) (o1 : List Int) (o2 : List (List Int)) :
    ∀ (F r : Nat) (row q : List Int), b - r < F → r ≤ b → row.length ≤ r → q.length ≤ 100000 + r →
      g75L128154f N F k0 v0 f2 f3 i s (b : Int) (r : Int) a1 a2 row (mpairs 0 q) q u1 u2 o1 o2 =
        k0 v0 f2 f3 i s a1 a2 (bfsRow idK step s ((List.range b).drop r) row q).1 (mpairs 0 (bfsRow idK step s ((List.range b).drop r) row q).2) (bfsRow idK step s ((List.range b).drop r) row q).2 u1 u2 o1 o2
  | 0, r, row, q, hF, _, _, _ => by omega
  | F + 1, r, row, q, hF, hr, h1, h2 => by
    rw [g75L128154f_succ]
    unfold g75L128154B
    by_cases hlt : r < b
    · have e1 : decide ((r : Int) < (b : Int)) = true := by simp; omega
      rw [e1, cond_true, hs r hlt, Option.bind_some, range_drop hlt]
      unfold bfsRow
      rw [map_idK]
      rw [find_mpairs (int_eq .i64)]
      by_cases hm : step s r ∈ q
      · rw [if_pos hm, if_pos hm]
        simp only [Option.isSome_some, Bool.not_true, cond_false]
        rw [if_pos (by simp only [List.length_cons, List.length_nil, maxCount]; omega), Option.getD_some, wn r (by omega), Nat.zero_add]
        exact built_row N hb k0 v0 f2 f3 step i s hs a1 a2 u1 u2 o1 o2 F (r + 1) _ q (by omega) (by omega) (by simp; omega) (by omega)
      · rw [if_neg hm, if_neg hm]
        simp only [Option.isSome_none, Bool.not_false, cond_true]
        rw [put_mpairs (int_eq .i64) _ _ _ _ hm, show mpairs 0 q ++ [(step s r, (q.length : Int))] = mpairs 0 (q ++ [step s r]) by rw [mpairs_snoc]; simp, find_mpairs (int_eq .i64), if_pos (show step s r ∈ q ++ [step s r] from by simp)]
        rw [if_pos (by simp only [List.length_cons, List.length_nil, maxCount]; omega), if_pos (by simp only [List.length_cons, List.length_nil, maxCount]; omega), Option.getD_some, wn r (by omega), Nat.zero_add, posOf_new hm]
        exact built_row N hb k0 v0 f2 f3 step i s hs a1 a2 u1 u2 o1 o2 F (r + 1) _ _ (by omega) (by omega) (by simp; omega) (by simp; omega)
    · have e1 : decide ((r : Int) < (b : Int)) = false := by simp; omega
      rw [e1, cond_false, List.drop_of_length_le (by simp; omega)]; rfl

/-- Where the states met are few, each step of the queue is one of discovering. -/
theorem built_loop (N : Nat) {b : Nat} (hb : b ≤ 1000) (hN : 1001 < N) {C : Type} (k0 : Int → Int → List (Int × Int) → List Int → List Int → List (List Int) → List Int → List (List Int) → Option C)
    (f2 : Int × Unit → Option Int) (f3 : Int × Int × Unit → Option Int) (out : Int → Int) (step : Int → Nat → Int) (P : Int → Prop) (hP : ∀ s, P s → ∀ r, r < b → P (step s r)) (K : Nat) (hK : ∀ s, P s → 0 ≤ s ∧ s < (K : Int)) (hK2 : K ≤ 60000)
    (h2 : ∀ s, P s → f2 (s, ()) = some (out s)) (h3 : ∀ s, P s → ∀ r : Nat, r < b → f3 (s, (r : Int), ()) = some (step s r)) (a1 a2 : Int) (u1 : List Int) (u2 : List (List Int)) :
    ∀ (F i : Nat) (q o1 : List Int) (o2 : List (List Int)) (l outs : List Int) (rows : List (List Int)), bfs 0 idK out step b F i q o1 o2 = some (l, outs, rows) → (∀ t ∈ q, P t) → q.Nodup → i ≤ q.length → o1.length = i → o2.length = i →
      g75L250f N F k0 (b : Int) f2 f3 (i : Int) a1 a2 (mpairs 0 q) q u1 u2 o1 o2 = k0 a1 a2 (mpairs 0 l) l u1 u2 outs rows
  | 0, i, q, o1, o2, l, outs, rows, h, _, _, _, _, _ => by simp [bfs] at h
  | F + 1, i, q, o1, o2, l, outs, rows, h, hq, hn, hi, l1, l2 => by
    rw [g75L250f_succ]
    unfold g75L250B
    unfold bfs at h
    have hlen : q.length ≤ K := pigeon K q hn fun v hv => hK v (hq v hv)
    by_cases hlt : i < q.length
    · rw [if_pos hlt] at h
      have e1 : decide ((i : Int) < (q.length : Int)) = true := by simp; omega
      have e2 : idx (i : Int) q.length := ⟨by omega, by omega⟩
      have hs := hq _ (getD_mem hlt 0)
      rw [e1, cond_true, if_pos e2, if_pos (by rw [Int.toNat_natCast]; exact hlt), Int.toNat_natCast, g75L128154_eq]
      have el := fun k => built_row (C := C) N hb k (b : Int) f2 f3 step (i : Int) (q.getD i 0) (h3 _ hs) a1 a2 u1 u2 o1 o2 N 0 [] q (by omega) (by omega) (by simp) (by omega)
      simp only [Int.natCast_zero, List.drop_zero] at el
      rw [el]
      obtain ⟨new, ext, e, g1, g2, g3, g4, g5⟩ := bfsRow_spec idK step (q.getD i 0) P (List.range b) [] q (fun r hr => hP _ hs r (List.mem_range.1 hr)) hq (by rw [map_idK]; exact hn)
      rw [e] at h ⊢
      dsimp only at h ⊢
      rw [List.nil_append] at h ⊢
      rw [h2 _ hs, Option.bind_some, if_pos (by simp only [List.length_cons, List.length_nil, maxCount]; omega), if_pos (by simp only [List.length_cons, List.length_nil, maxCount]; omega), wn i (by omega)]
      exact built_loop N hb hN k0 f2 f3 out step P hP K hK hK2 h2 h3 a1 a2 u1 u2 F (i + 1) (q ++ ext) _ _ l outs rows h (fun t ht => by
        rcases List.mem_append.1 ht with ht | ht
        · exact hq t ht
        · exact g3 t ht) (by rw [map_idK] at g4; exact g4) (by simp; omega) (by simp [l1]) (by simp [l2])
    · rw [if_neg hlt] at h
      have e1 : decide ((i : Int) < (q.length : Int)) = false := by simp; omega
      rw [e1, cond_false]
      simp only [Option.some.injEq, Prod.mk.injEq] at h
      obtain ⟨rfl, rfl, rfl⟩ := h
      rfl

/-- What g75 builds. -/
theorem built_eq (N : Nat) {b : Nat} (hb : b ≤ 1000) (hN : 1001 < N) (a : Int) (f2 : Int × Unit → Option Int) (f3 : Int × Int × Unit → Option Int) (out : Int → Int) (step : Int → Nat → Int) (P : Int → Prop) (hP : ∀ s, P s → ∀ r, r < b → P (step s r))
    (K : Nat) (hK : ∀ s, P s → 0 ≤ s ∧ s < (K : Int)) (hK2 : K ≤ 60000) (hKN : K < N) (h2 : ∀ s, P s → f2 (s, ()) = some (out s)) (h3 : ∀ s, P s → ∀ r : Nat, r < b → f3 (s, (r : Int), ()) = some (step s r)) (ha : P a) :
    ∃ F l, g75 N (b : Int) a f2 f3 = some F ∧ Disc 0 b idK out step a F l ∧ ∀ t ∈ l, P t := by
  obtain ⟨l, outs, rows, e, hd, hl⟩ := bfs_disc 0 idK out step b P hP K idK hK (fun _ _ _ _ h => h) N hKN a ha
  refine ⟨_, l, ?_, hd, hl⟩
  unfold g75
  rw [g75L250_eq]
  have := built_loop N hb hN (fun e17 e18 e19 e20 e21 e22 e23 e24 => some (e18, e23, e24, ())) f2 f3 out step P hP K hK hK2 h2 h3 0 (b : Int) [] [] N 0 [a] [] [] l outs rows e (by simpa using ha) (by simp) (by simp) rfl rfl
  exact this

/-! ### The reference's form (g34) -/
theorem ref_row' (N : Nat) {x : MM} (hx : WM x) (hn : x.2.1.length ≤ 60000) {cl : List Int} (hcl : Cls x cl) {C : Type} (k0 : List Int → Int → Int → MM → Int → Int → List Int → List (Int × Int) → List Int → List Int → List (List Int) → List Int → List (List Int) → Option C)
    (i : Int) {s : Nat} (hs : s < x.2.1.length) (a1 a2 : Int) (u1 : List Int) (u2 : List (List Int)) (o1 : List Int) (o2 : List (List Int)) :
    ∀ (F r : Nat) (row q : List Int), x.1.toNat - r < F → (r : Int) ≤ x.1 → row.length ≤ r → q.length ≤ 100000 + r →
      g34L521370f N F k0 cl i (s : Int) (r : Int) x a1 a2 row (mpairs 0 (q.map fun s => cl.getD s.toNat 0)) q u1 u2 o1 o2 =
        k0 cl i (s : Int) x a1 a2 (bfsRow (fun s => cl.getD s.toNat 0) (fun s r => (x.2.2.1.getD s.toNat []).getD r 0) s ((List.range x.1.toNat).drop r) row q).1 (mpairs 0 ((bfsRow (fun s => cl.getD s.toNat 0) (fun s r => (x.2.2.1.getD s.toNat []).getD r 0) s ((List.range x.1.toNat).drop r) row q).2.map fun s => cl.getD s.toNat 0))
          (bfsRow (fun s => cl.getD s.toNat 0) (fun s r => (x.2.2.1.getD s.toNat []).getD r 0) s ((List.range x.1.toNat).drop r) row q).2 u1 u2 o1 o2
  | 0, r, row, q, hF, _, _, _ => by omega
  | F + 1, r, row, q, hF, hr, h1, h2 => by
    rw [g34L521370f_succ]
    unfold g34L521370B
    have hb := hx.base
    have hrow := hx.row s hs
    by_cases hlt : (r : Int) < x.1
    · have e1 : decide ((r : Int) < x.1) = true := by simpa using hlt
      have e2 : idx (s : Int) x.2.2.1.length := ⟨by omega, by have := hx.next; omega⟩
      have e3 : idx (r : Int) (x.2.2.1.getD s []).length := ⟨by omega, by omega⟩
      have hm := hx.at hs hlt
      have e4 : idx ((x.2.2.1.getD s []).getD r 0) cl.length := ⟨by omega, by have := hcl.len; omega⟩
      rw [e1, cond_true, if_pos e2]
      simp only [Int.toNat_natCast]
      rw [if_pos e3, if_pos e4, range_drop (by omega)]
      unfold bfsRow
      simp only [Int.toNat_natCast]
      rw [find_mpairs (int_eq .i64)]
      by_cases hq : cl.getD ((x.2.2.1.getD s []).getD r 0).toNat 0 ∈ q.map fun s => cl.getD s.toNat 0
      · rw [if_pos hq, if_pos hq]
        simp only [Option.isSome_some, Bool.not_true, cond_false]
        rw [if_pos e4, if_pos (by simp only [List.length_cons, List.length_nil, maxCount]; omega), Option.getD_some, wn r (by omega), Nat.zero_add]
        exact ref_row' N hx hn hcl k0 i hs a1 a2 u1 u2 o1 o2 F (r + 1) _ q (by omega) (by omega) (by simp; omega) (by omega)
      · rw [if_neg hq, if_neg hq]
        simp only [Option.isSome_none, Bool.not_false, cond_true]
        rw [put_mpairs (int_eq .i64) _ _ _ _ hq]
        have em : mpairs 0 (q.map fun s => cl.getD s.toNat 0) ++ [(cl.getD ((x.2.2.1.getD s []).getD r 0).toNat 0, (q.length : Int))] = mpairs 0 ((q ++ [(x.2.2.1.getD s []).getD r 0]).map fun s => cl.getD s.toNat 0) := by
          rw [List.map_append, List.map_cons, List.map_nil, mpairs_snoc]; simp
        rw [em, find_mpairs (int_eq .i64), if_pos (show cl.getD ((x.2.2.1.getD s []).getD r 0).toNat 0 ∈ (q ++ [(x.2.2.1.getD s []).getD r 0]).map fun s => cl.getD s.toNat 0 from by simp)]
        rw [if_pos e4, if_pos (by simp only [List.length_cons, List.length_nil, maxCount]; omega), if_pos e4, if_pos (by simp only [List.length_cons, List.length_nil, maxCount]; omega), Option.getD_some, wn r (by omega), Nat.zero_add]
        rw [show posOf (cl.getD ((x.2.2.1.getD s []).getD r 0).toNat 0) ((q ++ [(x.2.2.1.getD s []).getD r 0]).map fun s => cl.getD s.toNat 0) = q.length by rw [List.map_append, List.map_cons, List.map_nil, posOf_new hq, List.length_map]]
        exact ref_row' N hx hn hcl k0 i hs a1 a2 u1 u2 o1 o2 F (r + 1) _ _ (by omega) (by omega) (by simp; omega) (by simp; omega)
    · have e1 : decide ((r : Int) < x.1) = false := by simpa using hlt
      rw [e1, cond_false, List.drop_of_length_le (by simp; omega)]; rfl

theorem ref_loop (N : Nat) {x : MM} (hx : WM x) (hn : x.2.1.length ≤ 60000) (hN : 1001 < N) {cl : List Int} (hcl : Cls x cl) {C : Type} (k0 : MM → Int → Int → List (Int × Int) → List Int → List Int → List (List Int) → List Int → List (List Int) → Option C)
    (a1 a2 : Int) (u1 : List Int) (u2 : List (List Int)) :
    ∀ (F i : Nat) (q o1 : List Int) (o2 : List (List Int)) (l outs : List Int) (rows : List (List Int)), bfs 0 (fun s => cl.getD s.toNat 0) (fun s => x.2.1.getD s.toNat 0) (fun s r => (x.2.2.1.getD s.toNat []).getD r 0) x.1.toNat F i q o1 o2 = some (l, outs, rows) →
      (∀ t ∈ q, 0 ≤ t ∧ t < (x.2.1.length : Int)) → (q.map fun s => cl.getD s.toNat 0).Nodup → i ≤ q.length → o1.length = i → o2.length = i →
      g34L1018f N F k0 cl (i : Int) x a1 a2 (mpairs 0 (q.map fun s => cl.getD s.toNat 0)) q u1 u2 o1 o2 = k0 x a1 a2 (mpairs 0 (l.map fun s => cl.getD s.toNat 0)) l u1 u2 outs rows
  | 0, i, q, o1, o2, l, outs, rows, h, _, _, _, _, _ => by simp [bfs] at h
  | F + 1, i, q, o1, o2, l, outs, rows, h, hq, hnd, hi, l1, l2 => by
    rw [g34L1018f_succ]
    unfold g34L1018B
    unfold bfs at h
    have hb := hx.base
    have hlen : q.length ≤ x.2.1.length := by
      have := pigeon x.2.1.length _ hnd fun v hv => by
        obtain ⟨t, ht, rfl⟩ := List.mem_map.1 hv
        have := hq t ht
        exact hcl.rng _ (by omega)
      simpa using this
    by_cases hlt : i < q.length
    · rw [if_pos hlt] at h
      have e1 : decide ((i : Int) < (q.length : Int)) = true := by simp; omega
      have e2 : idx (i : Int) q.length := ⟨by omega, by omega⟩
      have hs := hq _ (getD_mem hlt 0)
      rw [e1, cond_true, if_pos e2, if_pos (by rw [Int.toNat_natCast]; exact hlt), Int.toNat_natCast, g34L521370_eq]
      obtain ⟨s, hse⟩ : ∃ s : Nat, q.getD i 0 = (s : Int) := ⟨(q.getD i 0).toNat, by omega⟩
      rw [hse] at h hs ⊢
      have hs' : s < x.2.1.length := by omega
      have el := fun k => ref_row' (C := C) N hx hn hcl k (i : Int) hs' a1 a2 u1 u2 o1 o2 N 0 [] q (by omega) (by omega) (by simp) (by omega)
      simp only [Int.natCast_zero, List.drop_zero] at el
      rw [el]
      obtain ⟨new, ext, e, g1, g2, g3, g4, g5⟩ := bfsRow_spec (fun s => cl.getD s.toNat 0) (fun s r => (x.2.2.1.getD s.toNat []).getD r 0) (s : Int) (fun t => 0 ≤ t ∧ t < (x.2.1.length : Int)) (List.range x.1.toNat) [] q (fun r hr => by
        have hr := List.mem_range.1 hr
        have := hx.at hs' (r := r) (by omega)
        rw [Int.toNat_natCast]; omega) hq hnd
      rw [e] at h ⊢
      dsimp only at h ⊢
      rw [List.nil_append] at h ⊢
      rw [Int.toNat_natCast] at h ⊢
      have e3 : idx (s : Int) x.2.1.length := ⟨by omega, by omega⟩
      rw [if_pos e3, if_pos (by simp only [List.length_cons, List.length_nil, maxCount]; omega), if_pos (by simp only [List.length_cons, List.length_nil, maxCount]; omega), wn i (by omega)]
      exact ref_loop N hx hn hN hcl k0 a1 a2 u1 u2 F (i + 1) (q ++ ext) _ _ l outs rows h (fun t ht => by
        rcases List.mem_append.1 ht with ht | ht
        · exact hq t ht
        · exact g3 t ht) g4 (by simp; omega) (by simp [l1]) (by simp [l2])
    · rw [if_neg hlt] at h
      have e1 : decide ((i : Int) < (q.length : Int)) = false := by simp; omega
      rw [e1, cond_false]
      simp only [Option.some.injEq, Prod.mk.injEq] at h
      obtain ⟨rfl, rfl, rfl⟩ := h
      rfl

end Go.Pv
