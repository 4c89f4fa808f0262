/- Plain (printed by mkbuilt.py): what g61 builds of pairs is made by discovering. -/
import Derived.Test.YtcfhdpbebiibjaaDoorPlY
set_option linter.unusedVariables false
set_option linter.unusedSimpArgs false
namespace Go.Pv

theorem built_row61 (N : Nat) {b : Nat} (hb : b ≤ 1000) {C : Type} (k0 : Int → (PP × Unit → Option Int) → (PP × Int × Unit → Option PP) → Int → Int → Int → PP → List Int → List (PP × Int) → List PP → List Int → List (List Int) → List Int → List (List Int) → Option C)
    (v0 : Int) (f2 : PP × Unit → Option Int) (f3 : PP × Int × Unit → Option PP) (step : PP → Nat → PP) (i : Int) (s : PP) (hs : ∀ r : Nat, r < b → f3 (s, (r : Int), ()) = some (step s r))
    (a1 a2 : Int) (u1 : List Int) (u2 : List (List Int)) (o1 : List Int) (o2 : List (List Int)) :
    ∀ (F r : Nat) (row : List Int) (q : List PP), b - r < F → r ≤ b → row.length ≤ r → q.length ≤ 100000 + r →
      g61L128154f N F k0 v0 f2 f3 i (b : Int) (r : Int) a1 a2 s row (mpairs 0 q) q u1 u2 o1 o2 =
        k0 v0 f2 f3 i a1 a2 s (bfsRow idK step s ((List.range b).drop r) row q).1 (mpairs 0 (bfsRow idK step s ((List.range b).drop r) row q).2) (bfsRow idK step s ((List.range b).drop r) row q).2 u1 u2 o1 o2
  | 0, r, row, q, hF, _, _, _ => by omega
  | F + 1, r, row, q, hF, hr, h1, h2 => by
    rw [g61L128154f_succ]
    unfold g61L128154B
    by_cases hlt : r < b
    · have e1 : decide ((r : Int) < (b : Int)) = true := by simp; omega
      rw [e1, cond_true, hs r hlt, Option.bind_some, range_drop hlt]
      unfold bfsRow
      rw [map_idK]
      rw [find_mpairs pp_eq]
      by_cases hm : step s r ∈ q
      · rw [if_pos hm, if_pos hm]
        simp only [Option.isSome_some, Bool.not_true, cond_false]
        rw [if_pos (by simp only [List.length_cons, List.length_nil, maxCount]; omega), Option.getD_some, wn r (by omega), Nat.zero_add]
        exact built_row61 N hb k0 v0 f2 f3 step i s hs a1 a2 u1 u2 o1 o2 F (r + 1) _ q (by omega) (by omega) (by simp; omega) (by omega)
      · rw [if_neg hm, if_neg hm]
        simp only [Option.isSome_none, Bool.not_false, cond_true]
        rw [put_mpairs pp_eq _ _ _ _ hm, show mpairs 0 q ++ [(step s r, (q.length : Int))] = mpairs 0 (q ++ [step s r]) by rw [mpairs_snoc]; simp, find_mpairs pp_eq, if_pos (show step s r ∈ q ++ [step s r] from by simp)]
        rw [if_pos (by simp only [List.length_cons, List.length_nil, maxCount]; omega), if_pos (by simp only [List.length_cons, List.length_nil, maxCount]; omega), Option.getD_some, wn r (by omega), Nat.zero_add, posOf_new hm]
        exact built_row61 N hb k0 v0 f2 f3 step i s hs a1 a2 u1 u2 o1 o2 F (r + 1) _ _ (by omega) (by omega) (by simp; omega) (by simp; omega)
    · have e1 : decide ((r : Int) < (b : Int)) = false := by simp; omega
      rw [e1, cond_false, List.drop_of_length_le (by simp; omega)]; rfl

theorem built_loop61 (N : Nat) {b : Nat} (hb : b ≤ 1000) (hN : 1001 < N) {C : Type} (k0 : Int → Int → List (PP × Int) → List PP → List Int → List (List Int) → List Int → List (List Int) → Option C)
    (f2 : PP × Unit → Option Int) (f3 : PP × Int × Unit → Option PP) (out : PP → Int) (step : PP → Nat → PP) (P : PP → Prop) (hP : ∀ s, P s → ∀ r, r < b → P (step s r)) (K : Nat) (num : PP → Int) (hK : ∀ s, P s → 0 ≤ num s ∧ num s < (K : Int)) (hinj : ∀ s t, P s → P t → num s = num t → s = t) (hK2 : K ≤ 60000)
    (h2 : ∀ s, P s → f2 (s, ()) = some (out s)) (h3 : ∀ s, P s → ∀ r : Nat, r < b → f3 (s, (r : Int), ()) = some (step s r)) (a1 a2 : Int) (u1 : List Int) (u2 : List (List Int)) :
    ∀ (F i : Nat) (q : List PP) (o1 : List Int) (o2 : List (List Int)) (l : List PP) (outs : List Int) (rows : List (List Int)), bfs (0, 0, ()) idK out step b F i q o1 o2 = some (l, outs, rows) → (∀ t ∈ q, P t) → q.Nodup → i ≤ q.length → o1.length = i → o2.length = i →
      g61L250f N F k0 (b : Int) f2 f3 (i : Int) a1 a2 (mpairs 0 q) q u1 u2 o1 o2 = k0 a1 a2 (mpairs 0 l) l u1 u2 outs rows
  | 0, i, q, o1, o2, l, outs, rows, h, _, _, _, _, _ => by simp [bfs] at h
  | F + 1, i, q, o1, o2, l, outs, rows, h, hq, hn, hi, l1, l2 => by
    rw [g61L250f_succ]
    unfold g61L250B
    unfold bfs at h
    have hlen : q.length ≤ K := pigeon_num idK num hinj hK hq (by rw [map_idK]; exact hn)
    by_cases hlt : i < q.length
    · rw [if_pos hlt] at h
      have e1 : decide ((i : Int) < (q.length : Int)) = true := by simp; omega
      have e2 : idx (i : Int) q.length := ⟨by omega, by omega⟩
      have hs := hq _ (getD_mem hlt (0, 0, ()))
      rw [e1, cond_true, if_pos e2, if_pos (by rw [Int.toNat_natCast]; exact hlt), Int.toNat_natCast, g61L128154_eq]
      have el := fun k => built_row61 (C := C) N hb k (b : Int) f2 f3 step (i : Int) (q.getD i (0, 0, ())) (h3 _ hs) a1 a2 u1 u2 o1 o2 N 0 [] q (by omega) (by omega) (by simp) (by omega)
      simp only [Int.natCast_zero, List.drop_zero] at el
      rw [el]
      obtain ⟨new, ext, e, g1, g2, g3, g4, g5⟩ := bfsRow_spec idK step (q.getD i (0, 0, ())) P (List.range b) [] q (fun r hr => hP _ hs r (List.mem_range.1 hr)) hq (by rw [map_idK]; exact hn)
      rw [e] at h ⊢
      dsimp only at h ⊢
      rw [List.nil_append] at h ⊢
      rw [h2 _ hs, Option.bind_some, if_pos (by simp only [List.length_cons, List.length_nil, maxCount]; omega), if_pos (by simp only [List.length_cons, List.length_nil, maxCount]; omega), wn i (by omega)]
      exact built_loop61 N hb hN k0 f2 f3 out step P hP K num hK hinj hK2 h2 h3 a1 a2 u1 u2 F (i + 1) (q ++ ext) _ _ l outs rows h (fun t ht => by
        rcases List.mem_append.1 ht with ht | ht
        · exact hq t ht
        · exact g3 t ht) (by rw [map_idK] at g4; exact g4) (by simp; omega) (by simp [l1]) (by simp [l2])
    · rw [if_neg hlt] at h
      have e1 : decide ((i : Int) < (q.length : Int)) = false := by simp; omega
      rw [e1, cond_false]
      simp only [Option.some.injEq, Prod.mk.injEq] at h
      obtain ⟨rfl, rfl, rfl⟩ := h
      rfl

/-- What g61 builds. -/
theorem built_eq61 (N : Nat) {b : Nat} (hb : b ≤ 1000) (hN : 1001 < N) (a : PP) (f2 : PP × Unit → Option Int) (f3 : PP × Int × Unit → Option PP) (out : PP → Int) (step : PP → Nat → PP) (P : PP → Prop) (hP : ∀ s, P s → ∀ r, r < b → P (step s r))
    (K : Nat) (num : PP → Int) (hK : ∀ s, P s → 0 ≤ num s ∧ num s < (K : Int)) (hinj : ∀ s t, P s → P t → num s = num t → s = t) (hK2 : K ≤ 60000) (hKN : K < N) (h2 : ∀ s, P s → f2 (s, ()) = some (out s)) (h3 : ∀ s, P s → ∀ r : Nat, r < b → f3 (s, (r : Int), ()) = some (step s r)) (ha : P a) :
    ∃ F l, g61 N (b : Int) a f2 f3 = some F ∧ Disc (0, 0, ()) b idK out step a F l ∧ (∀ t ∈ l, P t) ∧ F.2.1.length ≤ K ∧ bfs (0, 0, ()) idK out step b N 0 [a] [] [] = some (l, F.2.1, F.2.2.1) := by
  obtain ⟨l, outs, rows, e, hd, hl⟩ := bfs_disc (0, 0, ()) idK out step b P hP K num hK hinj N hKN a ha
  refine ⟨_, l, ?_, hd, hl, by rw [hd.out, List.length_map]; exact pigeon_num idK num hinj hK hl hd.nodup, e⟩
  unfold g61
  rw [g61L250_eq]
  have := built_loop61 N hb hN (fun e17 e18 e19 e20 e21 e22 e23 e24 => some (e18, e23, e24, ())) f2 f3 out step P hP K num hK hinj hK2 h2 h3 0 (b : Int) [] [] N 0 [a] [] [] l outs rows e (by simpa using ha) (by simp) (by simp) rfl rfl
  exact this

end Go.Pv
