/- Plain: the classes of a machine's states, by the reference. -/
import Derived.Test.YtcfhdpbebiibjaaDoorPlS
set_option linter.unusedVariables false
set_option linter.unusedSimpArgs false
namespace Go.Pv

/-! ### How many classes there are -/
theorem numD_last {K : Type} [DecidableEq K] : ∀ (l D : List K), (∃ k, k ∈ l ∧ posOf k (numD l D) + 1 = (numD l D).length) ∨ (numD l D).length = D.length
  | [], D => .inr rfl
  | k :: r, D => by
    unfold numD
    by_cases hk : k ∈ D
    · rw [if_pos hk]
      rcases numD_last r D with ⟨q, h1, h2⟩ | h
      · exact .inl ⟨q, by simp [h1], h2⟩
      · exact .inr h
    · rw [if_neg hk]
      rcases numD_last r (D ++ [k]) with ⟨q, h1, h2⟩ | h
      · exact .inl ⟨q, by simp [h1], h2⟩
      · refine .inl ⟨k, by simp, ?_⟩
        rw [numD_pos r (D ++ [k]) k (by simp), posOf_new hk, h]; simp
theorem Numb.top {n : Nat} {key : Nat → List UInt8} {D : List (List UInt8)} {cl : List Int} (h : Numb n key D cl) (hn : 0 < n) : ∃ s, s < n ∧ cl.getD s 0 + 1 = (D.length : Int) := by
  rcases numD_last ((List.range n).map key) ([] : List (List UInt8)) with ⟨k, h1, h2⟩ | h1
  · obtain ⟨s, hs, rfl⟩ := List.mem_map.1 h1
    rw [List.mem_range] at hs
    refine ⟨s, hs, ?_⟩
    rw [h.val s hs, h.d]; omega
  · have := List.length_pos_of_mem (h.mem hn)
    rw [h.d, h1] at this
    simp at this

theorem max_loop (N : Nat) {C : Type} (k0 : Int → Option C) (l : List Int) (hl : l.length ≤ 60000) :
    ∀ (F i : Nat) (m : Int), l.length - i < F → i ≤ l.length → ∃ r, g72L58f N F k0 l m (i : Int) = k0 r ∧ m ≤ r ∧ (∀ j, i ≤ j → j < l.length → l.getD j 0 ≤ r) ∧ (r = m ∨ ∃ j, j < l.length ∧ l.getD j 0 = r)
  | 0, i, m, hF, _ => by omega
  | F + 1, i, m, hF, hi => by
    rw [g72L58f_succ]
    unfold g72L58B
    by_cases hlt : i < l.length
    · have e1 : decide ((i : Int) < (l.length : Int)) = true := by simp; omega
      have e2 : idx (i : Int) l.length := ⟨by omega, by omega⟩
      rw [e1, cond_true, if_pos e2, Int.toNat_natCast, wn i (by omega)]
      obtain ⟨r, e, h1, h2, h3⟩ := max_loop N k0 l hl F (i + 1) (imax m (l.getD i 0)) (by omega) (by omega)
      refine ⟨r, e, ?_, fun j hj hj2 => ?_, ?_⟩
      · unfold imax at h1; split at h1 <;> omega
      · by_cases hji : j = i
        · subst hji; unfold imax at h1; split at h1 <;> omega
        · exact h2 j (by omega) hj2
      · rcases h3 with h3 | h3
        · unfold imax at h3
          split at h3
          · first | exact .inl h3 | exact .inr ⟨i, hlt, h3.symm⟩
          · first | exact .inl h3 | exact .inr ⟨i, hlt, h3.symm⟩
        · exact .inr h3
    · have e1 : decide ((i : Int) < (l.length : Int)) = false := by simp; omega
      rw [e1, cond_false]
      exact ⟨m, rfl, by omega, fun j h1 h2 => by omega, .inl rfl⟩

theorem count_eq (N : Nat) {n : Nat} (hn : 0 < n) (hn2 : n ≤ 60000) (hN : n < N) {key : Nat → List UInt8} {D : List (List UInt8)} {cl : List Int} (h : Numb n key D cl) : g72 N cl = some (D.length : Int) := by
  unfold g72
  rw [g72L58_eq]
  have hl := h.len
  obtain ⟨r, e, h1, h2, h3⟩ := max_loop N (fun e1 => some (IntKind.wrap .i64 (e1 + 1))) cl (by omega) N 0 0 (by omega) (by omega)
  simp only [Int.natCast_zero] at e
  rw [e]
  obtain ⟨s, hs, ht⟩ := h.top hn
  have hsm := h.small
  have a := h2 s (by omega) (by omega)
  have : r + 1 = (D.length : Int) := by
    rcases h3 with rfl | ⟨j, hj, rfl⟩
    · have := (h.rng hs).1; omega
    · have := (h.rng (s := j) (by omega)).2; omega
  rw [w64 (by omega) (by omega), this]

/-! ### The reference's classes (g71, g34L28) -/
theorem g95_eq (N : Nat) (v : Int) : g95 N v = some (enc3 v) := rfl
theorem enc3_len (v : Int) : (enc3 v).length = 3 := rfl

theorem txt_loop (N : Nat) {x : MM} (hx : WM x) (cl : List Int) (hcl : cl.length = x.2.1.length) {s : Nat} (hs : s < x.2.1.length) {C : Type} (k0 : List Int → Int → List UInt8 → MM → List Int → List (List UInt8 × Int) → Option C)
    (out : List Int) (mp : List (List UInt8 × Int)) : ∀ (F j : Nat) (acc : List UInt8), (x.2.2.1.getD s []).length - j < F → j ≤ (x.2.2.1.getD s []).length → acc.length + 3 * ((x.2.2.1.getD s []).length - j) ≤ 100000 →
      g71L31306f N F k0 cl (s : Int) acc (j : Int) x out mp = k0 cl (s : Int) (acc ++ ((x.2.2.1.getD s []).drop j).flatMap fun t => enc3 (cl.getD t.toNat 0)) x out mp
  | 0, j, acc, hF, _, _ => by omega
  | F + 1, j, acc, hF, hj, ha => by
    rw [g71L31306f_succ]
    unfold g71L31306B
    have hr := hx.row s hs
    have hb := hx.base
    by_cases hlt : j < (x.2.2.1.getD s []).length
    · have e1 : decide ((j : Int) < x.1) = true := by simp; omega
      have e2 : idx (s : Int) x.2.2.1.length := ⟨by omega, by have := hx.next; omega⟩
      have e3 : idx (j : Int) (x.2.2.1.getD s []).length := ⟨by omega, by omega⟩
      have hm := hx.rng s hs _ (getD_mem hlt 0)
      have e4 : idx ((x.2.2.1.getD s []).getD j 0) cl.length := ⟨hm.1, by omega⟩
      rw [e1, cond_true, if_pos e2, Int.toNat_natCast, if_pos e3, Int.toNat_natCast, if_pos e4, g95_eq, Option.bind_some, if_pos (by rw [enc3_len]; omega), wn j (by omega)]
      have ih := txt_loop N hx cl hcl hs k0 out mp F (j + 1) (acc ++ enc3 (cl.getD ((x.2.2.1.getD s []).getD j 0).toNat 0)) (by omega) (by omega) (by rw [List.length_append, enc3_len]; omega)
      refine Eq.trans ih ?_
      rw [dropD _ hlt, List.flatMap_cons, List.append_assoc]
    · have e1 : decide ((j : Int) < x.1) = false := by simp; omega
      rw [e1, cond_false, List.drop_of_length_le (by omega)]; simp

def keyR (x : MM) (cl : List Int) (s : Nat) : List UInt8 := enc3 (oM x s) ++ (around x cl s).flatMap enc3
theorem keyR_eq (x : MM) (cl : List Int) (s : Nat) : (enc3 (x.2.1.getD s 0) ++ enc3 (cl.getD s 0)) ++ ((x.2.2.1.getD s []).drop 0).flatMap (fun t => enc3 (cl.getD t.toNat 0)) = keyR x cl s := by
  unfold keyR around oM
  rw [List.drop_zero, List.flatMap_cons, List.flatMap_map, List.append_assoc]
theorem keyR_iff {x : MM} (hx : WM x) {cl : List Int} (hp : Part x cl) (hc : ∀ s, s < x.2.1.length → 0 ≤ cl.getD s 0 ∧ cl.getD s 0 < 65536) {s t : Nat} (hs : s < x.2.1.length) (ht : t < x.2.1.length) :
    keyR x cl s = keyR x cl t ↔ around x cl s = around x cl t := by
  constructor
  · intro h
    unfold keyR at h
    exact (around_key hx hc enc3_len enc3_inj hs ht).1 (List.append_inj h rfl).2
  · intro h
    have := ((around_iff hx cl hs ht).1 h).1
    unfold keyR
    rw [h, hp.outs s t hs ht this]

theorem split_loop {x : MM} (hx : WM x) (hn : x.2.1.length ≤ 60000) (N : Nat) (hN : 1001 < N) (cl : List Int) (hcl : cl.length = x.2.1.length) {C : Type} (k0 : MM → List Int → List (List UInt8 × Int) → Option C) :
    ∀ (F s : Nat) (D : List (List UInt8)) (out : List Int), x.2.1.length - s < F → s ≤ x.2.1.length → out.length = s → (∀ i, i < s → keyR x cl i ∈ D ∧ out.getD i 0 = (posOf (keyR x cl i) D : Int)) →
      ∃ out', g71L122f N F k0 cl (s : Int) x out (mpairs 0 D) = k0 x out' (mpairs 0 (numD (((List.range x.2.1.length).drop s).map (keyR x cl)) D)) ∧ out'.length = x.2.1.length ∧
        ∀ i, i < x.2.1.length → out'.getD i 0 = (posOf (keyR x cl i) (numD (((List.range x.2.1.length).drop s).map (keyR x cl)) D) : Int)
  | 0, s, D, out, hF, _, _, _ => by omega
  | F + 1, s, D, out, hF, hs, ho, hinv => by
    rw [g71L122f_succ]
    unfold g71L122B
    by_cases hlt : s < x.2.1.length
    · have e1 : decide ((s : Int) < (x.2.1.length : Int)) = true := by simp; omega
      have e2 : idx (s : Int) x.2.1.length := ⟨by omega, by omega⟩
      have e3 : idx (s : Int) cl.length := ⟨by omega, by omega⟩
      have hr := hx.row s hlt
      have hb := hx.base
      rw [e1, cond_true, if_pos e2, Int.toNat_natCast, g95_eq, Option.bind_some, if_pos e3, g95_eq, Option.bind_some, if_pos (by rw [enc3_len, enc3_len]; omega), g71L31306_eq]
      have el := fun k => txt_loop (C := C) N hx cl hcl hlt k out (mpairs 0 D) N 0 (enc3 (x.2.1.getD s 0) ++ enc3 (cl.getD s 0)) (by omega) (by omega) (by rw [List.length_append, enc3_len, enc3_len]; omega)
      simp only [Int.natCast_zero] at el
      rw [el]
      simp only [keyR_eq]
      rw [drop_range (keyR x cl) hlt]
      rw [find_mpairs str_eq]
      have gd : ∀ (v : Int) (i : Nat), i ≤ s → (out ++ [v]).getD i 0 = if s = i then v else out.getD i 0 := fun v i hi => by
        rw [List.getD_eq_getElem?_getD, List.getD_eq_getElem?_getD]
        split
        · rename_i e; subst e; rw [List.getElem?_append_right (by omega)]; simp [ho]
        · rw [List.getElem?_append_left (by omega)]
      by_cases hm : keyR x cl s ∈ D
      · rw [if_pos hm]
        simp only [Option.isSome_some, Bool.not_true, cond_false]
        rw [if_pos (by simp only [List.length_cons, List.length_nil, maxCount]; omega), Option.getD_some, wn s (by omega)]
        have ih := split_loop hx hn N hN cl hcl k0 F (s + 1) D (out ++ [((0 + posOf (keyR x cl s) D : Nat) : Int)]) (by omega) (by omega) (by simp [ho]) (fun i hi => by
          rw [gd _ i (by omega)]
          by_cases his : s = i
          · subst his; rw [if_pos rfl]; exact ⟨hm, by omega⟩
          · rw [if_neg his]; exact hinv i (by omega))
        unfold numD
        rw [if_pos hm]
        exact ih
      · rw [if_neg hm]
        simp only [Option.isSome_none, Bool.not_false, cond_true]
        rw [mpairs_len, put_mpairs str_eq _ _ _ _ hm, show mpairs 0 D ++ [(keyR x cl s, (D.length : Int))] = mpairs 0 (D ++ [keyR x cl s]) by rw [mpairs_snoc]; simp, find_mpairs str_eq, if_pos (show keyR x cl s ∈ D ++ [keyR x cl s] from by simp)]
        rw [if_pos (by simp only [List.length_cons, List.length_nil, maxCount]; omega), Option.getD_some, wn s (by omega)]
        have ih := split_loop hx hn N hN cl hcl k0 F (s + 1) (D ++ [keyR x cl s]) (out ++ [((0 + posOf (keyR x cl s) (D ++ [keyR x cl s]) : Nat) : Int)]) (by omega) (by omega) (by simp [ho]) (fun i hi => by
          rw [gd _ i (by omega)]
          by_cases his : s = i
          · subst his; rw [if_pos rfl]; exact ⟨by simp, by omega⟩
          · rw [if_neg his]
            have := hinv i (by omega)
            exact ⟨by simp [this.1], by rw [posOf_append _ this.1]; exact this.2⟩)
        unfold numD
        rw [if_neg hm]
        exact ih
    · have e1 : decide ((s : Int) < (x.2.1.length : Int)) = false := by simp; omega
      have : s = x.2.1.length := by omega
      subst this
      rw [e1, cond_false, List.drop_of_length_le (by simp), List.map_nil]
      exact ⟨out, rfl, ho, fun i hi => (hinv i hi).2⟩

theorem split_eq {x : MM} (hx : WM x) (hn : x.2.1.length ≤ 60000) (N : Nat) (hN : 1001 < N) (hN2 : x.2.1.length < N) (cl : List Int) (hcl : cl.length = x.2.1.length) :
    ∃ out D, g71 N x cl = some out ∧ Numb x.2.1.length (keyR x cl) D out := by
  unfold g71
  rw [g71L122_eq]
  obtain ⟨out, e, e2, e3⟩ := split_loop hx hn N hN cl hcl (fun e10 e11 e12 => some e11) N 0 [] [] (by omega) (by omega) rfl (fun i hi => by omega)
  simp only [Int.natCast_zero, mpairs, List.drop_zero] at e e3
  exact ⟨out, _, e, e2, rfl, e3⟩

theorem ref_rounds {x : MM} (hx : WM x) (hn : x.2.1.length ≤ 60000) (N : Nat) (hN : 1001 < N) (hN2 : x.2.1.length < N) {C : Type} (k0 : List Int → MM → Int → List Int → List (List Int) → Option C) (u : Int) (v : List Int) (w : List (List Int)) :
    ∀ (F : Nat) (cl : List Int) (key : Nat → List UInt8) (D : List (List UInt8)), Part x cl → Numb x.2.1.length key D cl → x.2.1.length - D.length < F →
      ∃ cl', g34L28f N F k0 cl x u v w = k0 cl' x u v w ∧ Cls x cl'
  | 0, cl, key, D, _, _, hF => by omega
  | F + 1, cl, key, D, hp, g0, hF => by
    rw [g34L28f_succ]
    unfold g34L28B
    have hmany := hx.many
    have hr : ∀ s, s < x.2.1.length → 0 ≤ cl.getD s 0 ∧ cl.getD s 0 < 65536 := fun s hs => by have := g0.rng hs; have := g0.small; omega
    obtain ⟨out, E, e, g⟩ := split_eq hx hn N hN hN2 cl g0.len
    rw [e, Option.bind_some, count_eq N (by omega) hn hN2 g, Option.bind_some, count_eq N (by omega) hn hN2 g0, Option.bind_some]
    have hk : ∀ s t, s < x.2.1.length → t < x.2.1.length → (keyR x cl s = keyR x cl t ↔ around x cl s = around x cl t) := fun s t hs ht => keyR_iff hx hp hr hs ht
    by_cases hq : E.length = D.length
    · have : ieq (E.length : Int) (D.length : Int) = true := by simp [ieq, hq]
      rw [this, cond_true]
      exact ⟨cl, rfl, (hp.stop hx g0.len g0 g hk hq.symm).1⟩
    · have : ieq (E.length : Int) (D.length : Int) = false := by simp [ieq]; omega
      rw [this, cond_false]
      have := g0.more g (fun s t hs ht he => by
        rw [hk s t hs ht, around_iff hx cl hs ht] at he
        exact (g0.iff hs ht).1 he.1)
      have := g.small
      exact ref_rounds hx hn N hN hN2 k0 u v w F out _ E (hp.next hx g hk) g (by omega)

end Go.Pv
