/- Plain: the classes of a machine's states, by the program. -/
import Derived.Test.YtcfhdpbebiibjaaDoorPlP
set_option linter.unusedVariables false
set_option linter.unusedSimpArgs false
namespace Go.Pv

theorem drop_range {β : Type} (f : Nat → β) {n s : Nat} (h : s < n) : ((List.range n).drop s).map f = f s :: ((List.range n).drop (s + 1)).map f := by
  rw [List.drop_eq_getElem_cons (by simpa using h)]; simp
theorem getD_of {α : Type} {l : List α} {i : Nat} (h : i < l.length) (d : α) : l.getD i d = l[i] := by rw [List.getD_eq_getElem?_getD, List.getElem?_eq_getElem h]; rfl
theorem dropD {α : Type} (l : List α) {i : Nat} (h : i < l.length) {d : α} : l.drop i = l.getD i d :: l.drop (i + 1) := by rw [List.drop_eq_getElem_cons h, getD_of h]
theorem getD_set {l : List Int} {i : Nat} (v : Int) (h : i < l.length) (j : Nat) : (l.set i v).getD j 0 = if i = j then v else l.getD j 0 := by
  rw [List.getD_eq_getElem?_getD, List.getD_eq_getElem?_getD, List.getElem?_set]
  split
  · rename_i e; subst e; simp [h]
  · rfl

theorem around_len {x : MM} (hx : WM x) (cl : List Int) {s : Nat} (hs : s < x.2.1.length) : ((around x cl s).length : Int) = x.1 + 1 := by
  have := hx.row s hs
  unfold around
  rw [List.length_cons, List.length_map]; omega
theorem around_rng {x : MM} (hx : WM x) {cl : List Int} (hc : ∀ s, s < x.2.1.length → 0 ≤ cl.getD s 0 ∧ cl.getD s 0 < 65536) {s : Nat} (hs : s < x.2.1.length) : ∀ v ∈ around x cl s, 0 ≤ v ∧ v < 65536 := by
  intro v hv
  unfold around at hv
  rcases List.mem_cons.1 hv with rfl | hv
  · exact hc s hs
  · obtain ⟨t, ht, rfl⟩ := List.mem_map.1 hv
    have := hx.rng s hs t ht
    exact hc _ (by omega)
theorem around_key {x : MM} (hx : WM x) {cl : List Int} (hc : ∀ s, s < x.2.1.length → 0 ≤ cl.getD s 0 ∧ cl.getD s 0 < 65536) {enc : Int → List UInt8} {L : Nat} (hl : ∀ v, (enc v).length = L) (hi : ∀ v w, 0 ≤ v → v < 65536 → 0 ≤ w → w < 65536 → enc v = enc w → v = w)
    {s t : Nat} (hs : s < x.2.1.length) (ht : t < x.2.1.length) : (around x cl s).flatMap enc = (around x cl t).flatMap enc ↔ around x cl s = around x cl t := by
  constructor
  · intro h
    exact flat_inj hl hi _ _ (by have := around_len hx cl hs; have := around_len hx cl ht; omega) (around_rng hx hc hs) (around_rng hx hc ht) h
  · intro h; rw [h]

/-- A machine's classes. -/
structure Cls (x : MM) (cl : List Int) : Prop where
  len : cl.length = x.2.1.length
  rng : ∀ s, s < x.2.1.length → 0 ≤ cl.getD s 0 ∧ cl.getD s 0 < (x.2.1.length : Int)
  iff : ∀ s t, s < x.2.1.length → t < x.2.1.length → (cl.getD s 0 = cl.getD t 0 ↔ Same x x s t)

theorem Part.next {x : MM} (hx : WM x) {cl cl' : List Int} (h : Part x cl) {key : Nat → List UInt8} {D : List (List UInt8)} (g : Numb x.2.1.length key D cl')
    (hk : ∀ s t, s < x.2.1.length → t < x.2.1.length → (key s = key t ↔ around x cl s = around x cl t)) : Part x cl' := by
  refine ⟨fun s t hs ht hq => ?_, fun s t hs ht he => ?_⟩
  · rw [g.iff hs ht, hk s t hs ht, around_iff hx cl hs ht]
    exact ⟨h.keeps s t hs ht hq, fun r hr => h.keeps _ _ (hx.at hs hr).2 (hx.at ht hr).2 (hq.step hr)⟩
  · rw [g.iff hs ht, hk s t hs ht, around_iff hx cl hs ht] at he
    exact h.outs s t hs ht he.1
theorem Part.stop {x : MM} (hx : WM x) {cl cl' : List Int} (h : Part x cl) (hn : cl.length = x.2.1.length) {k1 key : Nat → List UInt8} {D E : List (List UInt8)} (g0 : Numb x.2.1.length k1 D cl) (g : Numb x.2.1.length key E cl')
    (hk : ∀ s t, s < x.2.1.length → t < x.2.1.length → (key s = key t ↔ around x cl s = around x cl t)) (hl : D.length = E.length) : Cls x cl ∧ Cls x cl' := by
  have hf : ∀ s t, s < x.2.1.length → t < x.2.1.length → key s = key t → k1 s = k1 t := fun s t hs ht he => by
    rw [hk s t hs ht, around_iff hx cl hs ht] at he
    exact (g0.iff hs ht).1 he.1
  have hsame := g0.same g hf hl
  have hdone := h.done hx fun s t hs ht he r hr => by
    have : key s = key t := by rw [← g.iff hs ht, ← hsame s hs, ← hsame t ht]; exact he
    rw [hk s t hs ht, around_iff hx cl hs ht] at this
    exact this.2 r hr
  have hrng : ∀ s, s < x.2.1.length → 0 ≤ cl.getD s 0 ∧ cl.getD s 0 < (x.2.1.length : Int) := fun s hs => by
    have := g0.rng hs; have := g0.small; omega
  exact ⟨⟨hn, hrng, hdone⟩, ⟨g.len, fun s hs => by rw [← hsame s hs]; exact hrng s hs, fun s t hs ht => by rw [← hsame s hs, ← hsame t ht]; exact hdone s t hs ht⟩⟩

/-! ### The program's classes (g91) -/
theorem enc_loop (N : Nat) {C : Type} (k0 : List Int → Int → Int → List (List Int) → Int → Int → MM → List (List UInt8 × Int) → List Int → List Int → Option C)
    (cl : List Int) (p s : Int) (nx : List (List Int)) (m s' : Int) (l : List Int) (x : MM) (mp : List (List UInt8 × Int)) (out : List Int) (hl : ∀ t ∈ l, 0 ≤ t ∧ t < (cl.length : Int)) (hlen : l.length ≤ 10000) :
    ∀ (F j : Nat) (acc : List Int), l.length - j < F → j ≤ l.length → acc.length + 2 * (l.length - j) ≤ 100000 →
      g91L3959194f N F k0 cl p s nx m s' l (l.length : Int) (j : Int) x mp out acc = k0 cl p s nx m s' x mp out (acc ++ (l.drop j).flatMap fun t => enc2 (cl.getD t.toNat 0))
  | 0, j, acc, hF, _, _ => by omega
  | F + 1, j, acc, hF, hj, ha => by
    rw [g91L3959194f_succ]
    unfold g91L3959194B
    by_cases hlt : j < l.length
    · have e1 : decide ((j : Int) < (l.length : Int)) = true := by simp; omega
      have e2 : idx (j : Int) l.length := ⟨by omega, by omega⟩
      have hm := hl _ (getD_mem hlt 0)
      have e3 : idx (l.getD j 0) cl.length := ⟨hm.1, hm.2⟩
      rw [e1, cond_true, if_pos e2, Int.toNat_natCast, if_pos e3, if_pos e3, if_pos (by simp only [List.length_cons, List.length_nil, maxCount]; omega), wn j (by omega)]
      have ih := enc_loop N k0 cl p s nx m s' l x mp out hl hlen F (j + 1) (acc ++ enc2 (cl.getD (l.getD j 0).toNat 0)) (by omega) (by omega) (by simp only [List.length_append, enc2, List.length_cons, List.length_nil]; omega)
      refine Eq.trans ih ?_
      rw [dropD l hlt, List.flatMap_cons, List.append_assoc]
    · have e1 : decide ((j : Int) < (l.length : Int)) = false := by simp; omega
      rw [e1, cond_false, List.drop_of_length_le (by omega)]; simp

def keyP (x : MM) (cl : List Int) (s : Nat) : List UInt8 := (around x cl s).flatMap enc2b
theorem keyP_eq (x : MM) (cl : List Int) (s : Nat) : List.map (fun n : Int => n.toNat.toUInt8) (enc2 (cl.getD s 0) ++ ((x.2.2.1.getD s []).drop 0).flatMap fun t => enc2 (cl.getD t.toNat 0)) = keyP x cl s := by
  unfold keyP around enc2b
  rw [List.drop_zero, List.flatMap_cons, List.map_append, List.map_flatMap, List.flatMap_map]

theorem cls_loop {x : MM} (hx : WM x) (hn : x.2.1.length ≤ 60000) (N : Nat) (hN : 1001 < N) (cl : List Int) (hcl : cl.length = x.2.1.length) {C : Type} (k0 : Int → MM → List (List UInt8 × Int) → List Int → Option C) (p : Int) :
    ∀ (F s : Nat) (D : List (List UInt8)) (out : List Int), x.2.1.length - s < F → s ≤ x.2.1.length → out.length = x.2.1.length → (∀ i, i < s → keyP x cl i ∈ D ∧ out.getD i 0 = (posOf (keyP x cl i) D : Int)) →
      ∃ out', g91L3866f N F k0 cl p x.2.2.1 (x.2.2.1.length : Int) (s : Int) x (mpairs 0 D) out = k0 p x (mpairs 0 (numD (((List.range x.2.1.length).drop s).map (keyP x cl)) D)) out' ∧ out'.length = x.2.1.length ∧
        ∀ i, i < x.2.1.length → out'.getD i 0 = (posOf (keyP x cl i) (numD (((List.range x.2.1.length).drop s).map (keyP x cl)) D) : Int)
  | 0, s, D, out, hF, _, _, _ => by omega
  | F + 1, s, D, out, hF, hs, ho, hinv => by
    rw [g91L3866f_succ]
    unfold g91L3866B
    by_cases hlt : s < x.2.1.length
    · have e1 : decide ((s : Int) < (x.2.2.1.length : Int)) = true := by have := hx.next; simp; omega
      have e2 : idx (s : Int) x.2.2.1.length := ⟨by omega, by have := hx.next; omega⟩
      have e3 : idx (s : Int) cl.length := ⟨by omega, by omega⟩
      have e4 : idx (s : Int) out.length := ⟨by omega, by omega⟩
      have hr := hx.row s hlt
      have hb := hx.base
      rw [e1, cond_true, if_pos e2, if_pos e3, if_pos e3, Int.toNat_natCast, g91L3959194_eq]
      have hl : ∀ t ∈ x.2.2.1.getD s [], 0 ≤ t ∧ t < (cl.length : Int) := fun t ht => by rw [hcl]; exact hx.rng s hlt t ht
      have el := fun k => enc_loop (C := C) N k cl p (s : Int) x.2.2.1 (x.2.2.1.length : Int) (s : Int) (x.2.2.1.getD s []) x (mpairs 0 D) out hl (by omega) N 0 (enc2 (cl.getD s 0)) (by omega) (by omega) (by simp only [enc2, List.length_cons, List.length_nil]; omega)
      simp only [Int.natCast_zero] at el
      rw [show [IntKind.wrap .u8 (Int.fdiv (cl.getD s 0) (2 ^ 8)), IntKind.wrap .u8 (cl.getD s 0)] = enc2 (cl.getD s 0) from rfl, el]
      simp only [keyP_eq]
      rw [drop_range (keyP x cl) hlt]
      rw [find_mpairs str_eq]
      by_cases hm : keyP x cl s ∈ D
      · rw [if_pos hm]
        simp only [Option.isSome_some, Bool.not_true, cond_false]
        rw [if_pos e4, if_pos (by rw [Int.toNat_natCast]; omega), Option.getD_some, wn s (by omega), Int.toNat_natCast]
        have ih := cls_loop hx hn N hN cl hcl k0 p F (s + 1) D (out.set s ((0 + posOf (keyP x cl s) D : Nat) : Int)) (by omega) (by omega) (by rw [List.length_set]; exact ho) (fun i hi => by
          rw [getD_set _ (by omega)]
          by_cases his : s = i
          · subst his; rw [if_pos rfl]; exact ⟨hm, by omega⟩
          · rw [if_neg his]; exact hinv i (by omega))
        unfold numD
        rw [if_pos hm]
        exact ih
      · rw [if_neg hm]
        simp only [Option.isSome_none, Bool.not_false, cond_true]
        rw [mpairs_len, put_mpairs str_eq _ _ _ _ hm, show mpairs 0 D ++ [(keyP x cl s, (D.length : Int))] = mpairs 0 (D ++ [keyP x cl s]) by rw [mpairs_snoc]; simp, find_mpairs str_eq, if_pos (show keyP x cl s ∈ D ++ [keyP x cl s] from by simp)]
        rw [if_pos e4, if_pos (by rw [Int.toNat_natCast]; omega), Option.getD_some, wn s (by omega), Int.toNat_natCast]
        have ih := cls_loop hx hn N hN cl hcl k0 p F (s + 1) (D ++ [keyP x cl s]) (out.set s ((0 + posOf (keyP x cl s) (D ++ [keyP x cl s]) : Nat) : Int)) (by omega) (by omega) (by rw [List.length_set]; exact ho) (fun i hi => by
          rw [getD_set _ (by omega)]
          by_cases his : s = i
          · subst his; rw [if_pos rfl]; exact ⟨by simp, by omega⟩
          · rw [if_neg his]
            have := hinv i (by omega)
            exact ⟨by simp [this.1], by rw [posOf_append _ this.1]; exact this.2⟩)
        unfold numD
        rw [if_neg hm]
        exact ih
    · have e1 : decide ((s : Int) < (x.2.2.1.length : Int)) = false := by have := hx.next; simp; omega
      have : s = x.2.1.length := by omega
      subst this
      rw [e1, cond_false, List.drop_of_length_le (by simp), List.map_nil]
      exact ⟨out, rfl, ho, fun i hi => (hinv i hi).2⟩

theorem cls_rounds {x : MM} (hx : WM x) (hn : x.2.1.length ≤ 60000) (N : Nat) (hN : 1001 < N) (hN2 : x.2.1.length < N) {C : Type} (k0 : MM → List Int → Option C) :
    ∀ (F : Nat) (cl : List Int) (many : Nat), Part x cl → cl.length = x.2.1.length → (∀ s, s < x.2.1.length → 0 ≤ cl.getD s 0 ∧ cl.getD s 0 < 65536) → (many = 0 ∨ ∃ key D, Numb x.2.1.length key D cl ∧ many = D.length) → x.2.1.length - many < F →
      ∃ cl', g91L30f N F k0 cl (many : Int) x = k0 x cl' ∧ Cls x cl'
  | 0, cl, many, _, _, _, _, hF => by omega
  | F + 1, cl, many, hp, hl, hr, hm, hF => by
    rw [g91L30f_succ]
    unfold g91L30B
    have hmany := hx.many
    rw [if_pos (by exact ⟨rfl, by omega, by omega⟩), g91L3866_eq]
    obtain ⟨out, e, e2, e3⟩ := cls_loop hx hn N hN cl hl (fun e12 e13 e14 e15 => bif (ieq ((List.length e14 : Nat) : Int) e12) then (k0 e13 e15) else (g91L30f N F k0 e15 ((List.length e14 : Nat) : Int) e13)) (many : Int) N 0 [] (List.replicate (Int.toNat ((cl.length : Nat) : Int)) 0) (by omega) (by omega) (by simp [hl]) (fun i hi => by omega)
    simp only [Int.natCast_zero, mpairs, List.drop_zero] at e e3
    rw [e, mpairs_len]
    have g : Numb x.2.1.length (keyP x cl) (numD ((List.range x.2.1.length).map (keyP x cl)) []) out := ⟨e2, rfl, e3⟩
    have hk : ∀ s t, s < x.2.1.length → t < x.2.1.length → (keyP x cl s = keyP x cl t ↔ around x cl s = around x cl t) := fun s t hs ht => around_key (enc := enc2b) (L := 2) hx hr (fun v => rfl) enc2b_inj hs ht
    revert g
    generalize numD ((List.range x.2.1.length).map (keyP x cl)) [] = E
    intro g
    have hE : 0 < E.length := List.length_pos_of_mem (g.mem (s := 0) (by omega))
    by_cases hq : E.length = many
    · have : ieq (E.length : Int) (many : Int) = true := by simp [ieq, hq]
      rw [this, cond_true]
      rcases hm with rfl | ⟨key, D, g0, rfl⟩
      · omega
      · exact ⟨out, rfl, (hp.stop hx hl g0 g hk hq.symm).2⟩
    · have : ieq (E.length : Int) (many : Int) = false := by simp [ieq]; omega
      rw [this, cond_false]
      have hlt : many < E.length := by
        rcases hm with rfl | ⟨key, D, g0, rfl⟩
        · exact hE
        · have := g0.more g (fun s t hs ht he => by
            rw [hk s t hs ht, around_iff hx cl hs ht] at he
            exact (g0.iff hs ht).1 he.1)
          omega
      have hsm := g.small
      exact cls_rounds hx hn N hN hN2 k0 F out E.length (hp.next hx g hk) e2 (fun s hs => by have := g.rng hs; omega) (.inr ⟨_, E, g, rfl⟩) (by omega)

/-- What the program calls the classes of a machine's states. -/
theorem classes_eq {x : MM} (hx : WM x) (hn : x.2.1.length ≤ 60000) (N : Nat) (hN : 1001 < N) (hN2 : x.2.1.length < N) : ∃ cl, g91 N x = some cl ∧ Cls x cl := by
  unfold g91 g101
  have := hx.many
  rw [if_pos (by omega), if_pos (by simp only [List.length_nil, maxCount]; omega)]
  simp only [Option.bind_some, List.nil_append]
  rw [g91L30_eq]
  exact cls_rounds hx hn N hN hN2 (fun e16 e17 => some e17) N x.2.1 0 (part_outs x) rfl (fun s hs => by
    have := hx.out _ (getD_mem hs 0)
    omega) (.inl rfl) (by omega)

end Go.Pv
