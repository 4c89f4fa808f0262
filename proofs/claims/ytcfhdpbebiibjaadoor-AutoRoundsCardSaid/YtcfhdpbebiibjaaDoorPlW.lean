/- Plain: the program's form is the reference's. -/
import Derived.Test.YtcfhdpbebiibjaaDoorPlV
set_option linter.unusedVariables false
set_option linter.unusedSimpArgs false
namespace Go.Pv

theorem toNat_inj_lt {l : List Int} {n : Nat} (h : ∀ t ∈ l, 0 ≤ t ∧ t < (n : Int)) {i : Nat} (hi : i < l.length) : ((l.map Int.toNat).getD i 0 : Int) = l.getD i 0 ∧ (l.map Int.toNat).getD i 0 < n := by
  have := h _ (getD_mem hi 0)
  have e : (l.map Int.toNat).getD i 0 = (l.getD i 0).toNat := by
    rw [getD_of hi, List.getD_eq_getElem?_getD, List.getElem?_map, List.getElem?_eq_getElem hi]; rfl
  rw [e]; omega

theorem nodup_get {α κ : Type} {d : α} {key : α → κ} {l : List α} (h : (l.map key).Nodup) {i j : Nat} (hi : i < l.length) (hj : j < l.length) (he : key (l.getD i d) = key (l.getD j d)) : i = j := by
  rw [getD_of hi, getD_of hj] at he
  have := (List.getElem_inj (xs := l.map key) (i := i) (j := j) (h₀ := by simpa using hi) (h₁ := by simpa using hj) h).1 (by simpa using he)
  exact this

/-- A machine that is made by discovering one state of each class. -/
theorem Disc.made {x : MM} (hx : WM x) {cl : List Int} (hcl : Cls x cl) {key out : Int → Int} {step : Int → Nat → Int} {a : Int} {F : MM} {l : List Int} (h : Disc 0 x.1.toNat key out step a F l)
    (rep : Int → Nat) (hl : ∀ t ∈ l, rep t < x.2.1.length ∧ key t = cl.getD (rep t) 0 ∧ out t = oM x (rep t) ∧ ∀ r : Nat, (r : Int) < x.1 → key (step t r) = cl.getD (dM x (rep t) r) 0)
    (ha : cl.getD (rep a) 0 = cl.getD 0 0) : Made x F (fun s => cl.getD s 0) (l.map rep) := by
  have hb := hx.base
  have gr : ∀ i, i < l.length → (l.map rep).getD i 0 = rep (l.getD i 0) := fun i hi => by
    rw [getD_of hi, List.getD_eq_getElem?_getD, List.getElem?_map, List.getElem?_eq_getElem hi]; rfl
  have gm : ∀ i, i < l.length → l.getD i 0 ∈ l := fun i hi => getD_mem hi 0
  have h1 := h.some1
  refine ⟨by rw [h.base]; omega, by simpa using h1, fun i hi => ?_, fun i j hi hj he => ?_, ?_, ?_, by rw [h.next]; simp, fun i hi => ?_, fun i r hi hr => ?_, h.order⟩
  · rw [List.length_map] at hi; rw [gr i hi]; exact (hl _ (gm i hi)).1
  · rw [List.length_map] at hi hj
    rw [gr i hi, gr j hj, ← (hl _ (gm i hi)).2.1, ← (hl _ (gm j hj)).2.1] at he
    exact nodup_get h.nodup hi hj he
  · rw [gr 0 (by omega), h.first]; exact ha
  · rw [h.out, List.map_map]
    exact List.map_congr_left fun t ht => (hl t ht).2.2.1
  · rw [List.length_map] at hi; rw [h.rowl i hi]; omega
  · rw [List.length_map] at hi
    obtain ⟨j, e1, e2, e3⟩ := h.way i r hi (by omega)
    refine ⟨j, e1, by rw [List.length_map]; exact e2, ?_⟩
    rw [gr i hi, gr j e2, ← (hl _ (gm j e2)).2.1, e3, (hl _ (gm i hi)).2.2.2 r hr]

theorem ref_form {x : MM} (hx : WM x) (hn : x.2.1.length ≤ 60000) (N : Nat) (hN : 1001 < N) (hN2 : x.2.1.length < N) : ∃ F, g34 N x = some F ∧ F.1 = x.1 ∧ Form F ∧ Same F x 0 0 ∧ F.2.1.length ≤ x.2.1.length := by
  have hmany := hx.many
  have hb := hx.base
  have hr : ∀ s, s < x.2.1.length → 0 ≤ x.2.1.getD s 0 ∧ x.2.1.getD s 0 < 65536 := fun s hs => by have := hx.out _ (getD_mem hs 0); omega
  obtain ⟨c0, D, e, g⟩ := split_eq hx hn N hN hN2 x.2.1 rfl
  have hp := (part_outs x).next hx g fun s t hs ht => keyR_iff hx (part_outs x) hr hs ht
  obtain ⟨cl, e2, hcl⟩ := ref_rounds hx hn N hN hN2 (fun e5 e6 e7 e8 e9 => if idx 0 (List.length e5) then g34L1018 N (fun e23 e24 e25 e26 e27 e28 e29 e30 e31 => some (e25, e30, e31, ())) e5 0 e6 e7 e6.1 (mapPut (Ty.beq (.int .i64)) (List.getD e5 (Int.toNat 0) 0) 0 ([] : List (Int × Int))) [0] e8 e9 ([] : List Int) ([] : List (List Int)) else none) 0 [] [] N c0 _ D hp g (by omega)
  obtain ⟨l, outs, rows, e3, hd, hl⟩ := bfs_disc 0 (fun s => cl.getD s.toNat 0) (fun s => x.2.1.getD s.toNat 0) (fun s r => (x.2.2.1.getD s.toNat []).getD r 0) x.1.toNat (fun t => 0 ≤ t ∧ t < (x.2.1.length : Int))
    (fun s hs r hr => by have := hx.at (s := s.toNat) (r := r) (by omega) (by omega); omega) x.2.1.length idK (fun s hs => hcl.rng _ (by omega)) (fun _ _ _ _ h => h) N hN2 0 ⟨by omega, by omega⟩
  have e4 := ref_loop N hx hn hN hcl (fun e23 e24 e25 e26 e27 e28 e29 e30 e31 => some (e25, e30, e31, ())) 0 x.1 [] [] N 0 [0] [] [] l outs rows e3 (by intro t ht; simp only [List.mem_cons, List.not_mem_nil, or_false] at ht; subst ht; omega) (by simp) (by simp) rfl rfl
  have hm : Made x ((x.1.toNat : Int), outs, rows, ()) (fun s => cl.getD s 0) (l.map Int.toNat) := hd.made hx hcl Int.toNat (fun t ht => by
    have := hl t ht
    exact ⟨by omega, rfl, rfl, fun r hr => rfl⟩) rfl
  have hF := hm.form hx hcl.iff
  have hsm : l.length ≤ x.2.1.length := by
    have := pigeon x.2.1.length _ hd.nodup fun v hv => by
      obtain ⟨t, ht, rfl⟩ := List.mem_map.1 hv
      have := hl t ht
      exact hcl.rng _ (by omega)
    simpa using this
  refine ⟨_, ?_, hm.base, hF.1, hF.2, by rw [hd.out, List.length_map]; exact hsm⟩
  unfold g34
  rw [e, Option.bind_some, g34L28_eq, e2, if_pos (⟨by omega, by have := hcl.len; omega⟩ : idx 0 cl.length), g34L1018_eq]
  refine Eq.trans e4 ?_
  rw [show ((x.1.toNat : Nat) : Int) = x.1 by omega]

/-! ### The program's -/
theorem first_loop' (N : Nat) {x : MM} (hx : WM x) (hn : x.2.1.length ≤ 60000) {cl : List Int} (hcl : Cls x cl) {C : Type} (k0 : MM → Int → List Int → List Int → List Int → List (List Int) → Option C) (u : Int) (v : List Int) (w : List (List Int)) :
    ∀ (F i : Nat) (fs : List Int), i < F → i ≤ x.2.1.length → fs.length = x.2.1.length → (∀ s, i ≤ s → s < x.2.1.length → ∃ t : Nat, fs.getD (cl.getD s 0).toNat 0 = (t : Int) ∧ t < x.2.1.length ∧ cl.getD t 0 = cl.getD s 0) →
      ∃ fs', g69L122f N F k0 ((i : Int) - 1) x u cl fs v w = k0 x u cl fs' v w ∧ fs'.length = x.2.1.length ∧ ∀ s, s < x.2.1.length → ∃ t : Nat, fs'.getD (cl.getD s 0).toNat 0 = (t : Int) ∧ t < x.2.1.length ∧ cl.getD t 0 = cl.getD s 0
  | 0, i, fs, hF, _, _, _ => by omega
  | F + 1, i, fs, hF, hi, hl, hinv => by
    rw [g69L122f_succ]
    unfold g69L122B
    cases i with
    | zero =>
      have e1 : decide ((0 : Int) ≤ ((0 : Nat) : Int) - 1) = false := by simp
      rw [e1, cond_false]
      exact ⟨fs, rfl, hl, fun s hs => hinv s (by omega) hs⟩
    | succ i =>
      have e1 : decide ((0 : Int) ≤ ((i + 1 : Nat) : Int) - 1) = true := by rw [decide_eq_true_iff]; omega
      rw [show ((i + 1 : Nat) : Int) - 1 = (i : Int) by omega] at e1 ⊢
      have hlen := hcl.len
      have hrg := hcl.rng i (by omega)
      have e2 : idx (i : Int) cl.length := ⟨by omega, by omega⟩
      have e3 : idx (cl.getD i 0) fs.length := ⟨by omega, by omega⟩
      rw [e1, cond_true, if_pos e2, Int.toNat_natCast, if_pos e3, if_pos (by omega), w64 (by omega) (by omega)]
      refine first_loop' N hx hn hcl k0 u v w F i _ (by omega) (by omega) (by rw [List.length_set]; exact hl) fun s hs hs2 => ?_
      rw [getD_set _ (by omega)]
      by_cases hq : (cl.getD i 0).toNat = (cl.getD s 0).toNat
      · rw [if_pos hq]
        have := hcl.rng s hs2
        exact ⟨i, rfl, by omega, by omega⟩
      · rw [if_neg hq]
        by_cases hsi : s = i
        · subst hsi; exact absurd rfl hq
        · exact hinv s (by omega) hs2

theorem prog_form {x : MM} (hx : WM x) (hn : x.2.1.length ≤ 60000) (N : Nat) (hN : 1001 < N) (hN2 : x.2.1.length < N) : ∃ F, g69 N x = some F ∧ F.1 = x.1 ∧ Form F ∧ Same F x 0 0 := by
  have hmany := hx.many
  have hb := hx.base
  obtain ⟨cl, e, hcl⟩ := classes_eq hx hn N hN hN2
  have hlen := hcl.len
  obtain ⟨fs, e2, f1, f2⟩ := first_loop' N hx hn hcl (fun e2 e3 e4 e5 e6 e7 => if idx 0 (List.length e4) then Option.bind (g75 N e2.1 (List.getD e4 (Int.toNat 0) 0) (fun (x8 : Int × Unit) => Option.bind (g92 N x8.1 e2 e5) fun y9 => some y9) (fun (x10 : Int × Int × Unit) => Option.bind (g93 N x10.1 x10.2.1 e4 e2 e5) fun y11 => some y11)) fun r12 => some r12 else none) 0 [] [] N x.2.1.length (List.replicate (Int.toNat ((cl.length : Nat) : Int)) 0) (by omega) (by omega) (by simp [hlen]) (fun s hs hs2 => by omega)
  obtain ⟨F, l, e3, hd, hl⟩ := built_eq N (b := x.1.toNat) (by omega) hN (cl.getD 0 0) (fun (x8 : Int × Unit) => Option.bind (g92 N x8.1 x fs) fun y9 => some y9) (fun (x10 : Int × Int × Unit) => Option.bind (g93 N x10.1 x10.2.1 cl x fs) fun y11 => some y11)
    (fun c => oM x (fs.getD c.toNat 0).toNat) (fun c r => cl.getD (dM x (fs.getD c.toNat 0).toNat r) 0) (fun c => ∃ s, s < x.2.1.length ∧ cl.getD s 0 = c)
    (fun c hc r hr => by
      obtain ⟨s, hs, rfl⟩ := hc
      obtain ⟨t, h1, h2, h3⟩ := f2 s hs
      rw [h1, Int.toNat_natCast]
      exact ⟨_, (hx.at h2 (r := r) (by omega)).2, rfl⟩) x.2.1.length (fun c hc => by
      obtain ⟨s, hs, rfl⟩ := hc
      exact hcl.rng s hs) hn hN2 (fun c hc => by
      obtain ⟨s, hs, rfl⟩ := hc
      obtain ⟨t, h1, h2, h3⟩ := f2 s hs
      have := hcl.rng s hs
      dsimp only
      unfold g92
      rw [if_pos (⟨by omega, by omega⟩ : idx _ _), h1, if_pos (⟨by omega, by omega⟩ : idx _ _)]; rfl) (fun c hc r hr => by
      obtain ⟨s, hs, rfl⟩ := hc
      obtain ⟨t, h1, h2, h3⟩ := f2 s hs
      have := hcl.rng s hs
      have hrow := hx.row t h2
      have hat := hx.at h2 (r := r) (by omega)
      have hnx := hx.next
      dsimp only
      unfold g93
      rw [if_pos (⟨by omega, by omega⟩ : idx _ _), h1, if_pos (⟨by omega, by omega⟩ : idx _ _)]
      simp only [Int.toNat_natCast]
      rw [if_pos (⟨by omega, by omega⟩ : idx _ _), if_pos (⟨by omega, by omega⟩ : idx _ _)]; rfl) ⟨0, by omega, rfl⟩
  have hm := hd.made hx hcl (fun c => (fs.getD c.toNat 0).toNat) (fun c hc => by
    obtain ⟨s, hs, rfl⟩ := hl c hc
    obtain ⟨t, h1, h2, h3⟩ := f2 s hs
    rw [h1, Int.toNat_natCast]
    exact ⟨h2, h3.symm, rfl, fun r hr => rfl⟩) (by
    obtain ⟨t, h1, h2, h3⟩ := f2 0 (by omega)
    rw [h1, Int.toNat_natCast]; exact h3)
  have hF := hm.form hx hcl.iff
  refine ⟨F, ?_, hm.base, hF⟩
  unfold g69
  rw [e, Option.bind_some, if_pos (by exact ⟨rfl, by omega, by omega⟩), g69L122_eq, w64 (by omega) (by omega), hlen] 
  rw [hlen] at e2
  refine Eq.trans e2 ?_
  rw [if_pos (⟨by omega, by omega⟩ : idx 0 x.2.1.length)]
  rw [show ((x.1.toNat : Nat) : Int) = x.1 by omega] at e3
  rw [show Int.toNat 0 = 0 from rfl, e3]; rfl

/-- Program and reference give the same form. -/
theorem forms_one {x : MM} (hx : WM x) (hn : x.2.1.length ≤ 60000) (N : Nat) (hN : 1001 < N) (hN2 : x.2.1.length < N) : ∃ F, g69 N x = some F ∧ g34 N x = some F ∧ F.1 = x.1 ∧ Form F ∧ Same F x 0 0 ∧ F.2.1.length ≤ x.2.1.length := by
  obtain ⟨F, e1, b1, f1, s1⟩ := prog_form hx hn N hN hN2
  obtain ⟨G, e2, b2, f2, s2, m2⟩ := ref_form hx hn N hN hN2
  have : F = G := f1.uniq f2 (by rw [b1, b2]) (s1.trans b1.symm (s2.symm b2.symm))
  subst this
  exact ⟨F, e1, e2, b1, f1, s1, m2⟩

end Go.Pv
