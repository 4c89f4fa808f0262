/- The purifying layer, part 24: freezing, forgetting, results. -/
import Derived.Test.YtcfhdpbebiibjaaDoorPvW
import Derived.Scope
set_option linter.unusedVariables false
set_option linter.unusedSimpArgs false
namespace Go.Pv
variable {P : Program} {Γ : Cfg} {C : Type} {cx : Cx} {tm : Tm} {lk : Lk} {a : Act} {w : World} {Fz : Nat → Prop} {pos : Nat → Value}

theorem look_map (p : Nat → Bool) (g : Nat × Obj → Nat × Obj) : ∀ (l : List (Nat × Nat × Obj)) (x : Nat), lookObj ((l.filter fun q => p q.1).map fun q => (q.1, g q.2)) x = if p x then (lookObj l x).map g else none
  | [], x => by simp [lookObj]
  | (k, s, o) :: r, x => by
    simp only [List.filter_cons]
    by_cases hp : p k = true
    · rw [if_pos hp]
      simp only [List.map_cons, lookObj, look_map p g r x]
      by_cases hk : k = x
      · subst hk; simp [hp]
      · simp [hk]
    · rw [if_neg hp]
      rw [look_map p g r x]
      by_cases hk : k = x
      · subst hk; simp [hp]
      · simp [lookObj, hk]
theorem objsOk_look : ∀ (l : List (Nat × Nat × Obj)), objsOk l = true → ∀ k s o, lookObj l k = some (s, o) → o.fitOk = true
  | [], _, k, s, o, h => by simp [lookObj] at h
  | (k', s', o') :: r, hok, k, s, o, h => by
    simp only [objsOk, Bool.and_eq_true] at hok
    simp only [lookObj] at h
    split at h
    · simp only [Option.some.injEq, Prod.mk.injEq] at h
      obtain ⟨rfl, rfl⟩ := h
      exact hok.1
    · exact objsOk_look r hok.2 k s o h

theorem RelIn.remap (r : RelIn cx tm lk a w Fz pos) {f : V → V} {Fz' : Nat → Prop} {tm' : Tm} {lk' : Lk} (ht : ∀ t, tm' t = (tm t).mapT f ∨ tm' t = .junk)
    (hl : ∀ k s o, lk' k = some (s, o) → ∃ s0 o0, lk k = some (s0, o0) ∧ o = o0.mapV f ∧ o.fitOk = true) (m : AtomMap (cx.e Fz w lk pos) (cx.e Fz' w lk' pos) f)
    (hown : ∀ k s o b, lk' k = some (s, o) → vblk (pos k) = some b → ¬ Fz' b) (hstep : Step cx.Fz0 cx.w0 Fz' w) : RelIn cx tm' lk' a w Fz' pos := by
  refine ⟨r.size, r.defers, fun t => ?_, fun k s o h => ?_, fun k s o b h hb => ?_, fun k s o k' s' o' b h h' hb hb' => ?_, hstep, r.inv0⟩
  · rcases ht t with h | h
    · rw [h]; exact mapT_rep m (r.tmps t)
    · rw [h]; trivial
  · obtain ⟨s0, o0, h1, rfl, h2⟩ := hl k s o h
    exact mapO_rep m h2 (fun _ _ => rfl) (r.objs k s0 o0 h1)
  · obtain ⟨s0, o0, h1, _, _⟩ := hl k s o h
    exact ⟨hown k s o b h hb, (r.own k s0 o0 b h1 hb).2⟩
  · obtain ⟨s0, o0, h1, _, _⟩ := hl k s o h
    obtain ⟨s1, o1, h2, _, _⟩ := hl k' s' o' h'
    exact r.inj k s0 o0 k' s1 o1 b h1 h2 hb hb'

/-- An atom whose object stays, whatever its stamp. -/
theorem kept_ref {Fz' : Nat → Prop} {lk' : Lk} {f : V → V} {k s s2 : Nat} {p : List Nat} {o : Obj} {u : Value} (h : RepA (cx.e Fz w lk pos) (.ref k s p) u) (hk : lk k = some (s, o)) (hk' : lk' k = some (s2, o.mapV f)) :
    RepA (cx.e Fz' w lk' pos) (.ref k s2 p) u := by
  obtain ⟨h1, s', o', hlk, hle, hv⟩ := h
  have hlk : lk k = some (s', o') := hlk
  rw [hk] at hlk
  simp only [Option.some.injEq, Prod.mk.injEq] at hlk
  obtain ⟨rfl, rfl⟩ := hlk
  refine ⟨h1, s2, o.mapV f, hk', Nat.le_refl _, fun _ => ?_⟩
  obtain ⟨d, ad, h2, h3, h4⟩ := hv rfl
  exact ⟨d, ad, by rw [Obj.alike_off (mapV_alike o)]; exact h2, h3, h4⟩
theorem kept_sl {Fz' : Nat → Prop} {lk' : Lk} {f : V → V} {k s s2 : Nat} {e : Ty} {o : Obj} {u : Value} (h : RepA (cx.e Fz w lk pos) (.sl e k s) u) (hk : lk k = some (s, o)) (hk' : lk' k = some (s2, o.mapV f)) :
    RepA (cx.e Fz' w lk' pos) (.sl e k s2) u := by
  obtain ⟨h1, s', o', hlk, hle, hv⟩ := h
  have hlk : lk k = some (s', o') := hlk
  rw [hk] at hlk
  simp only [Option.some.injEq, Prod.mk.injEq] at hlk
  obtain ⟨rfl, rfl⟩ := hlk
  exact ⟨h1, s2, o.mapV f, hk', Nat.le_refl _, fun _ => ⟨Obj.alike_isVec (mapV_alike o) (hv rfl).1, (hv rfl).2⟩⟩
theorem kept_mp {Fz' : Nat → Prop} {lk' : Lk} {f : V → V} {k s s2 : Nat} {o : Obj} {u : Value} (h : RepA (cx.e Fz w lk pos) (.mp k s) u) (hk : lk k = some (s, o)) (hk' : lk' k = some (s2, o.mapV f)) :
    RepA (cx.e Fz' w lk' pos) (.mp k s2) u := by
  obtain ⟨h1, s', o', hlk, hle, hv⟩ := h
  have hlk : lk k = some (s', o') := hlk
  rw [hk] at hlk
  simp only [Option.some.injEq, Prod.mk.injEq] at hlk
  obtain ⟨rfl, rfl⟩ := hlk
  exact ⟨h1, s2, o.mapV f, hk', Nat.le_refl _, fun _ => hv rfl⟩
/-- The same of a stale one. -/
theorem stale_ref {Fz' : Nat → Prop} {lk' : Lk} {f : V → V} {k s s1 : Nat} {p : List Nat} {o : Obj} {u : Value} (h : RepA (cx.e Fz w lk pos) (.ref k s p) u) (hk : lk k = some (s1, o)) (hk' : lk' k = some (s1, o.mapV f)) :
    RepA (cx.e Fz' w lk' pos) (.ref k s p) u := by
  by_cases he : s = s1
  · subst he; exact kept_ref h hk hk'
  · obtain ⟨h1, s', o', hlk, hle, hv⟩ := h
    have hlk : lk k = some (s', o') := hlk
    rw [hk] at hlk
    simp only [Option.some.injEq, Prod.mk.injEq] at hlk
    obtain ⟨rfl, rfl⟩ := hlk
    exact ⟨h1, s1, o.mapV f, hk', hle, fun e => absurd e he⟩
theorem stale_sl {Fz' : Nat → Prop} {lk' : Lk} {f : V → V} {k s s1 : Nat} {e : Ty} {o : Obj} {u : Value} (h : RepA (cx.e Fz w lk pos) (.sl e k s) u) (hk : lk k = some (s1, o)) (hk' : lk' k = some (s1, o.mapV f)) :
    RepA (cx.e Fz' w lk' pos) (.sl e k s) u := by
  by_cases he : s = s1
  · subst he; exact kept_sl h hk hk'
  · obtain ⟨h1, s', o', hlk, hle, hv⟩ := h
    have hlk : lk k = some (s', o') := hlk
    rw [hk] at hlk
    simp only [Option.some.injEq, Prod.mk.injEq] at hlk
    obtain ⟨rfl, rfl⟩ := hlk
    exact ⟨h1, s1, o.mapV f, hk', hle, fun e => absurd e he⟩
theorem stale_mp {Fz' : Nat → Prop} {lk' : Lk} {f : V → V} {k s s1 : Nat} {o : Obj} {u : Value} (h : RepA (cx.e Fz w lk pos) (.mp k s) u) (hk : lk k = some (s1, o)) (hk' : lk' k = some (s1, o.mapV f)) :
    RepA (cx.e Fz' w lk' pos) (.mp k s) u := by
  by_cases he : s = s1
  · subst he; exact kept_mp h hk hk'
  · obtain ⟨h1, s', o', hlk, hle, hv⟩ := h
    have hlk : lk k = some (s', o') := hlk
    rw [hk] at hlk
    simp only [Option.some.injEq, Prod.mk.injEq] at hlk
    obtain ⟨rfl, rfl⟩ := hlk
    exact ⟨h1, s1, o.mapV f, hk', hle, fun e => absurd e he⟩

theorem map_tm (st : St) (f : V → V) : ∀ t, (st.tmps.mapV (V.mapT f)).get t = (st.tm t).mapT f := fun t => Tms.get_map _ rfl _ _

/-! ### Freezing one object -/
theorem frz1_rep (hΓ : CfgOk P Γ) (hP : cx.P = P) (hg : cx.G = Γ.glob) {st st' : St} {key : Nat} (h : frz1 Γ key st = some st') (r : RelS cx st.s2 a w) : RelS cx st'.s2 a w ∧ st'.tmps.length = st.tmps.length := by
  unfold frz1 at h
  split at h
  · rename_i cur o hlk
    cases hok : (o.frzOk Γ && objsOk ((delObj key st.objs).map fun q => (q.1, q.2.1, q.2.2.mapV (frzAtom Γ key cur o)))) with
    | false => rw [hok] at h; simp at h
    | true =>
      rw [hok] at h
      simp only [cond_true, Option.some.injEq] at h
      simp only [Bool.and_eq_true] at hok
      subst h
      obtain ⟨Fz, pos, r⟩ := r
      have r : RelIn cx st.tm st.lk a w Fz pos := r
      have hlk : st.lk key = some (cur, o) := hlk
      refine ⟨⟨fun b => Fz b ∨ vblk (pos key) = some b, pos, ?_⟩, rfl⟩
      have hlook : ∀ x, lookObj ((delObj key st.objs).map fun q => (q.1, q.2.1, q.2.2.mapV (frzAtom Γ key cur o))) x = if (x != key) = true then (st.lk x).map (fun q => (q.1, q.2.mapV (frzAtom Γ key cur o))) else none := by
        intro x
        exact look_map (fun k => k != key) (fun q => (q.1, q.2.mapV (frzAtom Γ key cur o))) st.objs x
      have hfut : Fut Fz w (fun b => Fz b ∨ vblk (pos key) = some b) w := fun b hb => ⟨.inl hb, rfl⟩
      have hother : ∀ k s1 o1, k ≠ key → st.lk k = some (s1, o1) → lookObj ((delObj key st.objs).map fun q => (q.1, q.2.1, q.2.2.mapV (frzAtom Γ key cur o))) k = some (s1, o1.mapV (frzAtom Γ key cur o)) := by
        intro k s1 o1 hk h1
        rw [hlook, if_pos (by simpa using hk), h1]; rfl
      refine r.remap (f := frzAtom Γ key cur o) (fun t => .inl (map_tm st _ t)) (fun k s o' hk => ?_) ⟨hfut, ?_, ?_, ?_, rfl, rfl⟩ (fun k s o' b hk hb => ?_) ⟨r.step.os, r.step.tape, r.step.output, r.step.size, r.step.block, fun b hb => ?_, fun b hb => ?_⟩
      · have hk : lookObj ((delObj key st.objs).map fun q => (q.1, q.2.1, q.2.2.mapV (frzAtom Γ key cur o))) k = some (s, o') := hk
        have hfit := objsOk_look _ hok.2 k s o' hk
        rw [hlook] at hk
        split at hk
        · simp only [Option.map_eq_some_iff] at hk
          obtain ⟨⟨s0, o0⟩, h1, h2⟩ := hk
          simp only [Prod.mk.injEq] at h2
          exact ⟨s0, o0, h1, h2.2.symm, hfit⟩
        · cases hk
      · intro k s p u hu
        simp only [frzAtom]
        split
        · rename_i hk
          subst hk
          split
          · rename_i hs
            subst hs
            split
            · rename_i c hg'
              split
              · rename_i hc
                exact ⟨rfl, ref_frozen r hlk hu hg' (fun cs h => toCloB_rep hΓ hP hg h) (fun t x e => by subst e; rfl) hc hfut rfl rfl (fun b hb => ⟨.inr hb, rfl⟩)⟩
              · exact ⟨rfl, trivial⟩
            · exact ⟨rfl, trivial⟩
          · exact ⟨rfl, trivial⟩
        · rename_i hk
          refine ⟨rfl, ?_⟩
          have hu2 := hu
          obtain ⟨_, s1, o1, h1, _⟩ := hu2
          exact stale_ref hu h1 (hother k s1 o1 hk h1)
      · intro e k s u hu
        simp only [frzAtom]
        split
        · rename_i hk
          subst hk
          split
          · rename_i hs
            subst hs
            split
            · rename_i e' xs
              split
              · rename_i he
                subst he
                exact ⟨rfl, sl_frozen r hlk hu hfut (fun b hb => ⟨.inr hb, rfl⟩)⟩
              · exact ⟨rfl, trivial⟩
            · exact ⟨rfl, trivial⟩
          · exact ⟨rfl, trivial⟩
        · rename_i hk
          refine ⟨rfl, ?_⟩
          have hu2 := hu
          obtain ⟨_, s1, o1, h1, _⟩ := hu2
          exact stale_sl hu h1 (hother k s1 o1 hk h1)
      · intro k s u hu
        simp only [frzAtom]
        split
        · rename_i hk
          subst hk
          split
          · rename_i hs
            subst hs
            split
            · rename_i kt vt es
              exact ⟨rfl, mp_frozen r hlk hu hfut (fun b hb => ⟨.inr hb, rfl⟩)⟩
            · exact ⟨rfl, trivial⟩
          · exact ⟨rfl, trivial⟩
        · rename_i hk
          refine ⟨rfl, ?_⟩
          have hu2 := hu
          obtain ⟨_, s1, o1, h1, _⟩ := hu2
          exact stale_mp hu h1 (hother k s1 o1 hk h1)
      · have hk : lookObj ((delObj key st.objs).map fun q => (q.1, q.2.1, q.2.2.mapV (frzAtom Γ key cur o))) k = some (s, o') := hk
        rw [hlook] at hk
        split at hk
        · rename_i hne
          simp only [Option.map_eq_some_iff] at hk
          obtain ⟨⟨s0, o0⟩, h1, h2⟩ := hk
          rintro (hf | hf)
          · exact (r.own k s0 o0 b h1 hb).1 hf
          · have := r.inj k s0 o0 key cur o b h1 hlk hb hf
            simp [this] at hne
        · cases hk
      · rw [← r.step.fz b hb]
        refine ⟨fun h => h.resolve_right fun hv => ?_, .inl⟩
        have := (r.own key cur o b hlk hv).2
        omega
      · rcases hb with hb | hb
        · exact r.step.lt b hb
        · exact (r.objs key cur o hlk).lt hb
  · simp only [Option.some.injEq] at h
    subst h
    exact ⟨r, rfl⟩

theorem frz_rep (hΓ : CfgOk P Γ) (hP : cx.P = P) (hg : cx.G = Γ.glob) : ∀ (ks : List Nat) {st st' : St}, frz Γ ks st = some st' → RelS cx st.s2 a w → RelS cx st'.s2 a w ∧ st'.tmps.length = st.tmps.length
  | [], st, st', h, r => by
    simp only [frz, Option.some.injEq] at h
    subst h; exact ⟨r, rfl⟩
  | k :: ks, st, st', h, r => by
    simp only [frz] at h
    split at h
    · rename_i st1 h1
      obtain ⟨r1, l1⟩ := frz1_rep hΓ hP hg h1 r
      obtain ⟨r2, l2⟩ := frz_rep hΓ hP hg ks h r1
      exact ⟨r2, l2.trans l1⟩
    · simp at h

/-! ### A loop's head -/
theorem zip_at (g : Nat → V) : ∀ (ts : List Nat) (j : Nat), findT (ts.zip (ts.map g)) j = some (g j) ∨ findT (ts.zip (ts.map g)) j = none
  | [], j => .inr rfl
  | t :: ts, j => by
    simp only [List.map_cons, List.zip_cons_cons, findT]
    cases h : Nat.beq t j with
    | true => rw [Nat.eq_of_beq_eq_true h]; exact .inl rfl
    | false => exact zip_at g ts j
theorem objsAt_look (g : Nat → Option Obj) : ∀ (ks : List Nat) (k : Nat), lookObj (objsAt ks (ks.map g)) k = if ks.contains k = true then (g k).map fun o => (0, o) else none
  | [], k => by simp [objsAt, lookObj]
  | k' :: ks, k => by
    have ih := objsAt_look g ks k
    simp only [List.map_cons]
    by_cases hk : k' = k
    · subst hk
      cases hg : g k' with
      | none =>
        simp only [objsAt, ih]
        simp [hg]
      | some o => simp [objsAt, lookObj]
    · have hc : (k' :: ks).contains k = ks.contains k := by
        simp only [List.contains_cons]
        have : (k == k') = false := by simpa using fun h => hk h.symm
        rw [this]; simp
      rw [hc]
      cases hg : g k' with
      | none => simp only [objsAt]; exact ih
      | some o => simp only [objsAt, lookObj, hk, if_false]; exact ih
theorem norm_rep {keepT keepK : List Nat} {st : St} (hok : objsOk (norm keepT keepK st).objs = true) (r : RelS cx st.s2 a w) : RelS cx (norm keepT keepK st).s2 a w ∧ (norm keepT keepK st).tmps.length = st.tmps.length := by
  obtain ⟨Fz, pos, r⟩ := r
  have r : RelIn cx st.tm st.lk a w Fz pos := r
  refine ⟨⟨Fz, pos, ?_⟩, rfl⟩
  have hlook : ∀ x, (norm keepT keepK st).lk x = if keepK.contains x = true then ((st.lk x).map fun q => q.2.mapV (renAtom keepK st.lk)).map (fun o => (0, o)) else none := by
    intro x
    exact objsAt_look (fun k => (st.lk k).map fun q => q.2.mapV (renAtom keepK st.lk)) keepK x
  have hkeep : ∀ k s1 o1, keepK.contains k = true → st.lk k = some (s1, o1) → (norm keepT keepK st).lk k = some (0, o1.mapV (renAtom keepK st.lk)) := by
    intro k s1 o1 hk h1
    rw [hlook, if_pos hk, h1]; rfl
  have hback : ∀ k s o', (norm keepT keepK st).lk k = some (s, o') → ∃ s0 o0, st.lk k = some (s0, o0) ∧ o' = o0.mapV (renAtom keepK st.lk) := by
    intro k s o' hk
    rw [hlook] at hk
    split at hk
    · simp only [Option.map_map, Option.map_eq_some_iff] at hk
      obtain ⟨⟨s0, o0⟩, h1, h2⟩ := hk
      simp only [Function.comp, Prod.mk.injEq] at h2
      exact ⟨s0, o0, h1, h2.2.symm⟩
    · cases hk
  refine r.remap (f := renAtom keepK st.lk) (fun t => ?_) (fun k s o' hk => ?_) ⟨Fut.refl _ _, ?_, ?_, ?_, rfl, rfl⟩ (fun k s o' b hk hb => ?_) r.step
  · have := zip_at (fun t => (st.tm t).mapT (renAtom keepK st.lk)) keepT t
    rcases this with h | h
    · left
      show (match findT (keepT.zip (keepT.map fun t => (st.tm t).mapT (renAtom keepK st.lk))) t with | some v => v | none => bif Nat.blt t st.tmps.length then V.junk else .junk) = _
      rw [h]
    · right
      show (match findT (keepT.zip (keepT.map fun t => (st.tm t).mapT (renAtom keepK st.lk))) t with | some v => v | none => bif Nat.blt t st.tmps.length then V.junk else .junk) = _
      rw [h]
      cases Nat.blt t st.tmps.length <;> rfl
  · have hfit := objsOk_look _ hok k s o' hk
    obtain ⟨s0, o0, h1, h2⟩ := hback k s o' hk
    exact ⟨s0, o0, h1, h2, hfit⟩
  · intro k s p u hu
    simp only [renAtom]
    split
    · rename_i hk
      split
      · rename_i s1 o1 h1
        split
        · rename_i hs
          subst hs
          exact ⟨rfl, kept_ref hu h1 (hkeep k s o1 hk h1)⟩
        · exact ⟨rfl, trivial⟩
      · exact ⟨rfl, trivial⟩
    · exact ⟨rfl, trivial⟩
  · intro e k s u hu
    simp only [renAtom]
    split
    · rename_i hk
      split
      · rename_i s1 o1 h1
        split
        · rename_i hs
          subst hs
          exact ⟨rfl, kept_sl hu h1 (hkeep k s o1 hk h1)⟩
        · exact ⟨rfl, trivial⟩
      · exact ⟨rfl, trivial⟩
    · exact ⟨rfl, trivial⟩
  · intro k s u hu
    simp only [renAtom]
    split
    · rename_i hk
      split
      · rename_i s1 o1 h1
        split
        · rename_i hs
          subst hs
          exact ⟨rfl, kept_mp hu h1 (hkeep k s o1 hk h1)⟩
        · exact ⟨rfl, trivial⟩
      · exact ⟨rfl, trivial⟩
    · exact ⟨rfl, trivial⟩
  · obtain ⟨s0, o0, h1, h2⟩ := hback k s o' hk
    exact (r.own k s0 o0 b h1 hb).1

theorem codeAt_mono {root : Code} : ∀ (k p : Nat) (c : Code), codeAt root k p = some c → codeAt root (k + 1) p = some c
  | 0, p, c, h => by simp [codeAt] at h
  | k + 1, p, c, h => by
    rw [codeAt] at h ⊢
    split at h
    · rename_i h1; rw [if_pos h1]; exact h
    · rename_i h1
      rw [if_neg h1]
      cases hq : codeAt root k (p / 2) with
      | none => rw [hq] at h; simp at h
      | some c' => rw [codeAt_mono k (p / 2) c' hq]; rw [hq] at h; exact h
theorem codeAt_le {root : Code} {k k' p : Nat} {c : Code} (h : codeAt root k p = some c) (hk : k ≤ k') : codeAt root k' p = some c := by
  induction hk with
  | refl => exact h
  | step _ ih => exact codeAt_mono _ _ _ ih
theorem codeAt_fn {root : Code} {k k' p : Nat} {c c' : Code} (h : codeAt root k p = some c) (h' : codeAt root k' p = some c') : c = c' := by
  have h1 := codeAt_le h (Nat.le_max_left k k')
  have h2 := codeAt_le h' (Nat.le_max_right k k')
  rw [h1] at h2
  exact Option.some.inj h2
def AtP (root : Code) (p : Nat) (c : Code) : Prop := 1 ≤ p ∧ ∃ k, codeAt root k p = some c
theorem AtP.l {root : Code} {p : Nat} {c x : Code} (h : AtP root p c) (hc : (∃ y, c = .seq x y) ∨ (∃ o y, c = .cond o x y) ∨ (∃ id, c = .block id x) ∨ c = .loop x ∨ c = .scope x) : AtP root (2 * p) x := by
  obtain ⟨h1, k, hk⟩ := h
  refine ⟨by omega, k + 1, ?_⟩
  rw [codeAt, if_neg (by omega), show 2 * p / 2 = p by omega, hk]
  rcases hc with ⟨y, rfl⟩ | ⟨o, y, rfl⟩ | ⟨id, rfl⟩ | rfl | rfl <;> simp only <;> rw [if_pos (by omega)]
theorem AtP.r {root : Code} {p : Nat} {c x : Code} (h : AtP root p c) (hc : (∃ y, c = .seq y x) ∨ (∃ o y, c = .cond o y x)) : AtP root (2 * p + 1) x := by
  obtain ⟨h1, k, hk⟩ := h
  refine ⟨by omega, k + 1, ?_⟩
  rw [codeAt, if_neg (by omega), show (2 * p + 1) / 2 = p by omega, hk]
  rcases hc with ⟨y, rfl⟩ | ⟨o, y, rfl⟩ <;> simp only <;> rw [if_neg (by omega)]

/-! ### Code -/
def exOf : Ex → Exit
  | .normal => .normal
  | .exit id => .exit id
  | .ret => .ret

theorem wpIn_loop_ghost {F : Fence} {n : Nat} {c : Code} {Q : Exit → Act → World → Prop} (I : Nat → Act → World → Prop) {m : Nat} (h₀ : I m a w)
    (round : ∀ m a w, I m a w → c.wpIn F n P (Exit.then (fun a' w' => ∃ m', m' < m ∧ I m' a' w') Q) a w) : (Code.loop c).wpIn F n P Q a w := by
  classical
  have least : ∀ a w, (∃ m, I m a w) → ∃ m, I m a w ∧ ∀ k, k < m → ¬ I k a w := by
    intro a w ⟨m, hm⟩
    induction m using Nat.strongRecOn with
    | _ m ih =>
      by_cases h : ∃ k, k < m ∧ I k a w
      · obtain ⟨k, hk, hi⟩ := h; exact ih k hk hi
      · exact ⟨m, hm, fun k hk hi => h ⟨k, hk, hi⟩⟩
  let μ : Act → World → Nat := fun a w => if h : ∃ m, I m a w then Classical.choose (least a w h) else 0
  have hμ : ∀ a w, (∃ m, I m a w) → I (μ a w) a w ∧ ∀ k, k < μ a w → ¬ I k a w := by
    intro a w h
    simp only [μ, dif_pos h]
    exact Classical.choose_spec (least a w h)
  refine wpIn_loop (fun a w => ∃ m, I m a w) μ ⟨m, h₀⟩ fun a w h => ?_
  obtain ⟨h1, h2⟩ := hμ a w h
  refine wpIn_mono (round _ a w h1) fun e a' w' hq => ?_
  cases e <;> first | exact hq | skip
  obtain ⟨m', hlt, hi⟩ := hq
  refine ⟨⟨m', hi⟩, ?_⟩
  obtain ⟨h3, h4⟩ := hμ a' w' ⟨m', hi⟩
  rcases Nat.lt_or_ge (μ a' w') (μ a w) with h | h
  · exact h
  · exact absurd hi (h4 m' (by omega))

theorem leave_some {kT kK : List Nat} {K' : Ex → St → Option C} {e : Ex} {st : St} {r : C} (h : leave kT kK K' e st = some r) : objsOk (norm kT kK st).objs = true ∧ K' e (norm kT kK st) = some r := by
  unfold leave at h
  cases hok : objsOk (norm kT kK st).objs with
  | true => rw [hok] at h; exact ⟨rfl, h⟩
  | false => rw [hok] at h; simp at h
theorem ev_sound (hΓ : CfgOk P Γ) (hP : cx.P = P) (hg : cx.G = Γ.glob) {F : Fence} (hF : Wide F) (hW : F = Fence.wide) {n : Nat} (an : Ann) {root : Code} (hL : LOk Γ an root) : ∀ (c : Code) (p : Nat), AtP root p c → ∀ (st : St) (K' : Ex → St → Option C) (r0 : C) (a : Act) (w : World), st.tmps.length = cx.nt →
    ev Γ an c p st K' = some r0 → RelS cx st.s2 a w → ∀ Q : Exit → Act → World → Prop,
    (∀ e st' a' w', st'.tmps.length = cx.nt → RelS cx st'.s2 a' w' → K' e st' = some r0 → Q (exOf e) a' w') → c.wpIn F n P Q a w := by
  intro c
  induction c with
  | skip =>
    intro p hat st K' r0 a w hl h r Q hQ
    exact wpIn_skip (hQ .normal st a w hl r h)
  | label l =>
    intro p hat st K' r0 a w hl h r Q hQ
    exact wpIn_label (hQ .normal st a w hl r h)
  | region id ops draw =>
    intro p hat st K' r0 a w hl h r Q hQ
    simp only [ev] at h
    split at h
    · rename_i st1 h1
      obtain ⟨r1, l1⟩ := frz_rep hΓ hP hg _ h1 r
      exact region_rep hΓ hP hg hF (l1.trans hl) h r1 fun st' a' w' hl' r' h' => hQ .normal st' a' w' hl' r' h'
    · simp at h
  | seq x y ihx ihy =>
    intro p hat st K' r0 a w hl h r Q hQ
    simp only [ev] at h
    refine wpIn_seq (ihx _ (hat.l (.inl ⟨_, rfl⟩)) _ _ _ a w hl h r _ fun e st' a' w' hl' r' h' => ?_)
    cases e with
    | normal => exact ihy _ (hat.r (.inl ⟨_, rfl⟩)) _ _ _ a' w' hl' h' r' Q hQ
    | exit id => exact hQ (.exit id) st' a' w' hl' r' h'
    | ret => exact hQ .ret st' a' w' hl' r' h'
  | cond c x y ihx ihy =>
    intro p hat st K' r0 a w hl h r Q hQ
    simp only [ev] at h
    split at h
    · rename_i t hv
      obtain ⟨Fz, pos, r1⟩ := r
      have hval := val_rep r1 hg c
      have hv : Γ.val st.s2.1 c = .dat .bool t := hv
      rw [hv] at hval
      have hval := repBool hval
      refine wpIn_cond hval ?_
      rcases Bool.eq_false_or_eq_true t with ht | ht
      · subst ht; exact ihx _ (hat.l (.inr (.inl ⟨_, _, rfl⟩))) _ _ _ a w hl h ⟨Fz, pos, r1⟩ Q hQ
      · subst ht; exact ihy _ (hat.r (.inr ⟨_, _, rfl⟩)) _ _ _ a w hl h ⟨Fz, pos, r1⟩ Q hQ
    · simp at h
  | block id b ih =>
    intro p hat st K' r0 a w hl h r Q hQ
    simp only [ev] at h
    refine wpIn_block (ih _ (hat.l (.inr (.inr (.inl ⟨_, rfl⟩)))) _ _ _ a w hl h r _ fun e st' a' w' hl' r' h' => ?_)
    cases e with
    | normal => exact hQ .normal st' a' w' hl' r' h'
    | exit id' =>
      simp only at h'
      simp only [exOf, Exit.inBlock]
      split
      · rename_i he
        rw [if_pos he] at h'
        exact hQ .normal st' a' w' hl' r' h'
      · rename_i he
        rw [if_neg he] at h'
        exact hQ (.exit id') st' a' w' hl' r' h'
    | ret => exact hQ .ret st' a' w' hl' r' h'
  | loop b ih =>
    intro p hat st K' r0 a w hl h r Q hQ
    have h2 : loopEv Γ an b p st.tmps.length (keptV (an.keepOf p).1 (an.keepOf p).2 st) (keptO (an.keepOf p).2 st) K' = some r0 := by
      simp only [ev] at h
      split at h
      · rename_i f hf
        obtain ⟨_, k, hk⟩ := hat
        exact hL p f hf k b hk _ _ _ _ _ h
      · exact h
    clear h
    have hok : objsOk (norm (an.keepOf p).1 (an.keepOf p).2 st).objs = true := by
      unfold loopEv at h2
      cases hok : objsOk (norm (an.keepOf p).1 (an.keepOf p).2 st).objs with
      | true => rfl
      | false => unfold norm at hok; rw [hok] at h2; simp at h2
    have h3 : loopRun Γ an b p (an.fuel p (keptV (an.keepOf p).1 (an.keepOf p).2 st) (keptO (an.keepOf p).2 st)) (norm (an.keepOf p).1 (an.keepOf p).2 st) K' = some r0 := by
      unfold loopEv at h2
      have hok2 := hok
      unfold norm at hok2 ⊢
      rw [hok2] at h2; exact h2
    obtain ⟨r1, l1⟩ := norm_rep hok r
    refine wpIn_loop_ghost (fun m a w => ∃ st1, st1.tmps.length = cx.nt ∧ RelS cx st1.s2 a w ∧ loopRun Γ an b p m st1 K' = some r0) (m := an.fuel p (keptV (an.keepOf p).1 (an.keepOf p).2 st) (keptO (an.keepOf p).2 st)) ⟨_, l1.trans hl, r1, h3⟩ fun m a w hI => ?_
    obtain ⟨st1, hl1, r1, h1⟩ := hI
    cases m with
    | zero => simp [loopRun, iter] at h1
    | succ m =>
      simp only [loopRun, iter] at h1
      refine ih _ (hat.l (.inr (.inr (.inr (.inl rfl))))) _ _ _ a w hl1 h1 r1 _ fun e st' a' w' hl' r' h' => ?_
      cases e with
      | normal =>
        simp only at h'
        cases hok' : objsOk (norm (an.keepOf p).1 (an.keepOf p).2 st').objs with
        | false => rw [hok'] at h'; simp at h'
        | true =>
          rw [hok'] at h'
          simp only [cond_true] at h'
          obtain ⟨r2, l2⟩ := norm_rep hok' r'
          exact ⟨m, Nat.lt_succ_self m, _, l2.trans hl', r2, h'⟩
      | exit id =>
        obtain ⟨h5, h6⟩ := leave_some h'
        obtain ⟨r2, l2⟩ := norm_rep h5 r'
        exact hQ (.exit id) _ a' w' (l2.trans hl') r2 h6
      | ret =>
        obtain ⟨h5, h6⟩ := leave_some h'
        obtain ⟨r2, l2⟩ := norm_rep h5 r'
        exact hQ .ret _ a' w' (l2.trans hl') r2 h6
  | scope b ih =>
    intro p hat st K' r0 a w hl h r Q hQ
    simp only [ev] at h
    have h1 := ih _ (hat.l (.inr (.inr (.inr (.inr rfl))))) _ _ _ a w hl h r (Exit.noGoto Q) fun e st' a' w' hl' r' h' => by
      cases e with
      | normal => exact hQ .normal st' a' w' hl' r' h'
      | exit id => exact hQ (.exit id) st' a' w' hl' r' h'
      | ret => exact hQ .ret st' a' w' hl' r' h'
    subst hW
    exact wpIn_wide.2 (wp_scope_straight (wpIn_wide.1 h1))
  | exit id =>
    intro p hat st K' r0 a w hl h r Q hQ
    exact wpIn_exit (hQ (.exit id) st a w hl r h)
  | ret =>
    intro p hat st K' r0 a w hl h r Q hQ
    exact wpIn_ret (hQ .ret st a w hl r h)
  | _ => intro p hat st K' r0 a w hl h; simp [ev] at h

end Go.Pv
