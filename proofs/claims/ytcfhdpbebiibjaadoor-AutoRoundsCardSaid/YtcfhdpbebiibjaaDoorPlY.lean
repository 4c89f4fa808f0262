/- Plain: what is built by discovering says what its states say; the checked form of it is the reference's (g60, g20). -/
import Derived.Test.YtcfhdpbebiibjaaDoorPlX
set_option linter.unusedVariables false
set_option linter.unusedSimpArgs false
namespace Go.Pv

theorem Disc.wm {α κ : Type} {d : α} {b : Nat} {key : α → κ} {out : α → Int} {step : α → Nat → α} {a : α} {F : MM} {l : List α} (h : Disc d b key out step a F l) (hb : 1 ≤ b ∧ b ≤ 1000) (ho : ∀ t ∈ l, 0 ≤ out t ∧ out t ≤ 9) : WM F := by
  have hl : F.2.1.length = l.length := by rw [h.out, List.length_map]
  refine ⟨by rw [h.base]; omega, by rw [hl]; exact h.some1, fun o hm => ?_, by rw [h.next, hl], fun s hs => ?_, fun s hs t ht => ?_⟩
  · rw [h.out] at hm
    obtain ⟨t, ht, rfl⟩ := List.mem_map.1 hm
    exact ho t ht
  · rw [hl] at hs
    rw [h.base, h.rowl s hs]
  · rw [hl] at hs ⊢
    obtain ⟨r, hr, rfl⟩ := List.getElem_of_mem ht
    have hrl := h.rowl s hs
    obtain ⟨j, h1, h2, _⟩ := h.way s r hs (by omega)
    rw [getD_of hr] at h1
    rw [h1]; omega

/-- What is built says what a machine says in which its states lie. -/
theorem Disc.same {α : Type} {d : α} {b : Nat} {out : α → Int} {step : α → Nat → α} {a : α} {F : MM} {l : List α} (h : Disc d b idK out step a F l) {S : MM} (rep : α → Nat)
    (hl : ∀ t ∈ l, out t = oM S (rep t) ∧ ∀ r, r < b → rep (step t r) = dM S (rep t) r) : Same F S 0 (rep a) := by
  have key : ∀ (w : List Nat) (i : Nat), i < l.length → (∀ r ∈ w, r < b) → beh F i w = beh S (rep (l.getD i d)) w := by
    intro w
    induction w with
    | nil =>
      intro i hi _
      show oM F i = oM S _
      rw [← (hl _ (getD_mem hi d)).1]
      unfold oM
      rw [h.out, getD_of (by simpa using hi), getD_of hi]; simp
    | cons r w ih =>
      intro i hi hw
      have hr : r < b := hw r (by simp)
      obtain ⟨j, h1, h2, h3⟩ := h.way i r hi hr
      have hd : dM F i r = j := by unfold dM; rw [h1]; simp
      show beh F (dM F i r) w = beh S (dM S (rep (l.getD i d)) r) w
      rw [hd, ih j h2 (fun q hq => hw q (by simp [hq]))]
      have h3 : l.getD j d = step (l.getD i d) r := h3
      rw [h3, (hl _ (getD_mem hi d)).2 r hr]
  intro w hw
  rw [h.base] at hw
  rw [key w 0 h.some1 (fun r hr => by have := hw r hr; omega), h.first]

/-- Two machines that are built of states that go together. -/
theorem Disc.two {α β : Type} {d : α} {e : β} {b : Nat} {out : α → Int} {step : α → Nat → α} {a : α} {F : MM} {l : List α} (h : Disc d b idK out step a F l) {out' : β → Int} {step' : β → Nat → β} {a' : β} {G : MM} {m : List β} (g : Disc e b idK out' step' a' G m)
    (φ : α → β) (ha : φ a = a') (hl : ∀ t ∈ l, out t = out' (φ t) ∧ ∀ r, r < b → φ (step t r) = step' (φ t) r) : Same F G 0 0 := by
  have key : ∀ (w : List Nat) (i j : Nat), i < l.length → j < m.length → φ (l.getD i d) = m.getD j e → (∀ r ∈ w, r < b) → beh F i w = beh G j w := by
    intro w
    induction w with
    | nil =>
      intro i j hi hj he _
      show oM F i = oM G j
      unfold oM
      rw [h.out, g.out, getD_of (by simpa using hi), getD_of (by simpa using hj)]
      rw [getD_of hj] at he
      have := (hl _ (getD_mem hi d)).1
      rw [he, getD_of hi] at this
      simpa using this
    | cons r w ih =>
      intro i j hi hj he hw
      have hr : r < b := hw r (by simp)
      obtain ⟨i', h1, h2, h3⟩ := h.way i r hi hr
      obtain ⟨j', g1, g2, g3⟩ := g.way j r hj hr
      have hd : dM F i r = i' := by unfold dM; rw [h1]; simp
      have gd : dM G j r = j' := by unfold dM; rw [g1]; simp
      show beh F (dM F i r) w = beh G (dM G j r) w
      rw [hd, gd]
      refine ih i' j' h2 g2 ?_ (fun q hq => hw q (by simp [hq]))
      have h3 : l.getD i' d = step (l.getD i d) r := h3
      have g3 : m.getD j' e = step' (m.getD j e) r := g3
      rw [h3, g3, (hl _ (getD_mem hi d)).2 r hr, he]
  intro w hw
  rw [h.base] at hw
  exact key w 0 0 h.some1 g.some1 (by rw [h.first, g.first, ha]) (fun r hr => by have := hw r hr; omega)

/-- Two machines that say the same have one form. -/
theorem one_form {H S : MM} (hH : WM H) (hS : WM S) (hb : S.1 = H.1) (h : Same H S 0 0) (N : Nat) (hN : 1001 < N) (nH : H.2.1.length ≤ 60000) (nH2 : H.2.1.length < N) (nS : S.2.1.length ≤ 60000) (nS2 : S.2.1.length < N) :
    ∃ G, g69 N H = some G ∧ g34 N S = some G ∧ G.1 = S.1 ∧ Form G ∧ Same G S 0 0 ∧ G.2.1.length ≤ S.2.1.length := by
  obtain ⟨F, e1, b1, f1, s1⟩ := prog_form hH nH N hN nH2
  obtain ⟨G, e2, b2, f2, s2, m2⟩ := ref_form hS nS N hN nS2
  have hFS : Same F S 0 0 := s1.trans b1.symm h
  have : F = G := f1.uniq f2 (by rw [b1, b2, hb]) (hFS.trans (by rw [b1, hb]) (s2.symm b2.symm))
  subst this
  exact ⟨F, e1, e2, b2, f1, hFS, m2⟩

abbrev nil0 : MM := (0, [], [], ())
theorem none_nil (N : Nat) : g19 N nil0 = some true := by
  unfold g19; simp [ieq]

theorem right_eq {H S : MM} (hH : WM H) (hS : WM S) (hb : S.1 = H.1) (hb2 : S.1 ≤ 26) (h : Same H S 0 0) (N : Nat) (hN : 1001 < N) (nH : H.2.1.length ≤ 60000) (nH2 : H.2.1.length < N) (nS : S.2.1.length ≤ 60000) (nS2 : S.2.1.length < N) :
    ∃ r c, g60 N H = some (r, c, ()) ∧ g20 N r c S = some true ∧ (c = 0 ∧ g34 N S = some r ∧ Form r ∧ r.1 = S.1 ∧ Same r S 0 0 ∧ r.2.1.length ≤ 12 ∨ c = 8 ∧ r = nil0) := by
  obtain ⟨G, e1, e2, b, f, s, m⟩ := one_form hH hS hb h N hN nH nH2 nS nS2
  unfold g60
  rw [e1, Option.bind_some]
  by_cases hlt : 12 < G.2.1.length
  · have q : decide ((12 : Int) < (G.2.1.length : Int)) = true := by rw [decide_eq_true_iff]; omega
    rw [q, cond_true]
    refine ⟨_, _, rfl, ?_, .inr ⟨rfl, rfl⟩⟩
    unfold g20
    rw [e2, Option.bind_some, q, cond_true, ieq_self, cond_true, none_nil]; rfl
  · have q : decide ((12 : Int) < (G.2.1.length : Int)) = false := by rw [decide_eq_false_iff_not]; omega
    rw [q, cond_false]
    refine ⟨_, _, rfl, ?_, .inl ⟨rfl, e2, f, b, s, by omega⟩⟩
    unfold g20
    rw [e2, Option.bind_some, q, cond_false, ieq_self, cond_true, own_eq N (by omega), f.toWM.cut (by omega) (by omega)]
    simp only [Option.bind_some]
    rw [f.toWM.same N hN (by omega) (by omega)]
    simp only [Option.bind_some, cond_true, ieq_self]

/-! ### Pairs -/
abbrev PP := Int × Int × Unit
theorem pp_eq (a b : PP) : Ty.beq (.pair (.int .i64) (.pair (.int .i64) .unit)) a b = true ↔ a = b := by
  obtain ⟨a1, a2, ⟨⟩⟩ := a
  obtain ⟨b1, b2, ⟨⟩⟩ := b
  simp [Ty.beq]

/-! ### Arrays of two -/
theorem arr_eq (n : Nat) (a b : List Int) : Ty.beq (.arr n (.int .i64)) a b = true ↔ a = b := by
  show Ty.beq.go (Ty.beq (.int .i64)) a b = true ↔ a = b
  induction a generalizing b with
  | nil => cases b <;> simp [Ty.beq.go]
  | cons v a ih =>
    cases b with
    | nil => simp [Ty.beq.go]
    | cons w b =>
      simp only [Ty.beq.go, Bool.and_eq_true, List.cons.injEq]
      rw [ih b]
      simp [Ty.beq, ieq]

def arrP (t : PP) : List Int := [t.1, t.2.1]
theorem arrP_inj {t u : PP} (h : arrP t = arrP u) : t = u := by
  obtain ⟨t1, t2, ⟨⟩⟩ := t
  obtain ⟨u1, u2, ⟨⟩⟩ := u
  simp only [arrP, List.cons.injEq, and_true] at h
  rw [h.1, h.2]
theorem mem_inj {α β : Type} {f : α → β} (hf : ∀ a b, f a = f b → a = b) {t : α} {q : List α} : f t ∈ q.map f ↔ t ∈ q := by
  constructor
  · intro h
    obtain ⟨u, hu, he⟩ := List.mem_map.1 h
    exact hf u t he ▸ hu
  · intro h; exact List.mem_map.2 ⟨t, h, rfl⟩
theorem posOf_inj_map {α β : Type} [DecidableEq α] [DecidableEq β] {f : α → β} (hf : ∀ a b, f a = f b → a = b) (t : α) : ∀ (q : List α), posOf (f t) (q.map f) = posOf t q
  | [] => rfl
  | u :: q => by
    simp only [List.map_cons, posOf]
    by_cases h : u = t
    · rw [if_pos h, if_pos (by rw [h])]
    · rw [if_neg h, if_neg (fun e => h (hf _ _ e)), posOf_inj_map hf t q]
theorem set_pair (a b : Int) : List.set (List.set (List.replicate 2 (0 : Int)) 0 a) 1 b = [a, b] := rfl

theorem arrP_get (q : List PP) {i : Nat} (h : i < q.length) (d : List Int) : (q.map arrP).getD i d = arrP (q.getD i (0, 0, ())) := by
  rw [getD_of h, getD_of (by simpa using h)]; simp

end Go.Pv
