/- The purifying layer, part 23: what is frozen, and what is forgotten. -/
import Derived.Test.YtcfhdpbebiibjaaDoorPvV
set_option linter.unusedVariables false
set_option linter.unusedSimpArgs false
namespace Go.Pv
variable {P : Program} {Γ : Cfg} {C : Type}

/-! ### A map on atoms -/
def V.flat : V → Bool
  | .dat t _ => !t.isAgg
  | .agg _ | .tup _ | .fn _ _ => false
  | _ => true

structure AtomMap (A B : E) (f : V → V) : Prop where
  fut : Fut A.Fz A.w B.Fz B.w
  ref : ∀ k s p u, RepA A (.ref k s p) u → (f (.ref k s p)).flat = true ∧ RepA B (f (.ref k s p)) u
  sl : ∀ e k s u, RepA A (.sl e k s) u → (f (.sl e k s)).flat = true ∧ RepA B (f (.sl e k s)) u
  mp : ∀ k s u, RepA A (.mp k s) u → (f (.mp k s)).flat = true ∧ RepA B (f (.mp k s)) u
  P : B.P = A.P
  G : B.G = A.G

variable {A B : E} {f : V → V}
theorem flat_L {v : V} {u : Value} (hf : v.flat = true) : RepL B v u ↔ RepA B v u := by cases v <;> first | exact Iff.rfl | simp [V.flat] at hf
theorem flat_G {v : V} {u : Value} (hf : v.flat = true) : RepG B v u ↔ RepA B v u := by cases v <;> first | exact Iff.rfl | simp [V.flat] at hf
theorem flat_T {v : V} {u : Value} (hf : v.flat = true) : RepT B v u ↔ RepA B v u := by cases v <;> first | exact Iff.rfl | simp [V.flat] at hf
theorem flat_F {v : V} {u : Value} (hf : v.flat = true) (h1 : u.oneCell' = true) (h : RepA B v u) : RepF B v [u] := by
  cases v
  case dat t x =>
    simp only [V.flat, Bool.not_eq_true'] at hf
    obtain ⟨cs, hc, hu⟩ := h
    obtain ⟨u', rfl, hp⟩ := leaf_one hc hf
    rw [hp] at hu; subst hu; exact hc
  all_goals first | exact ⟨u, rfl, h1, h⟩ | simp [V.flat] at hf

theorem mapA_rep (m : AtomMap A B f) {v : V} {u : Value} (h : RepA A v u) : RepA B (v.mapA f) u := by
  cases v <;> simp only [V.mapA]
  case ref k s p => exact (m.ref k s p u h).2
  case sl e k s => exact (m.sl e k s u h).2
  case mp k s => exact (m.mp k s u h).2
  case dat t x => simp only [RepA] at h ⊢; rw [m.P, m.G]; exact RepA0.mono m.fut _ _ h
  case clo a b g => simp only [RepA] at h ⊢; rw [m.P, m.G]; exact RepA0.mono m.fut _ _ h
  case eptr u' =>
    obtain ⟨b, off, c, T, fz, cells, h1, h2, h3, h4, h5⟩ := h
    exact ⟨b, off, c, T, fz, cells, h1, (m.fut b h2).1, (m.fut b h2).2.trans h3, by rw [m.P, m.G]; exact RepP.mono m.fut _ _ h4, h5⟩
  all_goals exact h
theorem mapL_rep (m : AtomMap A B f) {v : V} {u : Value} (h : RepL A v u) : RepL B (v.mapL f) u := by
  cases v
  case fn g caps =>
    obtain ⟨us, h1, h2⟩ := h
    exact ⟨us, h1, Pt.map (V.mapA f) (fun v u hv => mapA_rep m hv) _ _ h2⟩
  case ref k s p => exact (flat_L (m.ref k s p u h).1).2 (m.ref k s p u h).2
  case sl e k s => exact (flat_L (m.sl e k s u h).1).2 (m.sl e k s u h).2
  case mp k s => exact (flat_L (m.mp k s u h).1).2 (m.mp k s u h).2
  all_goals (simp only [RepL] at h; have h2 := mapA_rep m h; exact h2)
theorem mapF_rep (m : AtomMap A B f) {v : V} {cs : List Value} (h : RepF A v cs) : RepF B (v.mapL f) cs := by
  cases v
  case dat t x => exact RepC.mono m.fut t x cs h
  all_goals obtain ⟨u, rfl, h1, h2⟩ := h
  case ref k s p => exact flat_F (m.ref k s p u h2).1 h1 (m.ref k s p u h2).2
  case sl e k s => exact flat_F (m.sl e k s u h2).1 h1 (m.sl e k s u h2).2
  case mp k s => exact flat_F (m.mp k s u h2).1 h1 (m.mp k s u h2).2
  all_goals exact ⟨u, rfl, h1, mapL_rep m h2⟩
theorem mapG_rep (m : AtomMap A B f) {v : V} {u : Value} (h : RepG A v u) : RepG B (v.mapG f) u := by
  cases v
  case agg fs =>
    obtain ⟨cs, h1, h2⟩ := h
    exact ⟨cs, h1, All2.map (V.mapL f) (fun v cs hv => mapF_rep m hv) _ _ h2⟩
  case ref k s p => exact (flat_G (m.ref k s p u h).1).2 (m.ref k s p u h).2
  case sl e k s => exact (flat_G (m.sl e k s u h).1).2 (m.sl e k s u h).2
  case mp k s => exact (flat_G (m.mp k s u h).1).2 (m.mp k s u h).2
  all_goals (simp only [RepG] at h; have h2 := mapL_rep m h; exact h2)
theorem mapT_rep (m : AtomMap A B f) {v : V} {u : Value} (h : RepT A v u) : RepT B (v.mapT f) u := by
  cases v
  case tup vs =>
    obtain ⟨us, h1, h2⟩ := h
    exact ⟨us, h1, Pt.map (V.mapG f) (fun v u hv => mapG_rep m hv) _ _ h2⟩
  case ref k s p => exact (flat_T (m.ref k s p u h).1).2 (m.ref k s p u h).2
  case sl e k s => exact (flat_T (m.sl e k s u h).1).2 (m.sl e k s u h).2
  case mp k s => exact (flat_T (m.mp k s u h).1).2 (m.mp k s u h).2
  all_goals (simp only [RepT] at h; have h2 := mapG_rep m h; exact h2)
theorem mapB_rep (m : AtomMap A B f) {v : V} {cs : List Value} (h : RepB A v cs) : RepB B (v.mapG f) cs := by
  have hb : ∀ {w : V} {u : Value}, w.flat = true → RepF B w [u] → RepB B w [u] := by
    intro w u hf h
    cases w <;> first | exact h | simp [V.flat] at hf
  cases v
  case agg fs => exact All2.map (V.mapL f) (fun v cs hv => mapF_rep m hv) _ _ h
  case ref k s p =>
    obtain ⟨u, rfl, h1, h2⟩ := h
    exact hb (m.ref k s p u h2).1 (flat_F (m.ref k s p u h2).1 h1 (m.ref k s p u h2).2)
  case sl e k s =>
    obtain ⟨u, rfl, h1, h2⟩ := h
    exact hb (m.sl e k s u h2).1 (flat_F (m.sl e k s u h2).1 h1 (m.sl e k s u h2).2)
  case mp k s =>
    obtain ⟨u, rfl, h1, h2⟩ := h
    exact hb (m.mp k s u h2).1 (flat_F (m.mp k s u h2).1 h1 (m.mp k s u h2).2)
  all_goals (simp only [RepB] at h; have h2 := mapF_rep m h; exact h2)
theorem mapO_rep (m : AtomMap A B f) {o : Obj} {v : Value} (hok : (o.mapV f).fitOk = true) (hb : ∀ b, vblk v = some b → B.w.heap[b]? = A.w.heap[b]?) (h : RepO A o v) : RepO B (o.mapV f) v := by
  cases o
  case box sh c =>
    obtain ⟨h1, b, cells, T, h2, h3, h4⟩ := h
    exact ⟨hok, b, cells, T, h2, (hb b (by rw [h2]; rfl)).trans h3, mapB_rep m h4⟩
  case vec e xs =>
    refine h.imp id fun ⟨b, off, cap, cells, T, h1, h2, h3, h4, h5, cs, h6, h7⟩ => ⟨b, off, cap, cells, T, h1, (hb b (by rw [h1]; rfl)).trans h2, h3, h4, h5, cs, All2.mono (fun x cs hx => hx.mono m.fut) _ _ h6, h7⟩
  case map k v es =>
    obtain ⟨b, ents, clock, h1, h2, h3, h4⟩ := h
    exact ⟨b, ents, clock, h1, (hb b (by rw [h1]; rfl)).trans h2, h3, MapRep.mono (fun x u ⟨c, hc, hu⟩ => ⟨c, hc.mono m.fut, hu⟩) (fun x u ⟨c, hc, hu⟩ => ⟨c, hc.mono m.fut, hu⟩) _ _ _ h4⟩
theorem mapV_alike (o : Obj) : o.alike (o.mapV f) := by cases o <;> simp [Obj.alike, Obj.mapV]

/-! ### What an object's atom leads to -/
variable {cx : Cx} {tm : Tm} {lk : Lk} {a : Act} {w : World} {Fz : Nat → Prop} {pos : Nat → Value}

theorem atom_P {A : E} {v : V} {cells : List Value} (hv : v.atom = true) (h : RepB A v cells) : RepP A.P A.G A.Fz A.w v cells := by
  cases v <;> simp only [V.atom, Bool.false_eq_true] at hv
  case dat t x => exact h
  case clo a b g => obtain ⟨u, h1, _, h2⟩ := h; exact ⟨u, h1, h2⟩
  case nilf => obtain ⟨u, h1, _, h2⟩ := h; exact ⟨u, h1, h2⟩

/-- An address into an object, once it is frozen. -/
theorem ref_frozen (r : RelIn cx tm lk a w Fz pos) {k s : Nat} {p : List Nat} {ob : Obj} (hlk : lk k = some (s, ob)) {u : Value} (h : RepA (cx.e Fz w lk pos) (.ref k s p) u) {c c2 : V} (hg : ob.get p = some c) (hc2 : ∀ cs, RepB (cx.e Fz w lk pos) c.coll cs → RepB (cx.e Fz w lk pos) c2 cs) (hdat : ∀ t x, c = .dat t x → c2 = c) (hc : c2.atom = true)
    {B : E} (hfut : Fut Fz w B.Fz B.w) (hP : B.P = cx.P) (hG : B.G = cx.G) (hfz : ∀ b, vblk (pos k) = some b → B.Fz b ∧ B.w.heap[b]? = w.heap[b]?) : RepA B (.eptr c2) u := by
  obtain ⟨_, s', o', hlk2, hle, hval⟩ := h
  have hlk2 : lk k = some (s', o') := hlk2
  rw [hlk] at hlk2
  simp only [Option.some.injEq, Prod.mk.injEq] at hlk2
  obtain ⟨rfl, rfl⟩ := hlk2
  obtain ⟨d, ad, hoff, had, hu⟩ := hval rfl
  have had : vaddr (pos k) = some ad := had
  have hR := r.objs k s ob hlk
  cases ob with
  | box sh c0 =>
    obtain ⟨hfit, b, cells, T', hpos, hb, hB⟩ := hR
    have hget : c0.get p = some c := hg
    cases hat : K.at p sh with
    | none => simp [Obj.off, hat] at hoff
    | some q =>
      obtain ⟨o1, k'⟩ := q
      have hofd : o1 = d := by simpa [Obj.off, hat] using hoff
      subst hofd
      obtain ⟨g1, g2, g3⟩ := vget_rep hfit hat hget hB
      rw [hpos] at had
      simp only [vaddr, Option.some.injEq] at had
      subst had
      have hfb := hfz b (by rw [hpos]; rfl)
      have hp1 := atom_P hc (hc2 _ (collB_rep g1))
      refine ⟨b, 0 + o1, cells, T', (0, 0), (cells.toList.drop o1).take k'.size, hu, hfb.1, hfb.2.trans hb, ?_, ?_⟩
      · rw [hP, hG]; exact RepP.mono hfut _ _ hp1
      · simp only [Nat.zero_add]; exact List.take_prefix _ _
  | vec e xs =>
    cases p with
    | nil => simp [Obj.get] at hg
    | cons i p =>
      simp only [Obj.get] at hg
      split at hg
      · rename_i hi
        split at hg
        · rename_i q2 hget
          simp only [Option.some.injEq] at hg
          subst hg
          rw [hdat _ _ rfl]
          cases hat : Ty.at p e with
          | none => simp [Obj.off, hat] at hoff
          | some q =>
            obtain ⟨o1, t⟩ := q
            have hofd : d = i * e.size + o1 := by simpa [Obj.off, hat] using hoff.symm
            subst hofd
            rcases hR with ⟨_, hxs⟩ | ⟨b, off, cap, cells, T', hpos, hb, hc1, hc2, hc3, cs, hall, hpre⟩
            · subst hxs; simp at hi
            · obtain ⟨k1, k2⟩ := getD_rep hall hi
              obtain ⟨m1, m2, m3⟩ := get_rep p e _ q2 o1 t hget hat _ k1
              rw [hpos] at had
              simp only [vaddr, Option.some.injEq] at had
              subst had
              have hl : ((cs.drop (i * e.size)).take e.size).length = e.size := by simp; omega
              rw [hl] at m3
              rw [List.drop_take, List.drop_drop, List.take_take, Nat.min_eq_left (by omega)] at m2
              have hseg : ((cs.drop (i * e.size + o1)).take q2.1.size) <+: cells.toList.drop (off + (i * e.size + o1)) := by
                obtain ⟨tl, ht⟩ := hpre
                rw [show cells.toList.drop (off + (i * e.size + o1)) = (cells.toList.drop off).drop (i * e.size + o1) from by rw [List.drop_drop], ← ht, List.drop_append_of_le_length (by omega)]
                exact (List.take_prefix _ _).trans (List.prefix_append _ _)
              have hfb := hfz b (by rw [hpos]; rfl)
              refine ⟨b, off + (i * e.size + o1), cells, T', (0, 0), (cs.drop (i * e.size + o1)).take q2.1.size, hu, hfb.1, hfb.2.trans hb, ?_, hseg⟩
              show RepP B.P B.G B.Fz B.w (.dat q2.1 q2.2) _
              exact RepC.mono hfut _ _ _ m2
        · simp at hg
      · simp at hg
  | map _ _ _ => simp [Obj.get] at hg

theorem sl_frozen (r : RelIn cx tm lk a w Fz pos) {k s : Nat} {e : Ty} {xs : List e.T} (hlk : lk k = some (s, .vec e xs)) {e' : Ty} {u : Value} (h : RepA (cx.e Fz w lk pos) (.sl e' k s) u)
    {B : E} (hfut : Fut Fz w B.Fz B.w) (hfz : ∀ b, vblk (pos k) = some b → B.Fz b ∧ B.w.heap[b]? = w.heap[b]?) : RepA B (.dat (.lst e) xs) u := by
  obtain ⟨_, s', o', hlk2, hle, hval⟩ := h
  have hlk2 : lk k = some (s', o') := hlk2
  rw [hlk] at hlk2
  simp only [Option.some.injEq, Prod.mk.injEq] at hlk2
  obtain ⟨rfl, rfl⟩ := hlk2
  have hv : u = pos k := (hval rfl).2
  have hR := r.objs k s _ hlk
  rcases hR with ⟨hp, hxs⟩ | ⟨b, off, cap, cells, TT, hp, hbk, hc1, hc2, hc3, cs, hall, hpre⟩
  · rw [hv, hp, hxs]; exact nil_lst _ _ _
  · have hfb := hfz b (by rw [hp]; rfl)
    exact ⟨[u], ⟨some ⟨b, off, none⟩, xs.length, cap, cs, by rw [hv, hp], rfl, hc1, All2.mono (fun x cs hx => hx.mono hfut) _ _ hall, .inr ⟨b, off, cells, TT, (0, 0), rfl, hfb.1, hfb.2.trans hbk, hpre⟩⟩, rfl⟩
theorem mp_frozen (r : RelIn cx tm lk a w Fz pos) {k s : Nat} {kt vt : Ty} {es : List (kt.T × vt.T)} (hlk : lk k = some (s, .map kt vt es)) {u : Value} (h : RepA (cx.e Fz w lk pos) (.mp k s) u)
    {B : E} (hfut : Fut Fz w B.Fz B.w) (hfz : ∀ b, vblk (pos k) = some b → B.Fz b ∧ B.w.heap[b]? = w.heap[b]?) : RepA B (.dat (.map kt vt) es) u := by
  obtain ⟨_, s', o', hlk2, hle, hval⟩ := h
  have hlk2 : lk k = some (s', o') := hlk2
  rw [hlk] at hlk2
  simp only [Option.some.injEq, Prod.mk.injEq] at hlk2
  obtain ⟨rfl, rfl⟩ := hlk2
  have hv : u = pos k := hval rfl
  obtain ⟨b, ents, clock, hp, hbk, hcl, hm⟩ := r.objs k s _ hlk
  have hfb := hfz b (by rw [hp]; rfl)
  exact ⟨[u], ⟨some b, by rw [hv, hp], .inr ⟨b, ents, clock, rfl, hfb.1, hfb.2.trans hbk, hcl, MapRep.mono (fun x u ⟨c, hc, hu⟩ => ⟨c, hc.mono hfut, hu⟩) (fun x u ⟨c, hc, hu⟩ => ⟨c, hc.mono hfut, hu⟩) _ _ _ hm⟩⟩, rfl⟩

end Go.Pv
