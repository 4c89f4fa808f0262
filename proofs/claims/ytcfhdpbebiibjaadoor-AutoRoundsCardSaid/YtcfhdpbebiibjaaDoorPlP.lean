/- Plain: keys, maps that number them, partitions that grow finer. -/
import Derived.Test.YtcfhdpbebiibjaaDoorPlM
set_option linter.unusedVariables false
set_option linter.unusedSimpArgs false
namespace Go.Pv

/-! ### A map that numbers -/
section
set_option linter.unusedSectionVars false
variable {K : Type} [DecidableEq K]
def mpairs : Nat → List K → List (K × Int)
  | _, [] => []
  | i, k :: r => (k, (i : Int)) :: mpairs (i + 1) r
theorem mpairs_len : ∀ (i : Nat) (D : List K), (mpairs i D).length = D.length
  | _, [] => rfl
  | i, k :: r => by simp [mpairs, mpairs_len (i + 1) r]
theorem mpairs_snoc : ∀ (i : Nat) (D : List K) (k : K), mpairs i (D ++ [k]) = mpairs i D ++ [(k, ((i + D.length : Nat) : Int))]
  | i, [], k => by simp [mpairs]
  | i, x :: r, k => by
    simp only [List.cons_append, mpairs, mpairs_snoc (i + 1) r k, List.length_cons]
    rw [show i + 1 + r.length = i + (r.length + 1) by omega]
variable {eq : K → K → Bool} (he : ∀ a b, eq a b = true ↔ a = b)
include he
theorem find_mpairs (k : K) : ∀ (i : Nat) (D : List K), mapFind eq k (mpairs i D) = if k ∈ D then some ((i + posOf k D : Nat) : Int) else none
  | _, [] => by simp [mpairs, mapFind]
  | i, x :: r => by
    simp only [mpairs, mapFind, posOf]
    by_cases h : x = k
    · subst h
      rw [if_pos ((he x x).2 rfl)]; simp
    · have : eq k x = false := by
        cases hq : eq k x with
        | false => rfl
        | true => exact absurd ((he k x).1 hq).symm h
      rw [if_neg (by rw [this]; simp), find_mpairs k (i + 1) r, if_neg h]
      by_cases hm : k ∈ r
      · rw [if_pos hm, if_pos (by simp [hm])]; congr 2; omega
      · rw [if_neg hm, if_neg (by simp [hm]; exact fun e => h e.symm)]
theorem put_mpairs (k : K) (v : Int) : ∀ (i : Nat) (D : List K), k ∉ D → mapPut eq k v (mpairs i D) = mpairs i D ++ [(k, v)]
  | _, [], _ => by simp [mpairs, mapPut]
  | i, x :: r, h => by
    simp only [List.mem_cons, not_or] at h
    have : eq k x = false := by
      cases hq : eq k x with
      | false => rfl
      | true => exact absurd ((he k x).1 hq) h.1
    simp only [mpairs, mapPut, this, Bool.false_eq_true, if_false, put_mpairs k v (i + 1) r h.2, List.cons_append]
end

theorem str_eq (a b : List UInt8) : Ty.beq .str a b = true ↔ a = b := by simp [Ty.beq]
theorem int_eq (k : IntKind) (a b : Int) : Ty.beq (.int k) a b = true ↔ a = b := by simp [Ty.beq]

/-! ### Keys -/
theorem flat_inj {β : Type} {enc : Int → List β} {L : Nat} (hl : ∀ v, (enc v).length = L) (hi : ∀ v w, 0 ≤ v → v < 65536 → 0 ≤ w → w < 65536 → enc v = enc w → v = w) :
    ∀ (l l' : List Int), l.length = l'.length → (∀ v ∈ l, 0 ≤ v ∧ v < 65536) → (∀ v ∈ l', 0 ≤ v ∧ v < 65536) → l.flatMap enc = l'.flatMap enc → l = l'
  | [], [], _, _, _, _ => rfl
  | [], _ :: _, h, _, _, _ => by simp at h
  | _ :: _, [], h, _, _, _ => by simp at h
  | v :: l, w :: l', h, h1, h2, he => by
    simp only [List.flatMap_cons] at he
    obtain ⟨e1, e2⟩ := List.append_inj he (by rw [hl, hl])
    have a := h1 v (by simp)
    have b := h2 w (by simp)
    rw [hi v w a.1 a.2 b.1 b.2 e1, flat_inj hl hi l l' (by simpa using h) (fun u hu => h1 u (by simp [hu])) (fun u hu => h2 u (by simp [hu])) e2]

theorem u8_inj {a b : Int} (ha : 0 ≤ a) (ha2 : a < 256) (hb : 0 ≤ b) (hb2 : b < 256) (h : a.toNat.toUInt8 = b.toNat.toUInt8) : a = b := by
  have h1 := congrArg UInt8.toNat h
  simp only [Nat.toUInt8, UInt8.toNat_ofNat'] at h1
  omega
theorem wu8 (x : Int) : IntKind.wrap .u8 x = x % 256 := by rw [IntKind.wrap_u8]

/-- Two bytes of a class. -/
def enc2 (v : Int) : List Int := [IntKind.wrap .u8 (Int.fdiv v (2 ^ 8)), IntKind.wrap .u8 v]
def enc2b (v : Int) : List UInt8 := (enc2 v).map fun n : Int => n.toNat.toUInt8
theorem enc2b_inj (v w : Int) (hv : 0 ≤ v) (hv2 : v < 65536) (hw : 0 ≤ w) (hw2 : w < 65536) (h : enc2b v = enc2b w) : v = w := by
  simp only [enc2b, enc2, List.map_cons, List.map_nil, List.cons.injEq, and_true, wu8] at h
  obtain ⟨h1, h2⟩ := h
  have e1 : Int.fdiv v (2 ^ 8) = v / 256 := by rw [show (2 : Int) ^ 8 = 256 by decide]; exact Int.fdiv_eq_ediv_of_nonneg v (by omega)
  have e2 : Int.fdiv w (2 ^ 8) = w / 256 := by rw [show (2 : Int) ^ 8 = 256 by decide]; exact Int.fdiv_eq_ediv_of_nonneg w (by omega)
  rw [e1, e2] at h1
  have a := u8_inj (by omega) (by omega) (by omega) (by omega) h1
  have b := u8_inj (by omega) (by omega) (by omega) (by omega) h2
  omega
/-- Three bytes: the reference's. -/
def enc3 (v : Int) : List UInt8 := List.map (fun n : Int => n.toNat.toUInt8) [(IntKind.wrap .u8 (Int.tmod v 256)), (IntKind.wrap .u8 (IntKind.wrap .i64 (Int.tdiv v 256))), 44]
theorem enc3_inj (v w : Int) (hv : 0 ≤ v) (hv2 : v < 65536) (hw : 0 ≤ w) (hw2 : w < 65536) (h : enc3 v = enc3 w) : v = w := by
  simp only [enc3, List.map_cons, List.map_nil, List.cons.injEq, and_true, wu8] at h
  obtain ⟨h1, h2⟩ := h
  rw [Int.tmod_eq_emod_of_nonneg hv, Int.tmod_eq_emod_of_nonneg hw] at h1
  rw [Int.tdiv_eq_ediv_of_nonneg hv, Int.tdiv_eq_ediv_of_nonneg hw, w64 (by omega) (by omega), w64 (by omega) (by omega)] at h2
  have a := u8_inj (by omega) (by omega) (by omega) (by omega) h1
  have b := u8_inj (by omega) (by omega) (by omega) (by omega) h2
  omega

/-- What is said of a state and of those that follow. -/
def around (x : MM) (cl : List Int) (s : Nat) : List Int := cl.getD s 0 :: (x.2.2.1.getD s []).map fun t => cl.getD t.toNat 0
theorem around_iff {x : MM} (hx : WM x) (cl : List Int) {s t : Nat} (hs : s < x.2.1.length) (ht : t < x.2.1.length) :
    around x cl s = around x cl t ↔ cl.getD s 0 = cl.getD t 0 ∧ ∀ r : Nat, (r : Int) < x.1 → cl.getD (dM x s r) 0 = cl.getD (dM x t r) 0 := by
  have ls := hx.row s hs
  have lt := hx.row t ht
  unfold around
  rw [List.cons.injEq]
  have gd : ∀ (l : List Int) (r : Nat) (h : r < l.length), l.getD r 0 = l[r] := fun l r h => by rw [List.getD_eq_getElem?_getD, List.getElem?_eq_getElem h]; rfl
  constructor
  · rintro ⟨h1, h2⟩
    refine ⟨h1, fun r hr => ?_⟩
    have rs : r < (x.2.2.1.getD s []).length := by omega
    have rt : r < (x.2.2.1.getD t []).length := by omega
    have := congrArg (fun l => l[r]?) h2

    rw [List.getElem?_map, List.getElem?_map, List.getElem?_eq_getElem rs, List.getElem?_eq_getElem rt, Option.map_some, Option.map_some, Option.some.injEq] at this
    unfold dM
    rw [gd _ _ rs, gd _ _ rt]; exact this
  · rintro ⟨h1, h2⟩
    refine ⟨h1, ?_⟩
    apply List.ext_getElem (by rw [List.length_map, List.length_map]; omega)
    intro r hr hr'
    have rs : r < (x.2.2.1.getD s []).length := by rw [List.length_map] at hr; exact hr
    have rt : r < (x.2.2.1.getD t []).length := by rw [List.length_map] at hr'; exact hr'
    have := h2 r (by omega)
    unfold dM at this
    rw [gd _ _ rs, gd _ _ rt] at this
    rw [List.getElem_map, List.getElem_map]; exact this

/-! ### Partitions -/
/-- Classes are numbers of keys, in the order in which these come. -/
structure Numb (n : Nat) (key : Nat → List UInt8) (D : List (List UInt8)) (cl : List Int) : Prop where
  len : cl.length = n
  d : D = numD ((List.range n).map key) []
  val : ∀ s, s < n → cl.getD s 0 = (posOf (key s) D : Int)
theorem Numb.mem {n : Nat} {key : Nat → List UInt8} {D : List (List UInt8)} {cl : List Int} (h : Numb n key D cl) {s : Nat} (hs : s < n) : key s ∈ D := by
  rw [h.d]
  exact numD_mem _ _ _ (.inr (List.mem_map.2 ⟨s, List.mem_range.2 hs, rfl⟩))
theorem Numb.iff {n : Nat} {key : Nat → List UInt8} {D : List (List UInt8)} {cl : List Int} (h : Numb n key D cl) {s t : Nat} (hs : s < n) (ht : t < n) : cl.getD s 0 = cl.getD t 0 ↔ key s = key t := by
  rw [h.val s hs, h.val t ht]
  constructor
  · intro e; exact posOf_inj (h.mem hs) (h.mem ht) (by omega)
  · intro e; rw [e]
theorem Numb.small {n : Nat} {key : Nat → List UInt8} {D : List (List UInt8)} {cl : List Int} (h : Numb n key D cl) : D.length ≤ n := by
  rw [h.d]
  have := numD_le ((List.range n).map key) []
  simpa using this
theorem Numb.rng {n : Nat} {key : Nat → List UInt8} {D : List (List UInt8)} {cl : List Int} (h : Numb n key D cl) {s : Nat} (hs : s < n) : 0 ≤ cl.getD s 0 ∧ cl.getD s 0 < (D.length : Int) := by
  rw [h.val s hs]
  have := posOf_lt (h.mem hs)
  omega
/-- Finer keys give at least as many classes. -/
theorem Numb.more {n : Nat} {k1 k2 : Nat → List UInt8} {D E : List (List UInt8)} {c1 c2 : List Int} (h : Numb n k1 D c1) (g : Numb n k2 E c2) (hf : ∀ s t, s < n → t < n → k2 s = k2 t → k1 s = k1 t) : D.length ≤ E.length := by
  have := num_mono ((List.range n).map fun s => (k1 s, k2 s)) [] [] [] ⟨by simp, by simp, by simp⟩ (by
    intro p hp q hq he
    simp only [List.nil_append, List.mem_map, List.mem_range] at hp hq
    obtain ⟨s, hs, rfl⟩ := hp
    obtain ⟨t, ht, rfl⟩ := hq
    exact hf s t hs ht he)
  simp only [List.map_map, List.length_nil, Nat.add_zero] at this
  rw [h.d, g.d]; exact this
/-- Finer keys that give as many classes give the same ones. -/
theorem Numb.same {n : Nat} {k1 k2 : Nat → List UInt8} {D E : List (List UInt8)} {c1 c2 : List Int} (h : Numb n k1 D c1) (g : Numb n k2 E c2) (hf : ∀ s t, s < n → t < n → k2 s = k2 t → k1 s = k1 t) (hl : D.length = E.length) :
    ∀ s, s < n → c1.getD s 0 = c2.getD s 0 := by
  intro s hs
  have := num_same ((List.range n).map fun s => (k1 s, k2 s)) [] [] [] ⟨by simp, by simp, by simp⟩ (by
    intro p hp q hq he
    simp only [List.nil_append, List.mem_map, List.mem_range] at hp hq
    obtain ⟨s, hs, rfl⟩ := hp
    obtain ⟨t, ht, rfl⟩ := hq
    exact hf s t hs ht he) rfl (by simp) (by
      simp only [List.map_map]
      have e1 := h.d; have e2 := g.d
      have : (numD ((List.range n).map k1) []).length = (numD ((List.range n).map k2) []).length := by rw [← e1, ← e2]; exact hl
      exact this) (k1 s, k2 s) (by simp; exact ⟨s, hs, rfl, rfl⟩)
  simp only [List.map_map] at this
  rw [h.val s hs, g.val s hs, h.d, g.d]
  exact congrArg Int.ofNat this

/-- A partition that keeps what says the same together, and what says different things at once apart. -/
structure Part (x : MM) (cl : List Int) : Prop where
  keeps : ∀ s t, s < x.2.1.length → t < x.2.1.length → Same x x s t → cl.getD s 0 = cl.getD t 0
  outs : ∀ s t, s < x.2.1.length → t < x.2.1.length → cl.getD s 0 = cl.getD t 0 → oM x s = oM x t
theorem part_outs (x : MM) : Part x x.2.1 := ⟨fun s t _ _ h => h.out, fun s t _ _ h => h⟩
/-- A partition that is stable says what the machine says. -/
theorem Part.done {x : MM} (hx : WM x) {cl : List Int} (h : Part x cl) (hs : ∀ s t, s < x.2.1.length → t < x.2.1.length → cl.getD s 0 = cl.getD t 0 → ∀ r : Nat, (r : Int) < x.1 → cl.getD (dM x s r) 0 = cl.getD (dM x t r) 0) :
    ∀ s t, s < x.2.1.length → t < x.2.1.length → (cl.getD s 0 = cl.getD t 0 ↔ Same x x s t) := by
  have key : ∀ (w : List Nat) (s t : Nat), s < x.2.1.length → t < x.2.1.length → (∀ r ∈ w, (r : Int) < x.1) → cl.getD s 0 = cl.getD t 0 → beh x s w = beh x t w := by
    intro w
    induction w with
    | nil => intro s t h1 h2 _ he; exact h.outs s t h1 h2 he
    | cons r w ih =>
      intro s t h1 h2 hw he
      have hr := hw r (by simp)
      exact ih _ _ (hx.at h1 hr).2 (hx.at h2 hr).2 (fun q hq => hw q (by simp [hq])) (hs s t h1 h2 he r hr)
  exact fun s t h1 h2 => ⟨fun he w hw => key w s t h1 h2 hw he, fun hsame => h.keeps s t h1 h2 hsame⟩

end Go.Pv
